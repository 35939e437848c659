/- Appending is the model's appending. -/
import Derived.Test.YtdjpjmojmppjkaaGreatEffOk2
namespace Go.Proofs.YtdjpjmojmppjkaaGreat.Eng
open Go

section
variable {P : Program} {E : Env} {m m' : M} {w : World}

theorem run_append_room {t t' e : TypeId} {y' ye : Ty} {ats : Array TypeId} {ty : TypeId} {base : Option Addr} {sLen sCap n : Nat} {ux : Value} {new : List Value}
    (ha0 : ats[0]? = some t) (ha1 : ats[1]? = some t') (ht : P.underlying t = some (.slice e)) (hy' : TyOk P t' y') (hni : ∀ k, y'.u ≠ .int k) (hye : TyOk P e ye)
    (hn : (Builtin.lenOf ux).run P w = .ok n w) (hcap : sLen + n ≤ sCap) (hnew : (Builtin.firstCells ye.size n ux).run P w = .ok new.toArray w) :
    (Builtin.append_ ats ty #[.slice base sLen sCap, ux]).run P w = ((match base with | some a => storeCells (a.add (sLen * ye.size)) new | none => pure ()).run P w).andThen fun _ w' => .ok (.slice base (sLen + n) sCap) w' := by
  have hne : (y'.u matches .int _) = false := by
    cases hh : y'.u <;> first | rfl | exact absurd hh (hni _)
  have hsize := run_sizeOf (P := P) hye
  unfold Builtin.append_
  simp only [ha0, ha1, List.getElem?_toArray, List.getElem?_cons_zero, List.getElem?_cons_succ, Sem.run_bind, run_underlying ht, Result.andThen_ok, hsize, run_underlying hy'.u, Sem.run_pure, Bool.false_eq_true, if_false, hn]
  rw [if_pos hcap]
  simp only [Sem.run_bind, Bool.not_false, if_true, hnew, Result.andThen_ok]
  cases base <;> simp only [Sem.run_bind, Sem.run_pure, Result.andThen_ok]

/-- What a new row of cells stands for. -/
theorem grow_ok (h : Rel E m w) {w1 : World} {cs : List V} {us rest : List Value} {e : TypeId} {need cap sz : Nat} (hc : m.n < 65536) (hr : reps E cs = some us) (hnew : New w w1 (.cells (us ++ rest).toArray e)) (hlen : (us ++ rest).length = cap * sz)
    (hus : us.length = need * sz) (hz : 0 < sz) (hle : need ≤ cap) :
    ∃ E', rep E' (m.grow cs need sz).1 = some (.slice (some ⟨w.heap.size, 0, none⟩) need cap) ∧ Rel E' (m.grow cs need sz).2 w1 ∧ Step E m w E' (m.grow cs need sz).2 w1 := by
  let x : EB := ⟨w.heap.size, cap * sz, 0, .nilIface⟩
  have hun := h.unmapped (Nat.le_refl m.n)
  have hle' := E.le_add x hun
  have ho : orep (E.add m.n x) x (.cells cs) (.cells (us ++ rest).toArray e) := by
    refine ⟨_, e, (0, 0), us, rfl, by simpa using hlen, ?_, reps_mono hle' _ _ hr, fun i hi => ?_, fun i _ hh => by dsimp only at hh; omega⟩
    · rw [← reps_length hr]
      rw [List.length_append] at hlen
      show 0 + us.length ≤ cap * sz
      omega
    · show ((us ++ rest).toArray)[0 + i]? = _
      rw [List.getElem?_toArray, Nat.zero_add, List.getElem?_append_left hi]
  have hmem : w1.heap = (w.alloc (.cells (us ++ rest).toArray e)).heap := by
    show w1.heap = w.heap.push _
    apply Array.ext_getElem?
    intro i
    rw [Array.getElem?_push]
    by_cases h1 : i = w.heap.size
    · rw [if_pos h1, h1]; exact hnew.new
    · rw [if_neg h1]
      rcases Nat.lt_or_ge i w.heap.size with h2 | h2
      · exact hnew.old i h2
      · rw [Array.getElem?_eq_none (by rw [hnew.size]; omega), Array.getElem?_eq_none h2]
  obtain ⟨hrel, hstep⟩ := h.alloc (.cells cs) (.cells (us ++ rest).toArray e) x rfl hc ho
  refine ⟨E.add m.n x, ?_, ?_, ?_⟩
  · show rep _ (.sl m.n 0 need none sz) = _
    simp only [rep, Env.add_same, Option.bind_some]
    have hm : need * sz ≤ cap * sz := Nat.mul_le_mul_right _ hle
    rw [if_pos (by show 0 + 0 + need * sz ≤ cap * sz; omega)]
    congr 2
    show (cap * sz - (0 + 0)) / sz = cap
    rw [Nat.zero_add, Nat.sub_zero, Nat.mul_div_cancel _ hz]
  · show Rel _ (m.mk' (.cells cs)) w1
    refine ⟨fun b y hy => ?_, hrel.cap, hrel.ids, fun b e he => ?_, hrel.one, hrel.ends, hrel.new, hrel.solo, hrel.rt⟩
    · rw [hmem]; exact hrel.dom b y hy
    · rw [hmem]; exact hrel.obj b e he
  · show Step _ _ _ _ (m.mk' (.cells cs)) w1
    refine ⟨hstep.le, hstep.n, hstep.shrink, hstep.img, fun r hr hf => ?_, ?_, hnew.os, hnew.tape, hnew.output, hstep.raw, hstep.keep, hstep.log⟩
    · exact hnew.old r hr
    · rw [hnew.size]; omega

theorem all_one : ∀ (l : List V) (us : List Value), reps E l = some us → l.all oneV = true → ∀ u ∈ us, u.oneCell' = true
  | [], us, h, _, u, hu => by simp only [reps, Option.some.injEq] at h; subst h; simp at hu
  | v :: l, us, h, ha, u, hu => by
    obtain ⟨u0, us', rfl, h0, hr⟩ := reps_inv h
    rw [List.all_cons, Bool.and_eq_true] at ha
    rcases List.mem_cons.1 hu with rfl | hu
    · exact oneV_ok h0 ha.1
    · exact all_one l us' hr ha.2 u hu

theorem run_splice {r : Nat} {t : TypeId} {fz : Nat × Nat} : ∀ (us : List Value) (p : Nat) (w : World) {c : Array Value}, w.heap[r]? = some (.cells c t fz) → (∀ u ∈ us, u.oneCell' = true) → p + us.length ≤ c.size → (∀ i, i < c.size → ¬ (fz.1 ≤ i ∧ i < fz.2)) →
    ∃ (w1 : World) (c' : Array Value), (storeCells ⟨r, p, none⟩ us).run P w = .ok () w1 ∧ w1.heap[r]? = some (.cells c' t fz) ∧ c'.size = c.size ∧ (∀ i, i < p → c'[i]? = c[i]?) ∧ (∀ k, k ≠ r → w1.heap[k]? = w.heap[k]?) ∧ w1.heap.size = w.heap.size ∧
      (∀ j, j < us.length → c'[p + j]? = us[j]?) ∧ w1.os = w.os ∧ w1.tape = w.tape ∧ w1.output = w.output := by
  intro us
  suffices H : ∀ (us : List Value) (k : Nat) (p : Nat) (w : World) {c : Array Value}, w.heap[r]? = some (.cells c t fz) → (∀ u ∈ us, u.oneCell' = true) → p + k + us.length ≤ c.size → (∀ i, i < c.size → ¬ (fz.1 ≤ i ∧ i < fz.2)) →
      ∃ (w1 : World) (c' : Array Value), (storeCells ⟨r, p, none⟩ us k).run P w = .ok () w1 ∧ w1.heap[r]? = some (.cells c' t fz) ∧ c'.size = c.size ∧ (∀ i, i < p + k → c'[i]? = c[i]?) ∧ (∀ k, k ≠ r → w1.heap[k]? = w.heap[k]?) ∧ w1.heap.size = w.heap.size ∧
        (∀ j, j < us.length → c'[p + k + j]? = us[j]?) ∧ w1.os = w.os ∧ w1.tape = w.tape ∧ w1.output = w.output from
    fun p w c h1 h2 h3 h4 => H us 0 p w h1 h2 (by omega) h4
  intro us
  induction us with
  | nil => intro k p w c h _ _ _; exact ⟨w, c, by simp [storeCells], h, rfl, fun _ _ => rfl, fun _ _ => rfl, rfl, fun j hj => by simp at hj, rfl, rfl, rfl⟩
  | cons u us ih =>
    intro k p w c h h1 h2 h3
    simp only [List.length_cons] at h2
    have hlt : p + k < c.size := by omega
    have hc : w.cell? ⟨r, p + k, none⟩ = some c[p + k] := by simp only [World.cell?, h]; simp [hlt]
    have hf : w.frozen? ⟨r, p + k, none⟩ = false := by
      simp only [World.frozen?, h]
      have := h3 (p + k) hlt
      simpa using this
    obtain ⟨w1, c', r1, r2, r3, r4, r5, r6, r7, r8, r9, r10⟩ := ih (k + 1) p (w.setCell ⟨r, p + k, none⟩ u) (setCell_heap w r (p + k) u h) (fun v hv => h1 v (by simp [hv])) (by rw [Array.size_setIfInBounds]; omega) (fun i hi => h3 i (by rw [Array.size_setIfInBounds] at hi; exact hi))
    refine ⟨w1, c', ?_, r2, by rw [r3, Array.size_setIfInBounds], fun i hi => ?_, fun j hj => by rw [r5 j hj, setCell_heap_other _ _ _ _ _ hj], by rw [r6]; simp, fun j hj => ?_, r8, r9, r10⟩
    · simp only [storeCells, Sem.run_bind, add_addr, run_store_ok (h1 u (by simp)) hc hf, Result.andThen_ok, r1]
    · rw [r4 i (by omega), Array.getElem?_setIfInBounds_ne (by omega)]
    · cases j with
      | zero => rw [r4 _ (by omega), Nat.add_zero, Array.getElem?_setIfInBounds_self_of_lt hlt]; rfl
      | succ j =>
        simp only [List.length_cons] at hj
        have := r7 j (by omega)
        rw [List.getElem?_cons_succ, ← this]
        congr 1; omega

theorem eAppend_ok (h : Rel E m w) {ats : Array TypeId} {ty : TypeId} {s x v : V} {us ux : Value} (hs : rep E s = some us) (hx : rep E x = some ux) (hf : eAppend P ats.toList m s x = some (v, m')) :
    ∃ u E' w', (Builtin.append_ ats ty #[us, ux]).run P w = .ok u w' ∧ rep E' v = some u ∧ Rel E' m' w' ∧ Step E m w E' m' w' := by
  unfold eAppend at hf
  split at hf
  · rename_i t t' rst hats
    have ha0 : ats[0]? = some t := by rw [← Array.getElem?_toList, hats]; rfl
    have ha1 : ats[1]? = some t' := by rw [← Array.getElem?_toList, hats]; rfl
    split at hf
    · rename_i e _ _ _ y' ht hy'
      split at hf
      · cases hf
      · rename_i hni
        split at hf
        · rename_i zd sz by_ z he
          obtain ⟨h1, hf2⟩ := cond_some hf
          clear hf
          simp only [Bool.and_eq_true] at h1
          have hz : 0 < sz := by simpa using h1.1.1
          have hzl : (cellsV z).length = sz := Nat.eq_of_beq_eq_true h1.1.2
          have hby : by_ < 10000 := by simpa using h1.2
          have hye := tyOk he
          split at hf2
          · rename_i n hn
            have hnr := lenV_ok (P := P) hx hn w
            split at hf2
            · rename_i new hfn
              obtain ⟨un, hun, hunr, hunl⟩ := firstV_ok (P := P) h hx hfn (fun k hk => by rw [hn] at hk; cases hk; exact Nat.le_refl _)
              have hunr' : ∀ w' : World, w'.heap = w.heap → (Builtin.firstCells sz n ux).run P w' = .ok un.toArray w' := by
                intro w' hw'
                have h' : Rel E m w' := ⟨fun b y hy => by rw [hw']; exact h.dom b y hy, h.cap, h.ids, fun b e he => by rw [hw']; exact h.obj b e he, h.one, h.ends, h.new, h.solo, h.rt⟩
                obtain ⟨un', a1, a2, _⟩ := firstV_ok (P := P) h' hx hfn (fun k hk => by rw [hn] at hk; cases hk; exact Nat.le_refl _)
                rw [hun] at a1; cases a1; exact a2
              have hunlen : un.length = n * sz := by
                cases x <;> simp only [lenV] at hn <;> try cases hn
                case str s' =>
                  simp only [firstV] at hfn
                  obtain ⟨hs1, hfn⟩ := cond_some hfn
                  cases hfn
                  have : sz = 1 := Nat.eq_of_beq_eq_true hs1
                  subst this
                  have := reps_length hun
                  rw [u8s_len, List.length_take] at this
                  omega
                case nils =>
                  simp only [firstV, Option.some.injEq] at hfn
                  subst hfn
                  simp only [reps, Option.some.injEq] at hun; subst hun; simp
                case sl b o cap sz' =>
                  simp only [firstV] at hfn
                  obtain ⟨xb, c, hb, _⟩ := rep_sl hx
                  obtain ⟨us', b1, b2, _⟩ := rd_ok h hfn hb
                  rw [hun] at b1; cases b1; exact b2
                case sle b o l sz' =>
                  simp only [firstV] at hfn
                  obtain ⟨_, hfn⟩ := cond_some hfn
                  cases hfn
                  simp only [reps, Option.some.injEq] at hun; subst hun; simp
              have room := fun (base : Option Addr) (sLen sCap : Nat) (hle : sLen + n ≤ sCap) => run_append_room (P := P) (w := w) (ty := ty) (base := base) ha0 ha1 (tyOk ht).u (tyOk hy') (fun k hk => hni k hk) hye hnr hle hunr
              cases n with
              | zero =>
                have hun0 : un = [] := List.eq_nil_of_length_eq_zero (by rw [hunlen]; simp)
                subst hun0
                have nothing : ∀ (base : Option Addr) (sLen sCap : Nat), sLen ≤ sCap → (Builtin.append_ ats ty #[.slice base sLen sCap, ux]).run P w = .ok (.slice base sLen sCap) w := by
                  intro base sLen sCap hle
                  rw [room base sLen sCap hle]
                  cases base <;> simp [storeCells]
                rw [show Nat.beq 0 0 = true from rfl, cond_true] at hf2
                split at hf2
                · cases hf2; cases hs
                  exact ⟨_, E, w, nothing none 0 0 (Nat.le_refl _), rfl, h, Step.refl _ _ _⟩
                · rename_i b o len c sz'
                  obtain ⟨hle, hf3⟩ := cond_some hf2
                  cases hf3
                  obtain ⟨xb, c', hb, rfl, hc, _⟩ := rep_sl hs
                  have := hc c rfl; subst this
                  exact ⟨_, E, w, nothing _ _ _ (Nat.le_of_ble_eq_true hle), hs, h, Step.refl _ _ _⟩
                · rename_i b o len sz'
                  obtain ⟨hz', hf3⟩ := cond_some hf2
                  cases hf3
                  obtain ⟨xb, c', hb, rfl, _, hc⟩ := rep_sl hs
                  obtain ⟨hroom, rfl⟩ := hc rfl
                  have hz2 : 0 < sz' := by simpa using hz'
                  exact ⟨_, E, w, nothing _ _ _ (le_room hz2 hroom), hs, h, Step.refl _ _ _⟩
                · cases hf2
                  obtain ⟨a, c, rfl⟩ := rep_sle_shape hs
                  exact ⟨_, E, w, nothing _ _ _ (Nat.zero_le _), hs, h, Step.refl _ _ _⟩
                · cases hf2
              | succ n =>
                rw [show Nat.beq (n + 1) 0 = false from rfl, cond_false] at hf2
                split at hf2
                · -- nil
                  obtain ⟨hcd, hf3⟩ := cond_some hf2
                  cases hs
                  rw [Bool.and_eq_true] at hcd
                  have hn6 : n + 1 < 1000000 := by simpa using hcd.1
                  have hmn : m.n < 65536 := by simpa using hcd.2
                  obtain ⟨w1, cap, rest, g1, g2, g3, g4⟩ := run_append_grow (P := P) (w := w) (ty := ty) (base := none) (sLen := 0) (sCap := 0) (old := []) ha0 ha1 (tyOk ht).u (tyOk hy') (fun k hk => hni k hk) hye hzl hby hnr (by omega) (by omega) (fun w' _ => rfl) hunr' (by simp) hunlen
                  rw [Nat.zero_add] at g1 g2
                  rw [List.nil_append] at g3 g4
                  obtain ⟨E', k1, k2, k3⟩ := grow_ok h hmn hun g3 g4 hunlen hz g2
                  cases hf3
                  exact ⟨_, E', w1, g1, k1, k2, k3⟩
                · -- a known room
                  rename_i b o len c sz'
                  obtain ⟨hcd, hf3⟩ := cond_some hf2
                  simp only [Bool.and_eq_true] at hcd
                  have hsz : sz = sz' := Nat.eq_of_beq_eq_true hcd.1.1
                  subst hsz
                  have hn6 : len + (n + 1) < 1000000 := by simpa using hcd.1.2
                  have hmn : m.n < 65536 := by simpa using hcd.2
                  obtain ⟨xb, c', hb, rfl, hc, _⟩ := rep_sl hs
                  have := hc c rfl; subst this
                  cases hle : Nat.ble (len + (n + 1)) c' with
                  | true =>
                    rw [hle, cond_true] at hf3
                    split at hf3
                    · rename_i m1 hwr
                      cases hf3
                      obtain ⟨w', k1, k2, k3⟩ := wrs_ok (P := P) new un (o + len * sz) 0 (xb.s + o + len * sz) m w h hwr hun hb (by omega)
                      refine ⟨.slice (some ⟨xb.r, xb.s + o, none⟩) (len + (n + 1)) c', E, w', ?_, by simp only [rep, hb, Option.bind_some], k2, k3⟩
                      rw [room _ _ _ (Nat.le_of_ble_eq_true hle)]
                      dsimp only
                      rw [add_addr, k1]; rfl
                    · cases hf3
                  | false =>
                    rw [hle, cond_false] at hf3
                    have hlt : c' < len + (n + 1) := by
                      rcases Nat.lt_or_ge c' (len + (n + 1)) with h' | h'
                      · exact h'
                      · rw [Nat.ble_eq_true_of_le h'] at hle; cases hle
                    split at hf3
                    · rename_i old hrd
                      obtain ⟨uo, j1, j2, j3⟩ := rd_ok h hrd hb
                      obtain ⟨w1, cap, rest, g1, g2, g3, g4⟩ := run_append_grow (P := P) (w := w) (ty := ty) (base := some ⟨xb.r, xb.s + o, none⟩) (sLen := len) (sCap := c') (old := uo) ha0 ha1 (tyOk ht).u (tyOk hy') (fun k hk => hni k hk) hye hzl hby hnr hlt hn6
                        (fun w' hw' => by simp only [Builtin.firstCells]; exact run_loadCells j2 (fun j hj => by rw [World.cell?, hw']; exact j3 j hj)) hunr' j2 hunlen
                      obtain ⟨E', k1, k2, k3⟩ := grow_ok h hmn (reps_append j1 hun) g3 g4 (by rw [List.length_append, j2, hunlen, ← Nat.add_mul]) hz g2
                      cases hf3
                      exact ⟨_, E', w1, g1, k1, k2, k3⟩
                    · cases hf3
                · -- a room that is not known
                  rename_i b o len sz'
                  obtain ⟨hcd, hf3⟩ := cond_some hf2
                  simp only [Bool.and_eq_true] at hcd
                  have hsz : sz = sz' := Nat.eq_of_beq_eq_true hcd.1.1
                  subst hsz
                  have hn6 : len + (n + 1) < 1000000 := by simpa using hcd.1.2
                  have hmn : m.n < 65536 := by simpa using hcd.2
                  obtain ⟨xb, c', hb, rfl, _, hc⟩ := rep_sl hs
                  obtain ⟨hroom, rfl⟩ := hc rfl
                  split at hf3
                  · rename_i c0 root al hl
                    obtain ⟨ob, ho, hor⟩ := obj_eq h hl hb
                    obtain ⟨c, tc, fz, uc, rfl, hcs, hclen, hcr, hcc, hcf⟩ := hor
                    cases hle : Nat.ble (o + (len + (n + 1)) * sz) c0.length with
                    | true =>
                      have hle' := Nat.le_of_ble_eq_true hle
                      rw [hle, cond_true] at hf3
                      split at hf3
                      · rename_i m1 hwr
                        cases hf3
                        obtain ⟨w', k1, k2, k3⟩ := wrs_ok (P := P) new un (o + len * sz) 0 (xb.s + o + len * sz) m w h hwr hun hb (by omega)
                        have hroom2 : xb.s + o + (len + (n + 1)) * sz ≤ xb.m := by omega
                        refine ⟨.slice (some ⟨xb.r, xb.s + o, none⟩) (len + (n + 1)) ((xb.m - (xb.s + o)) / sz), E, w', ?_, by simp only [rep, hb, Option.bind_some]; rw [if_pos hroom2], k2, k3⟩
                        rw [room _ _ _ (le_room hz hroom2)]
                        dsimp only
                        rw [add_addr, k1]; rfl
                      · cases hf3
                    | false =>
                      rw [hle, cond_false] at hf3
                      obtain ⟨heq, hf4⟩ := cond_some hf3
                      rw [Bool.and_eq_true] at heq
                      have heq' : o + len * sz = c0.length := Nat.eq_of_beq_eq_true heq.1
                      have hone : ∀ u ∈ un, u.oneCell' = true := all_one new un hun heq.2
                      have hucl : uc.length = c0.length := reps_length hcr
                      have hdl : (uc.drop o).length = len * sz := by rw [List.length_drop]; omega
                      have hdr : reps E (c0.drop o) = some (uc.drop o) := reps_drop o hcr
                      have hload : ∀ w' : World, w'.heap = w.heap → (Builtin.firstCells sz len (.slice (some ⟨xb.r, xb.s + o, none⟩) len ((xb.m - (xb.s + o)) / sz))).run P w' = .ok (uc.drop o).toArray w' := by
                        intro w' hw'
                        simp only [Builtin.firstCells]
                        refine run_loadCells hdl (fun j hj => ?_)
                        simp only [World.cell?, hw', ho]
                        have := hcc (o + j) (by omega)
                        rw [List.getElem?_drop, ← this]
                        simp; congr 1; omega
                      split at hf4
                      · rename_i m1 htl
                        cases hf4
                        have hun0 := h.unmapped (Nat.le_refl m.n)
                        rcases Nat.lt_or_ge ((xb.m - (xb.s + o)) / sz) (len + (n + 1)) with hlt | hge
                        · -- a new row
                          obtain ⟨w1, cap, rest, g1, g2, g3, g4⟩ := run_append_grow (P := P) (w := w) (ty := ty) (base := some ⟨xb.r, xb.s + o, none⟩) (sLen := len) (sCap := (xb.m - (xb.s + o)) / sz) (old := uc.drop o) ha0 ha1 (tyOk ht).u (tyOk hy') (fun k hk => hni k hk) hye hzl hby hnr hlt hn6 hload hunr' hdl hunlen
                          have hreps := reps_append hdr hun
                          have hcl : (uc.drop o ++ un).length = (len + (n + 1)) * sz := by rw [List.length_append, hdl, hunlen, ← Nat.add_mul]
                          have hcapm : (len + (n + 1)) * sz ≤ cap * sz := Nat.mul_le_mul_right _ g2
                          obtain ⟨k2, k3⟩ := h.tail (y := ⟨w.heap.size, cap * sz, 0, .nilIface⟩) hmn hl htl hb (.inr (Nat.le_refl _)) (by rw [g3.size]; show w.heap.size < _; omega) (by rw [g3.size]; omega) (fun r hr _ => g3.old r hr)
                            (fun c' t' fz' hh => ⟨c', by rw [g3.old _ (h.dom b xb hb).2]; exact hh, rfl, fun i _ => rfl⟩) g3.new
                            ⟨_, e, (0, 0), _, rfl, by simpa using g4, by rw [← reps_length hreps, hcl]; show 0 + _ ≤ cap * sz; omega, reps_mono (E.le_add _ hun0) _ _ hreps, fun i hi => by
                                show ((uc.drop o ++ un ++ rest).toArray)[0 + i]? = _
                                rw [List.getElem?_toArray, Nat.zero_add, List.getElem?_append_left hi], fun i _ hh => by dsimp only at hh; omega⟩ g3.os g3.tape g3.output
                          refine ⟨_, _, w1, g1, ?_, k2, k3⟩
                          simp only [rep, Env.add_same, Option.bind_some]
                          rw [if_pos (by show 0 + 0 + (len + (n + 1)) * sz ≤ cap * sz; omega)]
                          congr 2
                          show (cap * sz - (0 + 0)) / sz = cap
                          rw [Nat.zero_add, Nat.sub_zero, Nat.mul_div_cancel _ hz]
                        · -- in the row
                          have hroom2 : xb.s + o + (len + (n + 1)) * sz ≤ xb.m := by
                            rw [ge_iff_le, Nat.le_div_iff_mul_le hz] at hge
                            have : 0 < (len + (n + 1)) * sz := Nat.mul_pos (by omega) hz
                            omega
                          have hmul : (len + (n + 1)) * sz = len * sz + (n + 1) * sz := Nat.add_mul _ _ _
                          obtain ⟨w1, c', r1, r2, r3, r4, r5, r6, r7, r8, r9, r10⟩ := run_splice (P := P) un (xb.s + o + len * sz) w ho hone (by rw [hcs]; omega) (fun i hi => hcf i (by rw [hcs] at hi; exact hi))
                          have hreps := reps_append hdr hun
                          have hcl : (uc.drop o ++ un).length = (len + (n + 1)) * sz := by rw [List.length_append, hdl, hunlen, hmul]
                          obtain ⟨k2, k3⟩ := h.tail (y := ⟨xb.r, xb.m, xb.s + o, .nilIface⟩) hmn hl htl hb (.inl ⟨rfl, by rw [← reps_length hreps, hcl]; show _ ≤ xb.s + o + _; omega⟩) (by rw [r6]; exact (h.dom b xb hb).2) (by rw [r6]; exact Nat.le_refl _) (fun r _ hr => r5 r hr)
                            (fun c2 t2 fz2 hh => by
                              rw [ho] at hh; cases hh
                              exact ⟨c', r2, r3, fun i hi => r4 i (by omega)⟩) r2
                            ⟨_, _, _, _, rfl, by rw [r3]; exact hcs, by rw [← reps_length hreps, hcl]; exact hroom2, reps_mono (E.le_add _ hun0) _ _ hreps, fun i hi => by
                                show c'[xb.s + o + i]? = _
                                rcases Nat.lt_or_ge i (len * sz) with h' | h'
                                · rw [r4 _ (by omega), List.getElem?_append_left (by omega), List.getElem?_drop]
                                  have := hcc (o + i) (by omega)
                                  rw [← this]; congr 1; omega
                                · rw [List.getElem?_append_right (by omega), hdl]
                                  have := r7 (i - len * sz) (by rw [hcl, hmul] at hi; omega)
                                  rw [← this]; congr 1; omega, hcf⟩ r8 r9 r10
                          refine ⟨.slice (some ⟨xb.r, xb.s + o, none⟩) (len + (n + 1)) ((xb.m - (xb.s + o)) / sz), _, w1, ?_, ?_, k2, k3⟩
                          · rw [room _ _ _ hge]
                            dsimp only
                            rw [add_addr, r1]; rfl
                          · simp only [rep, Env.add_same, Option.bind_some, Nat.add_zero]
                            rw [if_pos hroom2]
                      · cases hf4
                  · cases hf3
                · cases hf2
            · cases hf2
          · cases hf2
        · cases hf
    · cases hf
  · cases hf

end
end Go.Proofs.YtdjpjmojmppjkaaGreat.Eng
