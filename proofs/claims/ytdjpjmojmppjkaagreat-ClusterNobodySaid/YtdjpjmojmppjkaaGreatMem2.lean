/- Reading and writing in the engine's memory. -/
import Derived.Test.YtdjpjmojmppjkaaGreatMem
namespace Go.Proofs.YtdjpjmojmppjkaaGreat.Eng
open Go

theorem Rel.read {E : Env} {m : M} {w : World} (h : Rel E m w) {b o : Nat} {e : Ent} {x : EB} {cs : List V} {v : V} (hl : look m b = some e) (hc : e.o = .cells cs) (hv : cs[o]? = some v) (hb : E b = some x) :
    ∃ u, w.cell? ⟨x.r, x.s + o, none⟩ = some u ∧ rep E v = some u ∧ w.frozen? ⟨x.r, x.s + o, none⟩ = false := by
  obtain ⟨ob, ho, hr⟩ := obj_eq h hl hb
  rw [hc] at hr
  obtain ⟨c, t, fz, us, rfl, hsz, hlen, hrs, hcells, hfz⟩ := hr
  obtain ⟨u, hu, hru⟩ := reps_get hrs hv
  have hlt : o < us.length := (List.getElem?_eq_some_iff.1 hu).1
  have hlt2 : o < cs.length := by rw [← reps_length hrs]; exact hlt
  refine ⟨u, ?_, hru, ?_⟩
  · simp only [World.cell?, ho]
    have := hcells o hlt
    rw [hu] at this
    simpa using this
  · simp only [World.frozen?, ho]
    have := hfz (x.s + o) (by omega)
    simpa using this

/-- A write. -/
noncomputable def M.wr (m : M) (b o : Nat) (v : V) : Option M :=
  match look m b with
  | some ⟨.cells cs, root, al⟩ =>
    match nth cs o with
    | some _ =>
      cond al (match m.lin.get DH root with
        | some (nw, _) => cond (Nat.beq nw b) (some { h := m.h.set ⟨.cells (upd cs v o), root, true⟩ DH b, lin := m.lin.set (b, b) DH root, n := m.n, wl := b :: root :: m.wl }) none
        | none => none)
        (some { m with h := m.h.set ⟨.cells (upd cs v o), root, false⟩ DH b, wl := b :: root :: m.wl })
    | none => none
  | _ => none

/-- What a changed block asks of the memory behind. -/
structure Chgd (m : M) (b : Nat) (e : Ent) (a : AO) (m' : M) : Prop where
  n : m'.n = m.n
  ent : ∀ k, m'.h.get DH k = if b = k then some ⟨a, e.root, e.al⟩ else m.h.get DH k
  self : look m' b = some ⟨a, e.root, e.al⟩
  other : ∀ k e', k ≠ b → look m' k = some e' → look m k = some e' ∧ ¬ (e'.al = true ∧ e.al = true ∧ e'.root = e.root)
  new : ∀ k e' nw fl, look m' k = some e' → e'.al = true → m'.lin.get DH e'.root = some (nw, fl) → k ≤ nw
  wl : m'.wl = b :: e.root :: m.wl
  lin : ∀ k, k ≠ e.root → m'.lin.get DH k = m.lin.get DH k

theorem Chgd.rel {E : Env} {m m' : M} {w w' : World} {b : Nat} {e : Ent} {a : AO} {x : EB} {o' : Obj} (h : Rel E m w) (k : Chgd m b e a m') (hl : look m b = some e) (hb : E b = some x)
    (hw : ∀ r, r ≠ x.r → w'.heap[r]? = w.heap[r]?) (ho : w'.heap[x.r]? = some o') (hr : orep E x a o') (hs : w'.heap.size = w.heap.size) (hn : ncells a = ncells e.o)
    (h1 : w'.os = w.os) (h2 : w'.tape = w.tape) (h3 : w'.output = w.output) : Rel E m' w' ∧ Step E m w E m' w' := by
  have he := (look_eq.1 hl).1
  have hid := h.ids b e he
  have cells : ∀ j e', look m' j = some e' → ∃ e0, look m j = some e0 ∧ e0.root = e'.root ∧ e0.al = e'.al ∧ ncells e0.o = ncells e'.o ∧ (j ≠ b → e0 = e') ∧ (j = b → e' = ⟨a, e.root, e.al⟩) := by
    intro j e' hj
    by_cases hjb : j = b
    · subst hjb
      rw [k.self] at hj; cases hj
      exact ⟨e, hl, rfl, rfl, hn.symm, fun n => absurd rfl n, fun _ => rfl⟩
    · exact ⟨e', (k.other j e' hjb hj).1, rfl, rfl, rfl, fun _ => rfl, fun n => absurd n hjb⟩
  refine ⟨⟨fun j y hy => ?_, by rw [k.n]; exact h.cap, fun j e' hj => ?_, fun j e' hj => ?_, fun i j e1 e2 y z hi hj hy hz hr hne => ?_, fun i j e1 e2 y z hi hj hy hz hr hle => ?_, k.new, fun i j e1 e2 hi hj ha hrt => ?_, fun i e1 hi => ?_⟩, ?_⟩
  · rw [k.n, hs]; exact h.dom j y hy
  · rw [k.ent] at hj
    rw [k.n]
    by_cases hjb : b = j
    · rw [if_pos hjb] at hj; cases hj; subst hjb; exact hid
    · rw [if_neg hjb] at hj; exact h.ids j e' hj
  · by_cases hjb : j = b
    · subst hjb
      rw [k.self] at hj; cases hj
      exact ⟨x, o', hb, ho, hr⟩
    · obtain ⟨h4, h5⟩ := k.other j e' hjb hj
      obtain ⟨y, oo, hy, hoo, hrr⟩ := h.obj j e' h4
      refine ⟨y, oo, hy, ?_, hrr⟩
      rw [hw]; exact hoo
      intro hxy
      exact h5 (let ⟨p, q, s⟩ := h.one j b e' e y x h4 hl hy hb hxy hjb; ⟨p, q, s⟩)
  · obtain ⟨f1, g1, r1, a1, _, _⟩ := cells i e1 hi
    obtain ⟨f2, g2, r2, a2, _, _⟩ := cells j e2 hj
    have := h.one i j f1 f2 y z g1 g2 hy hz hr hne
    rw [← a1, ← a2, ← r1, ← r2]; exact this
  · obtain ⟨f1, g1, _, _, n1, _, _⟩ := cells i e1 hi
    obtain ⟨f2, g2, _, _, n2, _, _⟩ := cells j e2 hj
    have := h.ends i j f1 f2 y z g1 g2 hy hz hr hle
    rw [← n1, ← n2]; exact this
  · rw [k.ent] at hi hj
    by_cases hib : b = i
    · rw [if_pos hib] at hi; cases hi; subst hib
      by_cases hjb : b = j
      · exact hjb.symm
      · rw [if_neg hjb] at hj; exact h.solo b j e e2 he hj ha hrt
    · rw [if_neg hib] at hi
      by_cases hjb : b = j
      · rw [if_pos hjb] at hj; cases hj; subst hjb; exact h.solo i b e1 e hi he ha hrt
      · rw [if_neg hjb] at hj; exact h.solo i j e1 e2 hi hj ha hrt
  · have hrr : ∀ q e0, m.h.get DH q = some e0 → ∃ e', m'.h.get DH e0.root = some e' := fun q e0 hq => by
      obtain ⟨e', he'⟩ := h.rt q e0 hq
      rw [k.ent]
      by_cases e2 : b = e0.root
      · exact ⟨_, if_pos e2⟩
      · exact ⟨e', by rw [if_neg e2]; exact he'⟩
    rw [k.ent] at hi
    by_cases hib : b = i
    · rw [if_pos hib] at hi; cases hi; exact hrr b e he
    · rw [if_neg hib] at hi; exact hrr i e1 hi
  · refine ⟨E.le_refl, by rw [k.n]; exact Nat.le_refl _, fun j e' _ hj => ?_, fun j y hy hn => (by rw [hn] at hy; cases hy), fun r hr hf => hw r (fun hx => hf b e x hl hb hx.symm), by rw [hs]; exact Nat.le_refl _, h1, h2, h3, fun j hj hn => by rw [k.ent, if_neg (by intro e2; subst e2; rw [he] at hn; cases hn)]; exact hn, fun j e' hj => by rw [k.ent]; exact (if e2 : b = j then ⟨_, if_pos e2⟩ else ⟨e', by rw [if_neg e2]; exact hj⟩), [b, e.root], k.wl, fun j e' hj hjb hjr => ?_⟩
    · obtain ⟨e0, h0, _⟩ := cells j e' hj
      exact ⟨e0, h0⟩
    · simp only [List.mem_cons, List.not_mem_nil, or_false, not_or] at hjb hjr
      exact ⟨by rw [k.ent, if_neg (Ne.symm hjb.1)]; exact hj, k.lin _ hjr.2⟩

theorem chgd_plain {E : Env} {m : M} {w : World} (h : Rel E m w) {b : Nat} {e : Ent} (a : AO) (hl : look m b = some e) (ha : e.al = false) : Chgd m b e a { m with h := m.h.set ⟨a, e.root, false⟩ DH b, wl := b :: e.root :: m.wl } := by
  have he := (look_eq.1 hl).1
  have hid := h.ids b e he
  have hlt : b < 65536 := Nat.lt_of_lt_of_le hid.1 h.cap
  have ent : ∀ k, (M.h { m with h := m.h.set ⟨a, e.root, false⟩ DH b, wl := b :: e.root :: m.wl }).get DH k = if b = k then some ⟨a, e.root, e.al⟩ else m.h.get DH k := by
    intro k; rw [ha]; exact get_h_set hlt
  have lk : ∀ k, k ≠ b → look { m with h := m.h.set ⟨a, e.root, false⟩ DH b, wl := b :: e.root :: m.wl } k = look m k := by
    intro k hk
    unfold look
    rw [ent, if_neg (Ne.symm hk)]; rfl
  have self : look { m with h := m.h.set ⟨a, e.root, false⟩ DH b, wl := b :: e.root :: m.wl } b = some ⟨a, e.root, e.al⟩ := by
    unfold look
    rw [ent, if_pos rfl, ha]; rfl
  refine ⟨rfl, ent, self, fun k e' hk hj => ⟨by rw [lk k hk] at hj; exact hj, fun hh => by rw [ha] at hh; exact absurd hh.2.1 (by simp)⟩, fun k e' nw fl hj hal hlin => ?_, rfl, fun _ _ => rfl⟩
  by_cases hk : k = b
  · subst hk; rw [self] at hj; cases hj; dsimp only at hal; rw [ha] at hal; cases hal
  · rw [lk k hk] at hj; exact h.new k e' nw fl hj hal hlin

theorem chgd_shared {E : Env} {m : M} {w : World} (h : Rel E m w) {b : Nat} {e : Ent} (a : AO) {fl : Nat} (hl : look m b = some e) (ha : e.al = true) (hlin : m.lin.get DH e.root = some (b, fl)) :
    Chgd m b e a { h := m.h.set ⟨a, e.root, true⟩ DH b, lin := m.lin.set (b, b) DH e.root, n := m.n, wl := b :: e.root :: m.wl } := by
  obtain ⟨he, hal⟩ := look_eq.1 hl
  have hid := h.ids b e he
  have hlt : b < 65536 := Nat.lt_of_lt_of_le hid.1 h.cap
  have hrt : e.root < 65536 := Nat.lt_of_lt_of_le hid.2 h.cap
  have hfl : fl ≤ b := by
    unfold alive at hal
    rw [ha, hlin] at hal
    exact Nat.le_of_ble_eq_true hal
  have lin : ∀ k, (m.lin.set (b, b) DH e.root).get DH k = if e.root = k then some (b, b) else m.lin.get DH k := fun k => T.get_set _ _ _ _ _ (by show e.root < 2 ^ 16; omega)
  have ent : ∀ k, (m.h.set ⟨a, e.root, true⟩ DH b).get DH k = if b = k then some ⟨a, e.root, e.al⟩ else m.h.get DH k := by
    intro k; rw [ha]; exact get_h_set hlt
  have self : look { h := m.h.set ⟨a, e.root, true⟩ DH b, lin := m.lin.set (b, b) DH e.root, n := m.n, wl := b :: e.root :: m.wl } b = some ⟨a, e.root, e.al⟩ := by
    rw [look_eq]
    refine ⟨by rw [ent, if_pos rfl], ?_⟩
    unfold alive
    dsimp only
    rw [ha, lin, if_pos rfl]
    exact Nat.ble_eq_true_of_le (Nat.le_refl _)
  have other : ∀ k e', k ≠ b → look { h := m.h.set ⟨a, e.root, true⟩ DH b, lin := m.lin.set (b, b) DH e.root, n := m.n, wl := b :: e.root :: m.wl } k = some e' → look m k = some e' ∧ ¬ (e'.al = true ∧ e.al = true ∧ e'.root = e.root) := by
    intro k e' hk hj
    rw [look_eq] at hj
    obtain ⟨h1, h2⟩ := hj
    dsimp only at h1
    rw [ent, if_neg (Ne.symm hk)] at h1
    unfold alive at h2
    dsimp only at h2
    rw [lin] at h2
    by_cases hr : e.root = e'.root
    · rw [if_pos hr] at h2
      cases hal' : e'.al with
      | false =>
        refine ⟨look_eq.2 ⟨h1, by unfold alive; rw [hal']; rfl⟩, fun hh => by cases hh.1⟩
      | true =>
        rw [hal'] at h2
        have hbk : b ≤ k := Nat.le_of_ble_eq_true h2
        have hlk : look m k = some e' := look_eq.2 ⟨h1, by unfold alive; rw [hal', ← hr, hlin]; exact Nat.ble_eq_true_of_le (Nat.le_trans hfl hbk)⟩
        have := h.new k e' b fl hlk hal' (by rw [← hr]; exact hlin)
        omega
    · rw [if_neg hr] at h2
      exact ⟨look_eq.2 ⟨h1, h2⟩, fun hh => hr hh.2.2.symm⟩
  refine ⟨rfl, ent, self, other, fun k e' nw fl' hj hal' hlin' => ?_, rfl, fun k hk => by dsimp only; rw [lin, if_neg (Ne.symm hk)]⟩
  dsimp only at hlin'
  by_cases hk : k = b
  · subst hk; rw [self] at hj; cases hj
    dsimp only at hlin'
    rw [lin, if_pos rfl] at hlin'; cases hlin'; exact Nat.le_refl _
  · obtain ⟨h1, h2⟩ := other k e' hk hj
    rw [lin] at hlin'
    by_cases hr : e.root = e'.root
    · exact absurd ⟨hal', ha, hr.symm⟩ h2
    · rw [if_neg hr] at hlin'; exact h.new k e' nw fl' h1 hal' hlin'

theorem setCell_heap (w : World) (r o : Nat) (v : Value) {c : Array Value} {t : TypeId} {fz : Nat × Nat} (h : w.heap[r]? = some (.cells c t fz)) : (w.setCell ⟨r, o, none⟩ v).heap[r]? = some (.cells (c.setIfInBounds o v) t fz) := by
  simp only [World.setCell, Array.getElem?_modify, if_true, h, Option.map_some]; simp
theorem setCell_heap_other (w : World) (r o k : Nat) (v : Value) (h : k ≠ r) : (w.setCell ⟨r, o, none⟩ v).heap[k]? = w.heap[k]? := by
  simp only [World.setCell, Array.getElem?_modify, if_neg (Ne.symm h)]

theorem Rel.write {E : Env} {m m' : M} {w : World} (h : Rel E m w) {b o : Nat} {v : V} {u : Value} {x : EB} (hw : m.wr b o v = some m') (hv : rep E v = some u) (hb : E b = some x) :
    (∃ v0, w.cell? ⟨x.r, x.s + o, none⟩ = some v0) ∧ w.frozen? ⟨x.r, x.s + o, none⟩ = false ∧ Rel E m' (w.setCell ⟨x.r, x.s + o, none⟩ u) ∧ Step E m w E m' (w.setCell ⟨x.r, x.s + o, none⟩ u) := by
  unfold M.wr at hw
  cases hl : look m b with
  | none => rw [hl] at hw; cases hw
  | some e =>
    obtain ⟨a, root, al⟩ := e
    rw [hl] at hw
    cases a <;> dsimp only at hw <;> try cases hw
    rename_i cs
    cases hn : nth cs o with
    | none => rw [hn] at hw; cases hw
    | some v0 =>
      rw [hn] at hw
      rw [nth_eq] at hn
      obtain ⟨u0, hc, _, hf⟩ := h.read hl rfl hn hb
      obtain ⟨ob, ho, hr⟩ := obj_eq h hl hb
      obtain ⟨c, t, fz, us, rfl, hsz, hlen, hrs, hcells, hfz⟩ := hr
      have hlt : o < us.length := by rw [reps_length hrs]; exact (List.getElem?_eq_some_iff.1 hn).1
      have hlt2 : o < cs.length := (List.getElem?_eq_some_iff.1 hn).1
      have hr' : orep E x (.cells (upd cs v o)) (.cells (c.setIfInBounds (x.s + o) u) t fz) := by
        refine ⟨_, _, _, us.set o u, rfl, by rw [Array.size_setIfInBounds]; exact hsz, by rw [upd_eq, List.length_set]; exact hlen, by rw [upd_eq]; exact reps_set o hrs hv, fun i hi => ?_, hfz⟩
        rw [List.length_set] at hi
        by_cases e : i = o
        · subst e
          rw [Array.getElem?_setIfInBounds_self_of_lt (by omega), List.getElem?_set_self hi]
        · rw [Array.getElem?_setIfInBounds_ne (by omega), List.getElem?_set_ne (Ne.symm e)]; exact hcells i hi
      refine ⟨⟨u0, hc⟩, hf, ?_⟩
      have hnc : ncells (.cells (upd cs v o)) = ncells (.cells cs) := by show (upd cs v o).length = cs.length; rw [upd_eq, List.length_set]
      cases al with
      | false =>
        cases hw
        exact (chgd_plain h _ hl rfl).rel h hl hb (fun r hr => setCell_heap_other _ _ _ _ _ hr) (setCell_heap _ _ _ _ ho) hr' (by simp) hnc rfl rfl rfl
      | true =>
        dsimp only [cond_true] at hw
        cases hlin : m.lin.get DH root with
        | none => rw [hlin] at hw; cases hw
        | some p =>
          obtain ⟨nw, fl⟩ := p
          rw [hlin] at hw
          dsimp only at hw
          cases hnb : Nat.beq nw b with
          | false => rw [hnb] at hw; cases hw
          | true =>
            rw [hnb] at hw
            have : nw = b := Nat.eq_of_beq_eq_true hnb
            subst this
            cases hw
            exact (chgd_shared h _ hl rfl hlin).rel h hl hb (fun r hr => setCell_heap_other _ _ _ _ _ hr) (setCell_heap _ _ _ _ ho) hr' (by simp) hnc rfl rfl rfl

/-- An object (no cells) is turned. -/
noncomputable def M.so (m : M) (b : Nat) (a : AO) : Option M :=
  match look m b with
  | some ⟨_, root, false⟩ => some { m with h := m.h.set ⟨a, root, false⟩ DH b, wl := b :: root :: m.wl }
  | _ => none
theorem Rel.setObj {E : Env} {m m' : M} {w : World} (h : Rel E m w) {b : Nat} {a : AO} {x : EB} {o : Obj} {e : Ent} (hw : m.so b a = some m') (hl : look m b = some e) (hb : E b = some x) (hr : orep E x a o) (h0 : ncells a = 0) (h1 : ncells e.o = 0) :
    Rel E m' (w.putObj x.r o) ∧ Step E m w E m' (w.putObj x.r o) := by
  unfold M.so at hw
  rw [hl] at hw
  obtain ⟨a0, root, al⟩ := e
  cases al with
  | true => cases hw
  | false =>
    cases hw
    obtain ⟨y, o0, hy, ho0, _⟩ := h.obj b _ hl
    rw [hb] at hy; cases hy
    have hlt := (Array.getElem?_eq_some_iff.1 ho0).1
    exact (chgd_plain h a hl rfl).rel h hl hb (fun r hr => World.putObj_heap_other hr) (World.putObj_heap_same hlt) hr (by simp) (by rw [h0]; exact h1.symm) rfl rfl rfl

end Go.Proofs.YtdjpjmojmppjkaaGreat.Eng
