/- Any order that a region draws comes to what the pass tells. -/
import Derived.Test.YtdjpjmojmppjkaaGreatDrawn4
namespace Go.Proofs.YtdjpjmojmppjkaaGreat.Eng
open Go

theorem chk_spec {P : Program} {n0 mask : Nat} {rs : List Rec} {r : Rec} : ∀ {ms : List M}, chk P n0 mask rs r ms = true → ∀ m ∈ ms, flt P r.ts (allocs n0 mask m 0 rs) r.o.op = some (.v r.v)
  | [], _, m, hm => by simp at hm
  | m' :: ms, h, m, hm => by
    have h' : cond (match flt P r.ts (allocs n0 mask m' 0 rs) r.o.op with | some (.v v) => veqB 6 v r.v | _ => false) (chk P n0 mask rs r ms) false = true := h
    have h1 : (match flt P r.ts (allocs n0 mask m' 0 rs) r.o.op with | some (.v v) => veqB 6 v r.v | _ => false) = true := by
      cases hc : (match flt P r.ts (allocs n0 mask m' 0 rs) r.o.op with | some (.v v) => veqB 6 v r.v | _ => false) with
      | true => rfl
      | false => rw [hc] at h'; cases h'
    rw [h1] at h'
    rcases List.mem_cons.1 hm with rfl | hm
    · split at h1
      · rename_i v hv; rw [hv, veqB_eq 6 _ _ h1]
      · cases h1
    · exact chk_spec h' m hm
theorem condT {a b : Bool} (h : cond a b false = true) : a = true ∧ b = true := by cases a <;> simp_all
theorem pass2_spec {P : Program} {L : List Oper} {bf es : List Nat} {n0 : Nat} {rs : List Rec} {snaps : List M} : ∀ {l : List Rec} {i : Nat}, pass2 P L bf es n0 rs snaps i l = true → ∀ (j : Nat) (r : Rec), l[j]? = some r → wants L r.ts r.o.guard = true → isEff r.o.op = false → looks r.o.op = true → r.ao = none →
    chk P n0 (bfAt bf (i + j)) rs r ((snaps.take (hiOf' bf (i + j) es + 1)).drop (countIn (bfAt bf (i + j)) es)) = true
  | [], _, _, j, r, hj, _, _, _, _ => by simp at hj
  | q :: l, i, h, j, r, hj, h1, h2, h3, h4 => by
    unfold pass2 at h
    obtain ⟨ha, hb⟩ := condT h
    cases j with
    | zero =>
      simp at hj; subst hj
      rw [h1, h2, h3, h4] at ha
      exact ha
    | succ j =>
      simp at hj
      have := pass2_spec hb j r hj h1 h2 h3 h4
      rw [show i + 1 + j = i + (j + 1) by omega] at this
      exact this

theorem trep_congr {E : Env} {ts ts' : T V} {nt : Nat} {a : Array Value} (h : trep E ts nt a) (e : ∀ t, ts.get DT t = ts'.get DT t) : trep E ts' nt a :=
  ⟨h.1, fun i hi => by rw [← e]; exact h.2.1 i hi, h.2.2.1, fun i hi => by rw [← e]; exact h.2.2.2 i hi⟩

section
variable {P : Program} {E E' E0 : Env} {m m' mD : M} {w w' w0 w1 : World} {a a' a0 : Act}

theorem Fits.same {n0 : Nat} {D D' : Nat → Bool} {rs : List Rec} (f : Fits n0 D rs m m') (h : ∀ j b, al rs j = some b → D' j = D j) : Fits n0 D' rs m m' :=
  ⟨f.lin, f.n, f.wl, f.old, fun j b h1 h2 h3 => f.add j b h1 (by rw [← h j b h3]; exact h2) h3, fun k e he => by
    rcases f.back k e he with h1 | ⟨j, b, h1, h2, h3, h4, h5⟩
    · exact .inl h1
    · exact .inr ⟨j, b, h1, h2, by rw [h j b h4]; exact h3, h4, h5⟩⟩

def plus (D : Nat → Bool) (i : Nat) : Nat → Bool := fun j => D j || decide (j = i)
theorem plus_self (D : Nat → Bool) (i : Nat) : plus D i i = true := by simp [plus]
theorem plus_other (D : Nat → Bool) {i j : Nat} (h : j ≠ i) : plus D i j = D j := by simp [plus, h]

structure Inv (L : List Oper) (rs : List Rec) (snaps : List M) (s : St) (E0 : Env) (w0 : World) (a0 : Act) (D : Nat → Bool) (k : Nat) (E : Env) (a : Act) (w : World) : Prop where
  down : ∀ i, D i = true → ∀ j, bit (bfAt (befs [] L) i) j = true → D j = true
  pre : ∀ p e, (effIdx 0 L)[p]? = some e → (D e = true ↔ p < k)
  klen : k ≤ (effIdx 0 L).length
  mem : ∃ m mD, snaps[k]? = some m ∧ s.m.n + L.length ≤ m.n ∧ Fits s.m.n D rs m mD ∧ Rel E mD w ∧ Step E0 s.m w0 E mD w
  ts : ∃ ts, Slots s.ts (fun j => D j = true) rs ts ∧ trep E ts s.nt a.tmps
  df : a.defers = a0.defers
  out : ∀ j, D j = false → j < L.length → E (s.m.n + j) = none ∧ ∀ m, snaps[k]? = some m → m.h.get DH (s.m.n + j) = none

theorem Slots.add {ts0 ts : T V} {D : Nat → Bool} {rs : List Rec} {i nt : Nat} {r : Rec} {tm : Array Value} {u : Value} {df : List Deferred} (h : Slots ts0 (fun j => D j = true) rs ts) (hr : rs[i]? = some r) (hd : D i = false) (ht : trep E ts nt tm) (hv : rep E r.v = some u) (hlt : ∀ t, r.o.dst = some t → t < nt)
    (hne : ∀ j r', j ≠ i → rs[j]? = some r' → ∀ t, r.o.dst = some t → r'.o.dst ≠ some t) : ∃ ts', Slots ts0 (fun j => plus D i j = true) rs ts' ∧ trep E ts' nt ((⟨tm, df⟩ : Act).put r.o.dst u).tmps := by
  cases hdst : r.o.dst with
  | none =>
    refine ⟨ts, ⟨fun j r' hj hr' t ht => ?_, fun t hall => h.rest t (fun j r' hj hr' => hall j r' (by simp [plus, hj]) hr')⟩, ht⟩
    by_cases hji : j = i
    · subst hji; rw [hr] at hr'; cases hr'; rw [hdst] at ht; cases ht
    · rw [plus_other D hji] at hj; exact h.done j r' hj hr' t ht
  | some d =>
    have hdn : d < nt := hlt d hdst
    have hd9 : d < 2 ^ DT := Nat.lt_of_lt_of_le hdn ht.2.2.1
    refine ⟨ts.set r.v DT d, ⟨fun j r' hj hr' t ht' => ?_, fun t hall => ?_⟩, trep_set ht hdn hv⟩
    · rw [T.get_set _ _ _ _ _ hd9]
      by_cases hji : j = i
      · subst hji; rw [hr] at hr'; cases hr'; rw [hdst] at ht'; cases ht'; rw [if_pos rfl]
      · rw [plus_other D hji] at hj
        rw [if_neg]
        · exact h.done j r' hj hr' t ht'
        · intro e; subst e; exact hne j r' hji hr' d hdst ht'
    · rw [T.get_set _ _ _ _ _ hd9, if_neg]
      · exact h.rest t (fun j r' hj hr' => hall j r' (by simp [plus, hj]) hr')
      · intro e; subst e; exact hall i r (plus_self D i) hr hdst

theorem inv_step {I : Env → M → World → Prop} (hI : Keeps I) {ca : CallT} {ih : Code → St → R} (hca : CallOk P I ca) (hih : ExOk P I ih) {ops : Array Oper} {rs : List Rec} {snaps : List M} {s : St} {k : Nat} {D : Nat → Bool} (hL : RF ops.toList)
    (hcap : s.m.n + ops.toList.length ≤ 65536) (hlen : rs.length = ops.toList.length) (h0 : Rel E0 s.m w0) (hi0 : I E0 s.m w0)
    (hps : ∀ (j : Nat) (r : Rec), rs[j]? = some r → PS P ca ih ops.toList (effIdx 0 ops.toList) s.m.n s.nt s.ts rs snaps j r)
    (hp2 : pass2 P ops.toList (befs [] ops.toList) (effIdx 0 ops.toList) s.m.n rs snaps 0 rs = true)
    (h : Inv ops.toList rs snaps s E0 w0 a0 D k E a w) {i : Nat} {o : Oper} (ho : ops[i]? = some o) (hD : D i = false) (hrd : ∀ e ∈ o.after.toList, bindsB e = true → D e.on = true) (fn : FuncId) (rr : Option Nat) :
    ∃ k' E' a' w', Inv ops.toList rs snaps s E0 w0 a0 (plus D i) k' E' a' w' ∧ ∀ rest kk cs, Steps P (lone (FR fn rr a (.inRegion ops (i :: rest) :: kk)) cs w) (lone (FR fn rr a' (.inRegion ops rest :: kk)) cs w') := by
  have hoL : ops.toList[i]? = some o := by rw [Array.getElem?_toList]; exact ho
  have hi : i < ops.toList.length := (List.getElem?_eq_some_iff.1 hoL).1
  obtain ⟨r, hr⟩ : ∃ r, rs[i]? = some r := ⟨_, List.getElem?_eq_getElem (by omega)⟩
  have ps := hps i r hr
  have hro : r.o = o := by have := ps.o; rw [hoL] at this; exact (Option.some.inj this).symm
  have sub : ∀ j, bit (bfAt (befs [] ops.toList) i) j = true → D j = true := by
    intro j hj
    obtain ⟨o', e, ho', he, hb, hje⟩ := bf_step hj
    rw [hoL] at ho'; cases ho'
    have hon := hrd e he hb
    rcases hje with rfl | hje
    · exact hon
    · exact h.down _ hon j hje
  obtain ⟨m, mD, hm, hmn, fD, relD, stD⟩ := h.mem
  obtain ⟨ts, hsl, htr⟩ := h.ts
  have fS : Fits s.m.n (bit (bfAt (befs [] ops.toList) i)) rs m (allocs s.m.n (bfAt (befs [] ops.toList) i) m 0 rs) := allocs_fits (by omega)
  obtain ⟨relS, subS, lkS⟩ := relD.fewer fD fS sub
  have agree : ∀ t ∈ seen ops.toList o, ts.get DT t = r.ts.get DT t := by
    intro t ht
    have key : ∀ (j : Nat) (r' : Rec), rs[j]? = some r' → r'.o.dst = some t → (D j = true ↔ j < i) := by
      intro j r' hj hd
      by_cases hji : j = i
      · subst hji; rw [hD]; simp
      · have hpj := (hps j r' hj).o
        rcases slot_seen hL hoL hpj (Ne.symm hji) hd ht with ⟨h1, h2⟩ | ⟨h1, h2⟩
        · exact ⟨fun _ => h1, fun _ => sub j h2⟩
        · refine ⟨fun hdj => ?_, fun hlt => by omega⟩
          have := h.down j hdj i h2
          rw [hD] at this; cases this
    by_cases hx : ∃ (j : Nat) (r' : Rec), rs[j]? = some r' ∧ r'.o.dst = some t ∧ j < i
    · obtain ⟨j, r', hj, hd, hlt⟩ := hx
      rw [hsl.done j r' ((key j r' hj hd).2 hlt) hj t hd, ps.slots.done j r' hlt hj t hd]
    · rw [hsl.rest t (fun j r' hdj hj hd => hx ⟨j, r', hj, hd, (key j r' hj hd).1 hdj⟩), ps.slots.rest t (fun j r' hlt hj hd => hx ⟨j, r', hj, hd, hlt⟩)]
  have hevc : ∀ x ∈ r.o.op.operands.toList, ev r.ts x = ev ts x := by
    rw [hro]; exact ev_agree (fun t ht => (agree t ht).symm)
  have hwc : wants ops.toList r.ts r.o.guard = wants ops.toList ts o.guard := by
    rw [hro]; exact wants_agree (fun t ht => (agree t ht).symm)
  have hev : ∀ x v, ev ts x = some v → rep E v = some (a.eval x) := ev_ok (df := a.defers) htr
  have hwr : Region.wanted o (yielded ops a.tmps) = wants ops.toList ts o.guard := wants_ok htr
  have cle : countIn (bfAt (befs [] ops.toList) i) (effIdx 0 ops.toList) ≤ k := countIn_le (fun p e he hb => (h.pre p e he).1 (sub e hb))
  have down' : ∀ i', plus D i i' = true → ∀ j, bit (bfAt (befs [] ops.toList) i') j = true → plus D i j = true := by
    intro i' hi' j hj
    by_cases e : i' = i
    · subst e; simp [plus, sub j hj]
    · rw [plus_other D e] at hi'; simp [plus, h.down i' hi' j hj]
  have preN : isEff o.op = false → ∀ p e, (effIdx 0 ops.toList)[p]? = some e → (plus D i e = true ↔ p < k) := by
    intro hne p e he
    have : e ≠ i := by
      intro hh; subst hh
      obtain ⟨o', _, h2, h3⟩ := effIdx_mem (List.mem_of_getElem? he)
      rw [Nat.sub_zero, hoL] at h2; cases h2
      rw [hne] at h3; cases h3
    rw [plus_other D this]; exact h.pre p e he
  have posE : ∀ c, (effIdx 0 ops.toList)[c]? = some i → c ≤ k → c = k := by
    intro c hc hle
    have := h.pre c i hc
    rw [hD] at this
    have hn : ¬ c < k := fun hh => by have := this.2 hh; cases this
    omega
  have preE : (effIdx 0 ops.toList)[k]? = some i → ∀ p e, (effIdx 0 ops.toList)[p]? = some e → (plus D i e = true ↔ p < k + 1) := by
    intro hk p e he
    by_cases hei : e = i
    · subst hei
      have := effIdx_inj he hk
      subst this
      rw [plus_self]; simp
    · rw [plus_other D hei, h.pre p e he]
      have : p ≠ k := fun hh => by subst hh; rw [he] at hk; cases hk; exact hei rfl
      omega
  have hne : ∀ j r', j ≠ i → rs[j]? = some r' → ∀ t, r.o.dst = some t → r'.o.dst ≠ some t := by
    intro j r' hji hj t ht hd
    exact slot_ne hL ps.o (hps j r' hj).o (Ne.symm hji) hd ht
  have fitN : r.ao = none → ∀ {m1 m2 : M}, Fits s.m.n D rs m1 m2 → Fits s.m.n (plus D i) rs m1 m2 := by
    intro hao m1 m2 f
    refine f.same (fun j b hb => ?_)
    by_cases e : j = i
    · subst e; simp [al, hr, hao] at hb
    · rw [plus_other D e]
  have hlenr : s.m.n + rs.length ≤ 65536 := by omega
  have outD : ∀ j, plus D i j = false → D j = false ∧ j ≠ i := by
    intro j hj
    simp [plus] at hj; exact ⟨hj.1, hj.2⟩
  rcases ps.run with ⟨hw, hv, hao, heff⟩ | ⟨hw, he, hao, m0, m', hs0, hs1, hes, hc⟩ | ⟨hw, he, m0, hs0, hcase⟩
  · -- passed over
    have hv' : rep E r.v = some undef := by rw [hv]; rfl
    obtain ⟨ts', hsl', htr'⟩ := hsl.add (df := a.defers) hr hD htr hv' ps.dst hne
    have stp : ∀ rest kk cs, Steps P (lone (FR fn rr a (.inRegion ops (i :: rest) :: kk)) cs w) (lone (FR fn rr (a.put o.dst undef) (.inRegion ops rest :: kk)) cs w) := by
      intro rest kk cs
      have hw' : ((ops[i]?).map (Region.wanted · (yielded ops a.tmps))).getD false = false := by
        rw [ho]; show Region.wanted o _ = false; rw [hwr, ← hwc]; exact hw
      have := st_op_skip (P := P) (fn := fn) (rnd := rr) (k := kk) (cs := cs) (w := w) (rest := rest) hw'
      rw [ho] at this
      exact .one this
    rw [hro] at htr' heff
    have hdf : (a.put o.dst undef).defers = a0.defers := by rw [← h.df]; cases o.dst <;> rfl
    cases he : isEff o.op with
    | false => exact ⟨k, E, a.put o.dst undef, w, ⟨down', preN he, h.klen, ⟨m, mD, hm, hmn, fitN hao fD, relD, stD⟩, ⟨ts', hsl', htr'⟩, hdf, fun j hj hjl => h.out j (outD j hj).1 hjl⟩, stp⟩
    | true =>
      obtain ⟨m1, h1, h2, h3⟩ := heff he
      have hck := posE _ h3 cle
      rw [hck] at h1 h2 h3
      rw [hm] at h1; cases h1
      refine ⟨k + 1, E, a.put o.dst undef, w, ⟨down', preE h3, (List.getElem?_eq_some_iff.1 h3).1, ⟨m, mD, h2, hmn, fitN hao fD, relD, stD⟩, ⟨ts', hsl', htr'⟩, hdf, fun j hj hjl => ⟨(h.out j (outD j hj).1 hjl).1, fun m2 hm2 => ?_⟩⟩, stp⟩
      rw [h2] at hm2; cases hm2
      exact (h.out j (outD j hj).1 hjl).2 _ hm
  · -- one that writes
    have hck := posE _ hes cle
    rw [hck] at hs0 hs1 hes
    rw [hm] at hs0; cases hs0
    rw [effC_congr hevc, hro] at hc
    rw [hro] at he
    obtain ⟨v1, m1, E', w', u, hmem, hgo, hrep, hrel', hst'⟩ := effC_ok hI hca hih relS (hI.sub _ _ _ _ subS (hI.step _ _ _ _ _ _ h0 stD hi0)) hev (fn := fn) (rnd := rr) ho (by rw [hwr, ← hwc]; exact hw) hc he
    simp only [List.mem_singleton, Prod.mk.injEq] at hmem
    obtain ⟨rfl, rfl⟩ := hmem
    obtain ⟨mD', fD', relD', stD'⟩ := relD.lift fD fS sub hrel' hst' stD h0 (Nat.le_refl _) hlenr
    obtain ⟨ts', hsl', htr'⟩ := hsl.add (df := a.defers) hr hD (trep_mono hst'.le htr) hrep ps.dst hne
    rw [hro] at htr'
    have hdf : (a.put o.dst u).defers = a0.defers := by rw [← h.df]; cases o.dst <;> rfl
    have hSn : (allocs s.m.n (bfAt (befs [] ops.toList) i) m 0 rs).n = m.n := fS.n
    refine ⟨k + 1, E', a.put o.dst u, w', ⟨down', preE hes, (List.getElem?_eq_some_iff.1 hes).1, ⟨m1, mD', hs1, ?_, fitN hao fD', relD', stD'⟩, ⟨ts', hsl', htr'⟩, hdf, fun j hj hjl => ?_⟩, fun rest kk cs => hgo rest kk cs⟩
    · have := hst'.n; omega
    · obtain ⟨hj1, hj2⟩ := outD j hj
      obtain ⟨hE, hM⟩ := h.out j hj1 hjl
      refine ⟨?_, fun m2 hm2 => ?_⟩
      · cases hE' : E' (s.m.n + j) with
        | none => rfl
        | some x => have := (hst'.img _ x hE' hE).1; omega
      · rw [hs1] at hm2; cases hm2
        refine hst'.raw _ (by omega) (fS.get_none (hM _ hm) (fun j' hj' => ?_))
        have : j' = j := by omega
        subst this
        left
        cases hb : bit (bfAt (befs [] ops.toList) i) j' with
        | false => rfl
        | true => rw [sub _ hb] at hj1; cases hj1
  · -- one that does not
    rw [hro] at he
    have hnd : ∀ {x : FO}, flt P ts (allocs s.m.n (bfAt (befs [] ops.toList) i) m 0 rs) o.op = some x → ∀ c, o.op ≠ .defer c := fun hf => flt_notdefer hf
    have hwr' : Region.wanted o (yielded ops a.tmps) = true := by rw [hwr, ← hwc]; exact hw
    rcases hcase with ⟨hf, hao⟩ | ⟨ao, kf, hf, hao, hv, hlk⟩
    · have hf2 : flt P r.ts (allocs s.m.n (bfAt (befs [] ops.toList) i) m 0 rs) r.o.op = some (.v r.v) := by
        cases hl : looks r.o.op with
        | false => rw [flt_blind (m' := allocs s.m.n (bfAt (befs [] ops.toList) i) m0 0 rs) hl]; exact hf
        | true =>
          have hck := pass2_spec hp2 i r hr hw (by rw [hro]; exact he) hl hao
          rw [Nat.zero_add] at hck
          refine chk_spec hck m ?_
          have hhi : k ≤ hiOf' (befs [] ops.toList) i (effIdx 0 ops.toList) := hi_ge h.klen (fun p e hp hpe => by
            cases hb : bit (bfAt (befs [] ops.toList) e) i with
            | false => rfl
            | true =>
              have := h.down e ((h.pre p e hpe).2 hp) i hb
              rw [hD] at this; cases this)
          refine List.mem_of_getElem? (i := k - countIn (bfAt (befs [] ops.toList) i) (effIdx 0 ops.toList)) ?_
          rw [List.getElem?_drop, show countIn (bfAt (befs [] ops.toList) i) (effIdx 0 ops.toList) + (k - countIn (bfAt (befs [] ops.toList) i) (effIdx 0 ops.toList)) = k by omega, List.getElem?_take, if_pos (by omega)]
          exact hm
      rw [flt_congr hevc, hro] at hf2
      obtain ⟨u, hrun, hu⟩ := (flt_ok relS hev o hf2).v _ rfl
      obtain ⟨ts', hsl', htr'⟩ := hsl.add (df := a.defers) hr hD htr hu ps.dst hne
      rw [hro] at htr'
      have hdf : (a.put o.dst u).defers = a0.defers := by rw [← h.df]; cases o.dst <;> rfl
      exact ⟨k, E, a.put o.dst u, w, ⟨down', preN he, h.klen, ⟨m, mD, hm, hmn, fitN hao fD, relD, stD⟩, ⟨ts', hsl', htr'⟩, hdf, fun j hj hjl => h.out j (outD j hj).1 hjl⟩, fun rest kk cs => .one (st_op_value ho hwr' (hnd hf2) hrun)⟩
    · have hf2 : flt P r.ts (allocs s.m.n (bfAt (befs [] ops.toList) i) m 0 rs) r.o.op = some (.a ao kf) := by
        rcases hlk with hl | ⟨x, y, z, hop⟩
        · rw [flt_blind (m' := allocs s.m.n (bfAt (befs [] ops.toList) i) m0 0 rs) hl]; exact hf
        · rw [hop] at hf ⊢
          simp only [flt_eq, flt0] at hf ⊢
          split at hf
          · rename_i v hv2
            exact convert_blind hf
          · cases hf
      rw [flt_congr hevc, hro] at hf2
      obtain ⟨ob, u, xb, w1, hrun, nw, hxb, hor, hu⟩ := (flt_ok relS hev o hf2).a ao kf rfl
      obtain ⟨hEi, hMi⟩ := h.out i hD hi
      have hmi := hMi _ hm
      have hDi : mD.h.get DH (s.m.n + i) = none := fD.get_none hmi (fun j hj => by
        have : j = i := by omega
        subst this; exact .inl hD)
      have hbn : s.m.n + i < mD.n := by rw [fD.n]; omega
      have hb6 : s.m.n + i < 65536 := by omega
      have hle := E.le_add xb hEi
      have relD' := relD.take hbn hDi hEi nw hxb (orep_mono hle hor)
      have stD' := stD.take h0 (ao := ao) hbn (Nat.le_add_right _ _) hb6 hEi nw hxb
      have hrep : rep (E.add (s.m.n + i) xb) r.v = some u := by rw [hv]; exact hu _ _ (Env.add_same _ _ _)
      obtain ⟨ts', hsl', htr'⟩ := hsl.add (df := a.defers) hr hD (trep_mono hle htr) hrep ps.dst hne
      rw [hro] at htr'
      have hdf : (a.put o.dst u).defers = a0.defers := by rw [← h.df]; cases o.dst <;> rfl
      have gs : ∀ q, (mD.h.set ⟨ao, s.m.n + i, false⟩ DH (s.m.n + i)).get DH q = if s.m.n + i = q then some ⟨ao, s.m.n + i, false⟩ else mD.h.get DH q := fun q => get_h_set hb6
      have fit' : Fits s.m.n (plus D i) rs m { mD with h := mD.h.set ⟨ao, s.m.n + i, false⟩ DH (s.m.n + i) } := by
        refine ⟨fD.lin, fD.n, fD.wl, fun q e hq => ?_, fun j b h1 h2 h3 => ?_, fun q e hq => ?_⟩
        · show (mD.h.set _ DH _).get DH q = _
          rw [gs, if_neg]
          · exact fD.old q e hq
          · intro e2; subst e2; rw [hmi] at hq; cases hq
        · show (mD.h.set _ DH _).get DH _ = _
          rw [gs]
          by_cases e : j = i
          · subst e
            rw [if_pos rfl]
            have : b = ao := by simpa [al, hr, hao] using h3.symm
            rw [this]
          · rw [if_neg (by omega)]
            rw [plus_other D e] at h2
            exact fD.add j b h1 h2 h3
        · have hq' : (mD.h.set ⟨ao, s.m.n + i, false⟩ DH (s.m.n + i)).get DH q = some e := hq
          rw [gs] at hq'
          split at hq'
          · rename_i e2
            subst e2
            cases hq'
            exact .inr ⟨i, ao, rfl, hmi, plus_self D i, by simp [al, hr, hao], rfl⟩
          · rcases fD.back q e hq' with h1 | ⟨j, b, h1, h2, h3, h4, h5⟩
            · exact .inl h1
            · exact .inr ⟨j, b, h1, h2, by simp [plus, h3], h4, h5⟩
      refine ⟨k, _, a.put o.dst u, w1, ⟨down', preN he, h.klen, ⟨m, _, hm, hmn, fit', relD', stD'⟩, ⟨ts', hsl', htr'⟩, hdf, fun j hj hjl => ?_⟩, fun rest kk cs => .one (st_op_value ho hwr' (hnd hf2) hrun)⟩
      obtain ⟨hj1, hj2⟩ := outD j hj
      obtain ⟨hE, hM⟩ := h.out j hj1 hjl
      exact ⟨by rw [Env.add_other _ _ (by omega)]; exact hE, hM⟩
end
end Go.Proofs.YtdjpjmojmppjkaaGreat.Eng
