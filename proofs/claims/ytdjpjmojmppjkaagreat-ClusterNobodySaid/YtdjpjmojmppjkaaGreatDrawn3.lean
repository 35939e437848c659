/- Blocks that operations of a region have made. -/
import Derived.Test.YtdjpjmojmppjkaaGreatDrawn2
namespace Go.Proofs.YtdjpjmojmppjkaaGreat.Eng
open Go

section
variable {P : Program} {E E' E0 : Env} {m m' m0 mS mD m1 m2 : M} {w w' w0 w1 w2 : World}

structure Meq (m m' : M) : Prop where
  h : ∀ k, m.h.get DH k = m'.h.get DH k
  lin : m.lin = m'.lin
  n : m.n = m'.n
  wl : m.wl = m'.wl
theorem Meq.look (e : Meq m m') (b : Nat) : look m b = look m' b := by
  unfold Eng.look alive
  rw [e.h, e.lin]
theorem Rel.congr (h : Rel E m w) (e : Meq m m') : Rel E m' w := by
  refine ⟨fun b x hx => by rw [← e.n]; exact h.dom b x hx, by rw [← e.n]; exact h.cap, fun b en he => by rw [← e.h] at he; rw [← e.n]; exact h.ids b en he, fun b en he => by rw [← e.look] at he; exact h.obj b en he,
    fun b b' en en' x x' h1 h2 => by rw [← e.look] at h1 h2; exact h.one b b' en en' x x' h1 h2, fun b b' en en' x x' h1 h2 => by rw [← e.look] at h1 h2; exact h.ends b b' en en' x x' h1 h2,
    fun b en nw fl h1 h2 h3 => by rw [← e.look] at h1; rw [← e.lin] at h3; exact h.new b en nw fl h1 h2 h3, fun b b' en en' h1 h2 => by rw [← e.h] at h1 h2; exact h.solo b b' en en' h1 h2,
    fun b en h1 => by rw [← e.h] at h1; obtain ⟨e', h2⟩ := h.rt b en h1; exact ⟨e', by rw [← e.h]; exact h2⟩⟩
theorem Meq.refl (m : M) : Meq m m := ⟨fun _ => rfl, rfl, rfl, rfl⟩
theorem Meq.symm (e : Meq m m') : Meq m' m := ⟨fun k => (e.h k).symm, e.lin.symm, e.n.symm, e.wl.symm⟩

/-- More blocks, that were not there: what came of the memory ahead stays so. -/
theorem Step.more (st : Step E0 m0 w0 E m w) (h0 : Rel E0 m0 w0) (hh : ∀ b, b < m0.n → m'.h.get DH b = m.h.get DH b) (hl : m'.lin = m.lin) (hn : m'.n = m.n) (hw : m'.wl = m.wl) : Step E0 m0 w0 E m' w := by
  refine ⟨st.le, by rw [hn]; exact st.n, fun b e hb he => st.shrink b e hb ?_, st.img, st.frame, st.size, st.os, st.tape, st.output, fun b hb hn' => by rw [hh b hb]; exact st.raw b hb hn', fun b e he => by rw [hh b (h0.ids b e he).1]; exact st.keep b e he, ?_⟩
  · rw [look_eq] at he ⊢
    rw [hh b hb] at he
    refine ⟨he.1, ?_⟩
    have := he.2
    unfold alive at this ⊢
    rw [hl] at this; exact this
  · obtain ⟨l, h1, h2⟩ := st.log
    refine ⟨l, by rw [hw]; exact h1, fun b e he hb hr => ?_⟩
    obtain ⟨h3, h4⟩ := h2 b e he hb hr
    exact ⟨by rw [hh b (h0.ids b e he).1]; exact h3, by rw [hl]; exact h4⟩

theorem Step.trans' (hr : Rel E0 m0 w0) (h : Step E0 m0 w0 E m w) (k : Step E mS w E' m' w') (hlk : ∀ b e, look mS b = some e → look m b = some e) (hn : mS.n = m.n) (hwl : mS.wl = m.wl) (hlin : mS.lin = m.lin) (hh : ∀ b, b < m0.n → mS.h.get DH b = m.h.get DH b) : Step E0 m0 w0 E' m' w' := by
  refine ⟨Env.le_trans h.le k.le, Nat.le_trans h.n (hn ▸ k.n), fun b e hb he => ?_, fun b x hx hnn => ?_, fun r hlt hf => ?_, Nat.le_trans h.size k.size, k.os.trans h.os, k.tape.trans h.tape, k.output.trans h.output,
    fun b hb hnn => k.raw b (by rw [hn]; exact Nat.lt_of_lt_of_le hb h.n) (by rw [hh b hb]; exact h.raw b hb hnn), fun b e he => ?_, ?_⟩
  · obtain ⟨e1, h1⟩ := k.shrink b e (by rw [hn]; exact Nat.lt_of_lt_of_le hb h.n) he
    exact h.shrink b e1 hb (hlk _ _ h1)
  · have old : ∀ b0 e0 x0, look m b0 = some e0 → E b0 = some x0 → w0.heap.size ≤ x0.r ∨ ∃ b1 e1 x1, look m0 b1 = some e1 ∧ E0 b1 = some x1 ∧ x1.r = x0.r := by
      intro b0 e0 x0 h0 hx0
      cases he : E0 b0 with
      | none => exact (h.img b0 x0 hx0 he).2
      | some y =>
        have : x0 = y := by have := h.le b0 y he; rw [hx0] at this; exact Option.some.inj this
        subst this
        obtain ⟨e1, h1⟩ := h.shrink b0 e0 (hr.dom b0 _ he).1 h0
        exact .inr ⟨b0, e1, x0, h1, he, rfl⟩
    cases h1 : E b with
    | some y =>
      have : x = y := by have := k.le b y h1; rw [hx] at this; exact Option.some.inj this
      subst this
      exact h.img b x h1 hnn
    | none =>
      obtain ⟨hb, hc⟩ := k.img b x hx h1
      refine ⟨Nat.le_trans h.n (hn ▸ hb), ?_⟩
      rcases hc with hc | ⟨b0, e0, x0, h0, hx0, he⟩
      · exact .inl (Nat.le_trans h.size hc)
      · rcases old b0 e0 x0 (hlk _ _ h0) hx0 with ho | ⟨b1, e1, x1, h1', hx1, he1⟩
        · exact .inl (by rw [← he]; exact ho)
        · exact .inr ⟨b1, e1, x1, h1', hx1, he1.trans he⟩
  · rw [k.frame r (Nat.lt_of_lt_of_le hlt h.size) ?_, h.frame r hlt hf]
    intro b e x hb hx hxr
    have hb := hlk _ _ hb
    cases he : E0 b with
    | none =>
      rcases (h.img b x hx he).2 with ho | ⟨b1, e1, x1, h1, hx1, he1⟩
      · omega
      · exact hf b1 e1 x1 h1 hx1 (he1.trans hxr)
    | some y =>
      have : x = y := by have := h.le b y he; rw [hx] at this; exact Option.some.inj this
      subst this
      obtain ⟨e1, h1⟩ := h.shrink b e (hr.dom b _ he).1 hb
      exact hf b e1 x h1 he hxr
  · obtain ⟨e1, h1⟩ := h.keep b e he
    exact k.keep b e1 (by rw [hh b (hr.ids b e he).1]; exact h1)
  · obtain ⟨l1, hl1, k1⟩ := h.log
    obtain ⟨l2, hl2, k2⟩ := k.log
    refine ⟨l2 ++ l1, by rw [hl2, hwl, hl1, List.append_assoc], fun b e he hb hr' => ?_⟩
    obtain ⟨g1, g2⟩ := k1 b e he (fun hh => hb (List.mem_append_right _ hh)) (fun hh => hr' (List.mem_append_right _ hh))
    obtain ⟨g3, g4⟩ := k2 b e (by rw [hh b (hr.ids b e he).1]; exact g1) (fun hh => hb (List.mem_append_left _ hh)) (fun hh => hr' (List.mem_append_left _ hh))
    exact ⟨g3, g4.trans (by rw [hlin]; exact g2)⟩

/-- The block that an operation makes. -/
def al (rs : List Rec) (j : Nat) : Option AO := rs[j]?.bind (·.ao)
/-- The memory m with the blocks of the operations of D. -/
structure Fits (n0 : Nat) (D : Nat → Bool) (rs : List Rec) (m m' : M) : Prop where
  lin : m'.lin = m.lin
  n : m'.n = m.n
  wl : m'.wl = m.wl
  old : ∀ k e, m.h.get DH k = some e → m'.h.get DH k = some e
  add : ∀ j a, m.h.get DH (n0 + j) = none → D j = true → al rs j = some a → m'.h.get DH (n0 + j) = some ⟨a, n0 + j, false⟩
  back : ∀ k e, m'.h.get DH k = some e → m.h.get DH k = some e ∨ ∃ j a, k = n0 + j ∧ m.h.get DH k = none ∧ D j = true ∧ al rs j = some a ∧ e = ⟨a, n0 + j, false⟩

noncomputable def allocsP (n0 : Nat) (D : Nat → Bool) (m : M) : Nat → List Rec → M
  | _, [] => m
  | i, r :: l => match r.ao with
    | none => allocsP n0 D m (i + 1) l
    | some a => cond (D i) (match m.h.get DH (n0 + i) with
      | none => allocsP n0 D { m with h := m.h.set ⟨a, n0 + i, false⟩ DH (n0 + i) } (i + 1) l
      | some _ => allocsP n0 D m (i + 1) l) (allocsP n0 D m (i + 1) l)
theorem allocs_eq {n0 mask : Nat} : ∀ (l : List Rec) (m : M) (i : Nat), allocs n0 mask m i l = allocsP n0 (bit mask) m i l
  | [], _, _ => rfl
  | r :: l, m, i => by
    unfold allocs allocsP
    cases r.ao with
    | none => exact allocs_eq l m (i + 1)
    | some a =>
      dsimp only
      cases bit mask i with
      | false => exact allocs_eq l m (i + 1)
      | true =>
        dsimp only [cond_true]
        cases m.h.get DH (n0 + i) with
        | none => exact allocs_eq l _ (i + 1)
        | some e => exact allocs_eq l m (i + 1)

/-- The same, behind the operations ahead of i. -/
structure FitsI (n0 i : Nat) (D : Nat → Bool) (l : List Rec) (m m' : M) : Prop where
  lin : m'.lin = m.lin
  n : m'.n = m.n
  wl : m'.wl = m.wl
  old : ∀ k e, m.h.get DH k = some e → m'.h.get DH k = some e
  add : ∀ j a, m.h.get DH (n0 + (i + j)) = none → D (i + j) = true → al l j = some a → m'.h.get DH (n0 + (i + j)) = some ⟨a, n0 + (i + j), false⟩
  back : ∀ k e, m'.h.get DH k = some e → m.h.get DH k = some e ∨ ∃ j a, k = n0 + (i + j) ∧ m.h.get DH k = none ∧ D (i + j) = true ∧ al l j = some a ∧ e = ⟨a, n0 + (i + j), false⟩

theorem FitsI.skip {n0 i : Nat} {D : Nat → Bool} {r : Rec} {l : List Rec} (h : FitsI n0 (i + 1) D l m m') (hs : ∀ a, r.ao = some a → D i = true → m.h.get DH (n0 + i) ≠ none) : FitsI n0 i D (r :: l) m m' := by
  refine ⟨h.lin, h.n, h.wl, h.old, fun j a hm hd ha => ?_, fun k e he => ?_⟩
  · cases j with
    | zero => exact absurd hm (hs a (by simpa [al] using ha) hd)
    | succ j =>
      rw [show i + (j + 1) = i + 1 + j by omega] at *
      exact h.add j a hm hd (by simpa [al] using ha)
  · rcases h.back k e he with h1 | ⟨j, a, h1, h2, h3, h4, h5⟩
    · exact .inl h1
    · exact .inr ⟨j + 1, a, by omega, h2, by rw [show i + (j + 1) = i + 1 + j by omega]; exact h3, by simpa [al] using h4, by rw [show i + (j + 1) = i + 1 + j by omega]; exact h5⟩
theorem allocsP_fits {n0 : Nat} {D : Nat → Bool} : ∀ (l : List Rec) (m : M) (i : Nat), n0 + i + l.length ≤ 65536 → FitsI n0 i D l m (allocsP n0 D m i l)
  | [], m, i, _ => ⟨rfl, rfl, rfl, fun _ _ h => h, fun j a _ _ h => by simp [al] at h, fun k e h => .inl h⟩
  | r :: l, m, i, hlt => by
    simp only [List.length_cons] at hlt
    unfold allocsP
    cases hr : r.ao with
    | none => exact (allocsP_fits l m (i + 1) (by omega)).skip (fun a ha => by rw [hr] at ha; cases ha)
    | some a =>
      dsimp only
      cases hd : D i with
      | false => exact (allocsP_fits l m (i + 1) (by omega)).skip (fun a _ hdd => by rw [hd] at hdd; cases hdd)
      | true =>
        dsimp only [cond_true]
        cases hg : m.h.get DH (n0 + i) with
        | some e => exact (allocsP_fits l m (i + 1) (by omega)).skip (fun a _ _ hn => by rw [hg] at hn; cases hn)
        | none =>
          dsimp only
          have hb : n0 + i < 65536 := by omega
          have f := allocsP_fits (n0 := n0) (D := D) l { m with h := m.h.set ⟨a, n0 + i, false⟩ DH (n0 + i) } (i + 1) (by omega)
          have gs : ∀ k, (m.h.set ⟨a, n0 + i, false⟩ DH (n0 + i)).get DH k = if n0 + i = k then some ⟨a, n0 + i, false⟩ else m.h.get DH k := fun k => get_h_set hb
          refine ⟨f.lin, f.n, f.wl, fun k e he => f.old k e ?_, fun j a' hm hd' ha => ?_, fun k e he => ?_⟩
          · show (m.h.set ⟨a, n0 + i, false⟩ DH (n0 + i)).get DH k = _
            rw [gs, if_neg]; exact he
            intro e2; subst e2; rw [hg] at he; cases he
          · cases j with
            | zero =>
              have : a' = a := by simpa [al, hr] using ha.symm
              subst this
              refine f.old _ _ ?_
              show (m.h.set ⟨a', n0 + i, false⟩ DH (n0 + i)).get DH (n0 + i) = _
              rw [gs, if_pos rfl]; rfl
            | succ j =>
              rw [show i + (j + 1) = i + 1 + j by omega] at *
              refine f.add j a' ?_ hd' (by simpa [al] using ha)
              show (m.h.set ⟨a, n0 + i, false⟩ DH (n0 + i)).get DH _ = _
              rw [gs, if_neg (by omega)]; exact hm
          · rcases f.back k e he with h1 | ⟨j, a', h1, h2, h3, h4, h5⟩
            · have h1' : (m.h.set ⟨a, n0 + i, false⟩ DH (n0 + i)).get DH k = some e := h1
              rw [gs] at h1'
              split at h1'
              · rename_i e2
                subst e2
                cases h1'
                exact .inr ⟨0, a, rfl, hg, hd, by simp [al, hr], rfl⟩
              · exact .inl h1'
            · have h2' : (m.h.set ⟨a, n0 + i, false⟩ DH (n0 + i)).get DH k = none := h2
              rw [gs, if_neg (by omega)] at h2'
              exact .inr ⟨j + 1, a', by omega, h2', by rw [show i + (j + 1) = i + 1 + j by omega]; exact h3, by simpa [al] using h4, by rw [show i + (j + 1) = i + 1 + j by omega]; exact h5⟩
theorem allocs_fits {n0 : Nat} {mask : Nat} {l : List Rec} {m : M} (h : n0 + l.length ≤ 65536) : Fits n0 (bit mask) l m (allocs n0 mask m 0 l) := by
  rw [allocs_eq]
  have f := allocsP_fits (n0 := n0) (D := bit mask) l m 0 (by omega)
  exact ⟨f.lin, f.n, f.wl, f.old, fun j a h1 h2 h3 => by have := f.add j a; rw [Nat.zero_add] at this; exact this h1 h2 h3, fun k e he => by
    rcases f.back k e he with h1 | ⟨j, a, h1, h2, h3, h4, h5⟩
    · exact .inl h1
    · rw [Nat.zero_add] at h1 h3 h5; exact .inr ⟨j, a, h1, h2, h3, h4, h5⟩⟩

theorem Fits.get_none {n0 : Nat} {D : Nat → Bool} {rs : List Rec} (f : Fits n0 D rs m m') {k : Nat} (h : m.h.get DH k = none) (hd : ∀ j, k = n0 + j → D j = false ∨ al rs j = none) : m'.h.get DH k = none := by
  cases he : m'.h.get DH k with
  | none => rfl
  | some e =>
    rcases f.back k e he with h1 | ⟨j, a, h1, h2, h3, h4, h5⟩
    · rw [h] at h1; cases h1
    · rcases hd j h1 with h6 | h6
      · rw [h3] at h6; cases h6
      · rw [h4] at h6; cases h6
theorem Fits.meq {n0 : Nat} {D : Nat → Bool} {rs : List Rec} (f : Fits n0 D rs m m1) (g : Fits n0 D rs m m2) : Meq m1 m2 := by
  refine ⟨fun k => ?_, f.lin.trans g.lin.symm, f.n.trans g.n.symm, f.wl.trans g.wl.symm⟩
  cases h : m1.h.get DH k with
  | some e =>
    rcases f.back k e h with h1 | ⟨j, a, h1, h2, h3, h4, h5⟩
    · exact (g.old k e h1).symm
    · subst h1; rw [h5]; exact (g.add j a h2 h3 h4).symm
  | none =>
    cases h' : m2.h.get DH k with
    | none => rfl
    | some e =>
      rcases g.back k e h' with h1 | ⟨j, a, h1, h2, h3, h4, h5⟩
      · rw [f.old k e h1] at h; cases h
      · subst h1; rw [f.add j a h2 h3 h4] at h; cases h

/-- Fewer blocks. -/
theorem Rel.fewer {n0 : Nat} {D S : Nat → Bool} {rs : List Rec} (h : Rel E mD w) (fD : Fits n0 D rs m mD) (fS : Fits n0 S rs m mS) (hs : ∀ j, S j = true → D j = true) :
    Rel E mS w ∧ (∀ k e, mS.h.get DH k = some e → mD.h.get DH k = some e) ∧ ∀ b e, look mS b = some e → look mD b = some e := by
  have sub : ∀ k e, mS.h.get DH k = some e → mD.h.get DH k = some e := by
    intro k e he
    rcases fS.back k e he with h1 | ⟨j, a, h1, h2, h3, h4, h5⟩
    · exact fD.old k e h1
    · subst h1; rw [h5]; exact fD.add j a h2 (hs j h3) h4
  have hlin : mS.lin = mD.lin := fS.lin.trans fD.lin.symm
  have hn : mS.n = mD.n := fS.n.trans fD.n.symm
  have lk : ∀ b e, look mS b = some e → look mD b = some e := by
    intro b e he
    rw [look_eq] at he ⊢
    refine ⟨sub b e he.1, ?_⟩
    have := he.2
    unfold alive at this ⊢
    rw [hlin] at this; exact this
  refine ⟨⟨fun b x hx => by rw [hn]; exact h.dom b x hx, by rw [hn]; exact h.cap, fun b e he => by rw [hn]; exact h.ids b e (sub b e he), fun b e he => h.obj b e (lk b e he), fun b b' e e' x x' h1 h2 => h.one b b' e e' x x' (lk _ _ h1) (lk _ _ h2),
    fun b b' e e' x x' h1 h2 => h.ends b b' e e' x x' (lk _ _ h1) (lk _ _ h2), fun b e nw fl h1 h2 h3 => h.new b e nw fl (lk _ _ h1) h2 (by rw [← hlin]; exact h3), fun b b' e e' h1 h2 => h.solo b b' e e' (sub _ _ h1) (sub _ _ h2), fun b e he => ?_⟩, sub, lk⟩
  obtain ⟨e', he'⟩ := h.rt b e (sub b e he)
  cases hg : mS.h.get DH e.root with
  | some e2 => exact ⟨e2, rfl⟩
  | none =>
    exfalso
    rcases fD.back _ e' he' with h1 | ⟨j, a, h1, h2, h3, h4, h5⟩
    · rw [fS.old _ _ h1] at hg; cases hg
    · have := h.solo e.root b e' e he' (sub b e he) (by rw [h5]) (by rw [h5]; exact h1)
      subst this
      rw [he] at hg; cases hg

theorem Rel.puts {n0 : Nat} {D : Nat → Bool} : ∀ (l : List Rec) (m : M) (i : Nat), n0 + i + l.length ≤ 65536 → Rel E m w →
    (∀ j a, D (i + j) = true → al l j = some a → m.h.get DH (n0 + (i + j)) = none → ∃ x o, E (n0 + (i + j)) = some x ∧ w.heap[x.r]? = some o ∧ orep E x a o ∧ ∀ b e y, look m b = some e → E b = some y → y.r ≠ x.r) →
    (∀ j j' a a' x x', j ≠ j' → D (i + j) = true → al l j = some a → m.h.get DH (n0 + (i + j)) = none → D (i + j') = true → al l j' = some a' → m.h.get DH (n0 + (i + j')) = none → E (n0 + (i + j)) = some x → E (n0 + (i + j')) = some x' → x.r ≠ x'.r) →
    Rel E (allocsP n0 D m i l) w
  | [], m, i, _, h, _, _ => h
  | r :: l, m, i, hlt, h, hp, hd => by
    simp only [List.length_cons] at hlt
    have skip : Rel E (allocsP n0 D m (i + 1) l) w := by
      refine Rel.puts l m (i + 1) (by omega) h (fun j a h1 h2 h3 => ?_) (fun j j' a a' x x' hne h1 h2 h3 h4 h5 h6 h7 h8 => ?_)
      · rw [show i + 1 + j = i + (j + 1) by omega] at *
        exact hp (j + 1) a h1 (by simpa [al] using h2) h3
      · rw [show i + 1 + j = i + (j + 1) by omega] at *
        rw [show i + 1 + j' = i + (j' + 1) by omega] at *
        exact hd (j + 1) (j' + 1) a a' x x' (by omega) h1 (by simpa [al] using h2) h3 h4 (by simpa [al] using h5) h6 h7 h8
    unfold allocsP
    cases hr : r.ao with
    | none => exact skip
    | some a =>
      dsimp only
      cases hdi : D i with
      | false => exact skip
      | true =>
        dsimp only [cond_true]
        cases hg : m.h.get DH (n0 + i) with
        | some e => exact skip
        | none =>
          dsimp only
          have hal : al (r :: l) 0 = some a := by simp [al, hr]
          obtain ⟨x, o, hx, ho, hor, hot⟩ := hp 0 a hdi hal hg
          have hb : n0 + i < 65536 := by omega
          have gs : ∀ k, (m.h.set ⟨a, n0 + i, false⟩ DH (n0 + i)).get DH k = if n0 + i = k then some ⟨a, n0 + i, false⟩ else m.h.get DH k := fun k => get_h_set hb
          have r1 := h.put (b := n0 + i) hx ho hor hot (fun b' e' hb' hrt => by
            obtain ⟨e2, h2⟩ := h.rt b' e' hb'
            rw [hrt, hg] at h2; cases h2)
          have lk : ∀ b e, look { m with h := m.h.set ⟨a, n0 + i, false⟩ DH (n0 + i) } b = some e → b = n0 + i ∨ look m b = some e := by
            intro b e he
            rw [look_eq] at he
            by_cases hbe : b = n0 + i
            · exact .inl hbe
            · right
              rw [look_eq]
              have h1 : (m.h.set ⟨a, n0 + i, false⟩ DH (n0 + i)).get DH b = some e := he.1
              rw [gs, if_neg (Ne.symm hbe)] at h1
              exact ⟨h1, he.2⟩
          have gn : ∀ j, (m.h.set ⟨a, n0 + i, false⟩ DH (n0 + i)).get DH (n0 + (i + (j + 1))) = m.h.get DH (n0 + (i + (j + 1))) := fun j => by rw [gs, if_neg (by omega)]
          refine Rel.puts l _ (i + 1) (by omega) r1 (fun j a' h1 h2 h3 => ?_) (fun j j' a1 a2 x1 x2 hne h1 h2 h3 h4 h5 h6 h7 h8 => ?_)
          · rw [show i + 1 + j = i + (j + 1) by omega] at *
            have h3' : (m.h.set ⟨a, n0 + i, false⟩ DH (n0 + i)).get DH (n0 + (i + (j + 1))) = none := h3
            rw [gn] at h3'
            obtain ⟨x', o', k1, k2, k3, k4⟩ := hp (j + 1) a' h1 (by simpa [al] using h2) h3'
            refine ⟨x', o', k1, k2, k3, fun b e y hb' hy => ?_⟩
            rcases lk b e hb' with rfl | hb''
            · have hx0 : E (n0 + i) = some x := hx
              rw [hx0] at hy; cases hy
              exact hd 0 (j + 1) a a' _ x' (by omega) hdi hal hg h1 (by simpa [al] using h2) h3' hx k1
            · exact k4 b e y hb'' hy
          · rw [show i + 1 + j = i + (j + 1) by omega] at *
            rw [show i + 1 + j' = i + (j' + 1) by omega] at *
            have h3' : (m.h.set ⟨a, n0 + i, false⟩ DH (n0 + i)).get DH (n0 + (i + (j + 1))) = none := h3
            have h6' : (m.h.set ⟨a, n0 + i, false⟩ DH (n0 + i)).get DH (n0 + (i + (j' + 1))) = none := h6
            rw [gn] at h3' h6'
            exact hd (j + 1) (j' + 1) a1 a2 x1 x2 (by omega) h1 (by simpa [al] using h2) h3' h4 (by simpa [al] using h5) h6' h7 h8
end
end Go.Proofs.YtdjpjmojmppjkaaGreat.Eng
