/- What the pass in the text's order tells. -/
import Derived.Test.YtdjpjmojmppjkaaGreatDrawn3
namespace Go.Proofs.YtdjpjmojmppjkaaGreat.Eng
open Go

section
variable {P : Program} {E E' E0 : Env} {m m' m0 mS mD m1 m2 : M} {w w' w0 w1 w2 : World}

theorem look_plain {m : M} {b : Nat} {a : AO} {root : Nat} (h : m.h.get DH b = some ⟨a, root, false⟩) : look m b = some ⟨a, root, false⟩ := by
  rw [look_eq]; exact ⟨h, rfl⟩

theorem Rel.lift {n0 : Nat} {D S : Nat → Bool} {rs : List Rec} (fD : Fits n0 D rs m mD) (fS : Fits n0 S rs m mS) (hs : ∀ j, S j = true → D j = true) (h : Rel E mD w) (h' : Rel E' m' w') (st : Step E mS w E' m' w')
    (st0 : Step E0 m0 w0 E mD w) (h0 : Rel E0 m0 w0) (hn0 : m0.n ≤ n0) (hlen : n0 + rs.length ≤ 65536) : ∃ mD', Fits n0 D rs m' mD' ∧ Rel E' mD' w' ∧ Step E0 m0 w0 E' mD' w' := by
  obtain ⟨hS, sub, lk⟩ := h.fewer fD fS hs
  have fit : Fits n0 D rs m' (allocsP n0 D m' 0 rs) := by
    have f := allocsP_fits (n0 := n0) (D := D) rs m' 0 (by omega)
    exact ⟨f.lin, f.n, f.wl, f.old, fun j a h1 h2 h3 => by have := f.add j a; rw [Nat.zero_add] at this; exact this h1 h2 h3, fun k e he => by
      rcases f.back k e he with h1 | ⟨j, a, h1, h2, h3, h4, h5⟩
      · exact .inl h1
      · rw [Nat.zero_add] at h1 h3 h5; exact .inr ⟨j, a, h1, h2, h3, h4, h5⟩⟩
  have pend : ∀ j a, D j = true → al rs j = some a → m'.h.get DH (n0 + j) = none → mS.h.get DH (n0 + j) = none ∧ mD.h.get DH (n0 + j) = some ⟨a, n0 + j, false⟩ := by
    intro j a hd ha hn
    have hS' : mS.h.get DH (n0 + j) = none := by
      cases hg : mS.h.get DH (n0 + j) with
      | none => rfl
      | some e => obtain ⟨e', he'⟩ := st.keep _ e hg; rw [he'] at hn; cases hn
    have hm : m.h.get DH (n0 + j) = none := by
      cases hg : m.h.get DH (n0 + j) with
      | none => rfl
      | some e => rw [fS.old _ e hg] at hS'; cases hS'
    exact ⟨hS', fD.add j a hm hd ha⟩
  have rel : Rel E' (allocsP n0 D m' 0 rs) w' := by
    refine Rel.puts rs m' 0 (by omega) h' (fun j a hd ha hn => ?_) (fun j j' a a' x x' hne hd ha hn hd' ha' hn' hx hx' => ?_)
    · rw [Nat.zero_add] at *
      obtain ⟨hS', hD'⟩ := pend j a hd ha hn
      have hlk := look_plain hD'
      obtain ⟨x, o, hx, ho, hor⟩ := h.obj _ _ hlk
      have apart : ∀ b e y, look mS b = some e → E b = some y → y.r ≠ x.r := by
        intro b e y hb hy hr
        have hne : b ≠ n0 + j := by
          intro e2; subst e2
          rw [look_eq] at hb; rw [hS'] at hb; cases hb.1
        have := (h.one b (n0 + j) e _ y x (lk _ _ hb) hlk hy hx hr hne).2.1
        cases this
      refine ⟨x, o, st.le _ _ hx, (st.frame _ (h.dom _ _ hx).2 (fun b e y hb hy => apart b e y hb hy)).trans ho, orep_mono st.le hor, fun b e y hb hy => ?_⟩
      cases hE : E b with
      | some z =>
        have := st.le _ _ hE; rw [hy] at this; cases this
        obtain ⟨e0, he0⟩ := st.shrink b e (hS.dom _ _ hE).1 hb
        exact apart b e0 _ he0 hE
      | none =>
        rcases (st.img b y hy hE).2 with h1 | ⟨b0, e0, x0, h1, h2, h3⟩
        · have := (h.dom _ _ hx).2; omega
        · rw [← h3]; exact apart b0 e0 x0 h1 h2
    · rw [Nat.zero_add] at *
      intro hr
      obtain ⟨hS1, hD1⟩ := pend j a hd ha hn
      obtain ⟨hS2, hD2⟩ := pend j' a' hd' ha' hn'
      have l1 := look_plain hD1
      have l2 := look_plain hD2
      obtain ⟨y1, _, hy1, _⟩ := h.obj _ _ l1
      obtain ⟨y2, _, hy2, _⟩ := h.obj _ _ l2
      have e1 := st.le _ _ hy1; rw [hx] at e1; cases e1
      have e2 := st.le _ _ hy2; rw [hx'] at e2; cases e2
      have := (h.one _ _ _ _ _ _ l1 l2 hy1 hy2 hr (by omega)).1
      cases this
  refine ⟨_, fit, rel, ?_⟩
  have hold : ∀ b, b < m0.n → mS.h.get DH b = mD.h.get DH b := by
    intro b hb
    cases hg : mS.h.get DH b with
    | some e => exact (sub _ _ hg).symm
    | none =>
      cases hg' : mD.h.get DH b with
      | none => rfl
      | some e =>
        rcases fD.back _ _ hg' with h1 | ⟨j, a, h1, _⟩
        · rw [fS.old _ _ h1] at hg; cases hg
        · omega
  have st1 := Step.trans' h0 st0 st lk (fS.n.trans fD.n.symm) (fS.wl.trans fD.wl.symm) (fS.lin.trans fD.lin.symm) hold
  refine st1.more h0 (fun b hb => ?_) fit.lin fit.n fit.wl
  cases hg : m'.h.get DH b with
  | some e => exact fit.old _ _ hg
  | none => exact fit.get_none hg (fun j hj => by omega)

theorem allocs_none {n0 mask : Nat} : ∀ (l : List Rec) (i : Nat) (m : M), (∀ j, i ≤ j → bit mask j = false) → allocs n0 mask m i l = m
  | [], _, _, _ => rfl
  | r :: l, i, m, h => by
    unfold allocs
    cases r.ao with
    | none => exact allocs_none l (i + 1) m (fun j hj => h j (by omega))
    | some a =>
      dsimp only
      rw [h i (Nat.le_refl _)]
      exact allocs_none l (i + 1) m (fun j hj => h j (by omega))
noncomputable def alloc1 (n0 mask : Nat) (m : M) (i : Nat) (r : Rec) : M :=
  match r.ao with
  | none => m
  | some a => cond (bit mask i) (match m.h.get DH (n0 + i) with
      | none => { m with h := m.h.set ⟨a, n0 + i, false⟩ DH (n0 + i) }
      | some _ => m) m
theorem allocs_cons {n0 mask : Nat} (r : Rec) (l : List Rec) (i : Nat) (m : M) : allocs n0 mask m i (r :: l) = allocs n0 mask (alloc1 n0 mask m i r) (i + 1) l := by
  unfold alloc1
  simp only [allocs]
  cases r.ao with
  | none => rfl
  | some a =>
    dsimp only
    cases bit mask i with
    | false => rfl
    | true =>
      dsimp only [cond_true]
      cases m.h.get DH (n0 + i) <;> rfl
theorem allocs_append {n0 mask : Nat} : ∀ (l x : List Rec) (i : Nat) (m : M), allocs n0 mask m i (l ++ x) = allocs n0 mask (allocs n0 mask m i l) (i + l.length) x
  | [], _, _, _ => rfl
  | r :: l, x, i, m => by
    rw [List.cons_append, allocs_cons, allocs_cons, show i + (r :: l).length = i + 1 + l.length by simp; omega]
    exact allocs_append l x (i + 1) _
theorem allocs_prefix {n0 mask : Nat} {l x : List Rec} {m : M} (h : ∀ j, bit mask j = true → j < l.length) : allocs n0 mask m 0 (l ++ x) = allocs n0 mask m 0 l := by
  rw [allocs_append]
  exact allocs_none x _ _ (fun j hj => by
    cases hb : bit mask j with
    | false => rfl
    | true => have := h j hb; omega)

/-- The slots behind the operations of D. -/
structure Slots (ts0 : T V) (D : Nat → Prop) (rs : List Rec) (ts : T V) : Prop where
  done : ∀ j r, D j → rs[j]? = some r → ∀ t, r.o.dst = some t → ts.get DT t = some r.v
  rest : ∀ t, (∀ j r, D j → rs[j]? = some r → r.o.dst ≠ some t) → ts.get DT t = ts0.get DT t

structure PS (P : Program) (ca : CallT) (ih : Code → St → R) (L : List Oper) (es : List Nat) (n0 nt : Nat) (ts0 : T V) (rs : List Rec) (snaps : List M) (i : Nat) (r : Rec) : Prop where
  o : L[i]? = some r.o
  dst : ∀ t, r.o.dst = some t → t < nt
  slots : Slots ts0 (· < i) rs r.ts
  run : (wants L r.ts r.o.guard = false ∧ r.v = .tup [] ∧ r.ao = none ∧ (isEff r.o.op = true → ∃ m, snaps[countIn (bfAt (befs [] L) i) es]? = some m ∧ snaps[countIn (bfAt (befs [] L) i) es + 1]? = some m ∧ es[countIn (bfAt (befs [] L) i) es]? = some i)) ∨
   (wants L r.ts r.o.guard = true ∧ isEff r.o.op = true ∧ r.ao = none ∧ ∃ m m', snaps[countIn (bfAt (befs [] L) i) es]? = some m ∧ snaps[countIn (bfAt (befs [] L) i) es + 1]? = some m' ∧ es[countIn (bfAt (befs [] L) i) es]? = some i ∧
      effC P ca ih r.ts (allocs n0 (bfAt (befs [] L) i) m 0 rs) r.o.op = some [(r.v, m')]) ∨
   (wants L r.ts r.o.guard = true ∧ isEff r.o.op = false ∧ ∃ m, snaps[countIn (bfAt (befs [] L) i) es]? = some m ∧
      ((flt P r.ts (allocs n0 (bfAt (befs [] L) i) m 0 rs) r.o.op = some (.v r.v) ∧ r.ao = none) ∨
       (∃ ao k, flt P r.ts (allocs n0 (bfAt (befs [] L) i) m 0 rs) r.o.op = some (.a ao k) ∧ r.ao = some ao ∧ r.v = k (n0 + i) ∧ (looks r.o.op = false ∨ ∃ a b c, r.o.op = .convert a b c))))

theorem Slots.put {ts0 ts ts' : T V} {rs : List Rec} {r : Rec} {L : List Oper} {nt : Nat} {mm : M} (hL : RF L) (hnt : nt ≤ 512) (hrs : ∀ (j : Nat) (r : Rec), rs[j]? = some r → L[j]? = some r.o) (hr : L[rs.length]? = some r.o) (h : Slots ts0 (· < rs.length) rs ts) (hp : putV ⟨0, none, ts, nt, [], mm⟩ r.o.dst r.v = some ts') :
    Slots ts0 (· < rs.length + 1) (rs ++ [r]) ts' ∧ ∀ t, r.o.dst = some t → t < nt := by
  unfold putV at hp
  have split : ∀ j r', (rs ++ [r])[j]? = some r' → (j < rs.length ∧ rs[j]? = some r') ∨ (j = rs.length ∧ r' = r) := by
    intro j r' hj
    rcases Nat.lt_trichotomy j rs.length with hlt | rfl | hgt
    · rw [List.getElem?_append_left hlt] at hj; exact .inl ⟨hlt, hj⟩
    · rw [List.getElem?_append_right (Nat.le_refl _)] at hj; simp at hj; exact .inr ⟨rfl, hj.symm⟩
    · rw [List.getElem?_append_right (by omega)] at hj
      rw [List.getElem?_eq_none (by simp; omega)] at hj; cases hj
  cases hd : r.o.dst with
  | none =>
    rw [hd] at hp
    cases hp
    refine ⟨⟨fun j r' _ hj t ht => ?_, fun t hall => h.rest t (fun j r' hj1 hj2 => hall j r' (Nat.lt_succ_of_lt hj1) (by rw [List.getElem?_append_left hj1]; exact hj2))⟩, fun t ht => by cases ht⟩
    rcases split j r' hj with ⟨h1, h2⟩ | ⟨h1, rfl⟩
    · exact h.done j r' h1 h2 t ht
    · rw [hd] at ht; cases ht
  | some d =>
    rw [hd] at hp
    obtain ⟨hlt, hp⟩ := cond_some hp
    have hlt' : d < nt := by simpa using hlt
    have hd9 : d < 2 ^ DT := Nat.lt_of_lt_of_le hlt' hnt
    cases hp
    refine ⟨⟨fun j r' _ hj t ht => ?_, fun t hall => ?_⟩, fun t ht => by cases ht; exact hlt'⟩
    · rw [T.get_set _ _ _ _ _ hd9]
      rcases split j r' hj with ⟨h1, h2⟩ | ⟨h1, rfl⟩
      · rw [if_neg]
        · exact h.done j r' h1 h2 t ht
        · intro e; subst e
          exact slot_ne hL (hrs j r' h2) hr (by omega) hd ht
      · rw [hd] at ht; cases ht; rw [if_pos rfl]
    · rw [T.get_set _ _ _ _ _ hd9, if_neg]
      · exact h.rest t (fun j r' hj1 hj2 => hall j r' (Nat.lt_succ_of_lt hj1) (by rw [List.getElem?_append_left hj1]; exact hj2))
      · intro e; subst e
        exact hall rs.length r (Nat.lt_succ_self _) (by simp) hd

/-- The slots do not mind records behind. -/
theorem Slots.ext {ts0 ts : T V} {rs x : List Rec} {n : Nat} (h : Slots ts0 (· < n) rs ts) (hn : n ≤ rs.length) : Slots ts0 (· < n) (rs ++ x) ts :=
  ⟨fun j r hj hr => h.done j r hj (by rw [List.getElem?_append_left (Nat.lt_of_lt_of_le hj hn)] at hr; exact hr),
   fun t hall => h.rest t (fun j r hj hr => hall j r hj (by rw [List.getElem?_append_left (Nat.lt_of_lt_of_le hj hn)]; exact hr))⟩

theorem pass1_spec {ca : CallT} {ih : Code → St → R} {L : List Oper} {n0 nt : Nat} {ts0 : T V} (hL : RF L) (hnt : nt ≤ 512) {rsF : List Rec} {snapsF : List M} {tsF : T V} : ∀ (l : List Oper) (i : Nat) (rs : List Rec) (snaps : List M) (ts : T V), i = rs.length → L.drop i = l → (∀ (j : Nat) (r : Rec), rs[j]? = some r → L[j]? = some r.o) →
    Slots ts0 (· < rs.length) rs ts → (∃ pre, effIdx 0 L = pre ++ effIdx i l ∧ pre.length + 1 = snaps.length) → pass1 P ca ih L (befs [] L) (effIdx 0 L) n0 nt i l rs snaps ts = some (rsF, snapsF, tsF) →
    (∃ x, rsF = rs ++ x) ∧ (∃ y, snapsF = snaps ++ y) ∧ rsF.length = L.length ∧ snapsF.length = (effIdx 0 L).length + 1 ∧ Slots ts0 (· < rsF.length) rsF tsF ∧ ∀ (j : Nat) (r : Rec), i ≤ j → rsF[j]? = some r → PS P ca ih L (effIdx 0 L) n0 nt ts0 rsF snapsF j r
  | [], i, rs, snaps, ts, hi, hdrop, hrs, hsl, ⟨pre, hpre, hlen⟩, h => by
    cases h
    have hle : L.length ≤ i := by rw [List.drop_eq_nil_iff] at hdrop; exact hdrop
    have hle2 : rsF.length ≤ L.length := by
      rcases Nat.lt_or_ge L.length rsF.length with hlt | hge
      · have := hrs L.length _ (List.getElem?_eq_getElem hlt)
        rw [List.getElem?_eq_none (Nat.le_refl _)] at this; cases this
      · exact hge
    refine ⟨⟨[], by simp⟩, ⟨[], by simp⟩, by omega, ?_, hsl, fun j r hj hr => ?_⟩
    · rw [hpre]; simp [effIdx]; omega
    · rw [List.getElem?_eq_none (by omega)] at hr; cases hr
  | o :: l, i, rs, snaps, ts, hi, hdrop, hrs, hsl, ⟨pre, hpre, hlen⟩, h => by
    have ho : L[i]? = some o := by
      have := congrArg (fun q => q[0]?) hdrop
      simpa using this
    have hdrop' : L.drop (i + 1) = l := by
      rw [← List.drop_drop, Nat.add_comm] at *
      have := congrArg (List.drop 1) hdrop
      simpa [List.drop_drop, Nat.add_comm] using this
    have bfl : ∀ j, bit (bfAt (befs [] L) i) j = true → j < rs.length := fun j hj => by rw [← hi]; exact bf_lt hL.edge i j hj
    have tail : ∀ (r : Rec) (snaps' : List M) (ts' : T V) (mm : M), r.o = o → r.ts = ts → putV ⟨0, none, ts, nt, [], mm⟩ o.dst r.v = some ts' → (∃ y, snaps' = snaps ++ y) → (∃ pre', effIdx 0 L = pre' ++ effIdx (i + 1) l ∧ pre'.length + 1 = snaps'.length) →
        pass1 P ca ih L (befs [] L) (effIdx 0 L) n0 nt (i + 1) l (rs ++ [r]) snaps' ts' = some (rsF, snapsF, tsF) →
        (∀ x y, rsF = rs ++ [r] ++ x → snapsF = snaps' ++ y → Slots ts0 (· < i) rsF r.ts → (∀ t, r.o.dst = some t → t < nt) → PS P ca ih L (effIdx 0 L) n0 nt ts0 rsF snapsF i r) →
        (∃ x, rsF = rs ++ x) ∧ (∃ y, snapsF = snaps ++ y) ∧ rsF.length = L.length ∧ snapsF.length = (effIdx 0 L).length + 1 ∧ Slots ts0 (· < rsF.length) rsF tsF ∧ ∀ (j : Nat) (r : Rec), i ≤ j → rsF[j]? = some r → PS P ca ih L (effIdx 0 L) n0 nt ts0 rsF snapsF j r := by
      intro r snaps' ts' mm hro hrts hput hsn hpre' hrec hps
      subst hro
      have hrs' : ∀ (j : Nat) (r' : Rec), (rs ++ [r])[j]? = some r' → L[j]? = some r'.o := by
        intro j r' hj
        rcases Nat.lt_trichotomy j rs.length with hlt | rfl | hgt
        · rw [List.getElem?_append_left hlt] at hj; exact hrs j r' hj
        · rw [List.getElem?_append_right (Nat.le_refl _)] at hj; simp at hj; subst hj; rw [← hi]; exact ho
        · rw [List.getElem?_append_right (by omega)] at hj
          rw [List.getElem?_eq_none (by simp; omega)] at hj; cases hj
      obtain ⟨hsl', hdst⟩ := hsl.put hL hnt hrs (by rw [← hi]; exact ho) hput
      obtain ⟨⟨x, hx⟩, ⟨y, hy⟩, h3, h4, h5, h6⟩ := pass1_spec hL hnt l (i + 1) (rs ++ [r]) snaps' ts' (by simp [hi]) hdrop' hrs' (by rw [List.length_append]; exact hsl') hpre' hrec
      obtain ⟨y0, hy0⟩ := hsn
      refine ⟨⟨[r] ++ x, by rw [hx, List.append_assoc]⟩, ⟨y0 ++ y, by rw [hy, hy0, List.append_assoc]⟩, h3, h4, h5, fun j r' hj hr' => ?_⟩
      rcases Nat.lt_or_ge i j with hlt | hge
      · exact h6 j r' hlt hr'
      · have : j = i := by omega
        subst this
        have hri : rsF[j]? = some r := by
          rw [hx, List.append_assoc, List.getElem?_append_right (by omega), hi]; simp
        rw [hri] at hr'; cases hr'
        refine hps x y hx hy ?_ hdst
        rw [hx, List.append_assoc, hrts, hi]
        exact hsl.ext (Nat.le_refl _)
    have keep : ∀ {k : Nat} {m : M} {y : List M}, snaps[k]? = some m → (snaps ++ y)[k]? = some m := by
      intro k m y hk
      rw [List.getElem?_append_left (List.getElem?_eq_some_iff.1 hk).1]; exact hk
    unfold pass1 at h
    cases hw : wants L ts o.guard with
    | false =>
      rw [hw] at h
      dsimp only [cond_false] at h
      split at h
      case h_2 => cases h
      rename_i ts' m hts hm
      obtain ⟨hc, h⟩ := cond_some h
      rw [nth_eq] at hm
      cases he : isEff o.op with
      | false =>
        rw [he] at h
        refine tail ⟨o, .tup [], ts, none⟩ snaps ts' _ rfl rfl hts ⟨[], by simp⟩ ⟨pre, ?_, hlen⟩ h (fun x y hx hy hs hd => ⟨ho, hd, hs, .inl ⟨hw, rfl, rfl, fun hh => ?_⟩⟩)
        · rw [hpre]; simp [effIdx, he]
        · dsimp only at hh; rw [he] at hh; cases hh
      | true =>
        rw [he] at h hc
        have hcl := Nat.eq_of_beq_eq_true hc
        refine tail ⟨o, .tup [], ts, none⟩ (snaps ++ [m]) ts' _ rfl rfl hts ⟨[m], rfl⟩ ⟨pre ++ [i], ?_, by simp; omega⟩ h (fun x y hx hy hs hd => ⟨ho, hd, hs, .inl ⟨hw, rfl, rfl, fun _ => ⟨m, ?_, ?_, ?_⟩⟩⟩)
        · rw [hpre]; simp [effIdx, he]
        · rw [hy, List.append_assoc]; exact keep hm
        · rw [hy, List.append_assoc, List.getElem?_append_right (by unfold bfAt; omega)]
          rw [show countIn (bfAt (befs [] L) i) (effIdx 0 L) + 1 - snaps.length = 0 by unfold bfAt; omega]; rfl
        · rw [show countIn (bfAt (befs [] L) i) (effIdx 0 L) = pre.length by unfold bfAt; omega, hpre]
          simp [effIdx, he]
    | true =>
      rw [hw] at h
      dsimp only [cond_true] at h
      cases he : isEff o.op with
      | true =>
        rw [he] at h
        dsimp only [cond_true] at h
        obtain ⟨hc, h⟩ := cond_some h
        have hcl := Nat.eq_of_beq_eq_true hc
        split at h
        case h_2 => cases h
        rename_i m hm
        rw [nth_eq] at hm
        split at h
        case h_2 => cases h
        rename_i v m' heff
        split at h
        case h_2 => cases h
        rename_i ts' hts
        refine tail ⟨o, v, ts, none⟩ (snaps ++ [m']) ts' _ rfl rfl hts ⟨[m'], rfl⟩ ⟨pre ++ [i], ?_, by simp; omega⟩ h (fun x y hx hy hs hd => ⟨ho, hd, hs, .inr (.inl ⟨hw, he, rfl, m, m', ?_, ?_, ?_, ?_⟩)⟩)
        · rw [hpre]; simp [effIdx, he]
        · rw [hy, List.append_assoc]; exact keep hm
        · rw [hy, List.append_assoc, List.getElem?_append_right (by unfold bfAt; omega)]
          rw [show countIn (bfAt (befs [] L) i) (effIdx 0 L) + 1 - snaps.length = 0 by unfold bfAt; omega]; rfl
        · rw [show countIn (bfAt (befs [] L) i) (effIdx 0 L) = pre.length by unfold bfAt; omega, hpre]
          simp [effIdx, he]
        · rw [hx, List.append_assoc, allocs_prefix bfl]; exact heff
      | false =>
        rw [he] at h
        dsimp only [cond_false] at h
        have hpre2 : effIdx 0 L = pre ++ effIdx (i + 1) l := by rw [hpre]; simp [effIdx, he]
        split at h
        case h_2 => cases h
        rename_i m hm
        rw [nth_eq] at hm
        split at h
        · rename_i v hf
          split at h
          case h_2 => cases h
          rename_i ts' hts
          refine tail ⟨o, v, ts, none⟩ snaps ts' _ rfl rfl hts ⟨[], by simp⟩ ⟨pre, hpre2, hlen⟩ h (fun x y hx hy hs hd => ⟨ho, hd, hs, .inr (.inr ⟨hw, he, m, ?_, .inl ⟨?_, rfl⟩⟩)⟩)
          · rw [hy]; exact keep hm
          · rw [hx, List.append_assoc, allocs_prefix bfl]; exact hf
        · rename_i ao k hf
          split at h
          case h_2 => cases h
          rename_i ts' hts
          obtain ⟨hlk, h⟩ := cond_some' h
          refine tail ⟨o, k (n0 + i), ts, some ao⟩ snaps ts' _ rfl rfl hts ⟨[], by simp⟩ ⟨pre, hpre2, hlen⟩ h (fun x y hx hy hs hd => ⟨ho, hd, hs, .inr (.inr ⟨hw, he, m, ?_, .inr ⟨ao, k, ?_, rfl, rfl, ?_⟩⟩)⟩)
          · rw [hy]; exact keep hm
          · rw [hx, List.append_assoc, allocs_prefix bfl]; exact hf
          · dsimp only
            cases hl : looks o.op with
            | false => exact .inl rfl
            | true =>
              right
              rw [hl] at hlk
              simp only [Bool.true_and, Bool.not_eq_false'] at hlk
              split at hlk
              · rename_i a b c heq; exact ⟨a, b, c, heq⟩
              · cases hlk
        · cases h
        · cases h
end
end Go.Proofs.YtdjpjmojmppjkaaGreat.Eng
