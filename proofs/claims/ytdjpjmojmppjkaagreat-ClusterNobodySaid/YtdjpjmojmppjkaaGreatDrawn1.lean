/- Regions that draw their order: what comes behind what. -/
import Derived.Test.YtdjpjmojmppjkaaGreatSound6
import Derived.Orders
namespace Go.Proofs.YtdjpjmojmppjkaaGreat.Eng
open Go

theorem bit_eq (n i : Nat) : bit n i = n.testBit i := by
  unfold bit Nat.testBit
  show Nat.beq ((n >>> i) &&& 1) 1 = (1 &&& (n >>> i) != 0)
  rw [Nat.and_comm 1, Nat.and_one_is_mod]
  rcases Nat.mod_two_eq_zero_or_one (n >>> i) with h | h <;> rw [h] <;> rfl
theorem bit_zero (j : Nat) : bit 0 j = false := by rw [bit_eq]; exact Nat.zero_testBit j

theorem edgeBits_spec {acc : List Nat} {j : Nat} : ∀ {l : List Edge}, bit (edgeBits acc l) j = true → ∃ e ∈ l, bindsB e = true ∧ (j = e.on ∨ bit ((nth acc e.on).getD 0) j = true)
  | [], h => by
    have : bit 0 j = true := h
    rw [bit_zero] at this; cases this
  | e :: l, h => by
    have h' : bit (cond (bindsB e) (Nat.lor (Nat.lor (2 ^ e.on) ((nth acc e.on).getD 0)) (edgeBits acc l)) (edgeBits acc l)) j = true := h
    cases hb : bindsB e with
    | false =>
      rw [hb] at h'
      obtain ⟨e', he', k⟩ := edgeBits_spec (l := l) h'
      exact ⟨e', by simp [he'], k⟩
    | true =>
      rw [hb] at h'
      have h2 : ((2 ^ e.on ||| (nth acc e.on).getD 0) ||| edgeBits acc l).testBit j = true := by rw [← bit_eq]; exact h'
      rw [Nat.testBit_or, Nat.testBit_or, Bool.or_eq_true, Bool.or_eq_true] at h2
      rcases h2 with (h2 | h2) | h2
      · rw [Nat.testBit_two_pow] at h2
        have h3 : e.on = j := by simpa using h2
        exact ⟨e, by simp, hb, .inl h3.symm⟩
      · exact ⟨e, by simp, hb, .inr (by rw [bit_eq]; exact h2)⟩
      · obtain ⟨e', he', k⟩ := edgeBits_spec (l := l) (by rw [bit_eq]; exact h2)
        exact ⟨e', by simp [he'], k⟩

theorem befs_spec : ∀ (l : List Oper) (acc : List Nat), (∃ r, befs acc l = acc ++ r ∧ r.length = l.length) ∧ ∀ j o, l[j]? = some o → (befs acc l)[acc.length + j]? = some (edgeBits ((befs acc l).take (acc.length + j)) o.after.toList)
  | [], acc => ⟨⟨[], by simp [befs], rfl⟩, fun j o h => by simp at h⟩
  | o :: l, acc => by
    obtain ⟨⟨r, hr, hl⟩, k⟩ := befs_spec l (acc ++ [edgeBits acc o.after.toList])
    refine ⟨⟨edgeBits acc o.after.toList :: r, by simp [befs, hr], by simp [hl]⟩, fun j o' hj => ?_⟩
    cases j with
    | zero =>
      simp at hj; subst hj
      simp [befs, hr]
    | succ j =>
      simp at hj
      have := k j o' hj
      simp only [List.length_append, List.length_singleton] at this
      rw [Nat.add_assoc, Nat.add_comm 1 j] at this
      exact this

/-- What comes ahead of an operation. -/
noncomputable def bfAt (bf : List Nat) (i : Nat) : Nat := (nth bf i).getD 0

theorem bf_step {L : List Oper} {i j : Nat} (h : bit (bfAt (befs [] L) i) j = true) : ∃ o e, L[i]? = some o ∧ e ∈ o.after.toList ∧ bindsB e = true ∧ (j = e.on ∨ bit (bfAt (befs [] L) e.on) j = true) := by
  obtain ⟨⟨r, hr, hl⟩, k⟩ := befs_spec L []
  unfold bfAt at h
  rw [nth_eq] at h
  cases ho : L[i]? with
  | none =>
    have : (befs [] L)[i]? = none := by
      rw [List.getElem?_eq_none_iff] at ho ⊢
      rw [hr]; simp; omega
    rw [this] at h
    rw [Option.getD_none, bit_zero] at h; cases h
  | some o =>
    have hk := k i o ho
    simp only [List.length_nil, Nat.zero_add] at hk
    rw [hk, Option.getD_some] at h
    obtain ⟨e, he, hb, hj⟩ := edgeBits_spec h
    refine ⟨o, e, rfl, he, hb, ?_⟩
    rcases hj with hj | hj
    · exact .inl hj
    · right
      unfold bfAt
      rw [nth_eq] at hj ⊢
      rw [List.getElem?_take] at hj
      split at hj
      · exact hj
      · rw [Option.getD_none, bit_zero] at hj; cases hj

theorem bf_lt {L : List Oper} (he : ∀ i o e, L[i]? = some o → e ∈ o.after.toList → bindsB e = true → e.on < i) : ∀ (i j : Nat), bit (bfAt (befs [] L) i) j = true → j < i := by
  intro i
  induction i using Nat.strongRecOn with
  | _ i ih =>
    intro j h
    obtain ⟨o, e, ho, hm, hb, hj⟩ := bf_step h
    have hlt := he i o e ho hm hb
    rcases hj with rfl | hj
    · exact hlt
    · exact Nat.lt_trans (ih _ hlt j hj) hlt

/-- The facts that the check of a region gives. -/
structure RF (L : List Oper) : Prop where
  edge : ∀ i o e, L[i]? = some o → e ∈ o.after.toList → bindsB e = true → e.on < i
  slot : ∀ i o j p, L[i]? = some o → L[j]? = some p → slotOk L (befs [] L) i o j p = true
  chain : chain (befs [] L) (effIdx 0 L) = true

theorem mem_ord {L : List Oper} {i : Nat} {o : Oper} (h : L[i]? = some o) : (i, o) ∈ ord L := by
  unfold ord
  rw [List.mem_map]
  exact ⟨(o, i), List.mem_zipIdx_iff_getElem?.2 h, rfl⟩
theorem regOk_spec {L : List Oper} (h : regOk L = true) : RF L := by
  unfold regOk at h
  simp only [Bool.and_eq_true] at h
  obtain ⟨h1, h2⟩ := h
  have h3 : ∀ i o, L[i]? = some o → edgesOk i o = true ∧ ((ord L).all fun (j, p) => slotOk L (befs [] L) i o j p) = true := by
    intro i o ho
    have := List.all_eq_true.1 h1 _ (mem_ord ho)
    simpa only [Bool.and_eq_true] using this
  refine ⟨fun i o e ho he hb => ?_, fun i o j p ho hp => ?_, h2⟩
  · have := List.all_eq_true.1 (h3 i o ho).1 e he
    rw [hb] at this
    simpa using this
  · exact List.all_eq_true.1 (h3 i o ho).2 _ (mem_ord hp)

theorem slot_ne {L : List Oper} (h : RF L) {i j : Nat} {o p : Oper} (ho : L[i]? = some o) (hp : L[j]? = some p) (hij : i ≠ j) {t : Tmp} (ht : p.dst = some t) : o.dst ≠ some t := by
  have := h.slot i o j p ho hp
  unfold slotOk at this
  rw [ht] at this
  dsimp only at this
  have hb : Nat.beq i j = false := Bool.eq_false_iff.2 (fun h => hij (Nat.eq_of_beq_eq_true h))
  rw [hb] at this
  simp only [cond_false, Bool.and_eq_true] at this
  intro hd
  rw [hd] at this
  simp at this
theorem slot_seen {L : List Oper} (h : RF L) {i j : Nat} {o p : Oper} (ho : L[i]? = some o) (hp : L[j]? = some p) (hij : i ≠ j) {t : Tmp} (ht : p.dst = some t) (hs : t ∈ seen L o) :
    (j < i ∧ bit (bfAt (befs [] L) i) j = true) ∨ (i < j ∧ bit (bfAt (befs [] L) j) i = true) := by
  have := h.slot i o j p ho hp
  unfold slotOk at this
  rw [ht] at this
  dsimp only at this
  have hb : Nat.beq i j = false := Bool.eq_false_iff.2 (fun h => hij (Nat.eq_of_beq_eq_true h))
  rw [hb] at this
  simp only [cond_false, Bool.and_eq_true] at this
  have hany : ((seen L o).any fun u => Nat.beq u t) = true := List.any_eq_true.2 ⟨t, hs, Nat.beq_refl t⟩
  rw [hany] at this
  have h1 := this.1
  simp only [cond_true] at h1
  cases hlt : Nat.blt j i with
  | true => rw [hlt] at h1; exact .inl ⟨by simpa using hlt, h1⟩
  | false =>
    rw [hlt] at h1
    have hn : ¬ j < i := fun hh => by
      have : Nat.blt j i = true := Nat.ble_eq_true_of_le hh
      rw [hlt] at this; cases this
    exact .inr ⟨by omega, h1⟩

theorem effIdx_mem : ∀ {L : List Oper} {i e : Nat}, e ∈ effIdx i L → ∃ o, i ≤ e ∧ L[e - i]? = some o ∧ isEff o.op = true
  | [], _, _, h => by simp [effIdx] at h
  | o :: L, i, e, h => by
    have h' : e ∈ cond (isEff o.op) (i :: effIdx (i + 1) L) (effIdx (i + 1) L) := h
    have rec' : e ∈ effIdx (i + 1) L → ∃ o', i ≤ e ∧ (o :: L)[e - i]? = some o' ∧ isEff o'.op = true := fun hh => by
      obtain ⟨o', h1, h2, h3⟩ := effIdx_mem hh
      refine ⟨o', by omega, ?_, h3⟩
      rw [show e - i = (e - (i + 1)) + 1 by omega]; exact h2
    cases hb : isEff o.op with
    | false => rw [hb] at h'; exact rec' h'
    | true =>
      rw [hb] at h'
      rcases List.mem_cons.1 h' with rfl | hh
      · exact ⟨o, Nat.le_refl _, by rw [Nat.sub_self]; rfl, hb⟩
      · exact rec' hh
theorem effIdx_in : ∀ {L : List Oper} {i k : Nat} {o : Oper}, L[k]? = some o → isEff o.op = true → i + k ∈ effIdx i L
  | [], _, _, _, h, _ => by simp at h
  | p :: L, i, k, o, h, hb => by
    show i + k ∈ cond (isEff p.op) (i :: effIdx (i + 1) L) (effIdx (i + 1) L)
    cases k with
    | zero => simp at h; subst h; rw [hb]; simp
    | succ k =>
      simp at h
      have := effIdx_in (i := i + 1) h hb
      rw [show i + (k + 1) = i + 1 + k by omega]
      cases isEff p.op
      · exact this
      · exact List.mem_cons_of_mem _ this
theorem effIdx_sorted : ∀ (L : List Oper) (i : Nat), (effIdx i L).Pairwise (· < ·)
  | [], _ => .nil
  | o :: L, i => by
    show (cond (isEff o.op) (i :: effIdx (i + 1) L) (effIdx (i + 1) L)).Pairwise (· < ·)
    cases isEff o.op
    · exact effIdx_sorted L (i + 1)
    · refine .cons (fun e he => ?_) (effIdx_sorted L (i + 1))
      obtain ⟨_, h, _⟩ := effIdx_mem he
      omega
theorem effIdx_inj {L : List Oper} {p q e : Nat} (hp : (effIdx 0 L)[p]? = some e) (hq : (effIdx 0 L)[q]? = some e) : p = q := by
  have hs := effIdx_sorted L 0
  rw [List.pairwise_iff_getElem] at hs
  obtain ⟨h1, h2⟩ := List.getElem?_eq_some_iff.1 hp
  obtain ⟨h3, h4⟩ := List.getElem?_eq_some_iff.1 hq
  rcases Nat.lt_trichotomy p q with h | h | h
  · have := hs p q h1 h3 h; omega
  · exact h
  · have := hs q p h3 h1 h; omega

theorem chain_spec {bf : List Nat} : ∀ {es : List Nat}, chain bf es = true → ∀ p a b, es[p]? = some a → es[p + 1]? = some b → bit (bfAt bf b) a = true
  | [], _, p, a, b, h, _ => by simp at h
  | [x], _, p, a, b, _, h => by simp at h
  | x :: y :: l, hc, p, a, b, ha, hb => by
    have hc' : (bit ((nth bf y).getD 0) x && chain bf (y :: l)) = true := hc
    simp only [Bool.and_eq_true] at hc'
    cases p with
    | zero => simp at ha hb; subst ha; subst hb; exact hc'.1
    | succ p => simp only [List.getElem?_cons_succ] at ha hb; exact chain_spec hc'.2 p a b ha (by simpa using hb)

theorem countIn_le {mask : Nat} : ∀ {es : List Nat} {k : Nat}, (∀ p e, es[p]? = some e → bit mask e = true → p < k) → countIn mask es ≤ k
  | [], k, _ => Nat.zero_le _
  | e :: l, k, h => by
    show cond (bit mask e) (countIn mask l + 1) (countIn mask l) ≤ k
    cases k with
    | zero =>
      cases hb : bit mask e with
      | true => have := h 0 e rfl hb; omega
      | false =>
        exact countIn_le (es := l) (k := 0) (fun p e' he hb' => by have := h (p + 1) e' he hb'; omega)
    | succ k =>
      have := countIn_le (mask := mask) (es := l) (k := k) (fun p e' he hb' => by have := h (p + 1) e' he hb'; omega)
      cases bit mask e
      · show countIn mask l ≤ k + 1; omega
      · show countIn mask l + 1 ≤ k + 1; omega
theorem hi_ge {bf : List Nat} {i : Nat} : ∀ {es : List Nat} {k : Nat}, k ≤ es.length → (∀ p e, p < k → es[p]? = some e → bit (bfAt bf e) i = false) → k ≤ hiOf' bf i es
  | [], k, hk, _ => by
    have : k = 0 := by simpa using hk
    rw [this]; exact Nat.zero_le _
  | e :: l, k, hk, h => by
    cases k with
    | zero => exact Nat.zero_le _
    | succ k =>
      show k + 1 ≤ cond (bit (bfAt bf e) i) 0 (hiOf' bf i l + 1)
      rw [h 0 e (by omega) rfl]
      have := hi_ge (bf := bf) (i := i) (es := l) (k := k) (by simpa using hk) (fun p e' hp he => h (p + 1) e' (by omega) he)
      show k + 1 ≤ _ + 1
      omega

theorem veqB_eq : ∀ (n : Nat) (a b : V), veqB n a b = true → a = b := by
  intro n
  induction n with
  | zero => intro a b h; simp [veqB] at h
  | succ n ih =>
    have lists : ∀ l r, veqB.allB (veqB n) l r = true → l = r := by
      intro l
      induction l with
      | nil => intro r h; cases r <;> simp_all [veqB.allB]
      | cons x l ih2 =>
        intro r h
        cases r with
        | nil => simp [veqB.allB] at h
        | cons y r =>
          simp only [veqB.allB, Bool.cond_eq_ite] at h
          split at h
          · rename_i h1; rw [ih _ _ h1, ih2 _ h]
          · cases h
    intro a b h
    unfold veqB at h
    split at h
    · cases h
    · rename_i x y _; cases x <;> cases y <;> first | rfl | cases h
    · simp only [Bool.and_eq_true] at h
      have h2 := h.2
      rw [ieq_eq] at h2
      simp at h2
      rw [keq_eq h.1, h2]
    · rw [beqs_eq] at h
      simp at h; rw [h]
    · rfl
    · simp only [Bool.and_eq_true] at h
      rw [Nat.eq_of_beq_eq_true h.1, Nat.eq_of_beq_eq_true h.2]
    · rfl
    · simp only [Bool.and_eq_true] at h
      obtain ⟨⟨⟨⟨h1, h2⟩, h3⟩, h4⟩, h5⟩ := h
      rw [Nat.eq_of_beq_eq_true h1, Nat.eq_of_beq_eq_true h2, Nat.eq_of_beq_eq_true h3, optEq_eq h4, Nat.eq_of_beq_eq_true h5]
    · simp only [Bool.and_eq_true] at h
      obtain ⟨⟨⟨h1, h2⟩, h3⟩, h4⟩ := h
      rw [Nat.eq_of_beq_eq_true h1, Nat.eq_of_beq_eq_true h2, Nat.eq_of_beq_eq_true h3, Nat.eq_of_beq_eq_true h4]
    · rfl
    · rw [Nat.eq_of_beq_eq_true h]
    · rfl
    · rfl
    · rename_i k q b k' q' b' _
      simp only [Bool.and_eq_true] at h
      rw [keq_eq h.1.1, Nat.eq_of_beq_eq_true h.2]
      have := h.1.2
      cases q <;> cases q' <;> first | rfl | cases this
    · rw [Nat.eq_of_beq_eq_true h]
    · cases ‹_ + 1 = _›
      rw [lists _ _ h]
    · cases ‹_ + 1 = _›
      rw [lists _ _ h]
    · cases ‹_ + 1 = _›
      simp only [Bool.and_eq_true] at h
      rw [Nat.eq_of_beq_eq_true h.1, lists _ _ h.2]
    · cases h
end Go.Proofs.YtdjpjmojmppjkaaGreat.Eng
