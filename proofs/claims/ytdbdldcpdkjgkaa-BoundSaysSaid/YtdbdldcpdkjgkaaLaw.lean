/- Of every config the four bounds that the program tells are the reference's, and the chapter's example holds: BoundSays returns true. -/
import Derived.Test.YtdbdldcpdkjgkaaSame
import Derived.Lib.Hide
namespace Go.Proofs.Ytdbdldcpdkjgkaa
open Go.RowKit Go.Proofs.YtdbdldcpdkjgkaaW.PrintWords PBoundSays

/-- What a sound config's four bounds are, by both sides' own sums. -/
theorem sums_same (a c : Int) (_ : 1 ≤ a ∧ a ≤ 7 ∧ 2 ≤ c ∧ c ≤ 64) :
    wrap64 (wrap64 (wrap64 (wrap64 (8 * wrap64 (c + wrap64 (2 * a))) + wrap64 (4 * c)) + wrap64 (2 * a)) + 8) = wrap64 (wrap64 (wrap64 (12 * c) + wrap64 (18 * a)) + 8) := by
  unfold wrap64; omega

/-- All four of a config, by the program's functions and by the reference's: the same numbers. -/
theorem four_same (a b c d e f : Int) : ∃ v1 v2 v3 v4 : Int,
    (∀ w, Calls Try.prog 4 #[cfg a b c d e f] w fun r w' => r = .returned (.int .i64 v1) ∧ Below w.heap.size w w') ∧ (∀ w, Calls Try.prog 5 #[cfg a b c d e f] w fun r w' => r = .returned (.int .i64 v1) ∧ Below w.heap.size w w') ∧
    (∀ w, Calls Try.prog 6 #[cfg a b c d e f] w fun r w' => r = .returned (.int .i64 v2) ∧ Below w.heap.size w w') ∧ (∀ w, Calls Try.prog 7 #[cfg a b c d e f] w fun r w' => r = .returned (.int .i64 v2) ∧ Below w.heap.size w w') ∧
    (∀ w, Calls Try.prog 8 #[cfg a b c d e f] w fun r w' => r = .returned (.int .i64 v3) ∧ Below w.heap.size w w') ∧ (∀ w, Calls Try.prog 9 #[cfg a b c d e f] w fun r w' => r = .returned (.int .i64 v3) ∧ Below w.heap.size w w') ∧
    (∀ w, Calls Try.prog 10 #[cfg a b c d e f] w fun r w' => r = .returned (.int .i64 v4) ∧ Below w.heap.size w w') ∧ (∀ w, Calls Try.prog 11 #[cfg a b c d e f] w fun r w' => r = .returned (.int .i64 v4) ∧ Below w.heap.size w w') := by
  obtain ⟨s, hp, hr, hs⟩ := sound_same a b c d e f
  cases s with
  | false =>
    refine ⟨0, 0, 0, 0, fun w => ?_, fun w => ?_, fun w => ?_, fun w => ?_, fun w => ?_, fun w => ?_, fun w => ?_, fun w => ?_⟩
    · exact bound_any 20 a b c d e f 4 14 (.inl ⟨rfl, rfl⟩) 0 false (by simp) w hp
    · exact curfewref40_Patience.calls 20 a b c d e f 0 w (by simp [curfewref40_Patience.f, hr])
    · exact bound_any 20 a b c d e f 6 16 (.inr (.inl ⟨rfl, rfl⟩)) 0 false (by simp) w hp
    · exact curfewref40_Settle.calls 20 a b c d e f 0 w (by simp [curfewref40_Settle.f, hr])
    · exact bound_any 20 a b c d e f 8 17 (.inr (.inr ⟨rfl, rfl⟩)) 0 false (by simp) w hp
    · exact curfewref40_Serve.calls 20 a b c d e f 0 w (by simp [curfewref40_Serve.f, hr])
    · exact drain_any 20 a b c d e f false w hp
    · exact curfewref40_Drain.calls 20 a b c d e f 0 w (by simp [curfewref40_Drain.f, hr])
  | true =>
    have hs := hs rfl
    have hsum := sums_same a c hs
    refine ⟨wrap64 (c + wrap64 (2 * a)), wrap64 (wrap64 (8 * wrap64 (c + wrap64 (2 * a))) + wrap64 (4 * c)), wrap64 (wrap64 (wrap64 (12 * c) + wrap64 (18 * a)) + 8), 24, fun w => ?_, fun w => ?_, fun w => ?_, fun w => ?_, fun w => ?_, fun w => ?_, fun w => ?_, fun w => ?_⟩
    · exact bound_any 20 a b c d e f 4 14 (.inl ⟨rfl, rfl⟩) _ true (fun _ => tells14 _ _ _ _ _ _) w hp
    · exact curfewref40_Patience.calls 20 a b c d e f _ w (by simp [curfewref40_Patience.f, hr])
    · exact bound_any 20 a b c d e f 6 16 (.inr (.inl ⟨rfl, rfl⟩)) _ true (fun _ => tells16 20 _ _ _ _ _ _ hp) w hp
    · exact curfewref40_Settle.calls 20 a b c d e f _ w (by simp [curfewref40_Settle.f, hr])
    · rw [← hsum]
      exact bound_any 20 a b c d e f 8 17 (.inr (.inr ⟨rfl, rfl⟩)) _ true (fun _ => tells17 20 _ _ _ _ _ _ hp) w hp
    · exact curfewref40_Serve.calls 20 a b c d e f _ w (by simp [curfewref40_Serve.f, hr])
    · exact drain_any 20 a b c d e f true w hp
    · exact curfewref40_Drain.calls 20 a b c d e f _ w (by simp [curfewref40_Drain.f, hr])

/-- The two copies of the config that the law makes, and that nothing else was touched, in a world behind another. -/
theorem keeps {W w' : World} {g : Nat} {a b c d e f : Int} (h : W.heap[g]? = some (.cells #[.int .i64 a, .int .i64 b, .int .i64 c, .int .i64 d, .int .i64 e, .int .i64 f] 23)) (h2 : W.heap[g + 1]? = some (.cells #[.int .i64 a, .int .i64 b, .int .i64 c, .int .i64 d, .int .i64 e, .int .i64 f] 24)) (hB : Below W.heap.size W w') :
    w'.cell? ⟨g, 0, none⟩ = some (.int .i64 a) ∧ w'.cell? ⟨g, 1, none⟩ = some (.int .i64 b) ∧ w'.cell? ⟨g, 2, none⟩ = some (.int .i64 c) ∧ w'.cell? ⟨g, 3, none⟩ = some (.int .i64 d) ∧ w'.cell? ⟨g, 4, none⟩ = some (.int .i64 e) ∧ w'.cell? ⟨g, 5, none⟩ = some (.int .i64 f) ∧
      w'.cell? ⟨g + 1, 0, none⟩ = some (.int .i64 a) ∧ w'.cell? ⟨g + 1, 1, none⟩ = some (.int .i64 b) ∧ w'.cell? ⟨g + 1, 2, none⟩ = some (.int .i64 c) ∧ w'.cell? ⟨g + 1, 3, none⟩ = some (.int .i64 d) ∧ w'.cell? ⟨g + 1, 4, none⟩ = some (.int .i64 e) ∧ w'.cell? ⟨g + 1, 5, none⟩ = some (.int .i64 f) ∧ Below W.heap.size W w' := by
  obtain ⟨a0, a1, a2, a3, a4, a5⟩ := six_cells ((hB.block g (Array.getElem?_eq_some_iff.1 h).1).trans h)
  obtain ⟨b0, b1, b2, b3, b4, b5⟩ := six_cells ((hB.block (g + 1) (Array.getElem?_eq_some_iff.1 h2).1).trans h2)
  exact ⟨a0, a1, a2, a3, a4, a5, b0, b1, b2, b3, b4, b5, hB⟩

theorem behind {W w1 w2 : World} {p1 p2 p3 p4 p5 p6 p7 p8 p9 p10 p11 p12 : Prop} (h : p1 ∧ p2 ∧ p3 ∧ p4 ∧ p5 ∧ p6 ∧ p7 ∧ p8 ∧ p9 ∧ p10 ∧ p11 ∧ p12 ∧ Below W.heap.size W w1) (hb : Below w1.heap.size w1 w2) : Below W.heap.size W w2 :=
  below_seq h.2.2.2.2.2.2.2.2.2.2.2.2 hb

set_option maxHeartbeats 4000000 in
set_option maxRecDepth 100000 in
theorem walk (a b c d e f : Int) (w : World) : Calls Try.prog 3 #[cfg a b c d e f] w fun r w' => r = .returned (.bool true) ∧ Below w.heap.size w w' := by
  obtain ⟨v1, v2, v3, v4, p4, p5, p6, p7, p8, p9, p10, p11⟩ := four_same a b c d e f
  have p12 := lives_any
  go_enter Try.func3, Try.ntmps3
  go_wp2_with fail
  generalize hW : (w.alloc (.cells #[.int .i64 a, .int .i64 b, .int .i64 c, .int .i64 d, .int .i64 e, .int .i64 f] 23)).alloc (.cells #[.int .i64 a, .int .i64 b, .int .i64 c, .int .i64 d, .int .i64 e, .int .i64 f] 24) = W
  have hB : Below w.heap.size w W := hW ▸ ((Below.refl w.heap.size w).alloc (Nat.le_refl _) _).alloc (by simp) _
  have k1 : W.heap[w.heap.size]? = some (.cells #[.int .i64 a, .int .i64 b, .int .i64 c, .int .i64 d, .int .i64 e, .int .i64 f] 23) := by rw [← hW]; exact (heap_alloc_old _ _ (by simp)).trans (heap_alloc_new _ _)
  have k2 : W.heap[w.heap.size + 1]? = some (.cells #[.int .i64 a, .int .i64 b, .int .i64 c, .int .i64 d, .int .i64 e, .int .i64 f] 24) := by rw [← hW]; simpa using heap_alloc_new (w.alloc (.cells #[.int .i64 a, .int .i64 b, .int .i64 c, .int .i64 d, .int .i64 e, .int .i64 f] 23)) (.cells #[.int .i64 a, .int .i64 b, .int .i64 c, .int .i64 d, .int .i64 e, .int .i64 f] 24)
  clear hW
  have H0 := fun w' => keeps (w' := w') k1 k2
  clear k1 k2
  have H1 := H0 W (Below.refl _ _)
  obtain ⟨a0, a1, a2, a3, a4, a5, b0, b1, b2, b3, b4, b5, H2⟩ := H1
  have HH := Lib.hid H0
  clear H0 H2
  go_region_held3 (fun w' => w'.cell? ⟨w.heap.size, 0, none⟩ = some (.int .i64 a) ∧ w'.cell? ⟨w.heap.size, 1, none⟩ = some (.int .i64 b) ∧ w'.cell? ⟨w.heap.size, 2, none⟩ = some (.int .i64 c) ∧ w'.cell? ⟨w.heap.size, 3, none⟩ = some (.int .i64 d) ∧ w'.cell? ⟨w.heap.size, 4, none⟩ = some (.int .i64 e) ∧ w'.cell? ⟨w.heap.size, 5, none⟩ = some (.int .i64 f) ∧
      w'.cell? ⟨w.heap.size + 1, 0, none⟩ = some (.int .i64 a) ∧ w'.cell? ⟨w.heap.size + 1, 1, none⟩ = some (.int .i64 b) ∧ w'.cell? ⟨w.heap.size + 1, 2, none⟩ = some (.int .i64 c) ∧ w'.cell? ⟨w.heap.size + 1, 3, none⟩ = some (.int .i64 d) ∧ w'.cell? ⟨w.heap.size + 1, 4, none⟩ = some (.int .i64 e) ∧ w'.cell? ⟨w.heap.size + 1, 5, none⟩ = some (.int .i64 f) ∧ Below W.heap.size W w')
    (first | exact ⟨a0, a1, a2, a3, a4, a5, b0, b1, b2, b3, b4, b5, (Below.refl _ _).drew⟩ | exact HH.out _ (below_then ((Below.refl W.heap.size W).drew) (Nat.le_refl _) hb) | exact HH.out _ (behind (by assumption) hb))
    (first | (go_at_call 4; refine (p4 _).mono ?_; rintro e w' ⟨rfl, hb⟩) | (go_at_call 5; refine (p5 _).mono ?_; rintro e w' ⟨rfl, hb⟩) | (go_at_call 6; refine (p6 _).mono ?_; rintro e w' ⟨rfl, hb⟩) | (go_at_call 7; refine (p7 _).mono ?_; rintro e w' ⟨rfl, hb⟩) | (go_at_call 8; refine (p8 _).mono ?_; rintro e w' ⟨rfl, hb⟩) | (go_at_call 9; refine (p9 _).mono ?_; rintro e w' ⟨rfl, hb⟩) | (go_at_call 10; refine (p10 _).mono ?_; rintro e w' ⟨rfl, hb⟩) | (go_at_call 11; refine (p11 _).mono ?_; rintro e w' ⟨rfl, hb⟩) | (go_at_call 12; refine (p12 _).mono ?_; rintro e w' ⟨rfl, hb⟩))
  go_wp2
  go_ret
  exact ⟨by simp, below_seq hB (by rename_i hH; exact hH.2.2.2.2.2.2.2.2.2.2.2.2)⟩

end Go.Proofs.Ytdbdldcpdkjgkaa
