/- The four bounds of a config that is sound, or is not, are as the reference has them. -/
import Derived.Test.YtdbdldcpdkjgkaaPBoundSaysx3
namespace Go.Proofs.Ytdbdldcpdkjgkaa
open Go.RowKit Go.Proofs.YtdbdldcpdkjgkaaW.PrintWords PBoundSays

abbrev cfg (a b c d e f : Int) : Value := .agg #[.int .i64 a, .int .i64 b, .int .i64 c, .int .i64 d, .int .i64 e, .int .i64 f]
abbrev six (a b c d e f : Int) : Obj := .cells #[.int .i64 a, .int .i64 b, .int .i64 c, .int .i64 d, .int .i64 e, .int .i64 f] 23

theorem below_box {w w' : World} {o : Obj} (hb : Below (w.alloc o).heap.size (w.alloc o) w') : Below w.heap.size w w' :=
  ((Below.refl w.heap.size w).alloc (Nat.le_refl _) _).trans (hb.mono (by simp))
theorem below_seq {w w1 w2 : World} (h : Below w.heap.size w w1) (k : Below w1.heap.size w1 w2) : Below w.heap.size w w2 := h.trans (k.mono h.size)

theorem of_false (k : Nat) (a b c d e f : Int) (t : Value) (w : World) (h : cluster_Sound.f k a b c d e f = some false) :
    Calls Try.prog 13 #[cfg a b c d e f, t] w fun e w' => e = .returned (.int .i64 0) ∧ Below w.heap.size w w' := by
  have hs := fun w => cluster_Sound.calls k a b c d e f false w h
  go_enter Try.func13, Try.ntmps13
  go_wp2_with (go_at_call 19; refine (hs _).mono ?_; rintro e w' ⟨rfl, hb⟩)
  go_ret
  exact ⟨rfl, below_box hb⟩

/-- A closure over a config that lies at a block tells a number. -/
def Tells (f : FuncId) (a b c d e h : Int) (v : Int) : Prop :=
  ∀ (g : Nat) (w : World), w.heap[g]? = some (six a b c d e h) → Calls Try.prog f #[.pointer (some ⟨g, 0, none⟩)] w fun e w' => e = .returned (.int .i64 v) ∧ Below w.heap.size w w'

theorem of_true (k : Nat) (a b c d e f : Int) (F : FuncId) (h4 : F = 14 ∨ F = 16 ∨ F = 17) (v : Int) (hF : Tells F a b c d e f v) (g : Nat) (w : World) (hg : w.heap[g]? = some (six a b c d e f)) (h : cluster_Sound.f k a b c d e f = some true) :
    Calls Try.prog 13 #[cfg a b c d e f, .func (.func F) #[] #[.pointer (some ⟨g, 0, none⟩)]] w fun e w' => e = .returned (.int .i64 v) ∧ Below w.heap.size w w' := by
  have hs := fun w => cluster_Sound.calls k a b c d e f true w h
  have hlt : g < w.heap.size := (Array.getElem?_eq_some_iff.1 hg).1
  rcases h4 with rfl | rfl | rfl
  all_goals
    go_enter Try.func13, Try.ntmps13
    go_wp2_with (go_at_call 19; refine (hs _).mono ?_; rintro e w' ⟨rfl, hb⟩)
    go_wp2_with fail
    refine (hF g _ (((below_box hb).block g hlt).trans hg)).mono ?_
    rintro e w2 ⟨rfl, hb2⟩
    go_wp2
    go_ret
    exact ⟨rfl, below_seq (below_box hb) hb2⟩

theorem of_true18 (k : Nat) (a b c d e f : Int) (w : World) (h : cluster_Sound.f k a b c d e f = some true) :
    Calls Try.prog 13 #[cfg a b c d e f, .func (.func 18) #[] #[]] w fun e w' => e = .returned (.int .i64 24) ∧ Below w.heap.size w w' := by
  have hs := fun w => cluster_Sound.calls k a b c d e f true w h
  go_enter Try.func13, Try.ntmps13
  go_wp2_with (go_at_call 19; refine (hs _).mono ?_; rintro e w' ⟨rfl, hb⟩)
  go_wp2
  go_ret
  exact ⟨rfl, below_box hb⟩

theorem tells14 (a b c d e h : Int) : Tells 14 a b c d e h (wrap64 (c + wrap64 (2 * a))) := by
  intro g w hg
  have h0 : w.cell? ⟨g, 0, none⟩ = some (.int .i64 a) := by simp [World.cell?, hg]
  have h2 : w.cell? ⟨g, 2, none⟩ = some (.int .i64 c) := by simp [World.cell?, hg]
  go_enter Try.func14, Try.ntmps14
  go_wp2
  go_ret
  exact ⟨rfl, Below.refl _ _⟩

/-- A bound is what its closure tells of a sound config, else 0. -/
theorem bound_any (k : Nat) (a b c d e f : Int) (G F : FuncId) (hGF : (G = 4 ∧ F = 14) ∨ (G = 6 ∧ F = 16) ∨ (G = 8 ∧ F = 17)) (v : Int) (s : Bool) (hF : s = true → Tells F a b c d e f v) (w : World) (h : cluster_Sound.f k a b c d e f = some s) :
    Calls Try.prog G #[cfg a b c d e f] w fun e w' => e = .returned (.int .i64 (if s then v else 0)) ∧ Below w.heap.size w w' := by
  have ht : s = true → (F = 14 ∨ F = 16 ∨ F = 17) → ∀ (g : Nat) (w : World), w.heap[g]? = some (six a b c d e f) → Calls Try.prog 13 #[cfg a b c d e f, .func (.func F) #[] #[.pointer (some ⟨g, 0, none⟩)]] w fun e w' => e = .returned (.int .i64 v) ∧ Below w.heap.size w w' :=
    fun hs h4 g w hg => of_true k a b c d e f F h4 v (hF hs) g w hg (hs ▸ h)
  have hf : s = false → ∀ (t : Value) (w : World), Calls Try.prog 13 #[cfg a b c d e f, t] w fun e w' => e = .returned (.int .i64 0) ∧ Below w.heap.size w w' :=
    fun hs t w => of_false k a b c d e f t w (hs ▸ h)
  clear h hF
  cases s
  · rcases hGF with ⟨rfl, rfl⟩ | ⟨rfl, rfl⟩ | ⟨rfl, rfl⟩
    · go_enter Try.func4, Try.ntmps4
      go_wp2_with (go_at_call 13; refine (hf rfl _ _).mono ?_; rintro e w' ⟨rfl, hb⟩)
      go_ret
      exact ⟨rfl, below_box hb⟩
    · go_enter Try.func6, Try.ntmps6
      go_wp2_with (go_at_call 13; refine (hf rfl _ _).mono ?_; rintro e w' ⟨rfl, hb⟩)
      go_ret
      exact ⟨rfl, below_box hb⟩
    · go_enter Try.func8, Try.ntmps8
      go_wp2_with (go_at_call 13; refine (hf rfl _ _).mono ?_; rintro e w' ⟨rfl, hb⟩)
      go_ret
      exact ⟨rfl, below_box hb⟩
  · rcases hGF with ⟨rfl, rfl⟩ | ⟨rfl, rfl⟩ | ⟨rfl, rfl⟩
    · go_enter Try.func4, Try.ntmps4
      go_wp2_with (go_at_call 13; refine (ht rfl (by simp) _ _ (heap_alloc_new _ _)).mono ?_; rintro e w' ⟨rfl, hb⟩)
      go_ret
      exact ⟨rfl, below_box hb⟩
    · go_enter Try.func6, Try.ntmps6
      go_wp2_with (go_at_call 13; refine (ht rfl (by simp) _ _ (heap_alloc_new _ _)).mono ?_; rintro e w' ⟨rfl, hb⟩)
      go_ret
      exact ⟨rfl, below_box hb⟩
    · go_enter Try.func8, Try.ntmps8
      go_wp2_with (go_at_call 13; refine (ht rfl (by simp) _ _ (heap_alloc_new _ _)).mono ?_; rintro e w' ⟨rfl, hb⟩)
      go_ret
      exact ⟨rfl, below_box hb⟩

theorem drain_any (k : Nat) (a b c d e f : Int) (s : Bool) (w : World) (h : cluster_Sound.f k a b c d e f = some s) :
    Calls Try.prog 10 #[cfg a b c d e f] w fun e w' => e = .returned (.int .i64 (if s then 24 else 0)) ∧ Below w.heap.size w w' := by
  cases s
  · have hf := fun w => of_false k a b c d e f (.func (.func 18) #[] #[]) w h
    go_enter Try.func10, Try.ntmps10
    go_wp2_with (go_at_call 13; refine (hf _).mono ?_; rintro e w' ⟨rfl, hb⟩)
    go_ret
    exact ⟨rfl, below_box hb⟩
  · have hf := fun w => of_true18 k a b c d e f w h
    go_enter Try.func10, Try.ntmps10
    go_wp2_with (go_at_call 13; refine (hf _).mono ?_; rintro e w' ⟨rfl, hb⟩)
    go_ret
    exact ⟨rfl, below_box hb⟩

theorem tells16 (k : Nat) (a b c d e h : Int) (hs : cluster_Sound.f k a b c d e h = some true) : Tells 16 a b c d e h (wrap64 (wrap64 (8 * wrap64 (c + wrap64 (2 * a))) + wrap64 (4 * c))) := by
  intro g w hg
  have hp := fun w => bound_any k a b c d e h 4 14 (.inl ⟨rfl, rfl⟩) _ true (fun _ => tells14 a b c d e h) w hs
  have hlt : g < w.heap.size := (Array.getElem?_eq_some_iff.1 hg).1
  have h0 : w.cell? ⟨g, 0, none⟩ = some (.int .i64 a) := by simp [World.cell?, hg]
  have h1 : w.cell? ⟨g, 1, none⟩ = some (.int .i64 b) := by simp [World.cell?, hg]
  have h2 : w.cell? ⟨g, 2, none⟩ = some (.int .i64 c) := by simp [World.cell?, hg]
  have h3 : w.cell? ⟨g, 3, none⟩ = some (.int .i64 d) := by simp [World.cell?, hg]
  have h4 : w.cell? ⟨g, 4, none⟩ = some (.int .i64 e) := by simp [World.cell?, hg]
  have h5 : w.cell? ⟨g, 5, none⟩ = some (.int .i64 h) := by simp [World.cell?, hg]
  have hB := Below.refl w.heap.size w
  go_enter Try.func16, Try.ntmps16
  go_wp2_with fail
  go_region_held3 (fun w' => w'.cell? ⟨g, 0, none⟩ = some (.int .i64 a) ∧ w'.cell? ⟨g, 1, none⟩ = some (.int .i64 b) ∧ w'.cell? ⟨g, 2, none⟩ = some (.int .i64 c) ∧ w'.cell? ⟨g, 3, none⟩ = some (.int .i64 d) ∧ w'.cell? ⟨g, 4, none⟩ = some (.int .i64 e) ∧ w'.cell? ⟨g, 5, none⟩ = some (.int .i64 h) ∧ Below w.heap.size w w')
    (first | exact ⟨h0, h1, h2, h3, h4, h5, hB.drew⟩ | (have hB2 := (below_then hB.drew (Nat.le_refl _) hb); exact ⟨(hB2.cell hlt).trans h0, (hB2.cell hlt).trans h1, (hB2.cell hlt).trans h2, (hB2.cell hlt).trans h3, (hB2.cell hlt).trans h4, (hB2.cell hlt).trans h5, hB2⟩))
    (first | (go_at_call 4; refine (hp _).mono ?_; rintro e w' ⟨rfl, hb⟩))
  go_wp2
  go_ret
  exact ⟨by simp [go_sem, IntWalk.i64_left], by rename_i hH; exact hH.2.2.2.2.2.2⟩

theorem tells17 (k : Nat) (a b c d e h : Int) (hs : cluster_Sound.f k a b c d e h = some true) : Tells 17 a b c d e h (wrap64 (wrap64 (wrap64 (wrap64 (8 * wrap64 (c + wrap64 (2 * a))) + wrap64 (4 * c)) + wrap64 (2 * a)) + 8)) := by
  intro g w hg
  have hp := fun w => bound_any k a b c d e h 6 16 (.inr (.inl ⟨rfl, rfl⟩)) _ true (fun _ => tells16 k a b c d e h hs) w hs
  have hlt : g < w.heap.size := (Array.getElem?_eq_some_iff.1 hg).1
  have h0 : w.cell? ⟨g, 0, none⟩ = some (.int .i64 a) := by simp [World.cell?, hg]
  have h1 : w.cell? ⟨g, 1, none⟩ = some (.int .i64 b) := by simp [World.cell?, hg]
  have h2 : w.cell? ⟨g, 2, none⟩ = some (.int .i64 c) := by simp [World.cell?, hg]
  have h3 : w.cell? ⟨g, 3, none⟩ = some (.int .i64 d) := by simp [World.cell?, hg]
  have h4 : w.cell? ⟨g, 4, none⟩ = some (.int .i64 e) := by simp [World.cell?, hg]
  have h5 : w.cell? ⟨g, 5, none⟩ = some (.int .i64 h) := by simp [World.cell?, hg]
  have hB := Below.refl w.heap.size w
  go_enter Try.func17, Try.ntmps17
  go_wp2_with fail
  go_region_held3 (fun w' => w'.cell? ⟨g, 0, none⟩ = some (.int .i64 a) ∧ w'.cell? ⟨g, 1, none⟩ = some (.int .i64 b) ∧ w'.cell? ⟨g, 2, none⟩ = some (.int .i64 c) ∧ w'.cell? ⟨g, 3, none⟩ = some (.int .i64 d) ∧ w'.cell? ⟨g, 4, none⟩ = some (.int .i64 e) ∧ w'.cell? ⟨g, 5, none⟩ = some (.int .i64 h) ∧ Below w.heap.size w w')
    (first | exact ⟨h0, h1, h2, h3, h4, h5, hB.drew⟩ | (have hB2 := (below_then hB.drew (Nat.le_refl _) hb); exact ⟨(hB2.cell hlt).trans h0, (hB2.cell hlt).trans h1, (hB2.cell hlt).trans h2, (hB2.cell hlt).trans h3, (hB2.cell hlt).trans h4, (hB2.cell hlt).trans h5, hB2⟩))
    (first | (go_at_call 6; refine (hp _).mono ?_; rintro e w' ⟨rfl, hb⟩))
  go_wp2
  go_ret
  exact ⟨by simp [go_sem, IntWalk.i64_left], by rename_i hH; exact hH.2.2.2.2.2.2⟩

/-- What the sound test says of the chapter's example. -/
theorem sound_example : cluster_Sound.f 9 3 3 3 1 4 9 = some true := by decide +kernel

theorem six_cells {w : World} {g : Nat} {a b c d e f : Int} {t : TypeId} (hg : w.heap[g]? = some (.cells #[.int .i64 a, .int .i64 b, .int .i64 c, .int .i64 d, .int .i64 e, .int .i64 f] t)) :
    w.cell? ⟨g, 0, none⟩ = some (.int .i64 a) ∧ w.cell? ⟨g, 1, none⟩ = some (.int .i64 b) ∧ w.cell? ⟨g, 2, none⟩ = some (.int .i64 c) ∧ w.cell? ⟨g, 3, none⟩ = some (.int .i64 d) ∧ w.cell? ⟨g, 4, none⟩ = some (.int .i64 e) ∧ w.cell? ⟨g, 5, none⟩ = some (.int .i64 f) := by
  simp [World.cell?, hg]

set_option maxHeartbeats 1000000 in
theorem lives_any (w : World) : Calls Try.prog 12 #[] w fun e w' => e = .returned (.bool true) ∧ Below w.heap.size w w' := by
  have h1 := fun w => bound_any 9 3 3 3 1 4 9 4 14 (.inl ⟨rfl, rfl⟩) _ true (fun _ => tells14 _ _ _ _ _ _) w sound_example
  have h2 := fun w => bound_any 9 3 3 3 1 4 9 6 16 (.inr (.inl ⟨rfl, rfl⟩)) _ true (fun _ => tells16 9 _ _ _ _ _ _ sound_example) w sound_example
  have h3 := fun w => bound_any 9 3 3 3 1 4 9 8 17 (.inr (.inr ⟨rfl, rfl⟩)) _ true (fun _ => tells17 9 _ _ _ _ _ _ sound_example) w sound_example
  have h4 := fun w => drain_any 9 3 3 3 1 4 9 true w sound_example
  have e1 : wrap64 (3 + wrap64 (2 * 3)) = 9 := by decide +kernel
  have e2 : wrap64 (wrap64 (8 * 9) + wrap64 (4 * 3)) = 84 := by decide +kernel
  have e3 : wrap64 (wrap64 (84 + wrap64 (2 * 3)) + 8) = 98 := by decide +kernel
  rw [e1] at h1 h2 h3
  rw [e2] at h2 h3
  rw [e3] at h3
  simp only [if_true] at h1 h2 h3 h4
  go_enter Try.func12, Try.ntmps12
  go_wp2_with fail
  refine (h1 _).mono ?_
  rintro e w1 ⟨rfl, hb1⟩
  have g1 := (hb1.block w.heap.size (by simp)).trans (heap_alloc_new w _)
  obtain ⟨c0, c1, c2, c3, c4, c5⟩ := six_cells g1
  go_wp2_with fail
  refine (h2 _).mono ?_
  rintro e w2 ⟨rfl, hb2⟩
  clear c0 c1 c2 c3 c4 c5
  have hlt : w.heap.size < w1.heap.size := (Array.getElem?_eq_some_iff.1 g1).1
  have g2 := (hb2.block w.heap.size hlt).trans g1
  obtain ⟨c0, c1, c2, c3, c4, c5⟩ := six_cells g2
  go_wp2_with fail
  refine (h3 _).mono ?_
  rintro e w3 ⟨rfl, hb3⟩
  clear c0 c1 c2 c3 c4 c5
  have hlt2 : w.heap.size < w2.heap.size := (Array.getElem?_eq_some_iff.1 g2).1
  have g3 := (hb3.block w.heap.size hlt2).trans g2
  obtain ⟨c0, c1, c2, c3, c4, c5⟩ := six_cells g3
  go_wp2_with fail
  refine (h4 _).mono ?_
  rintro e w4 ⟨rfl, hb4⟩
  go_wp2
  go_ret
  exact ⟨rfl, below_seq (below_seq (below_seq (below_box hb1) hb2) hb3) hb4⟩

end Go.Proofs.Ytdbdldcpdkjgkaa
