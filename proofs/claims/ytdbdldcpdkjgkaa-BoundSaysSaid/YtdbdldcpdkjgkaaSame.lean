/- Whether a config is sound, and the four bounds, are by the program's functions what they are by the reference's. -/
import Derived.Test.YtdbdldcpdkjgkaaBound
namespace Go.Proofs.Ytdbdldcpdkjgkaa
open Go.RowKit Go.Proofs.YtdbdldcpdkjgkaaW.PrintWords PBoundSays

theorem config_same (n : Nat) (h1 : 1 ≤ n) (h7 : n ≤ 7) (a c d e f : Int) : cluster_Config_config.f 20 a n c d e f 0 = some (0, (List.range n).map Int.ofNat, c, d, e) ∧
    curfewref39_config.f 20 a n c d e f 0 = some (0, (List.range n).map Int.ofNat, c, d, e) ∧ member_Sound.f 20 ((List.range n).map Int.ofNat) = some true ∧ curfewref29_Sound.f 20 ((List.range n).map Int.ofNat) = some true := by
  obtain rfl | rfl | rfl | rfl | rfl | rfl | rfl : n = 1 ∨ n = 2 ∨ n = 3 ∨ n = 4 ∨ n = 5 ∨ n = 6 ∨ n = 7 := by omega
  all_goals exact ⟨by kernel_rfl, by kernel_rfl, by decide +kernel, by decide +kernel⟩

theorem sound_same (a b c d e f : Int) : ∃ s, cluster_Sound.f 20 a b c d e f = some s ∧ curfewref39_Sound.f 20 a b c d e f = some s ∧ (s = true → 1 ≤ a ∧ a ≤ 7 ∧ 2 ≤ c ∧ c ≤ 64) := by
  unfold cluster_Sound.f curfewref39_Sound.f
  by_cases c1 : a ≥ 1
  case neg => exact ⟨false, by rw [if_neg c1], by rw [if_neg c1], by simp⟩
  by_cases c2 : a ≤ 7
  case neg => exact ⟨false, by rw [if_pos c1, if_neg c2], by rw [if_pos c1, if_neg c2], by simp⟩
  by_cases c3 : b ≥ 1
  case neg => exact ⟨false, by rw [if_pos c1, if_pos c2, if_neg c3], by rw [if_pos c1, if_pos c2, if_neg c3], by simp⟩
  by_cases c4 : b ≤ a
  case neg => exact ⟨false, by rw [if_pos c1, if_pos c2, if_pos c3, if_neg c4], by rw [if_pos c1, if_pos c2, if_pos c3, if_neg c4], by simp⟩
  by_cases c5 : f ≥ 0
  case neg => exact ⟨false, by rw [if_pos c1, if_pos c2, if_pos c3, if_pos c4, if_neg c5], by rw [if_pos c1, if_pos c2, if_pos c3, if_pos c4, if_neg c5], by simp⟩
  by_cases c6 : f ≤ 1048576
  case neg => exact ⟨false, by rw [if_pos c1, if_pos c2, if_pos c3, if_pos c4, if_pos c5, if_neg c6], by rw [if_pos c1, if_pos c2, if_pos c3, if_pos c4, if_pos c5, if_neg c6], by simp⟩
  obtain ⟨n, rfl⟩ : ∃ n : Nat, b = n := ⟨b.toNat, by omega⟩
  obtain ⟨p1, p2, p3, p4⟩ := config_same n (by omega) (by omega) a c d e f
  rw [if_pos c1, if_pos c2, if_pos c3, if_pos c4, if_pos c5, if_pos c6, if_pos c1, if_pos c2, if_pos c3, if_pos c4, if_pos c5, if_pos c6, p1, p2]
  simp only [Option.bind_some, server_Sound.f, raft_Sound.f, curfewref35_Sound.f, curfewref34_Sound.f, p3, p4]
  by_cases d1 : c ≥ 2 <;> by_cases d2 : c ≤ 64 <;> by_cases d3 : d ≥ 1 <;> by_cases d4 : d < c <;> by_cases d5 : e ≥ 1 <;> simp [d1, d2, d3, d4, d5] <;> omega

end Go.Proofs.Ytdbdldcpdkjgkaa
