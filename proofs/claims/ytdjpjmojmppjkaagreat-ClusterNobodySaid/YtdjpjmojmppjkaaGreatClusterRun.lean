/- ClusterNobody, run by the engine whatever its numbers and slices. -/
import Derived.Test.YtdjpjmojmppjkaaGreatClusterLives
namespace Go.Proofs.YtdjpjmojmppjkaaGreat
open Eng
set_option maxRecDepth 1000000

theorem clusterShape : shp Tryz.prog 5 33 = some [.int .i64, .int .i64, .int .i64, .int .i64, .int .u64, .int .i64, .int .u64, .int .u64, .int .u64, .int .i64, .int .i64, .int .i64, .slice, .slice, .int .i64, .slice, .int .i64, .int .i64, .slice] := by kernel_rfl
theorem cluster_runs (n0 n1 n2 n3 n4 n5 n6 n7 n8 n9 n10 n11 n12 n13 n14 b : Int) (a1 a2 a3 a4 : Option Addr) (l1 c1 l2 c2 l3 c3 l4 c4 : Nat) :
    okRun (callO Tryz.prog (orcL 5) 1000000 60 3 [.agg [.sym .i64 n0, .sym .i64 n1, .sym .i64 n2, .sym .i64 n3, .sym .u64 n4, .sym .i64 n5, .sym .u64 n6, .sym .u64 n7, .sym .u64 n8, .sym .i64 n9, .sym .i64 n10, .sym .i64 n11, .osl a1 l1 c1, .osl a2 l2 c2, .sym .i64 n12, .osl a3 l3 c3, .sym .i64 n13, .sym .i64 n14, .osl a4 l4 c4], .sym .i64 b] m0) = true := by kernel_rfl

theorem cluster_calls {vs : List V} {cs : List Value} {b : Int} (hr : reps E0 vs = some cs) (hf : FitsL [.int .i64, .int .i64, .int .i64, .int .i64, .int .u64, .int .i64, .int .u64, .int .u64, .int .u64, .int .i64, .int .i64, .int .i64, .slice, .slice, .int .i64, .slice, .int .i64, .int .i64, .slice] vs) (W : World) :
    Calls Tryz.prog 3 #[.agg cs.toArray, .int .i64 b] W (fun e w' => e = .returned (.bool true) ∧ Go.RowKit.Below W.heap.size W w') := by
  obtain ⟨_, r0, rfl, ⟨n0, rfl⟩, g0⟩ := fits_inv hf
  obtain ⟨_, r1, rfl, ⟨n1, rfl⟩, g1⟩ := fits_inv g0
  obtain ⟨_, r2, rfl, ⟨n2, rfl⟩, g2⟩ := fits_inv g1
  obtain ⟨_, r3, rfl, ⟨n3, rfl⟩, g3⟩ := fits_inv g2
  obtain ⟨_, r4, rfl, ⟨n4, rfl⟩, g4⟩ := fits_inv g3
  obtain ⟨_, r5, rfl, ⟨n5, rfl⟩, g5⟩ := fits_inv g4
  obtain ⟨_, r6, rfl, ⟨n6, rfl⟩, g6⟩ := fits_inv g5
  obtain ⟨_, r7, rfl, ⟨n7, rfl⟩, g7⟩ := fits_inv g6
  obtain ⟨_, r8, rfl, ⟨n8, rfl⟩, g8⟩ := fits_inv g7
  obtain ⟨_, r9, rfl, ⟨n9, rfl⟩, g9⟩ := fits_inv g8
  obtain ⟨_, r10, rfl, ⟨n10, rfl⟩, g10⟩ := fits_inv g9
  obtain ⟨_, r11, rfl, ⟨n11, rfl⟩, g11⟩ := fits_inv g10
  obtain ⟨_, r12, rfl, ⟨a1, l1, c1, rfl⟩, g12⟩ := fits_inv g11
  obtain ⟨_, r13, rfl, ⟨a2, l2, c2, rfl⟩, g13⟩ := fits_inv g12
  obtain ⟨_, r14, rfl, ⟨n12, rfl⟩, g14⟩ := fits_inv g13
  obtain ⟨_, r15, rfl, ⟨a3, l3, c3, rfl⟩, g15⟩ := fits_inv g14
  obtain ⟨_, r16, rfl, ⟨n13, rfl⟩, g16⟩ := fits_inv g15
  obtain ⟨_, r17, rfl, ⟨n14, rfl⟩, g17⟩ := fits_inv g16
  obtain ⟨_, r18, rfl, ⟨a4, l4, c4, rfl⟩, g18⟩ := fits_inv g17
  obtain rfl := fits_nil g18
  exact run_orc mixed (orcL_ok mixed cluster_lives) (cluster_runs n0 n1 n2 n3 n4 n5 n6 n7 n8 n9 n10 n11 n12 n13 n14 b a1 a2 a3 a4 l1 c1 l2 c2 l3 c3 l4 c4) (us := [.agg cs.toArray, .int .i64 b]) (reps_cons (by rw [rep, hr]; rfl) (reps_cons rfl rfl)) W
end Go.Proofs.YtdjpjmojmppjkaaGreat
