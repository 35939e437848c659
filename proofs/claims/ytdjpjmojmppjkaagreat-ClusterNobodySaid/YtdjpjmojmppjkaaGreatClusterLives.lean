/- The chapter's example of the cluster, run by the engine. -/
import Derived.Test.YtdjpjmojmppjkaaGreatShape
import Derived.Test.YtdjpjmojmppjkaaGreatProg
import Derived.KernelRfl
namespace Go.Proofs.YtdjpjmojmppjkaaGreat
open Eng
set_option maxRecDepth 1000000

theorem mixed : Tryz.prog.follows .mixedOrders = true := by kernel_rfl
theorem cluster_lives : okRun (call Tryz.prog 1000000 60 5 [] m0) = true := by kernel_rfl
end Go.Proofs.YtdjpjmojmppjkaaGreat
