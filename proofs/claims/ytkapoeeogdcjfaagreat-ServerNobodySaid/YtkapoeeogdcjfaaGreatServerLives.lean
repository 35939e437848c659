/- The chapter's example of a server, run by the engine. -/
import Derived.Test.YtkapoeeogdcjfaaGreatShape
import Derived.Test.YtkapoeeogdcjfaaGreatProg
import Derived.KernelRfl
namespace Go.Proofs.YtkapoeeogdcjfaaGreat
open Eng
set_option maxRecDepth 1000000

theorem mixed : Tryz.prog.follows .mixedOrders = true := by kernel_rfl
theorem server_lives : okRun (call Tryz.prog 1000000 60 5 [] m0) = true := by kernel_rfl
end Go.Proofs.YtkapoeeogdcjfaaGreat
