/- What the rows of this seat ask beside their laws' walks. -/
import Derived.Test.YtcpafphgkbfahaaGreatRows
import Derived.Test.YtcpafphgkbfahaaGreatEvX
import Derived.ProofKit
import Derived.OpenShut
import Derived.ShutString
import Derived.ChangeOld
import Derived.Below
import Derived.Deep.Grids
import Derived.JoinedCond
namespace Go.Proofs.YtcpafphgkbfahaaGreat
open Go Go.RowKit
theorem own : ownKnob Tryz.prog.godebug = none := by kernel_rfl
end Go.Proofs.YtcpafphgkbfahaaGreat
