/- Of the row of FeedPieces: what its program is asked, by the kernel. -/
import Derived.Test.YtpnbkecchfhimaaGreatDoorRows
import Derived.ProofKit
import Derived.Stop.Joined
import Derived.JoinedOf
import Derived.KernelRfl
namespace Go.Proofs.YtpnbkecchfhimaaGreatDoor.feedPieces
set_option linter.unusedVariables false
theorem closedK : joinedFacts Tryz.pinned.checked.prog 4 Tryz.f4 Rows.feedPiecesSpec Rows.feedPiecesRow = true := by kernel_rfl
end Go.Proofs.YtpnbkecchfhimaaGreatDoor.feedPieces
