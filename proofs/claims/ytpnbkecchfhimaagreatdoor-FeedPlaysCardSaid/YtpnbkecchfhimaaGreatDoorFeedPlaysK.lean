/- Of the row of FeedPlays: what its program is asked, by the kernel. -/
import Derived.Test.YtpnbkecchfhimaaGreatDoorRows
import Derived.ProofKit
import Derived.Stop.Joined
import Derived.JoinedOf
import Derived.KernelRfl
namespace Go.Proofs.YtpnbkecchfhimaaGreatDoor.feedPlays
set_option linter.unusedVariables false
theorem closedK : joinedFacts Tryz.pinned.checked.prog 5 Tryz.f5 Rows.feedPlaysSpec Rows.feedPlaysRow = true := by kernel_rfl
end Go.Proofs.YtpnbkecchfhimaaGreatDoor.feedPlays
