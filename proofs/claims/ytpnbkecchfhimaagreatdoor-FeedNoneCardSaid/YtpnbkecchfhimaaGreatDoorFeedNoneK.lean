/- Of the row of FeedNone: what its program is asked, by the kernel. -/
import Derived.Test.YtpnbkecchfhimaaGreatDoorRows
import Derived.ProofKit
import Derived.Stop.Joined
import Derived.JoinedOf
import Derived.KernelRfl
namespace Go.Proofs.YtpnbkecchfhimaaGreatDoor.feedNone
set_option linter.unusedVariables false
theorem closedK : joinedFacts Tryz.pinned.checked.prog 6 Tryz.f6 Rows.feedNoneSpec Rows.feedNoneRow = true := by kernel_rfl
end Go.Proofs.YtpnbkecchfhimaaGreatDoor.feedNone
