/- Of the row of LintPlain: what its program is asked, by the kernel. -/
import Derived.Test.YtpnbkecchfhimaaGreatDoorRows
import Derived.ProofKit
import Derived.Stop.Joined
import Derived.JoinedOf
import Derived.KernelRfl
namespace Go.Proofs.YtpnbkecchfhimaaGreatDoor.lintPlain
set_option linter.unusedVariables false
theorem closedK : joinedFacts Tryz.pinned.checked.prog 9 Tryz.f9 Rows.lintPlainSpec Rows.lintPlainRow = true := by kernel_rfl
end Go.Proofs.YtpnbkecchfhimaaGreatDoor.lintPlain
