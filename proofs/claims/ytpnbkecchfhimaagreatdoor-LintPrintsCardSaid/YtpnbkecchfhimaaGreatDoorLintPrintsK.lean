/- Of the row of LintPrints: what its program is asked, by the kernel. -/
import Derived.Test.YtpnbkecchfhimaaGreatDoorRows
import Derived.ProofKit
import Derived.Stop.Joined
import Derived.JoinedOf
import Derived.KernelRfl
namespace Go.Proofs.YtpnbkecchfhimaaGreatDoor.lintPrints
set_option linter.unusedVariables false
theorem closedK : joinedFacts Tryz.pinned.checked.prog 8 Tryz.f8 Rows.lintPrintsSpec Rows.lintPrintsRow = true := by kernel_rfl
end Go.Proofs.YtpnbkecchfhimaaGreatDoor.lintPrints
