/- Of the row of LintRises: what its program is asked, by the kernel. -/
import Derived.Test.YtpnbkecchfhimaaGreatDoorRows
import Derived.ProofKit
import Derived.Stop.Joined
import Derived.JoinedOf
import Derived.KernelRfl
namespace Go.Proofs.YtpnbkecchfhimaaGreatDoor.lintRises
set_option linter.unusedVariables false
theorem closedK : joinedFacts Tryz.pinned.checked.prog 7 Tryz.f7 Rows.lintRisesSpec Rows.lintRisesRow = true := by kernel_rfl
end Go.Proofs.YtpnbkecchfhimaaGreatDoor.lintRises
