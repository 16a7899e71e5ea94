/- Chapter 02: the document's Right: the walk. (Printed by wip/gen/rgd.py.) -/
import Derived.Test.YtbkjanlkklmleaaRgA
namespace Go.Proofs.Ytbkjanlkklmleaa
open Go.RowKit
open Go.Lib (hid)
set_option linter.unusedVariables false

end Go.Proofs.Ytbkjanlkklmleaa
