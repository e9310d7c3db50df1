/-
  vergelaw25.each, vergelaw25.lives: the answers that the document gives for layer 25.
-/
import Derived.Test.YtfneloplbkjbhaaSol4
namespace Go.Proofs.Ytfneloplbkjbhaa
open Go.RowKit
set_option linter.unusedVariables false

end Go.Proofs.Ytfneloplbkjbhaa
