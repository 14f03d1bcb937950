/- What is proved: the law FnExactConstants, as a statement over plain Lean values, comes to true. Conditions: none. -/
import Derived.Test.YticmindfkodfjaaPFnExactConstantsx1
namespace Go.Proofs.Yticmindfkodfjaa.Pure
open Go.RowKit Go.Proofs.Yticmindfkodfjaa.PFnExactConstants Go.Proofs.YticmindfkodfjaaW.PrintWords Go.Proofs.YticmindfkodfjaaW.PrintLast

theorem FnExactConstants : laws_FnExactConstants.Pure := by
  unfold laws_FnExactConstants.Pure laws_FnExactConstants.f
  rfl

end Go.Proofs.Yticmindfkodfjaa.Pure
