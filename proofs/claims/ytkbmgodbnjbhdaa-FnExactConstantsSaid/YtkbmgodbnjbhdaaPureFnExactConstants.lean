/- FnExactConstants: the program's constants are the reference's; no condition. -/
import Derived.Test.YtkbmgodbnjbhdaaPFnExactConstantsx1
namespace Go.Proofs.Ytkbmgodbnjbhdaa.Pure
open Go.RowKit Go.Proofs.Ytkbmgodbnjbhdaa.PFnExactConstants Go.Proofs.YtkbmgodbnjbhdaaW.PrintWords Go.Proofs.YtkbmgodbnjbhdaaW.PrintLast

theorem FnExactConstants : laws_FnExactConstants.Pure := rfl

end Go.Proofs.Ytkbmgodbnjbhdaa.Pure
