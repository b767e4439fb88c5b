/- The program's constants are the reference's: no condition. -/
import Derived.Test.YtjbijfdiojhmcaaPFnExactConstantsx1
namespace Go.Proofs.Ytjbijfdiojhmcaa.Pure
open Go.RowKit Go.Proofs.Ytjbijfdiojhmcaa.PFnExactConstants Go.Proofs.YtjbijfdiojhmcaaW.PrintWords Go.Proofs.YtjbijfdiojhmcaaW.PrintLast

theorem FnExactConstants : laws_FnExactConstants.Pure := by
  unfold laws_FnExactConstants.Pure laws_FnExactConstants.f
  rfl

end Go.Proofs.Ytjbijfdiojhmcaa.Pure
