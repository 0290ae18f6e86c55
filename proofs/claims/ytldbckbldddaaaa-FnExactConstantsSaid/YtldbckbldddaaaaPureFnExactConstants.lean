/- The program's constants have the values that the document names: the law's pure statement. No conditions. -/
import Derived.Test.YtldbckbldddaaaaPFnExactConstantsx1
namespace Go.Proofs.Ytldbckbldddaaaa.Pure
open Go.RowKit Go.Proofs.Ytldbckbldddaaaa.PFnExactConstants Go.Proofs.YtldbckbldddaaaaW.PrintWords Go.Proofs.YtldbckbldddaaaaW.PrintLast

theorem FnExactConstants : laws_FnExactConstants.Pure := rfl

end Go.Proofs.Ytldbckbldddaaaa.Pure
