/- AnyTerm of the program and of the reference give the same term: the law's pure statement. No conditions. -/
import Derived.Test.YtldbckbldddaaaaPFnExactAnyTermx1
namespace Go.Proofs.Ytldbckbldddaaaa.Pure
open Go.RowKit Go.Proofs.Ytldbckbldddaaaa.PFnExactAnyTerm Go.Proofs.YtldbckbldddaaaaW.PrintWords Go.Proofs.YtldbckbldddaaaaW.PrintLast

theorem FnExactAnyTerm : laws_FnExactAnyTerm.Pure := by
  intro a _
  unfold laws_FnExactAnyTerm.f spec_AnyTerm.f impl_AnyTerm.f spec_l1Top.f impl_top.f laws_eqTerm.f laws_eqVersion.f
  split <;> simp

end Go.Proofs.Ytldbckbldddaaaa.Pure
