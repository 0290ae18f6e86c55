/- Those of a set of which something holds; the packages that give a term. No conditions. -/
import Derived.Test.YtokhnmchnfkiiaaAmC18
import Derived.Test.YtokhnmchnfkiiaaAmC15
namespace Go.Proofs.Ytokhnmchnfkiiaa.Am
open Go Go.RowKit Go.Proofs
set_option linter.unusedSimpArgs false
set_option linter.unusedVariables false

@[simp] theorem tf_ag (own verT wr : Nat → Bool) (md : Nat) : Cfg.isAg ⟨Try.prog, own, verT, wr, md⟩ 140 = some false := by kernel_rfl

theorem stab_O {bs : List (List AV)} (h : Stab bs) (a : Nat → ArrSt) (o : Option Nat) : lentBoxesO ⟨bs, a⟩ o = bs := by
  have h1 := h a
  unfold lentBoxes at h1
  unfold lentBoxesO
  apply List.ext_getElem?
  intro i
  have h2 := congrArg (fun z => z[i]?) h1
  simp only [List.getElem?_map] at h2 ⊢
  cases hb : bs[i]? with
  | none => rfl
  | some r =>
    rw [hb] at h2
    simp only [Option.map_some, Option.some.injEq] at h2 ⊢
    apply List.ext_getElem?
    intro j
    have h3 := congrArg (fun z => z[j]?) h2
    simp only [List.getElem?_map] at h3 ⊢
    cases hc : r[j]? with
    | none => rfl
    | some c =>
      rw [hc] at h3
      simp only [Option.map_some, Option.some.injEq] at h3 ⊢
      cases c with
      | arr i n off len =>
        exfalso
        simp only [lend1] at h3
        split at h3 <;> cases h3
      | _ => exact h3

end Go.Proofs.Ytokhnmchnfkiiaa.Am
