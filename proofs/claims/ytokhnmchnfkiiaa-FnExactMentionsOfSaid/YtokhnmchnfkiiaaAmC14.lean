/- The faults of a set, as the program finds them. No conditions. -/
import Derived.Test.YtokhnmchnfkiiaaAmC13
namespace Go.Proofs.Ytokhnmchnfkiiaa.Am
open Go Go.RowKit Go.Proofs
set_option linter.unusedSimpArgs false
set_option linter.unusedVariables false

theorem getA {α : Type} {l : List α} {k : Nat} {x : α} (h : l[k]? = some x) (z : List α) : (l ++ z)[k]? = some x := by
  rw [List.getElem?_append_left (List.getElem?_eq_some_iff.1 h).1]
  exact h
@[reducible] def StabL (B : List (List AV)) : Prop := ∀ b ∈ B, ∀ c ∈ b, StabC c
theorem stabL_app {B : List (List AV)} (h : StabL B) {r : List AV} (hr : ∀ c ∈ r, StabC c) : StabL (B ++ [r]) := by
  intro b hb
  rcases List.mem_append.1 hb with hb | hb
  · exact h b hb
  · simp only [List.mem_singleton] at hb
    subst hb
    exact hr
theorem stabL_cons {B : List (List AV)} (h : StabL B) {r : List AV} (hr : ∀ c ∈ r, StabC c) : StabL (r :: B) := by
  intro b hb
  rcases List.mem_cons.1 hb with rfl | hb
  · exact hr
  · exact h b hb
theorem stab_pk (d : Bool) (p : Pk) : ∀ c ∈ p.cells d, StabC c := by
  intro c hc
  simp at hc
  rcases hc with rfl | rfl | rfl | rfl | rfl | rfl | rfl | rfl <;> exact fun _ => rfl
theorem stab_trm (t : Trm) : ∀ c ∈ t.cells, StabC c := by
  intro c hc
  simp at hc
  rcases hc with rfl | rfl | rfl | rfl | rfl | rfl | rfl <;> exact fun _ => rfl
theorem stab_one {x : AV} (h : StabC x) : ∀ c ∈ [x], StabC c := by
  intro c hc
  simp only [List.mem_singleton] at hc
  subst hc
  exact h

end Go.Proofs.Ytokhnmchnfkiiaa.Am
