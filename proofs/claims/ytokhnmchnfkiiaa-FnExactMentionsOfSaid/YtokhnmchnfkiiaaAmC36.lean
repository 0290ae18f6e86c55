/- Names that are put into rising lists, as the reference does; the names that a package mentions, by both sides. No conditions. -/
import Derived.Test.YtokhnmchnfkiiaaAmC35
import Derived.Test.YtokhnmchnfkiiaaAmC29
namespace Go.Proofs.Ytokhnmchnfkiiaa.Am
open Go Go.RowKit Go.Proofs
set_option linter.unusedSimpArgs false
set_option linter.unusedVariables false

theorem insS_same {v : ByteArray} : ∀ {l : List ByteArray}, (∀ a l', l = a :: l' → a = v) → l ≠ [] → insS v l = l
  | [], _, h => (h rfl).elim
  | a :: l, h, _ => by rw [insS, if_pos (h a l rfl)]
theorem gtr_sLt {a v : ByteArray} (h : a ≠ v) : Op.bytesLess a.data.toList v.data.toList = !sLt v a := by
  show sLt a v = !sLt v a
  cases k : sLt a v with
  | true => rw [sLt_asymm k]; rfl
  | false => rw [sLt_tri h k]; rfl

set_option maxRecDepth 10000 in
set_option maxHeartbeats 1000000 in
theorem p_l5put (c : Bool) (l : List ByteArray) (hl : l.length ≤ 1000000) (hr : Rise l) (v : ByteArray) (hc : c = false ∨ l = []) : Pure Try.prog 121 [.sl c (l.map strCells), .v (.string v)] (.sl false ((insS v l).map strCells)) := by
  refine pure_of_code (G := (Go1 8)) (verso 8) mixed0 Try.func121 rfl (by decide) (by simp [Try.f121]) (by simp) fun ver => ?_
  simp only [Try.f121, Go1]
  simp [Mem.made, noArrs, sealRows]
  refine aloop (α := Nat × Nat × List ByteArray × Bool) (fun d => ⟨envOf [(0, .sl c (l.map strCells)), (1, .v (.string v)), (5, .arr 8 d.2.1 0 d.2.2.1.length), (6, .v (.bool d.2.2.2)), (7, .v (.int .i64 d.1))], ⟨[], arrG 8 ver d.2.1 9 (d.2.2.1.map strCells)⟩⟩)
    (fun d => d.1 ≤ l.length ∧ d.2.2.1.length ≤ d.1 + 1 ∧ (d.2.2.2 = false → d.2.2.1 = l.take d.1 ∧ d.2.2.1 ++ insS v (l.drop d.1) = insS v l) ∧ (d.2.2.2 = true → d.2.2.1 ++ l.drop d.1 = insS v l ∧ ∀ x ∈ l.drop d.1, sLt v x = true)) (fun d => l.length - d.1) (0, ver 8 + 1, [], false) (less_envOf (by simp) rfl (by intro j; simp [arrG])) ⟨by simp, by simp, fun _ => ⟨by simp, by simp⟩, fun h => by cases h⟩ ?_
  rintro ⟨i, w, out, don⟩ ⟨h1, h2, h3, h4⟩
  simp only at h1 h2 h3 h4 ⊢
  by_cases hlt : i < l.length
  · have hw := wrapS hlt (by omega)
    have hd := drop_get hlt
    have hro : (out.length + 1) * 16 ≤ 140737488355328 := by omega
    have hro2 : (out.length + 1 + 1) * 16 ≤ 140737488355328 := by omega
    have hrd : Rise (l.drop i) := List.Pairwise.sublist (List.drop_sublist _ _) hr
    rw [hd] at hrd h3 h4
    have hrc := List.pairwise_cons.1 hrd
    by_cases he : l[i] = v
    · cases don with
      | true =>
        have h5 := (h4 rfl).2 l[i] (List.mem_cons_self ..)
        rw [he, sLt_irrefl] at h5
        cases h5
      | false =>
        obtain ⟨g1, g2⟩ := h3 rfl
        have hcf : c = false := by
          rcases hc with h | h
          · exact h
          · rw [h] at hlt; simp at hlt
        subst hcf
        have g3 : insS v l = l := by
          rw [← g2, g1, insS, if_pos he, ← hd]
          exact List.take_append_drop i l
        simp [hlt, he, g3]
    · have hg := gtr_sLt he
      cases don with
      | true =>
        obtain ⟨g1, g2⟩ := h4 rfl
        have g3 := g2 l[i] (List.mem_cons_self ..)
        rw [g3] at hg
        simp [hlt, he, hg, aappend, arrG, sealRows, sealCells, List.range_succ, hro]
        refine ⟨i + 1, w + 1, out ++ [l[i]], Or.inr ⟨less_envOf (by simp [hw]) rfl ?_, ⟨by omega, by simp; omega, by simpa using g1, fun x hx => g2 x (List.mem_cons_of_mem _ hx)⟩, by omega⟩⟩
        intro j
        by_cases hj : j = 8 <;> simp [hj, arrG]
      | false =>
        obtain ⟨g1, g2⟩ := h3 rfl
        rw [insS, if_neg he] at g2
        cases hs : sLt v l[i] with
        | true =>
          rw [hs] at hg g2
          rw [if_pos rfl] at g2
          simp [hlt, he, hg, aappend, arrG, sealRows, sealCells, List.range_succ, hro, hro2]
          refine ⟨i + 1, w + 1 + 1, out ++ [v, l[i]], Or.inr ⟨less_envOf (by simp [hw]) rfl ?_, ⟨by omega, by rw [g1]; simp; omega, by simpa using g2, fun x hx => sLt_trans hs (hrc.1 x hx)⟩, by omega⟩⟩
          intro j
          by_cases hj : j = 8 <;> simp [hj, arrG]
        | false =>
          rw [hs] at hg g2
          rw [if_neg (by simp)] at g2
          simp [hlt, he, hg, aappend, arrG, sealRows, sealCells, List.range_succ, hro]
          refine ⟨i + 1, w + 1, out ++ [l[i]], Or.inl ⟨less_envOf (by simp [hw]) rfl ?_, ⟨by omega, by simp; omega, by rw [g1, List.take_succ_eq_append_getElem hlt], by simpa using g2⟩, by omega⟩⟩
          intro j
          by_cases hj : j = 8 <;> simp [hj, arrG]
  · have e : i = l.length := by omega
    subst e
    have hro : (out.length + 1) * 16 ≤ 140737488355328 := by omega
    cases don with
    | true =>
      have g1 := (h4 rfl).1
      rw [List.drop_length, List.append_nil] at g1
      simp [arrG, g1]
    | false =>
      have g1 := (h3 rfl).2
      rw [List.drop_length, insS] at g1
      simp [aappend, arrG, sealRows, sealCells, List.range_succ, hro, ← g1, List.take_of_length_le]

end Go.Proofs.Ytokhnmchnfkiiaa.Am
