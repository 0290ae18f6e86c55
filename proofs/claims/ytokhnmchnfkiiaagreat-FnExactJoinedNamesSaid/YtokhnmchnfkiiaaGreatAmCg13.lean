import Derived.Test.YtokhnmchnfkiiaaGreatAmCg12
/- JoinedNames, by both sides. No conditions. -/
namespace Go.Proofs.YtokhnmchnfkiiaaGreat.Am
open Go Go.RowKit Go.Proofs
set_option linter.unusedSimpArgs false
set_option linter.unusedVariables false

noncomputable def jnF (c : List Pk) (a b : List Int) (m n : ByteArray) : Bool := decide (deltaF c a b = 0) && (!decide (m = n) && (memB m (chgF c a b) && (memB n (chgF c a b) && joinB c a b m n)))

set_option maxHeartbeats 4000000 in
theorem p_joinedNames (d k : Bool) (c : List Pk) (hc : c.length ≤ 4611686018427387904) (hcl : ∀ p ∈ c, p.Len) (a b : List Int) (hal : a.length ≤ 4611686018427387904) (hbl : b.length ≤ 4611686018427387904) (m n : ByteArray) :
    Pure Tryz.prog 56 [pksAV d false c, intsAV k a, intsAV k b, .v (.string m), .v (.string n)] (.v (.bool (jnF c a b m n))) := by
  obtain ⟨J, hJ2⟩ : ∃ J, J = jnF c a b m n := ⟨_, rfl⟩
  have hJ : J = (decide (deltaF c a b = 0) && (!decide (m = n) && (memB m (chgF c a b) && (memB n (chgF c a b) && joinB c a b m n)))) := hJ2
  rw [← hJ2]
  clear hJ2
  refine pure_of_code (G := (G0)) vers0 mixed0 Tryz.func56 rfl (by decide) (by simp [Tryz.f56]) (by simp) fun ver => ?_
  simp only [Tryz.f56, G0]
  simp
  refine call_p (p_asked d false k k c hc hcl a b hal hbl) (by simp) ?_
  by_cases h : deltaF c a b = 0
  · obtain ⟨g1, g2, g3, g4, g5, g6⟩ := delta_facts h
    have hl := chgF_len c a b
    by_cases hmn : m = n
    · have hJf : J = false := by simpa [h, hmn] using hJ
      subst hJf
      simp [h, hmn]
    simp [h, hmn]
    refine call_p (p_l5changed d false k c (by omega) a b g3 g4 hal hbl) (by simp) ?_
    simp
    refine call_p (p_holds false (chgF c a b) (by omega) m) (by simp) ?_
    cases e1 : memB m (chgF c a b) with
    | false =>
      have hJf : J = false := by simpa [h, hmn, e1] using hJ
      subst hJf
      simp
    | true =>
      simp
      refine call_p (p_holds false (chgF c a b) (by omega) n) (by simp) ?_
      cases e2 : memB n (chgF c a b) with
      | false =>
        have hJf : J = false := by simpa [h, hmn, e1, e2] using hJ
        subst hJf
        simp
      | true =>
        have hJf : J = joinB c a b m n := by simpa [h, hmn, e1, e2] using hJ
        rw [hJf]
        simp
        refine call_p (p_l5joined d k c g1 a b g3 g4 hal hbl m n) (by simp) ?_
        simp
  · have hJf : J = false := by simpa [h] using hJ
    subst hJf
    simp [h]

set_option maxHeartbeats 4000000 in
theorem q_joinedNames (d k : Bool) (c : List Pk) (hc : c.length ≤ 4611686018427387904) (hcl : ∀ p ∈ c, p.Len) (a b : List Int) (hal : a.length ≤ 4611686018427387904) (hbl : b.length ≤ 4611686018427387904) (m n : ByteArray) :
    Pure Tryz.prog 57 [pksAV d false c, intsAV k a, intsAV k b, .v (.string m), .v (.string n)] (.v (.bool (jnF c a b m n))) := by
  obtain ⟨J, hJ2⟩ : ∃ J, J = jnF c a b m n := ⟨_, rfl⟩
  have hJ : J = (decide (deltaF c a b = 0) && (!decide (m = n) && (memB m (chgF c a b) && (memB n (chgF c a b) && joinB c a b m n)))) := hJ2
  rw [← hJ2]
  clear hJ2
  refine pure_of_code (G := (G0)) vers0 mixed0 Tryz.func57 rfl (by decide) (by simp [Tryz.f57]) (by simp) fun ver => ?_
  simp only [Tryz.f57, G0]
  simp
  refine call_p (q_delta d false k k c hc hcl a b hal hbl) (by simp) ?_
  by_cases h : deltaF c a b = 0
  · obtain ⟨g1, g2, g3, g4, g5, g6⟩ := delta_facts h
    have hl := chgF_len c a b
    by_cases hmn : m = n
    · have hJf : J = false := by simpa [h, hmn] using hJ
      subst hJf
      simp [h, hmn]
    simp [h, hmn]
    refine call_p (q_changed d false k c (by omega) a b g3 g4 (by omega) (by omega)) (by simp) ?_
    simp
    refine call_p (q_contains false (chgF c a b) (by omega) m) (by simp) ?_
    cases e1 : memB m (chgF c a b) with
    | false =>
      have hJf : J = false := by simpa [h, hmn, e1] using hJ
      subst hJf
      simp
    | true =>
      simp
      refine call_p (q_contains false (chgF c a b) (by omega) n) (by simp) ?_
      cases e2 : memB n (chgF c a b) with
      | false =>
        have hJf : J = false := by simpa [h, hmn, e1, e2] using hJ
        subst hJf
        simp
      | true =>
        have hJf : J = joinB c a b m n := by simpa [h, hmn, e1, e2] using hJ
        rw [hJf]
        simp
        refine call_p (q_joined d k c g1 a b g3 g4 (by omega) (by omega) m n) (by simp) ?_
        simp
  · have hJf : J = false := by simpa [h] using hJ
    subst hJf
    simp [h]

end Go.Proofs.YtokhnmchnfkiiaaGreat.Am
