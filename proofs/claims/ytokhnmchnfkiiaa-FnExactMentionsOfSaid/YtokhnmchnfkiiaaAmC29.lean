/- What is unmet, as the program hands it out; how the laws' helpers meet it. No conditions. -/
import Derived.Test.YtokhnmchnfkiiaaAmC27
import Derived.Test.YtokhnmchnfkiiaaAmC28
import Derived.Test.YtokhnmchnfkiiaaAmC24
namespace Go.Proofs.Ytokhnmchnfkiiaa.Am
open Go Go.RowKit Go.Proofs
set_option linter.unusedSimpArgs false
set_option linter.unusedVariables false

theorem unmF_of {c : List Pk} {l : List Trm} {s : List Int} (h : unmF c l s ≠ []) : catF c = 0 ∧ trmsF l = 0 ∧ (s.any fun n => !inF n 0 (c.length - 1)) = false ∧ unmF c l s = unmL c l s := by
  by_cases h1 : catF c = 0
  · by_cases h2 : trmsF l = 0
    · by_cases h3 : (s.any fun n => !inF n 0 (c.length - 1)) = false
      · exact ⟨h1, h2, h3, by rw [unmF, if_pos h1, if_pos h2, if_pos h3]⟩
      · exact absurd (by rw [unmF, if_pos h1, if_pos h2, if_neg h3]) h
    · exact absurd (by rw [unmF, if_pos h1, if_neg h2]) h
  · exact absurd (by rw [unmF, if_neg h1]) h

set_option maxRecDepth 10000 in
theorem q_unmetOfA (c : List Pk) (hc : c.length ≤ 4611686018427387904) (hlen : ∀ p ∈ c, p.Len) (l : List Trm) (hl : l.length ≤ 1048576) (s : List Int) (hs : s.length ≤ 1048576) (h : unmF c l s = []) : Pure Try.prog 29 [pksAV false false c, trmsAV false l, intsAV false s] (.sl false []) := by
  refine pure_of_code (G := (G0)) vers0 mixed0 Try.func29 rfl (by decide) (by simp [Try.f29]) (by simp) fun ver => ?_
  simp only [Try.f29, G0]
  simp
  refine call_p (q_cat false false c hc hlen) (by simp) ?_
  by_cases h1 : catF c = 0
  · simp [h1]
    refine call_p (q_trms false l (by omega)) (by simp) ?_
    by_cases h2 : trmsF l = 0
    · simp [h2]
      refine call_p (q_places false false false c hc s (by omega)) (by simp) ?_
      cases h3 : (s.any fun n => !inF n 0 (c.length - 1)) with
      | true => simp
      | false =>
        have hb : CatOk c := fun p hp => packF_ok ((catF_ok h1).2 p hp)
        have hp := places_of h3
        rw [unmF, if_pos h1, if_pos h2, if_pos h3] at h
        have hq := q_unmet c hb l hl s hs hp
        rw [h] at hq
        simp
        refine call_p hq (by simp) ?_
        simp
        refine call_p (p_cloneT0 false) (by simp) ?_
        simp
    · simp [h2]
  · simp [h1]

set_option maxRecDepth 10000 in
theorem q_unmetOfB (c : List Pk) (hc : c.length ≤ 4611686018427387904) (hlen : ∀ p ∈ c, p.Len) (l : List Trm) (hl : l.length ≤ 1048576) (s : List Int) (hs : s.length ≤ 1048576) (h : unmF c l s ≠ []) :
    OCall Try.prog 29 none [pksAV false false c, trmsAV false l, intsAV false s] (some (false, 28, (unmF c l s).map Trm.cells)) (.arr 0 0 0 (unmF c l s).length) := by
  obtain ⟨h1, h2, h3, h4⟩ := unmF_of h
  have hb : CatOk c := fun p hp => packF_ok ((catF_ok h1).2 p hp)
  have hp := places_of h3
  have h5 := unmL_len (l := l) hb hp
  have hq := q_unmet c hb l hl s hs hp
  rw [h4] at h ⊢
  cases hU : unmL c l s with
  | nil => exact absurd hU h
  | cons t U =>
    rw [hU] at h5 hq
    have hcl := c_cloneT false t U (by omega)
    refine own_of_code (G := Go1 32) (verso 32) mixed0 Try.func29 rfl (by decide) (by simp [Try.f29]) 32 .dead (by intro s e es h; cases h; exact fr_trm (t :: U)) ?_
    simp only [Try.f29, Go1, inArrs]
    simp
    refine call_p (q_cat false false c hc hlen) (by simp) ?_
    simp [h1]
    refine call_p (q_trms false l (by omega)) (by simp) ?_
    simp [h2]
    refine call_p (q_places false false false c hc s (by omega)) (by simp) ?_
    rw [h3]
    simp
    refine call_p hq (by simp) ?_
    simp
    refine call_n 32 hcl (by simp) ?_
    simp

end Go.Proofs.Ytokhnmchnfkiiaa.Am
