/- The law FnVersions: what is to be shown of the row's function. No conditions. -/
import Derived.Test.YtokhnmchnfkiiaaDoorAmH2
namespace Go.Proofs.YtokhnmchnfkiiaaDoor.Am
open Go Go.RowKit Go.Proofs
set_option linter.unusedSimpArgs false
set_option linter.unusedVariables false

theorem cmpF_flip (a b c x y z : Int) : cmpF a b c x y z = - cmpF x y z a b c ∧ -1 ≤ cmpF x y z a b c ∧ cmpF x y z a b c ≤ 1 := by
  unfold cmpF signF
  (repeat' split) <;> omega

set_option maxHeartbeats 4000000 in
set_option maxRecDepth 20000 in
theorem l_fnVersions (l : List Int) (hl : ∀ b ∈ l, 0 ≤ b ∧ b < 256) : Pure Tryd.prog 6 [.sl true (l.map bytCells)] (.v (.bool true)) := by
  refine pure_of_code (G := (G0)) vers0 mixed0 Tryd.func6 rfl (by decide) (by simp [Tryd.f6]) (by simp) fun ver => ?_
  simp only [Tryd.f6, G0]
  simp
  refine call_p (p_big l) (by simp) ?_
  by_cases hbig : 1048576 < l.length
  · simp [hbig]
  have hb : Byt l := ⟨by omega, hl⟩
  simp [hbig]
  refine call_ic (i_drawCompare l hb ⟨[], noArrs ver⟩) rfl (by simp) (icok (by decide) (by decide)) ?_
  rintro r m' ⟨⟨⟨a, b, c⟩, ⟨x, y, z⟩, rfl⟩, rfl⟩
  simp
  refine adraw_all (by kernel_rfl) ?_
  simp
  refine call_p (q_compareVersions a b c x y z) (by simp) ?_
  simp
  refine call_p (q_compareVersions x y z a b c) (by simp) ?_
  obtain ⟨h1, h2, h3⟩ := cmpF_flip a b c x y z
  have hz := @cmpF_zero a b c x y z
  obtain ⟨P, hP⟩ : ∃ P, P = cmpF x y z a b c := ⟨_, rfl⟩
  obtain ⟨Q, hQ⟩ : ∃ Q, Q = cmpF a b c x y z := ⟨_, rfl⟩
  rw [← hP] at h1 h2 h3
  rw [← hQ] at h1 hz
  have hw : IntKind.i64.wrap (-P) = -P := IntWalk.i64_in _ (by omega)
  have hq := q_compareVersions a b c x y z
  have hc : cmpF a b c x y z = -P := by rw [← hQ, h1]
  rw [hc] at hq
  rw [h1] at hz
  have hz2 : (P = 0) = (a = x ∧ b = y ∧ c = z) := propext (by rw [← hz]; omega)
  simp [← hP, hw, hc]
  refine call_p hq (by simp) ?_
  simp [hz2]
  refine call_p (q_formatVersion a b c) (by simp) ?_
  simp
  refine call_p (p_versionFault a b c) (by simp) ?_
  by_cases hv : versionFault a b c = 0
  · have hf : fmtV a b c = verS a b c := if_pos hv
    have hs := verS_size hv
    have hpv := q_parseVersion (verS a b c) (by omega)
    rw [parseV_verS hv] at hpv
    simp [hv, hf]
    refine call_p hpv (by simp) ?_
    simp [pvC, pvA, pvB, pvD, verS_ne]
  · have hf : fmtV a b c = ⟨#[]⟩ := if_neg hv
    simp [hv, hf]

end Go.Proofs.YtokhnmchnfkiiaaDoor.Am
