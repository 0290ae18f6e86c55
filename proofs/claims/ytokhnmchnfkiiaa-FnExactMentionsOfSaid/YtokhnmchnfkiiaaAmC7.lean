/- Packages: their faults, as the program finds them. No conditions. -/
import Derived.Test.YtokhnmchnfkiiaaAmC6
namespace Go.Proofs.Ytokhnmchnfkiiaa.Am
open Go Go.RowKit Go.Proofs
set_option linter.unusedSimpArgs false
set_option linter.unusedVariables false

theorem orF_two (a b : Int) : orF [a, b] = if a ≠ 0 then a else b := by
  simp only [orF]
  split
  · rfl
  · split
    · rfl
    · rename_i h; simp only [ne_eq, Decidable.not_not] at h; exact h.symm
theorem packF_or {p : Pk} (h : ¬ orF [nameFault p.n, versionFault p.v.a p.v.b p.v.c] = 0) : packF p = orF [nameFault p.n, versionFault p.v.a p.v.b p.v.c] := by
  rw [orF_two] at h ⊢
  unfold packF verF
  split
  · rfl
  · rename_i h1
    rw [if_neg h1] at h
    rw [if_pos h]

set_option maxHeartbeats 4000000 in
set_option maxRecDepth 10000 in
theorem q_pack (d : Bool) (p : Pk) (hp : p.Len) : Pure Try.prog 54 [p.av d] (.v (.int .i64 (packF p))) := by
  obtain ⟨b1, b2, b3, b4⟩ := hp
  refine pure_of_code (G := (G0)) vers0 mixed0 Try.func54 rfl (by decide) (by simp [Try.f54]) (by simp) fun ver => ?_
  simp only [Try.f54, G0]
  simp (config := { maxSteps := 4000000 })
  refine adraw_all (by kernel_rfl) ?_
  simp
  refine call_p (q_nameFault _) (by simp) ?_
  simp
  refine call_p (q_versionFault _ _ _) (by simp) ?_
  simp [sealRows, sealCells, List.range_succ]
  refine call_p (q_first false [nameFault p.n, versionFault p.v.a p.v.b p.v.c] (by simp)) (by simp) ?_
  simp (config := { contextual := true, maxSteps := 4000000 }) [-Int.not_lt, -Int.not_le]
  refine And.intro (fun h => ?_) (fun h0 => ?_)
  · exact (packF_or h).symm
  have h12 : nameFault p.n = 0 ∧ versionFault p.v.a p.v.b p.v.c = 0 := by
    rw [orF_two] at h0
    by_cases e : nameFault p.n = 0
    · rw [if_neg (by simp [e])] at h0; exact ⟨e, h0⟩
    · rw [if_pos e] at h0; exact (e h0).elim
  obtain ⟨h1, h2⟩ := h12
  refine call_p (p_within _ _ _) (by simp) ?_
  simp (config := { contextual := true, maxSteps := 4000000 }) [-Int.not_lt, -Int.not_le]
  refine And.intro (fun h => ?_) (fun h3 => ?_)
  · simp [packF, h1, verF, h2, h]
  obtain ⟨hM, hR⟩ := packRest h1 h2 (by simpa using h3)
  by_cases hb : p.pr.length ≤ 4 ∧ p.ne.length ≤ 4 ∧ p.ba.length ≤ 4
  · obtain ⟨c1, c2, c3⟩ := hb
    simp [show ¬ (4 : Int) < p.pr.length by omega, show ¬ (4 : Int) < p.ne.length by omega, show ¬ (4 : Int) < p.ba.length by omega]
    refine call_p (cp_cls d d p.ne b2 111 [] [] (fun q => decide (4 < q.length)) (fun _ => rfl) (fun _ => rfl) (by simp) (by simp) (fun a _ => q_many d a)) (by simp) ?_
    rw [any_many]
    simp (config := { contextual := true, maxSteps := 4000000 }) [-Int.not_lt, -Int.not_le]
    refine And.intro (fun h => ?_) (fun hmany => ?_)
    · exact (hM (.inr (.inr (.inr h)))).symm
    have hR := hR c1 c2 c3 hmany
    refine aloop (α := Nat) (fun k => ⟨envOf [(1, .box 0 0), (49, strsAV d p.pr), (50, .v (.int .i64 p.pr.length)), (51, .v (.int .i64 k))], ⟨[p.cells d], noArrs ver⟩⟩)
      (fun k => k ≤ p.pr.length ∧ prF p.n (p.pr.take k) (p.pr.drop k) = prF p.n [] p.pr) (fun k => p.pr.length - k) 0 (less_envOf (by simp) rfl fun _ => rfl) (by simp) ?_
    rintro k ⟨hk, hm⟩
    by_cases hlt : k < p.pr.length
    · have hw := wrapS hlt b1
      rw [prF_app hlt] at hm
      simp [hlt]
      refine call_p (q_nameFault _) (by simp) ?_
      simp (config := { contextual := true, maxSteps := 4000000 }) [-Int.not_lt, -Int.not_le]
      refine And.intro (fun h => ?_) (fun h => ?_)
      · have e : prF p.n [] p.pr = nameFault p.pr[k] := by rw [← hm, if_pos h]
        rw [hR, if_pos (by rw [e]; exact h), e]
      rw [if_neg (by simp [h])] at hm
      by_cases hn : p.pr[k] = p.n
      · have e : prF p.n [] p.pr = 6 := by rw [← hm, if_pos (.inl hn)]
        simp [hlt, hn]
        rw [hR, if_pos (by rw [e]; decide), e]
      · simp [hlt, hn, show (k : Int) ≤ p.pr.length by omega, Nat.le_of_lt hlt]
        simp only [← List.map_take]
        refine call_p (q_contains d (p.pr.take k) (by simp; omega) _) (by simp [-List.map_take]) ?_
        cases hh : memB p.pr[k] (p.pr.take k) with
        | true =>
          have e : prF p.n [] p.pr = 6 := by rw [← hm, if_pos (.inr hh)]
          simp
          rw [hR, if_pos (by rw [e]; decide), e]
        | false =>
          simp
          refine ⟨k + 1, less_envOf (by simp [hw]) rfl fun _ => rfl, ⟨by omega, by rw [← hm, if_neg (by simp [hn, hh])]⟩, by omega⟩
    rw [List.drop_eq_nil_of_le (by omega)] at hm
    rw [← hm, prF] at hR
    simp at hR
    simp [hlt]
    refine aloop (α := Nat) (fun k => ⟨envOf [(1, .box 0 0), (75, clausesAV d p.ne), (76, .v (.int .i64 p.ne.length)), (77, .v (.int .i64 k))], ⟨[p.cells d], noArrs ver⟩⟩)
      (fun k => k ≤ p.ne.length ∧ clsF (p.ne.drop k) = clsF p.ne) (fun k => p.ne.length - k) 0 (less_envOf (by simp) rfl fun _ => rfl) (by simp) ?_
    rintro k ⟨hk, hm⟩
    by_cases hlt : k < p.ne.length
    · have hw := wrapS hlt b2
      rw [drop_get hlt, clsF] at hm
      have hmem : p.ne[k] ∈ p.ne := List.getElem_mem hlt
      by_cases hz : (p.ne[k]).length = 0
      · rw [if_pos hz] at hm
        have hz2 : p.ne[k] = [] := List.length_eq_zero_iff.1 hz
        simp [hlt, hz2]
        rw [hR, ← hm]
        rfl
      · rw [if_neg hz] at hm
        have hz2 : ¬ p.ne[k] = [] := fun e => hz (by rw [e]; rfl)
        simp [hlt, hz2]
        refine call_p (q_trms d p.ne[k] (b3 _ hmem)) (by simp) ?_
        simp (config := { contextual := true, maxSteps := 4000000 }) [-Int.not_lt, -Int.not_le]
        refine And.intro (fun h => ?_) (fun h => ?_)
        · rw [if_pos h] at hm
          rw [hR, ← hm, if_neg h]
        · refine ⟨k + 1, less_envOf (by simp [hw]) rfl fun _ => rfl, ⟨by omega, by simpa [h] using hm⟩, by omega⟩
    rw [List.drop_eq_nil_of_le (by omega), clsF] at hm
    simp [hlt]
    refine call_p (q_trms d p.ba b4) (by simp) ?_
    simp [hR, ← hm]
  · have e2 := hM (by omega)
    have hq := fun hh1 hh2 => cp_cls d d p.ne b2 111 [] [] (fun q => decide (4 < q.length)) hh1 hh2 (by simp) (by simp) (fun a _ => q_many d a)
    repeat' first
      | with_reducible refine And.intro ?_ ?_
      | with_reducible intro _
    all_goals first
      | exact e2.symm
      | (exfalso; omega)

end Go.Proofs.Ytokhnmchnfkiiaa.Am
