/- Packages: their faults, as the reference and the program find them; catalogs. No conditions. -/
import Derived.Test.YtokhnmchnfkiiaaAmC5
namespace Go.Proofs.Ytokhnmchnfkiiaa.Am
open Go Go.RowKit Go.Proofs
set_option linter.unusedSimpArgs false
set_option linter.unusedVariables false

/-- The bounds that a right package keeps. -/
@[reducible] def Pk.Ok (p : Pk) : Prop := p.pr.length ≤ 4 ∧ p.ne.length ≤ 4 ∧ p.ba.length ≤ 4 ∧ ∀ q ∈ p.ne, q.length ≤ 4
theorem manyC_ok : ∀ {l : List (List Trm)}, manyC l = false → ∀ q ∈ l, q.length ≤ 4
  | [], _, q, h => by cases h
  | c :: l, h, q, hq => by
    simp only [manyC, Bool.or_eq_false_iff, decide_eq_false_iff_not] at h
    rcases List.mem_cons.1 hq with rfl | hq
    · omega
    · exact manyC_ok h.2 q hq
theorem packF_ok {p : Pk} (h : packF p = 0) : p.Ok := by
  unfold packF at h
  split at h
  · rename_i h1; exact (h1 h).elim
  split at h
  · rename_i h1; exact (h1 h).elim
  split at h
  · cases h
  split at h
  · cases h
  split at h
  · cases h
  rename_i h1 h2
  have h3 : manyC p.ne = false := by simpa using h2
  exact ⟨by omega, by omega, by omega, manyC_ok h3⟩

theorem q_many (c : Bool) (l : List Trm) : Pure Try.prog 111 [trmsAV c l] (.v (.bool (decide (4 < l.length)))) := by
  refine pure_of_code (G := (G0)) vers0 mixed0 Try.func111 rfl (by decide) (by simp [Try.f111]) (by simp) fun ver => ?_
  simp only [Try.f111, G0]
  simp
  omega

theorem any_many (l : List (List Trm)) : (l.any fun q => decide (4 < q.length)) = manyC l := by
  induction l with
  | nil => rfl
  | cons a l ih => simp [manyC, ih]

theorem prF_app {n : ByteArray} {l : List ByteArray} {k : Nat} (h : k < l.length) : prF n (l.take k) (l.drop k) = if nameFault l[k] ≠ 0 then nameFault l[k] else if l[k] = n ∨ memB l[k] (l.take k) = true then 6 else prF n (l.take (k + 1)) (l.drop (k + 1)) := by
  rw [drop_get h, prF, List.take_add_one, List.getElem?_eq_getElem h]
  rfl

/-- What is known of a package's fault behind the first tests. -/
structure PackRest (p : Pk) : Prop where
  many : 4 < p.pr.length ∨ 4 < p.ne.length ∨ 4 < p.ba.length ∨ manyC p.ne = true → packF p = 2
  rest : p.pr.length ≤ 4 → p.ne.length ≤ 4 → p.ba.length ≤ 4 → manyC p.ne = false → packF p = if prF p.n [] p.pr ≠ 0 then prF p.n [] p.pr else if clsF p.ne ≠ 0 then clsF p.ne else trmsF p.ba
theorem packRest {p : Pk} (h1 : nameFault p.n = 0) (h2 : versionFault p.v.a p.v.b p.v.c = 0) (h3 : inF p.s 1 200 = true) : PackRest p := by
  refine ⟨fun h => ?_, fun a b c h => ?_⟩
  · unfold packF verF
    rw [if_neg (by simp [h1]), if_neg (by simp [h2]), if_neg (by simp [h3])]
    by_cases h4 : 4 < p.pr.length ∨ 4 < p.ne.length ∨ 4 < p.ba.length
    · rw [if_pos h4]
    · rw [if_neg h4, if_pos]
      rcases h with h | h | h | h
      · exact (h4 (.inl h)).elim
      · exact (h4 (.inr (.inl h))).elim
      · exact (h4 (.inr (.inr h))).elim
      · exact h
  · unfold packF verF
    rw [if_neg (by simp [h1]), if_neg (by simp [h2]), if_neg (by simp [h3]), if_neg (by omega), if_neg (by simp [h])]

set_option maxHeartbeats 4000000 in
set_option maxRecDepth 10000 in
theorem p_pack (d : Bool) (p : Pk) (hp : p.Len) : Pure Try.prog 59 [p.av d] (.v (.int .i64 (packF p))) := by
  obtain ⟨b1, b2, b3, b4⟩ := hp
  refine pure_of_code (G := (G0)) vers0 mixed0 Try.func59 rfl (by decide) (by simp [Try.f59]) (by simp) fun ver => ?_
  simp only [Try.f59, G0]
  simp (config := { maxSteps := 4000000 })
  refine call_p (p_nameFault _) (by simp) ?_
  simp (config := { contextual := true, maxSteps := 4000000 }) [-Int.not_lt, -Int.not_le]
  refine And.intro (fun h => ?_) (fun h1 => ?_)
  · simp [packF, h]
  refine call_p (p_versionFault _ _ _) (by simp) ?_
  simp (config := { contextual := true, maxSteps := 4000000 }) [-Int.not_lt, -Int.not_le]
  refine And.intro (fun h => ?_) (fun h2 => ?_)
  · simp [packF, h1, verF, h]
  refine call_p (p_in _ _ _) (by simp) ?_
  simp (config := { contextual := true, maxSteps := 4000000 }) [-Int.not_lt, -Int.not_le]
  refine And.intro (fun h => ?_) (fun h3 => ?_)
  · simp [packF, h1, verF, h2, h]
  obtain ⟨hM, hR⟩ := packRest h1 h2 (by simpa using h3)
  by_cases hb : p.pr.length ≤ 4 ∧ p.ne.length ≤ 4 ∧ p.ba.length ≤ 4
  · obtain ⟨c1, c2, c3⟩ := hb
    simp [show ¬ (4 : Int) < p.pr.length by omega, show ¬ (4 : Int) < p.ne.length by omega, show ¬ (4 : Int) < p.ba.length by omega]
    refine aloop (α := Nat) (fun k => ⟨envOf [(1, .box 0 0), (5, .v (.int .i64 k))], ⟨[p.cells d], noArrs ver⟩⟩)
      (fun k => k ≤ p.ne.length ∧ manyC (p.ne.drop k) = manyC p.ne) (fun k => p.ne.length - k) 0 (less_envOf (by simp) rfl fun _ => rfl) (by simp) ?_
    rintro k ⟨hk, hm⟩
    by_cases hlt : k < p.ne.length
    · have hw := wrapS hlt b2
      rw [drop_get hlt, manyC] at hm
      simp (config := { contextual := true, maxSteps := 4000000 }) [hlt, -Int.not_lt, -Int.not_le]
      refine And.intro (fun h => ?_) (fun h => ?_)
      · exact (hM (.inr (.inr (.inr (by rw [← hm]; simp [show 4 < (p.ne[k]).length by omega]))))).symm
      · refine ⟨k + 1, less_envOf (by simp [hw]) rfl fun _ => rfl, ⟨by omega, by simpa [show ¬ 4 < (p.ne[k]).length by omega] using hm⟩, by omega⟩
    rw [List.drop_eq_nil_of_le (by omega)] at hm
    have hR := hR c1 c2 c3 hm.symm
    simp [hlt]
    refine aloop (α := Nat) (fun k => ⟨envOf [(1, .box 0 0), (6, .v (.int .i64 k))], ⟨[p.cells d], noArrs ver⟩⟩)
      (fun k => k ≤ p.pr.length ∧ prF p.n (p.pr.take k) (p.pr.drop k) = prF p.n [] p.pr) (fun k => p.pr.length - k) 0 (less_envOf (by simp) rfl fun _ => rfl) (by simp) ?_
    rintro k ⟨hk, hm⟩
    by_cases hlt : k < p.pr.length
    · have hw := wrapS hlt b1
      rw [prF_app hlt] at hm
      simp [hlt]
      refine call_p (p_nameFault _) (by simp) ?_
      simp (config := { contextual := true, maxSteps := 4000000 }) [-Int.not_lt, -Int.not_le]
      refine And.intro (fun h => ?_) (fun h => ?_)
      · have e : prF p.n [] p.pr = nameFault p.pr[k] := by rw [← hm, if_pos h]
        rw [hR, if_pos (by rw [e]; exact h), e]
      rw [if_neg (by simp [h])] at hm
      refine adraw_all (by kernel_rfl) ?_
      by_cases hn : p.pr[k] = p.n
      · have e : prF p.n [] p.pr = 6 := by rw [← hm, if_pos (.inl hn)]
        simp [hlt, hn]
        rw [hR, if_pos (by rw [e]; decide), e]
      · simp [hlt, hn, show (k : Int) ≤ p.pr.length by omega, Nat.le_of_lt hlt]
        simp only [← List.map_take]
        refine call_p (p_holds d (p.pr.take k) (by simp; omega) _) (by simp [-List.map_take]) ?_
        cases hh : memB p.pr[k] (p.pr.take k) with
        | true =>
          have e : prF p.n [] p.pr = 6 := by rw [← hm, if_pos (.inr hh)]
          simp
          rw [hR, if_pos (by rw [e]; decide), e]
        | false =>
          simp
          refine ⟨k + 1, less_envOf (by simp [hw]) rfl fun _ => rfl, ⟨by omega, by rw [← hm, if_neg (by simp [hn, hh])]⟩, by omega⟩
    rw [List.drop_eq_nil_of_le (by omega)] at hm
    rw [← hm, prF] at hR
    simp at hR
    simp [hlt]
    refine aloop (α := Nat) (fun k => ⟨envOf [(1, .box 0 0), (8, .v (.int .i64 k))], ⟨[p.cells d], noArrs ver⟩⟩)
      (fun k => k ≤ p.ne.length ∧ clsF (p.ne.drop k) = clsF p.ne) (fun k => p.ne.length - k) 0 (less_envOf (by simp) rfl fun _ => rfl) (by simp) ?_
    rintro k ⟨hk, hm⟩
    by_cases hlt : k < p.ne.length
    · have hw := wrapS hlt b2
      rw [drop_get hlt, clsF] at hm
      have hmem : p.ne[k] ∈ p.ne := List.getElem_mem hlt
      by_cases hz : (p.ne[k]).length = 0
      · rw [if_pos hz] at hm
        have hz2 : p.ne[k] = [] := List.length_eq_zero_iff.1 hz
        simp [hlt, hz2]
        rw [hR, ← hm]
        rfl
      · rw [if_neg hz] at hm
        have hz2 : ¬ p.ne[k] = [] := fun e => hz (by rw [e]; rfl)
        simp [hlt, hz2]
        refine call_p (p_trms d p.ne[k] (b3 _ hmem)) (by simp) ?_
        simp (config := { contextual := true, maxSteps := 4000000 }) [-Int.not_lt, -Int.not_le]
        refine And.intro (fun h => ?_) (fun h => ?_)
        · rw [if_pos h] at hm
          rw [hR, ← hm, if_neg h]
        · refine ⟨k + 1, less_envOf (by simp [hw]) rfl fun _ => rfl, ⟨by omega, by simpa [h] using hm⟩, by omega⟩
    rw [List.drop_eq_nil_of_le (by omega), clsF] at hm
    simp [hlt]
    refine call_p (p_trms d p.ba b4) (by simp) ?_
    simp [hR, ← hm]
  · have e2 := hM (by omega)
    repeat' first
      | with_reducible refine And.intro ?_ ?_
      | with_reducible intro _
    all_goals first
      | exact e2.symm
      | (exfalso; omega)

end Go.Proofs.Ytokhnmchnfkiiaa.Am
