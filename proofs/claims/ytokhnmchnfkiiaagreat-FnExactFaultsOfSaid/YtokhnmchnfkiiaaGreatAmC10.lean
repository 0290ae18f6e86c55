/- Sets: their faults; what the packages of a set give. No conditions. -/
import Derived.Test.YtokhnmchnfkiiaaGreatAmC8
namespace Go.Proofs.YtokhnmchnfkiiaaGreat.Am
open Go Go.RowKit Go.Proofs
set_option linter.unusedSimpArgs false
set_option linter.unusedVariables false

/-- The places rise, and are places of a catalog of n packages. -/
def SetOK (n : Nat) (s : List Int) : Prop := ∀ i, i < s.length → inF (s.getD i 0) 0 (n - 1) = true ∧ (0 < i → s.getD (i - 1) 0 < s.getD i 0)
open Classical in
noncomputable def setB (n : Nat) (s : List Int) : Bool := decide (SetOK n s)
theorem setB_true {n : Nat} {s : List Int} (h : SetOK n s) : setB n s = true := by simp [setB, h]
theorem setB_false {n : Nat} {s : List Int} (h : ¬ SetOK n s) : setB n s = false := by simp [setB, h]
noncomputable def setF (c : List Pk) (s : List Int) : Int := if catF c ≠ 0 then catF c else if setB c.length s = true then 0 else 1

theorem wrapP {k n : Nat} (h0 : 0 < k) (h : k < n) (hn : n ≤ 4611686018427387904) : IntKind.i64.wrap ((k : Int) - 1) = ((k - 1 : Nat) : Int) := by rw [IntWalk.i64_in _ (by omega)]; omega
theorem wrapL {n : Nat} (hn : n ≤ 4611686018427387904) : IntKind.i64.wrap ((n : Int) - 1) = (n : Int) - 1 := by rw [IntWalk.i64_in _ (by omega)]
theorem getD_at {l : List Int} {k : Nat} (h : k < l.length) : l.getD k 0 = l[k] := by simp [h]

theorem p_set (a b k : Bool) (c : List Pk) (hc : c.length ≤ 4611686018427387904) (s : List Int) (hs : s.length ≤ 4611686018427387904) : Pure Tryz.prog 143 [pksAV a b c, intsAV k s] (.v (.bool (setB c.length s))) := by
  refine pure_of_code (G := (G0)) vers0 mixed0 Tryz.func143 rfl (by decide) (by simp [Tryz.f143]) (by simp) fun ver => ?_
  simp only [Tryz.f143, G0]
  simp
  refine aloop (α := Nat) (fun i => ⟨envOf [(0, pksAV a b c), (1, intsAV k s), (5, .v (.int .i64 i))], ⟨[], noArrs ver⟩⟩)
    (fun i => i ≤ s.length ∧ ∀ j, j < i → inF (s.getD j 0) 0 (c.length - 1) = true ∧ (0 < j → s.getD (j - 1) 0 < s.getD j 0)) (fun i => s.length - i) 0 (less_envOf (by simp) rfl fun _ => rfl) (by simp) ?_
  rintro i ⟨hk, hm⟩
  have hwl := wrapL hc
  by_cases hlt : i < s.length
  · have hw := wrapS hlt hs
    have next : inF (s.getD i 0) 0 (c.length - 1) = true → (0 < i → s.getD (i - 1) 0 < s.getD i 0) → ∀ j, j < i + 1 → inF (s.getD j 0) 0 (c.length - 1) = true ∧ (0 < j → s.getD (j - 1) 0 < s.getD j 0) := by
      intro h1 h2 j hj
      by_cases e : j = i
      · subst e; exact ⟨h1, h2⟩
      · exact hm j (by omega)
    rw [getD_at hlt] at next
    simp [hlt]
    refine adraw_all (by kernel_rfl) ?_
    simp [hlt, hwl]
    refine call_p (p_in _ _ _) (by simp) ?_
    cases h1 : inF s[i] 0 (c.length - 1) with
    | false =>
      simp
      exact setB_false fun h => by have := (h i hlt).1; rw [getD_at hlt, h1] at this; cases this
    | true =>
      by_cases h0 : 0 < i
      · have hw1 := wrapP h0 hlt hs
        have hlt1 : i - 1 < s.length := by omega
        have hg := getD_at hlt1
        rw [hg] at next
        simp [h0, hlt, hw1, hlt1, -Int.not_lt, -Int.not_le]
        by_cases h2 : s[i] ≤ s[i - 1]
        · simp [h2]
          exact setB_false fun h => by have := (h i hlt).2 h0; rw [getD_at hlt, hg] at this; omega
        · simp [h2]
          exact ⟨i + 1, less_envOf (by simp [hw]) rfl fun _ => rfl, ⟨by omega, next h1 fun _ => by omega⟩, by omega⟩
      · have e0 : i = 0 := by omega
        simp [e0]
        subst e0
        exact ⟨1, less_envOf (by simpa using hw) rfl fun _ => rfl, ⟨by omega, next h1 fun h => by omega⟩, by omega⟩
  · simp [hlt]
    exact setB_true fun j hj => hm j (by omega)

theorem p_setFault (a b k : Bool) (c : List Pk) (hc : c.length ≤ 4611686018427387904) (hb : ∀ p ∈ c, p.Len) (s : List Int) (hs : s.length ≤ 4611686018427387904) : Pure Tryz.prog 83 [pksAV a b c, intsAV k s] (.v (.int .i64 (setF c s))) := by
  refine pure_of_code (G := (G0)) vers0 mixed0 Tryz.func83 rfl (by decide) (by simp [Tryz.f83]) (by simp) fun ver => ?_
  simp only [Tryz.f83, G0]
  simp
  refine call_p (p_cat a b c hc hb) (by simp) ?_
  simp (config := { contextual := true, maxSteps := 4000000 }) [-Int.not_lt, -Int.not_le]
  refine And.intro (fun h => ?_) (fun h1 => ?_)
  · simp [setF, h]
  refine call_p (p_set a b k c hc s hs) (by simp) ?_
  cases h2 : setB c.length s <;> simp [setF, h1, h2]

theorem q_place (a b : Bool) (c : List Pk) (hc : c.length ≤ 4611686018427387904) (n : Int) : BCall Tryz.prog 161 [.v (.int .i64 n), .box 0 0] [[pksAV a b c]] (.v (.bool (!inF n 0 (c.length - 1)))) := by
  have hwl := wrapL hc
  refine bcode Tryz.func161 rfl (by decide) (by simp [Tryz.f161]) (by simp) fun ver => ?_
  simp only [Tryz.f161, Gb]
  simp [hwl]
  refine call_p (p_within _ _ _) (by simp) ?_
  simp

theorem q_places (a b k : Bool) (c : List Pk) (hc : c.length ≤ 4611686018427387904) (s : List Int) (hs : s.length ≤ 4611686018427387904) : Pure Tryz.prog 97 [pksAV a b c, intsAV k s] (.v (.bool (!s.any fun n => !inF n 0 (c.length - 1)))) := by
  refine pure_of_code (G := (G0)) vers0 mixed0 Tryz.func97 rfl (by decide) (by simp [Tryz.f97]) (by simp) fun ver => ?_
  simp only [Tryz.f97, G0]
  simp
  refine call_b (cb_ints k s hs 161 [] [.box 0 0] [[pksAV a b c]] (fun n => !inF n 0 (c.length - 1)) (fun _ => rfl) (fun _ => rfl) (fun _ => rfl) fun n _ => q_place a b c hc n) rfl ?_
  simp

theorem p_places (a b k : Bool) (c : List Pk) (hc : c.length ≤ 4611686018427387904) (s : List Int) (hs : s.length ≤ 4611686018427387904) : Pure Tryz.prog 92 [pksAV a b c, intsAV k s] (.v (.bool (!s.any fun n => !inF n 0 (c.length - 1)))) := by
  have hwl := wrapL hc
  refine pure_of_code (G := (G0)) vers0 mixed0 Tryz.func92 rfl (by decide) (by simp [Tryz.f92]) (by simp) fun ver => ?_
  simp only [Tryz.f92, G0]
  simp only [zipEnv]
  simp
  refine aloop (α := Nat) (fun i => ⟨envOf [(0, pksAV a b c), (1, intsAV k s), (5, .v (.int .i64 i))], ⟨[], noArrs ver⟩⟩)
    (fun i => i ≤ s.length ∧ ((s.drop i).any fun n => !inF n 0 (c.length - 1)) = s.any fun n => !inF n 0 (c.length - 1)) (fun i => s.length - i) 0 (less_envOf (by simp) rfl fun _ => rfl) (by simp) ?_
  rintro i ⟨hk, hm⟩
  by_cases hlt : i < s.length
  · have hw := wrapS hlt hs
    rw [drop_get hlt, List.any_cons] at hm
    simp [hlt, hwl]
    refine call_p (p_in _ _ _) (by simp) ?_
    cases h1 : inF s[i] 0 (c.length - 1) with
    | false =>
      rw [h1] at hm
      rw [← hm]
      simp
    | true =>
      rw [h1] at hm
      simp
      exact ⟨i + 1, less_envOf (by simp [hw]) rfl fun _ => rfl, ⟨by omega, by simpa using hm⟩, by omega⟩
  · rw [List.drop_eq_nil_of_le (by omega)] at hm
    rw [← hm]
    simp [hlt]

theorem q_setFault (a b k : Bool) (c : List Pk) (hc : c.length ≤ 4611686018427387904) (hb : ∀ p ∈ c, p.Len) (s : List Int) (hs : s.length ≤ 4611686018427387904) : Pure Tryz.prog 85 [pksAV a b c, intsAV k s] (.v (.int .i64 (setF c s))) := by
  refine pure_of_code (G := (G0)) vers0 mixed0 Tryz.func85 rfl (by decide) (by simp [Tryz.f85]) (by simp) fun ver => ?_
  simp only [Tryz.f85, G0]
  simp
  refine call_p (q_cat a b c hc hb) (by simp) ?_
  simp (config := { contextual := true, maxSteps := 4000000 }) [-Int.not_lt, -Int.not_le]
  refine And.intro (fun h => ?_) (fun h1 => ?_)
  · simp [setF, h]
  refine aloop (α := Nat) (fun i => ⟨envOf [(0, pksAV a b c), (1, intsAV k s), (6, .v (.int .i64 i))], ⟨[], noArrs ver⟩⟩)
    (fun i => 1 ≤ i ∧ ∀ j, 0 < j → j < i → j < s.length → s.getD (j - 1) 0 < s.getD j 0) (fun i => s.length - i) 1 (less_envOf (by simp) rfl fun _ => rfl) ⟨Nat.le_refl _, fun j h1 h2 => by omega⟩ ?_
  rintro i ⟨hk, hm⟩
  by_cases hlt : i < s.length
  · have hw := wrapS hlt hs
    have hw1 := wrapP hk hlt hs
    have hlt1 : i - 1 < s.length := by omega
    simp [hlt]
    refine adraw_all (by kernel_rfl) ?_
    simp [hlt, hw1, hlt1, -Int.not_lt, -Int.not_le]
    refine And.intro (fun h => ?_) (fun h => ?_)
    · have : setB c.length s = false := setB_false fun hh => by have := (hh i hlt).2 hk; rw [getD_at hlt, getD_at hlt1] at this; omega
      simp [setF, h1, this]
    · refine ⟨i + 1, less_envOf (by simp [hw]) rfl fun _ => rfl, ⟨by omega, ?_⟩, by omega⟩
      intro j j1 j2 j3
      by_cases e : j = i
      · subst e; simp [hlt, hlt1]; omega
      · simpa using hm j j1 (by omega) j3
  · simp [hlt]
    refine call_p (q_places a b k c hc s hs) (by simp) ?_
    cases h2 : s.any fun n => !inF n 0 (c.length - 1) with
    | true =>
      have : setB c.length s = false := setB_false fun hh => by
        rw [List.any_eq_true] at h2
        obtain ⟨n, hn, h3⟩ := h2
        obtain ⟨j, hj, rfl⟩ := List.getElem_of_mem hn
        have h4 := (hh j hj).1
        rw [getD_at hj] at h4
        simp [h4] at h3
      simp [setF, h1, this]
    | false =>
      have : setB c.length s = true := setB_true fun j hj => by
        refine ⟨?_, fun h0 => hm j h0 (by omega) hj⟩
        rw [List.any_eq_false] at h2
        have := h2 _ (List.getElem_mem hj)
        rw [getD_at hj]
        simpa using this
      simp [setF, h1, this]

end Go.Proofs.YtokhnmchnfkiiaaGreat.Am
