/- Sets: their faults; what the packages of a set give. No conditions. -/
import Derived.Test.YtokhnmchnfkiiaaAmC8
namespace Go.Proofs.Ytokhnmchnfkiiaa.Am
open Go Go.RowKit Go.Proofs
set_option linter.unusedSimpArgs false
set_option linter.unusedVariables false

/-- The places rise, and are places of a catalog of n packages. -/
def SetOK (n : Nat) (s : List Int) : Prop := ∀ i, i < s.length → inF (s.getD i 0) 0 (n - 1) = true ∧ (0 < i → s.getD (i - 1) 0 < s.getD i 0)
open Classical in
noncomputable def setB (n : Nat) (s : List Int) : Bool := decide (SetOK n s)
theorem setB_true {n : Nat} {s : List Int} (h : SetOK n s) : setB n s = true := by simp [setB, h]
theorem setB_false {n : Nat} {s : List Int} (h : ¬ SetOK n s) : setB n s = false := by simp [setB, h]
noncomputable def setF (c : List Pk) (s : List Int) : Int := if catF c ≠ 0 then catF c else if setB c.length s = true then 0 else 1

theorem wrapP {k n : Nat} (h0 : 0 < k) (h : k < n) (hn : n ≤ 4611686018427387904) : IntKind.i64.wrap ((k : Int) - 1) = ((k - 1 : Nat) : Int) := by rw [IntWalk.i64_in _ (by omega)]; omega
theorem wrapL {n : Nat} (hn : n ≤ 4611686018427387904) : IntKind.i64.wrap ((n : Int) - 1) = (n : Int) - 1 := by rw [IntWalk.i64_in _ (by omega)]
theorem getD_at {l : List Int} {k : Nat} (h : k < l.length) : l.getD k 0 = l[k] := by simp [h]

theorem q_place (a b : Bool) (c : List Pk) (hc : c.length ≤ 4611686018427387904) (n : Int) : BCall Try.prog 118 [.v (.int .i64 n), .box 0 0] [[pksAV a b c]] (.v (.bool (!inF n 0 (c.length - 1)))) := by
  have hwl := wrapL hc
  refine bcode Try.func118 rfl (by decide) (by simp [Try.f118]) (by simp) fun ver => ?_
  simp only [Try.f118, Gb]
  simp [hwl]
  refine call_p (p_within _ _ _) (by simp) ?_
  simp

theorem q_places (a b k : Bool) (c : List Pk) (hc : c.length ≤ 4611686018427387904) (s : List Int) (hs : s.length ≤ 4611686018427387904) : Pure Try.prog 78 [pksAV a b c, intsAV k s] (.v (.bool (!s.any fun n => !inF n 0 (c.length - 1)))) := by
  refine pure_of_code (G := (G0)) vers0 mixed0 Try.func78 rfl (by decide) (by simp [Try.f78]) (by simp) fun ver => ?_
  simp only [Try.f78, G0]
  simp
  refine call_b (cb_ints k s hs 118 [] [.box 0 0] [[pksAV a b c]] (fun n => !inF n 0 (c.length - 1)) (fun _ => rfl) (fun _ => rfl) (fun _ => rfl) fun n _ => q_place a b c hc n) rfl ?_
  simp

theorem p_places (a b k : Bool) (c : List Pk) (hc : c.length ≤ 4611686018427387904) (s : List Int) (hs : s.length ≤ 4611686018427387904) : Pure Try.prog 74 [pksAV a b c, intsAV k s] (.v (.bool (!s.any fun n => !inF n 0 (c.length - 1)))) := by
  have hwl := wrapL hc
  refine pure_of_code (G := (G0)) vers0 mixed0 Try.func74 rfl (by decide) (by simp [Try.f74]) (by simp) fun ver => ?_
  simp only [Try.f74, G0]
  simp only [zipEnv]
  simp
  refine aloop (α := Nat) (fun i => ⟨envOf [(0, pksAV a b c), (1, intsAV k s), (5, .v (.int .i64 i))], ⟨[], noArrs ver⟩⟩)
    (fun i => i ≤ s.length ∧ ((s.drop i).any fun n => !inF n 0 (c.length - 1)) = s.any fun n => !inF n 0 (c.length - 1)) (fun i => s.length - i) 0 (less_envOf (by simp) rfl fun _ => rfl) (by simp) ?_
  rintro i ⟨hk, hm⟩
  by_cases hlt : i < s.length
  · have hw := wrapS hlt hs
    rw [drop_get hlt, List.any_cons] at hm
    simp [hlt, hwl]
    refine call_p (p_in _ _ _) (by simp) ?_
    cases h1 : inF s[i] 0 (c.length - 1) with
    | false =>
      rw [h1] at hm
      rw [← hm]
      simp
    | true =>
      rw [h1] at hm
      simp
      exact ⟨i + 1, less_envOf (by simp [hw]) rfl fun _ => rfl, ⟨by omega, by simpa using hm⟩, by omega⟩
  · rw [List.drop_eq_nil_of_le (by omega)] at hm
    rw [← hm]
    simp [hlt]

end Go.Proofs.Ytokhnmchnfkiiaa.Am
