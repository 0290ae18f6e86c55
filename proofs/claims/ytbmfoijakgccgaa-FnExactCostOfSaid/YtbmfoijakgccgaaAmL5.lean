/- The law about costs: what is to be shown of the row's function. No conditions. -/
import Derived.Test.YtbmfoijakgccgaaAmL3
namespace Go.Proofs.Ytbmfoijakgccgaa.Am
open Go Go.RowKit Go.Proofs
set_option linter.unusedSimpArgs false
set_option linter.unusedVariables false

def costF (c : List Pk) (f : List Int) : List Int → Int → Int
  | [], n => n
  | k :: t, n => costF c f t (if memI k f = true then n else IntKind.i64.wrap (n + (pkAt c k).s))
noncomputable def costA (c : List Pk) (f t : List Int) : Int × Int := if deltaF c f t ≠ 0 then (deltaF c f t, 0) else (0, costF c f t 0)

theorem p_cost (a b k k' : Bool) (c : List Pk) (hc : c.length ≤ 4611686018427387904) (hb : ∀ p ∈ c, p.Len) (f t : List Int) (hf : f.length ≤ 4611686018427387904) (ht : t.length ≤ 4611686018427387904) :
    Pure Try.prog 60 [pksAV a b c, intsAV k f, intsAV k' t] (intRes (costA c f t).1 (costA c f t).2) := by
  refine pure_of_code (G := (G0)) vers0 mixed0 Try.func60 rfl (by decide) (by simp [Try.f60]) (by simp) fun ver => ?_
  simp only [Try.f60, G0]
  simp
  refine call_p (p_asked a b k k' c hc hb f t hf ht) (by simp) ?_
  by_cases h : deltaF c f t = 0
  · have e : costA c f t = (0, costF c f t 0) := by rw [costA, if_neg (by simp [h])]
    rw [e]
    have hp := (setF_ok (deltaF_ok h).2).2.places
    simp [h]
    refine aloop (α := Nat × Int) (fun d => ⟨envOf [(0, pksAV a b c), (1, intsAV k f), (2, intsAV k' t), (6, .box 0 0), (8, .v (.int .i64 d.2)), (9, .v (.int .i64 d.1))], ⟨[[.v (.int .i64 0), .v (.int .i64 0)]], noArrs ver⟩⟩)
      (fun d => d.1 ≤ t.length ∧ costF c f (t.drop d.1) d.2 = costF c f t 0) (fun d => t.length - d.1) (0, 0) (less_envOf (by simp) rfl fun _ => rfl) (by simp) ?_
    rintro ⟨i, n⟩ ⟨hk, hm⟩
    simp only at hk hm ⊢
    by_cases hlt : i < t.length
    · have hw := wrapS hlt ht
      rw [drop_get hlt, costF] at hm
      obtain ⟨q1, q2⟩ := hp _ (List.getElem_mem hlt)
      have hg := pkAt_get q2
      simp [hlt]
      refine call_p (p_has k f hf _) (by simp) ?_
      cases h2 : memI t[i] f with
      | true =>
        simp
        exact ⟨i + 1, n, less_envOf (by simp [hw]) rfl fun _ => rfl, ⟨by omega, by simpa [h2] using hm⟩, by omega⟩
      | false =>
        simp [hlt, q1, hg]
        exact ⟨i + 1, _, less_envOf (by simp [hw]; rfl) rfl fun _ => rfl, ⟨by omega, by simpa [h2] using hm⟩, by omega⟩
    · rw [List.drop_eq_nil_of_le (by omega), costF] at hm
      simp [hlt, hm]
  · have e : costA c f t = (deltaF c f t, 0) := by rw [costA, if_pos h]
    rw [e]
    simp [h]

theorem q_cost (a b k k' : Bool) (c : List Pk) (hc : c.length ≤ 4611686018427387904) (hb : ∀ p ∈ c, p.Len) (f t : List Int) (hf : f.length ≤ 4611686018427387904) (ht : t.length ≤ 4611686018427387904) :
    Pure Try.prog 61 [pksAV a b c, intsAV k f, intsAV k' t] (intRes (costA c f t).1 (costA c f t).2) := by
  refine pure_of_code (G := (G0)) vers0 mixed0 Try.func61 rfl (by decide) (by simp [Try.f61]) (by simp) fun ver => ?_
  simp only [Try.f61, G0]
  simp
  refine call_p (q_delta a b k k' c hc hb f t hf ht) (by simp) ?_
  by_cases h : deltaF c f t = 0
  · have e : costA c f t = (0, costF c f t 0) := by rw [costA, if_neg (by simp [h])]
    rw [e]
    have hp := (setF_ok (deltaF_ok h).2).2.places
    simp [h]
    refine aloop (α := Nat × Int) (fun d => ⟨envOf [(0, pksAV a b c), (1, intsAV k f), (6, .box 0 0), (8, .v (.int .i64 d.2)), (19, intsAV k' t), (20, .v (.int .i64 t.length)), (21, .v (.int .i64 d.1))], ⟨[[.v (.int .i64 0), .v (.int .i64 0)]], noArrs ver⟩⟩)
      (fun d => d.1 ≤ t.length ∧ costF c f (t.drop d.1) d.2 = costF c f t 0) (fun d => t.length - d.1) (0, 0) (less_envOf (by simp) rfl fun _ => rfl) (by simp) ?_
    rintro ⟨i, n⟩ ⟨hk, hm⟩
    simp only at hk hm ⊢
    by_cases hlt : i < t.length
    · have hw := wrapS hlt ht
      rw [drop_get hlt, costF] at hm
      obtain ⟨q1, q2⟩ := hp _ (List.getElem_mem hlt)
      have hg := pkAt_get q2
      simp [hlt]
      refine call_p (q_containsI k f hf _) (by simp) ?_
      cases h2 : memI t[i] f with
      | true =>
        simp
        exact ⟨i + 1, n, less_envOf (by simp [hw]) rfl fun _ => rfl, ⟨by omega, by simpa [h2] using hm⟩, by omega⟩
      | false =>
        simp [hlt, q1, hg]
        exact ⟨i + 1, _, less_envOf (by simp [hw]; rfl) rfl fun _ => rfl, ⟨by omega, by simpa [h2] using hm⟩, by omega⟩
    · rw [List.drop_eq_nil_of_le (by omega), costF] at hm
      simp [hlt, hm]
  · have e : costA c f t = (deltaF c f t, 0) := by rw [costA, if_pos h]
    rw [e]
    simp [h]

set_option maxHeartbeats 4000000 in
set_option maxRecDepth 10000 in
theorem l_cost (l : List Pk) (hp : BigP l) (f : List Int) (hf : BigI f) (t : List Int) (ht : BigI t) : Pure Try.prog 13 [pksAV true true l, intsAV true f, intsAV true t] (.v (.bool true)) := by
  obtain ⟨h1, h2⟩ := hp.len
  have h3 : f.length ≤ 4611686018427387904 := by unfold BigI at hf; omega
  have h4 : t.length ≤ 4611686018427387904 := by unfold BigI at ht; omega
  refine pure_of_code (G := G0) vers0 mixed0 Try.func13 rfl (by decide) (by simp [Try.f13]) (by simp) fun ver => ?_
  simp only [Try.f13, G0]
  repeat' first
    | with_reducible refine And.intro ?_ ?_
    | with_reducible intro _
    | (first | with_reducible refine adraw_f 2 (by decide +kernel) ?_ | with_reducible refine adraw_f 3 (by decide +kernel) ?_ | with_reducible refine adraw_f 4 (by decide +kernel) ?_ | with_reducible refine adraw_f 5 (by decide +kernel) ?_ | with_reducible refine adraw_f 6 (by decide +kernel) ?_ | with_reducible refine adraw_f 7 (by decide +kernel) ?_ | with_reducible refine adraw_f 8 (by decide +kernel) ?_ | with_reducible refine adraw_f 9 (by decide +kernel) ?_ | with_reducible refine adraw_f 10 (by decide +kernel) ?_ | with_reducible refine adraw_f 11 (by decide +kernel) ?_ | with_reducible refine adraw_cut 0 (by decide +kernel) ?_ | with_reducible refine adraw_cut 1 (by decide +kernel) ?_ | with_reducible refine adraw_cut 2 (by decide +kernel) ?_ | with_reducible refine adraw_cut 3 (by decide +kernel) ?_ | with_reducible refine adraw_cut 4 (by decide +kernel) ?_ | with_reducible refine adraw_cut 5 (by decide +kernel) ?_ | with_reducible refine adraw_cut 6 (by decide +kernel) ?_ | with_reducible refine adraw_cut 7 (by decide +kernel) ?_ | with_reducible refine adraw_cut 8 (by decide +kernel) ?_ | with_reducible refine adraw_cut 9 (by decide +kernel) ?_ | with_reducible refine adraw_all (by kernel_rfl) ?_)
    | with_reducible refine call_p (z_pks true l hp _) (by simp) ?_
    | with_reducible refine call_f (z_pks true l hp _) (by simp) ?_
    | with_reducible refine call_p (t_pks true l hp) (by simp) ?_
    | with_reducible refine call_f (t_pks true l hp) (by simp) ?_
    | with_reducible refine call_p (t_ints true f hf) (by simp) ?_
    | with_reducible refine call_f (t_ints true f hf) (by simp) ?_
    | with_reducible refine call_p (t_ints true t ht) (by simp) ?_
    | with_reducible refine call_f (t_ints true t ht) (by simp) ?_
    | with_reducible refine call_p (p_cost false false false false l h1 h2 f t h3 h4) (by simp) ?_
    | with_reducible refine call_f (p_cost false false false false l h1 h2 f t h3 h4) (by simp) ?_
    | with_reducible refine call_p (q_cost false false false false l h1 h2 f t h3 h4) (by simp) ?_
    | with_reducible refine call_f (q_cost false false false false l h1 h2 f t h3 h4) (by simp) ?_
    | with_reducible refine call_p (e_intRes _ _) (by simp) ?_
    | with_reducible refine call_f (e_intRes _ _) (by simp) ?_
    | with_reducible refine call_p (e_pks false false l h1 h2) (by simp) ?_
    | with_reducible refine call_f (e_pks false false l h1 h2) (by simp) ?_
    | with_reducible refine call_p (e_ints false false f h3) (by simp) ?_
    | with_reducible refine call_f (e_ints false false f h3) (by simp) ?_
    | with_reducible refine call_p (e_ints false false t h4) (by simp) ?_
    | with_reducible refine call_f (e_ints false false t h4) (by simp) ?_
    | simp (config := { contextual := true, maxSteps := 4000000 }) [*, -Int.not_le, -Int.not_lt]

end Go.Proofs.Ytbmfoijakgccgaa.Am
