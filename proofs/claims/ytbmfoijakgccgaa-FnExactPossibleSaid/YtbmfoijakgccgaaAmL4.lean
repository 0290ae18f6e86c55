/- The law about what is to be solved: what is to be shown of the row's function. No conditions. -/
import Derived.Test.YtbmfoijakgccgaaAmL3
namespace Go.Proofs.Ytbmfoijakgccgaa.Am
open Go Go.RowKit Go.Proofs
set_option linter.unusedSimpArgs false
set_option linter.unusedVariables false

noncomputable def solveF (c : List Pk) (t : List Trm) (s : List Int) (b : Int) : Int := if setF c s ≠ 0 then setF c s else if 8 < t.length then 2 else if inF b 0 1000 = false then 3 else trmsF t

theorem p_solveFault (a b k k' : Bool) (c : List Pk) (hc : c.length ≤ 4611686018427387904) (hb : ∀ p ∈ c, p.Len) (t : List Trm) (ht : t.length ≤ 4611686018427387904) (s : List Int) (hs : s.length ≤ 4611686018427387904) (n : Int) :
    Pure Try.prog 54 [pksAV a b c, trmsAV k t, intsAV k' s, .v (.int .i64 n)] (.v (.int .i64 (solveF c t s n))) := by
  refine pure_of_code (G := (G0)) vers0 mixed0 Try.func54 rfl (by decide) (by simp [Try.f54]) (by simp) fun ver => ?_
  simp only [Try.f54, G0]
  simp
  refine call_p (p_setFault a b k' c hc hb s hs) (by simp) ?_
  simp (config := { contextual := true, maxSteps := 4000000 }) [-Int.not_lt, -Int.not_le]
  refine And.intro (fun h => ?_) (fun h1 => ?_)
  · simp [solveF, h]
  by_cases h8 : 8 < t.length
  · simp [show (8 : Int) < t.length by omega, solveF, h1, h8]
  · simp [show ¬ (8 : Int) < t.length by omega]
    refine call_p (p_in _ _ _) (by simp) ?_
    cases h2 : inF n 0 1000 with
    | false => simp [solveF, h1, h8, h2]
    | true =>
      simp
      refine call_p (p_trms k t ht) (by simp) ?_
      simp [solveF, h1, h8, h2]

theorem q_solveFault (a b k k' : Bool) (c : List Pk) (hc : c.length ≤ 4611686018427387904) (hb : ∀ p ∈ c, p.Len) (t : List Trm) (ht : t.length ≤ 4611686018427387904) (s : List Int) (hs : s.length ≤ 4611686018427387904) (n : Int) :
    Pure Try.prog 56 [pksAV a b c, trmsAV k t, intsAV k' s, .v (.int .i64 n)] (.v (.int .i64 (solveF c t s n))) := by
  refine pure_of_code (G := (G0)) vers0 mixed0 Try.func56 rfl (by decide) (by simp [Try.f56]) (by simp) fun ver => ?_
  simp only [Try.f56, G0]
  simp
  refine call_p (q_setFault a b k' c hc hb s hs) (by simp) ?_
  simp (config := { contextual := true, maxSteps := 4000000 }) [-Int.not_lt, -Int.not_le]
  refine And.intro (fun h => ?_) (fun h1 => ?_)
  · simp [solveF, h]
  by_cases h8 : 8 < t.length
  · simp [show (8 : Int) < t.length by omega, solveF, h1, h8]
  · simp [show ¬ (8 : Int) < t.length by omega]
    refine call_p (p_within _ _ _) (by simp) ?_
    cases h2 : inF n 0 1000 with
    | false => simp [solveF, h1, h8, h2]
    | true =>
      simp
      refine call_p (q_trms k t ht) (by simp) ?_
      simp [solveF, h1, h8, h2]

set_option maxHeartbeats 4000000 in
set_option maxRecDepth 10000 in
theorem l_solveFault (l : List Pk) (hp : BigP l) (t : List Trm) (ht : BigT t) (s : List Int) (hs : BigI s) (n : Int) : Pure Try.prog 11 [pksAV true true l, trmsAV true t, intsAV true s, .v (.int .i64 n)] (.v (.bool true)) := by
  obtain ⟨h1, h2⟩ := hp.len
  have h3 : s.length ≤ 4611686018427387904 := by unfold BigI at hs; omega
  have h4 : t.length ≤ 4611686018427387904 := by unfold BigT at ht; omega
  refine pure_of_code (G := G0) vers0 mixed0 Try.func11 rfl (by decide) (by simp [Try.f11]) (by simp) fun ver => ?_
  simp only [Try.f11, G0]
  repeat' first
    | with_reducible refine And.intro ?_ ?_
    | with_reducible intro _
    | (first | with_reducible refine adraw_f 2 (by decide +kernel) ?_ | with_reducible refine adraw_f 3 (by decide +kernel) ?_ | with_reducible refine adraw_f 4 (by decide +kernel) ?_ | with_reducible refine adraw_f 5 (by decide +kernel) ?_ | with_reducible refine adraw_f 6 (by decide +kernel) ?_ | with_reducible refine adraw_f 7 (by decide +kernel) ?_ | with_reducible refine adraw_f 8 (by decide +kernel) ?_ | with_reducible refine adraw_f 9 (by decide +kernel) ?_ | with_reducible refine adraw_f 10 (by decide +kernel) ?_ | with_reducible refine adraw_f 11 (by decide +kernel) ?_ | with_reducible refine adraw_cut 0 (by decide +kernel) ?_ | with_reducible refine adraw_cut 1 (by decide +kernel) ?_ | with_reducible refine adraw_cut 2 (by decide +kernel) ?_ | with_reducible refine adraw_cut 3 (by decide +kernel) ?_ | with_reducible refine adraw_cut 4 (by decide +kernel) ?_ | with_reducible refine adraw_cut 5 (by decide +kernel) ?_ | with_reducible refine adraw_cut 6 (by decide +kernel) ?_ | with_reducible refine adraw_cut 7 (by decide +kernel) ?_ | with_reducible refine adraw_cut 8 (by decide +kernel) ?_ | with_reducible refine adraw_cut 9 (by decide +kernel) ?_ | with_reducible refine adraw_all (by kernel_rfl) ?_)
    | with_reducible refine call_p (z_pks true l hp _) (by simp) ?_
    | with_reducible refine call_f (z_pks true l hp _) (by simp) ?_
    | with_reducible refine call_p (z_trms true t ht _) (by simp) ?_
    | with_reducible refine call_f (z_trms true t ht _) (by simp) ?_
    | with_reducible refine call_p (t_pks true l hp) (by simp) ?_
    | with_reducible refine call_f (t_pks true l hp) (by simp) ?_
    | with_reducible refine call_p (t_trms true t ht) (by simp) ?_
    | with_reducible refine call_f (t_trms true t ht) (by simp) ?_
    | with_reducible refine call_p (t_ints true s hs) (by simp) ?_
    | with_reducible refine call_f (t_ints true s hs) (by simp) ?_
    | with_reducible refine call_p (p_solveFault false false false false l h1 h2 t h4 s h3 n) (by simp) ?_
    | with_reducible refine call_f (p_solveFault false false false false l h1 h2 t h4 s h3 n) (by simp) ?_
    | with_reducible refine call_p (q_solveFault false false false false l h1 h2 t h4 s h3 n) (by simp) ?_
    | with_reducible refine call_f (q_solveFault false false false false l h1 h2 t h4 s h3 n) (by simp) ?_
    | with_reducible refine call_p (e_pks false false l h1 h2) (by simp) ?_
    | with_reducible refine call_f (e_pks false false l h1 h2) (by simp) ?_
    | with_reducible refine call_p (e_ints false false s h3) (by simp) ?_
    | with_reducible refine call_f (e_ints false false s h3) (by simp) ?_
    | with_reducible refine call_p (e_trms false false t h4) (by simp) ?_
    | with_reducible refine call_f (e_trms false false t h4) (by simp) ?_
    | simp (config := { contextual := true, maxSteps := 4000000 }) [*, -Int.not_le, -Int.not_lt]

end Go.Proofs.Ytbmfoijakgccgaa.Am
