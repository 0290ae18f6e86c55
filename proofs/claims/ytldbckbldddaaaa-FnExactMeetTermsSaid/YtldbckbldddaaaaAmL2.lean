/- What two terms have in common: what is to be shown of the row's function. No conditions. -/
import Derived.Test.YtldbckbldddaaaaAmL1
namespace Go.Proofs.Ytldbckbldddaaaa.Am
open Go Go.RowKit Go.Proofs
set_option linter.unusedSimpArgs false
set_option linter.unusedVariables false

def meetK (a b : Trm) : Int × Trm := if ¬ tF a = 0 then (tF a, noT) else if ¬ tF b = 0 then (tF b, noT) else
  if ¬ a.n = b.n ∨ 0 ≤ cmpF (meetT a b).lo.a (meetT a b).lo.b (meetT a b).lo.c (meetT a b).hi.a (meetT a b).hi.b (meetT a b).hi.c then (4, noT) else (0, meetT a b)

set_option maxHeartbeats 4000000 in
set_option maxRecDepth 10000 in
theorem p_meet (a b : Trm) : Pure Try.prog 32 [a.av, b.av] (resT (meetK a b).1 (meetK a b).2) := by
  by_cases h1 : termFault a.n a.lo.a a.lo.b a.lo.c a.hi.a a.hi.b a.hi.c = 0
  · by_cases h2 : termFault b.n b.lo.a b.lo.b b.lo.c b.hi.a b.hi.b b.hi.c = 0
    · by_cases h3 : 0 < cmpF b.lo.a b.lo.b b.lo.c a.lo.a a.lo.b a.lo.c <;> by_cases h4 : cmpF b.hi.a b.hi.b b.hi.c a.hi.a a.hi.b a.hi.c < 0 <;> by_cases h5 : a.n = b.n
      all_goals
        refine pure_of_code (G := (G0)) vers0 mixed0 Try.func32 rfl (by decide) (by simp [Try.f32]) (by simp) fun ver => ?_
        simp only [Try.f32, G0]
        simp
        refine call_p (p_termFault _ _ _ _ _ _ _) (by simp) ?_
        simp [h1]
        refine call_p (p_termFault _ _ _ _ _ _ _) (by simp) ?_
        simp [h2]
        refine call_p (p_compareVersions _ _ _ _ _ _) (by simp) ?_
        simp [h3, -Int.not_le, -Int.not_lt]
        refine call_p (p_compareVersions _ _ _ _ _ _) (by simp) ?_
        simp [h4, h5, -Int.not_le, -Int.not_lt]
      all_goals first
        | (rw [h5] at h1
           refine call_p (p_compareVersions _ _ _ _ _ _) (by simp) ?_
           simp (config := { contextual := true, maxSteps := 4000000 }) [meetK, tF, h1, h2, h3, h4, h5, meetT, mxV, mnV, noT, -Int.not_le, -Int.not_lt])
        | simp [meetK, tF, h1, h2, h3, h4, h5, meetT, mxV, mnV, noT]
    · refine pure_of_code (G := (G0)) vers0 mixed0 Try.func32 rfl (by decide) (by simp [Try.f32]) (by simp) fun ver => ?_
      simp only [Try.f32, G0]
      simp
      refine call_p (p_termFault _ _ _ _ _ _ _) (by simp) ?_
      simp [h1]
      refine call_p (p_termFault _ _ _ _ _ _ _) (by simp) ?_
      simp [h2]
      simp [meetK, tF, h1, h2, noT]
  · refine pure_of_code (G := (G0)) vers0 mixed0 Try.func32 rfl (by decide) (by simp [Try.f32]) (by simp) fun ver => ?_
    simp only [Try.f32, G0]
    simp
    refine call_p (p_termFault _ _ _ _ _ _ _) (by simp) ?_
    simp [h1]
    simp [meetK, tF, h1, noT]

set_option maxHeartbeats 4000000 in
set_option maxRecDepth 10000 in
theorem q_meet (a b : Trm) : Pure Try.prog 33 [a.av, b.av] (resT (meetK a b).1 (meetK a b).2) := by
  refine pure_of_code (G := (G0)) vers0 mixed0 Try.func33 rfl (by decide) (by simp [Try.f33]) (by simp) fun ver => ?_
  simp only [Try.f33, G0]
  simp [sealRows, sealCells, List.range_succ]
  refine aloop (α := Nat × List (List AV)) (fun d => ⟨envOf [(2, .box 0 0), (3, .box 1 0), (4, .box 2 0), (11, trmsAV false [a, b]), (12, .v (.int .i64 2)), (13, .v (.int .i64 d.1))], ⟨a.cells :: b.cells :: [.v (.int .i64 0), .v (.string ByteArray.empty), .v (.int .i64 0), .v (.int .i64 0), .v (.int .i64 0), .v (.int .i64 0), .v (.int .i64 0), .v (.int .i64 0)] :: d.2, noArrs ver⟩⟩)
    (fun d => d.1 ≤ 2 ∧ (0 < d.1 → termFault a.n a.lo.a a.lo.b a.lo.c a.hi.a a.hi.b a.hi.c = 0) ∧ (1 < d.1 → termFault b.n b.lo.a b.lo.b b.lo.c b.hi.a b.hi.b b.hi.c = 0)) (fun d => 2 - d.1) (0, []) (less_envOf (by simp) rfl fun _ => rfl) (by simp) ?_
  rintro ⟨k, bs⟩ ⟨hk, i1, i2⟩
  simp only at hk i1 i2 ⊢
  by_cases hlt : k < 2
  · have hk01 : k = 0 ∨ k = 1 := by omega
    rcases hk01 with rfl | rfl
    · simp
      refine call_p (q_termFault _ _ _ _ _ _ _) (by simp) ?_
      by_cases h : termFault a.n a.lo.a a.lo.b a.lo.c a.hi.a a.hi.b a.hi.c = 0
      · simp [h]
        exact ⟨1, ⟨_, less_envOf (by simp; decide) rfl fun _ => rfl⟩, by omega, by omega⟩
      · simp [h, meetK, tF, noT]
    · have h1 := i1 (by omega)
      simp
      refine call_p (q_termFault _ _ _ _ _ _ _) (by simp) ?_
      by_cases h : termFault b.n b.lo.a b.lo.b b.lo.c b.hi.a b.hi.b b.hi.c = 0
      · simp [h]
        exact ⟨2, ⟨_, less_envOf (by simp; decide) rfl fun _ => rfl⟩, ⟨by omega, fun _ => h1⟩, by omega⟩
      · simp [h, h1, meetK, tF, noT]
  · have h1 := i1 (by omega)
    have h2 := i2 (by omega)
    simp [show ¬ (k : Int) < 2 by omega]
    refine call_p (p_compare _ _ _ _ _ _) (by simp) ?_
    by_cases h3 : 0 < cmpF b.lo.a b.lo.b b.lo.c a.lo.a a.lo.b a.lo.c <;> by_cases h4 : cmpF b.hi.a b.hi.b b.hi.c a.hi.a a.hi.b a.hi.c < 0 <;> by_cases h5 : a.n = b.n
    all_goals
      simp [h3, -Int.not_le, -Int.not_lt]
      refine call_p (p_compare _ _ _ _ _ _) (by simp) ?_
      simp [h4, h5, -Int.not_le, -Int.not_lt]
    all_goals first
      | (rw [h5] at h1
         refine call_p (p_compare _ _ _ _ _ _) (by simp) ?_
         simp (config := { contextual := true, maxSteps := 4000000 }) [meetK, tF, h1, h2, h3, h4, h5, meetT, mxV, mnV, noT, -Int.not_le, -Int.not_lt])
      | simp [meetK, tF, h1, h2, h3, h4, h5, meetT, mxV, mnV, noT]

set_option maxHeartbeats 4000000 in
set_option maxRecDepth 10000 in
theorem l_meet (a b : Trm) : Pure Try.prog 11 [a.av, b.av] (.v (.bool true)) := by
  refine pure_of_code (G := G0) vers0 mixed0 Try.func11 rfl (by decide) (by simp [Try.f11]) (by simp) fun ver => ?_
  simp only [Try.f11, G0]
  repeat' first
    | with_reducible refine And.intro ?_ ?_
    | with_reducible intro _
    | (first | with_reducible refine adraw_f 2 (by decide +kernel) ?_ | with_reducible refine adraw_f 3 (by decide +kernel) ?_ | with_reducible refine adraw_f 4 (by decide +kernel) ?_ | with_reducible refine adraw_f 5 (by decide +kernel) ?_ | with_reducible refine adraw_f 6 (by decide +kernel) ?_ | with_reducible refine adraw_f 7 (by decide +kernel) ?_ | with_reducible refine adraw_f 8 (by decide +kernel) ?_ | with_reducible refine adraw_f 9 (by decide +kernel) ?_ | with_reducible refine adraw_f 10 (by decide +kernel) ?_ | with_reducible refine adraw_f 11 (by decide +kernel) ?_ | with_reducible refine adraw_cut 0 (by decide +kernel) ?_ | with_reducible refine adraw_cut 1 (by decide +kernel) ?_ | with_reducible refine adraw_cut 2 (by decide +kernel) ?_ | with_reducible refine adraw_cut 3 (by decide +kernel) ?_ | with_reducible refine adraw_cut 4 (by decide +kernel) ?_ | with_reducible refine adraw_cut 5 (by decide +kernel) ?_ | with_reducible refine adraw_cut 6 (by decide +kernel) ?_ | with_reducible refine adraw_cut 7 (by decide +kernel) ?_ | with_reducible refine adraw_cut 8 (by decide +kernel) ?_ | with_reducible refine adraw_cut 9 (by decide +kernel) ?_ | with_reducible refine adraw_all (by kernel_rfl) ?_)
    | with_reducible refine call_p (z_term a _) (by simp) ?_
    | with_reducible refine call_f (z_term a _) (by simp) ?_
    | with_reducible refine call_p (z_term b _) (by simp) ?_
    | with_reducible refine call_f (z_term b _) (by simp) ?_
    | with_reducible refine call_p (t_term a) (by simp) ?_
    | with_reducible refine call_f (t_term a) (by simp) ?_
    | with_reducible refine call_p (t_term b) (by simp) ?_
    | with_reducible refine call_f (t_term b) (by simp) ?_
    | with_reducible refine call_p (p_meet a b) (by simp) ?_
    | with_reducible refine call_f (p_meet a b) (by simp) ?_
    | with_reducible refine call_p (q_meet a b) (by simp) ?_
    | with_reducible refine call_f (q_meet a b) (by simp) ?_
    | with_reducible refine call_p (e_resT _ _) (by simp) ?_
    | with_reducible refine call_f (e_resT _ _) (by simp) ?_
    | simp (config := { contextual := true, maxSteps := 4000000 }) [*, -Int.not_le, -Int.not_lt]

end Go.Proofs.Ytldbckbldddaaaa.Am
