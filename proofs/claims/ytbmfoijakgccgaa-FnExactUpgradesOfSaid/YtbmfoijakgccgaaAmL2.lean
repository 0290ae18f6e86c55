/- The laws about packages: what is to be shown of the rows' functions. No conditions. -/
import Derived.Test.YtbmfoijakgccgaaAmC8
namespace Go.Proofs.Ytbmfoijakgccgaa.Am
open Go Go.RowKit Go.Proofs
set_option linter.unusedSimpArgs false
set_option linter.unusedVariables false

theorem BigP.len {l : List Pk} (h : BigP l) : l.length ≤ 4611686018427387904 ∧ ∀ p ∈ l, p.Len := ⟨by have := h.1; omega, fun p hp => (h.2 p hp).len⟩

set_option maxHeartbeats 4000000 in
set_option maxRecDepth 10000 in
theorem l_pack (p : Pk) (hp : p.Big) : Pure Try.prog 3 [p.av true] (.v (.bool true)) := by
  have hl := hp.len
  refine pure_of_code (G := G0) vers0 mixed0 Try.func3 rfl (by decide) (by simp [Try.f3]) (by simp) fun ver => ?_
  simp only [Try.f3, G0]
  repeat' first
    | with_reducible refine And.intro ?_ ?_
    | with_reducible intro _
    | (first | with_reducible refine adraw_f 2 (by decide +kernel) ?_ | with_reducible refine adraw_f 3 (by decide +kernel) ?_ | with_reducible refine adraw_f 4 (by decide +kernel) ?_ | with_reducible refine adraw_f 5 (by decide +kernel) ?_ | with_reducible refine adraw_f 6 (by decide +kernel) ?_ | with_reducible refine adraw_f 7 (by decide +kernel) ?_ | with_reducible refine adraw_f 8 (by decide +kernel) ?_ | with_reducible refine adraw_f 9 (by decide +kernel) ?_ | with_reducible refine adraw_f 10 (by decide +kernel) ?_ | with_reducible refine adraw_f 11 (by decide +kernel) ?_ | with_reducible refine adraw_cut 0 (by decide +kernel) ?_ | with_reducible refine adraw_cut 1 (by decide +kernel) ?_ | with_reducible refine adraw_cut 2 (by decide +kernel) ?_ | with_reducible refine adraw_cut 3 (by decide +kernel) ?_ | with_reducible refine adraw_cut 4 (by decide +kernel) ?_ | with_reducible refine adraw_cut 5 (by decide +kernel) ?_ | with_reducible refine adraw_cut 6 (by decide +kernel) ?_ | with_reducible refine adraw_cut 7 (by decide +kernel) ?_ | with_reducible refine adraw_cut 8 (by decide +kernel) ?_ | with_reducible refine adraw_cut 9 (by decide +kernel) ?_ | with_reducible refine adraw_all (by kernel_rfl) ?_)
    | with_reducible refine call_p (z_pk true p hp _) (by simp) ?_
    | with_reducible refine call_f (z_pk true p hp _) (by simp) ?_
    | with_reducible refine call_p (t_pk true p hp) (by simp) ?_
    | with_reducible refine call_f (t_pk true p hp) (by simp) ?_
    | with_reducible refine call_p (p_pack false p hl) (by simp) ?_
    | with_reducible refine call_f (p_pack false p hl) (by simp) ?_
    | with_reducible refine call_p (q_pack false p hl) (by simp) ?_
    | with_reducible refine call_f (q_pack false p hl) (by simp) ?_
    | with_reducible refine call_p (e_pk false false p hl) (by simp) ?_
    | with_reducible refine call_f (e_pk false false p hl) (by simp) ?_
    | simp (config := { contextual := true, maxSteps := 4000000 }) [*, -Int.not_le, -Int.not_lt]

theorem p_givesTerm (d : Bool) (p : Pk) (hp : p.Len) (t : Trm) : Pure Try.prog 26 [p.av d, t.av] (.v (.bool (decide (packF p = 0) && decide (trmF t = 0) && givesF p t))) := by
  refine pure_of_code (G := (G0)) vers0 mixed0 Try.func26 rfl (by decide) (by simp [Try.f26]) (by simp) fun ver => ?_
  simp only [Try.f26, G0]
  simp
  refine call_p (p_pack d p hp) (by simp) ?_
  by_cases h1 : packF p = 0
  · simp [h1]
    refine call_p (p_trm t) (by simp) ?_
    by_cases h2 : trmF t = 0
    · simp [h2]
      refine call_p (p_gives d p hp.1 t) (by simp) ?_
      simp
    · simp [h2]
  · simp [h1]

theorem q_givesTerm (d : Bool) (p : Pk) (hp : p.Len) (t : Trm) : Pure Try.prog 28 [p.av d, t.av] (.v (.bool (decide (packF p = 0) && decide (trmF t = 0) && givesF p t))) := by
  refine pure_of_code (G := (G0)) vers0 mixed0 Try.func28 rfl (by decide) (by simp [Try.f28]) (by simp) fun ver => ?_
  simp only [Try.f28, G0]
  simp
  refine call_p (q_pack d p hp) (by simp) ?_
  by_cases h1 : packF p = 0
  · simp [h1]
    refine call_p (q_trm t) (by simp) ?_
    by_cases h2 : trmF t = 0
    · simp [h2]
      refine call_p (q_gives d p (by have := (packF_ok h1).1; omega) t) (by simp) ?_
      simp
    · simp [h2]
  · simp [h1]

set_option maxHeartbeats 4000000 in
set_option maxRecDepth 10000 in
theorem l_givesTerm (p : Pk) (hp : p.Big) (t : Trm) : Pure Try.prog 4 [p.av true, t.av] (.v (.bool true)) := by
  have hl := hp.len
  refine pure_of_code (G := G0) vers0 mixed0 Try.func4 rfl (by decide) (by simp [Try.f4]) (by simp) fun ver => ?_
  simp only [Try.f4, G0]
  repeat' first
    | with_reducible refine And.intro ?_ ?_
    | with_reducible intro _
    | (first | with_reducible refine adraw_f 2 (by decide +kernel) ?_ | with_reducible refine adraw_f 3 (by decide +kernel) ?_ | with_reducible refine adraw_f 4 (by decide +kernel) ?_ | with_reducible refine adraw_f 5 (by decide +kernel) ?_ | with_reducible refine adraw_f 6 (by decide +kernel) ?_ | with_reducible refine adraw_f 7 (by decide +kernel) ?_ | with_reducible refine adraw_f 8 (by decide +kernel) ?_ | with_reducible refine adraw_f 9 (by decide +kernel) ?_ | with_reducible refine adraw_f 10 (by decide +kernel) ?_ | with_reducible refine adraw_f 11 (by decide +kernel) ?_ | with_reducible refine adraw_cut 0 (by decide +kernel) ?_ | with_reducible refine adraw_cut 1 (by decide +kernel) ?_ | with_reducible refine adraw_cut 2 (by decide +kernel) ?_ | with_reducible refine adraw_cut 3 (by decide +kernel) ?_ | with_reducible refine adraw_cut 4 (by decide +kernel) ?_ | with_reducible refine adraw_cut 5 (by decide +kernel) ?_ | with_reducible refine adraw_cut 6 (by decide +kernel) ?_ | with_reducible refine adraw_cut 7 (by decide +kernel) ?_ | with_reducible refine adraw_cut 8 (by decide +kernel) ?_ | with_reducible refine adraw_cut 9 (by decide +kernel) ?_ | with_reducible refine adraw_all (by kernel_rfl) ?_)
    | with_reducible refine call_p (z_pk true p hp _) (by simp) ?_
    | with_reducible refine call_f (z_pk true p hp _) (by simp) ?_
    | with_reducible refine call_p (z_term t _) (by simp) ?_
    | with_reducible refine call_f (z_term t _) (by simp) ?_
    | with_reducible refine call_p (t_term t) (by simp) ?_
    | with_reducible refine call_f (t_term t) (by simp) ?_
    | with_reducible refine call_p (t_pk true p hp) (by simp) ?_
    | with_reducible refine call_f (t_pk true p hp) (by simp) ?_
    | with_reducible refine call_p (p_givesTerm false p hl t) (by simp) ?_
    | with_reducible refine call_f (p_givesTerm false p hl t) (by simp) ?_
    | with_reducible refine call_p (q_givesTerm false p hl t) (by simp) ?_
    | with_reducible refine call_f (q_givesTerm false p hl t) (by simp) ?_
    | with_reducible refine call_p (e_pk false false p hl) (by simp) ?_
    | with_reducible refine call_f (e_pk false false p hl) (by simp) ?_
    | simp (config := { contextual := true, maxSteps := 4000000 }) [*, -Int.not_le, -Int.not_lt]

set_option maxHeartbeats 4000000 in
set_option maxRecDepth 10000 in
theorem l_cat (l : List Pk) (hp : BigP l) : Pure Try.prog 6 [pksAV true true l] (.v (.bool true)) := by
  obtain ⟨h1, h2⟩ := hp.len
  refine pure_of_code (G := G0) vers0 mixed0 Try.func6 rfl (by decide) (by simp [Try.f6]) (by simp) fun ver => ?_
  simp only [Try.f6, G0]
  repeat' first
    | with_reducible refine And.intro ?_ ?_
    | with_reducible intro _
    | (first | with_reducible refine adraw_f 2 (by decide +kernel) ?_ | with_reducible refine adraw_f 3 (by decide +kernel) ?_ | with_reducible refine adraw_f 4 (by decide +kernel) ?_ | with_reducible refine adraw_f 5 (by decide +kernel) ?_ | with_reducible refine adraw_f 6 (by decide +kernel) ?_ | with_reducible refine adraw_f 7 (by decide +kernel) ?_ | with_reducible refine adraw_f 8 (by decide +kernel) ?_ | with_reducible refine adraw_f 9 (by decide +kernel) ?_ | with_reducible refine adraw_f 10 (by decide +kernel) ?_ | with_reducible refine adraw_f 11 (by decide +kernel) ?_ | with_reducible refine adraw_cut 0 (by decide +kernel) ?_ | with_reducible refine adraw_cut 1 (by decide +kernel) ?_ | with_reducible refine adraw_cut 2 (by decide +kernel) ?_ | with_reducible refine adraw_cut 3 (by decide +kernel) ?_ | with_reducible refine adraw_cut 4 (by decide +kernel) ?_ | with_reducible refine adraw_cut 5 (by decide +kernel) ?_ | with_reducible refine adraw_cut 6 (by decide +kernel) ?_ | with_reducible refine adraw_cut 7 (by decide +kernel) ?_ | with_reducible refine adraw_cut 8 (by decide +kernel) ?_ | with_reducible refine adraw_cut 9 (by decide +kernel) ?_ | with_reducible refine adraw_all (by kernel_rfl) ?_)
    | with_reducible refine call_p (z_pks true l hp _) (by simp) ?_
    | with_reducible refine call_f (z_pks true l hp _) (by simp) ?_
    | with_reducible refine call_p (t_pks true l hp) (by simp) ?_
    | with_reducible refine call_f (t_pks true l hp) (by simp) ?_
    | with_reducible refine call_p (p_cat false false l h1 h2) (by simp) ?_
    | with_reducible refine call_f (p_cat false false l h1 h2) (by simp) ?_
    | with_reducible refine call_p (q_cat false false l h1 h2) (by simp) ?_
    | with_reducible refine call_f (q_cat false false l h1 h2) (by simp) ?_
    | with_reducible refine call_p (e_pks false false l h1 h2) (by simp) ?_
    | with_reducible refine call_f (e_pks false false l h1 h2) (by simp) ?_
    | simp (config := { contextual := true, maxSteps := 4000000 }) [*, -Int.not_le, -Int.not_lt]

end Go.Proofs.Ytbmfoijakgccgaa.Am
