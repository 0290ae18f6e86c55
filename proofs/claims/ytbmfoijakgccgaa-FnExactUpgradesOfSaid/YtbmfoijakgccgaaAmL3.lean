/- The law about sets' faults: what is to be shown of the row's function. No conditions. -/
import Derived.Test.YtbmfoijakgccgaaAmL2
import Derived.Test.YtbmfoijakgccgaaAmC11
namespace Go.Proofs.Ytbmfoijakgccgaa.Am
open Go Go.RowKit Go.Proofs
set_option linter.unusedSimpArgs false
set_option linter.unusedVariables false

/-- A number with a code. -/
@[reducible, simp] def intRes (k n : Int) : AV := .agg [.v (.int .i64 k), .v (.int .i64 n)]
theorem e_intRes (k n : Int) : Pure Try.prog 43 [intRes k n, intRes k n] (.v (.bool true)) := by
  refine pure_of_code (G := G0) vers0 mixed0 Try.func43 rfl (by decide) (by simp [Try.f43]) (by simp) fun ver => ?_
  simp only [Try.f43, G0]
  repeat' first
    | with_reducible refine And.intro ?_ ?_
    | with_reducible intro _
    | (first | with_reducible refine adraw_f 2 (by decide +kernel) ?_ | with_reducible refine adraw_f 3 (by decide +kernel) ?_ | with_reducible refine adraw_f 4 (by decide +kernel) ?_ | with_reducible refine adraw_f 5 (by decide +kernel) ?_ | with_reducible refine adraw_f 6 (by decide +kernel) ?_ | with_reducible refine adraw_f 7 (by decide +kernel) ?_ | with_reducible refine adraw_f 8 (by decide +kernel) ?_ | with_reducible refine adraw_f 9 (by decide +kernel) ?_ | with_reducible refine adraw_f 10 (by decide +kernel) ?_ | with_reducible refine adraw_f 11 (by decide +kernel) ?_ | with_reducible refine adraw_cut 0 (by decide +kernel) ?_ | with_reducible refine adraw_cut 1 (by decide +kernel) ?_ | with_reducible refine adraw_cut 2 (by decide +kernel) ?_ | with_reducible refine adraw_cut 3 (by decide +kernel) ?_ | with_reducible refine adraw_cut 4 (by decide +kernel) ?_ | with_reducible refine adraw_cut 5 (by decide +kernel) ?_ | with_reducible refine adraw_cut 6 (by decide +kernel) ?_ | with_reducible refine adraw_cut 7 (by decide +kernel) ?_ | with_reducible refine adraw_cut 8 (by decide +kernel) ?_ | with_reducible refine adraw_cut 9 (by decide +kernel) ?_ | with_reducible refine adraw_all (by kernel_rfl) ?_)
    | simp (config := { contextual := true, maxSteps := 4000000 }) [*, -Int.not_le, -Int.not_lt]

set_option maxHeartbeats 4000000 in
set_option maxRecDepth 10000 in
theorem l_setFault (l : List Pk) (hp : BigP l) (s : List Int) (hs : BigI s) : Pure Try.prog 8 [pksAV true true l, intsAV true s] (.v (.bool true)) := by
  obtain ⟨h1, h2⟩ := hp.len
  have h3 : s.length ≤ 4611686018427387904 := by unfold BigI at hs; omega
  refine pure_of_code (G := G0) vers0 mixed0 Try.func8 rfl (by decide) (by simp [Try.f8]) (by simp) fun ver => ?_
  simp only [Try.f8, G0]
  repeat' first
    | with_reducible refine And.intro ?_ ?_
    | with_reducible intro _
    | (first | with_reducible refine adraw_f 2 (by decide +kernel) ?_ | with_reducible refine adraw_f 3 (by decide +kernel) ?_ | with_reducible refine adraw_f 4 (by decide +kernel) ?_ | with_reducible refine adraw_f 5 (by decide +kernel) ?_ | with_reducible refine adraw_f 6 (by decide +kernel) ?_ | with_reducible refine adraw_f 7 (by decide +kernel) ?_ | with_reducible refine adraw_f 8 (by decide +kernel) ?_ | with_reducible refine adraw_f 9 (by decide +kernel) ?_ | with_reducible refine adraw_f 10 (by decide +kernel) ?_ | with_reducible refine adraw_f 11 (by decide +kernel) ?_ | with_reducible refine adraw_cut 0 (by decide +kernel) ?_ | with_reducible refine adraw_cut 1 (by decide +kernel) ?_ | with_reducible refine adraw_cut 2 (by decide +kernel) ?_ | with_reducible refine adraw_cut 3 (by decide +kernel) ?_ | with_reducible refine adraw_cut 4 (by decide +kernel) ?_ | with_reducible refine adraw_cut 5 (by decide +kernel) ?_ | with_reducible refine adraw_cut 6 (by decide +kernel) ?_ | with_reducible refine adraw_cut 7 (by decide +kernel) ?_ | with_reducible refine adraw_cut 8 (by decide +kernel) ?_ | with_reducible refine adraw_cut 9 (by decide +kernel) ?_ | with_reducible refine adraw_all (by kernel_rfl) ?_)
    | with_reducible refine call_p (z_pks true l hp _) (by simp) ?_
    | with_reducible refine call_f (z_pks true l hp _) (by simp) ?_
    | with_reducible refine call_p (t_pks true l hp) (by simp) ?_
    | with_reducible refine call_f (t_pks true l hp) (by simp) ?_
    | with_reducible refine call_p (t_ints true s hs) (by simp) ?_
    | with_reducible refine call_f (t_ints true s hs) (by simp) ?_
    | with_reducible refine call_p (p_setFault false false false l h1 h2 s h3) (by simp) ?_
    | with_reducible refine call_f (p_setFault false false false l h1 h2 s h3) (by simp) ?_
    | with_reducible refine call_p (q_setFault false false false l h1 h2 s h3) (by simp) ?_
    | with_reducible refine call_f (q_setFault false false false l h1 h2 s h3) (by simp) ?_
    | with_reducible refine call_p (e_pks false false l h1 h2) (by simp) ?_
    | with_reducible refine call_f (e_pks false false l h1 h2) (by simp) ?_
    | with_reducible refine call_p (e_ints false false s h3) (by simp) ?_
    | with_reducible refine call_f (e_ints false false s h3) (by simp) ?_
    | simp (config := { contextual := true, maxSteps := 4000000 }) [*, -Int.not_le, -Int.not_lt]

end Go.Proofs.Ytbmfoijakgccgaa.Am
