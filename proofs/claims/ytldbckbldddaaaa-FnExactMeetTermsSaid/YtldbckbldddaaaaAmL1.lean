/- The laws about terms: what is to be shown of the row's function. No conditions. -/
import Derived.Test.YtldbckbldddaaaaAmC2
namespace Go.Proofs.Ytldbckbldddaaaa.Am
open Go Go.RowKit Go.Proofs
set_option linter.unusedSimpArgs false
set_option linter.unusedVariables false

theorem l_termFault (t : Trm) : Pure Try.prog 9 [t.av] (.v (.bool true)) := by
  refine pure_of_code (G := G0) vers0 mixed0 Try.func9 rfl (by decide) (by simp [Try.f9]) (by simp) fun ver => ?_
  simp only [Try.f9, G0]
  repeat' first
    | with_reducible refine And.intro ?_ ?_
    | with_reducible intro _
    | (first | with_reducible refine adraw_f 2 (by decide +kernel) ?_ | with_reducible refine adraw_f 3 (by decide +kernel) ?_ | with_reducible refine adraw_f 4 (by decide +kernel) ?_ | with_reducible refine adraw_f 5 (by decide +kernel) ?_ | with_reducible refine adraw_f 6 (by decide +kernel) ?_ | with_reducible refine adraw_f 7 (by decide +kernel) ?_ | with_reducible refine adraw_f 8 (by decide +kernel) ?_ | with_reducible refine adraw_f 9 (by decide +kernel) ?_ | with_reducible refine adraw_f 10 (by decide +kernel) ?_ | with_reducible refine adraw_f 11 (by decide +kernel) ?_ | with_reducible refine adraw_cut 0 (by decide +kernel) ?_ | with_reducible refine adraw_cut 1 (by decide +kernel) ?_ | with_reducible refine adraw_cut 2 (by decide +kernel) ?_ | with_reducible refine adraw_cut 3 (by decide +kernel) ?_ | with_reducible refine adraw_cut 4 (by decide +kernel) ?_ | with_reducible refine adraw_cut 5 (by decide +kernel) ?_ | with_reducible refine adraw_cut 6 (by decide +kernel) ?_ | with_reducible refine adraw_cut 7 (by decide +kernel) ?_ | with_reducible refine adraw_cut 8 (by decide +kernel) ?_ | with_reducible refine adraw_cut 9 (by decide +kernel) ?_ | with_reducible refine adraw_all (by kernel_rfl) ?_)
    | with_reducible refine call_p (z_term t _) (by simp) ?_
    | with_reducible refine call_f (z_term t _) (by simp) ?_
    | with_reducible refine call_p (t_term t) (by simp) ?_
    | with_reducible refine call_f (t_term t) (by simp) ?_
    | with_reducible refine call_p (p_termFault _ _ _ _ _ _ _) (by simp) ?_
    | with_reducible refine call_f (p_termFault _ _ _ _ _ _ _) (by simp) ?_
    | with_reducible refine call_p (q_termFault _ _ _ _ _ _ _) (by simp) ?_
    | with_reducible refine call_f (q_termFault _ _ _ _ _ _ _) (by simp) ?_
    | simp (config := { contextual := true, maxSteps := 4000000 }) [*, -Int.not_le, -Int.not_lt]

def inTF (t : Trm) (n : ByteArray) (v : Ver) : Bool := decide (t.n = n) && decide (0 ≤ cmpF v.a v.b v.c t.lo.a t.lo.b t.lo.c) && decide (cmpF v.a v.b v.c t.hi.a t.hi.b t.hi.c < 0)
def inTermF (t : Trm) (n : ByteArray) (v : Ver) : Bool := decide (termFault t.n t.lo.a t.lo.b t.lo.c t.hi.a t.hi.b t.hi.c = 0) && decide (versionFault v.a v.b v.c = 0) && inTF t n v

theorem cmpF_anti {a b c x y z : Int} : cmpF a b c x y z ≤ 0 ↔ 0 ≤ cmpF x y z a b c := by
  unfold cmpF signF
  repeat' split
  all_goals omega

theorem p_inT (t : Trm) (n : ByteArray) (v : Ver) : Pure Try.prog 45 [t.av, .v (.string n), v.av] (.v (.bool (inTF t n v))) := by
  refine pure_of_code (G := G0) vers0 mixed0 Try.func45 rfl (by decide) (by simp [Try.f45]) (by simp) fun ver => ?_
  simp only [Try.f45, G0]
  repeat' first
    | with_reducible refine And.intro ?_ ?_
    | with_reducible intro _
    | (first | with_reducible refine adraw_f 2 (by decide +kernel) ?_ | with_reducible refine adraw_f 3 (by decide +kernel) ?_ | with_reducible refine adraw_f 4 (by decide +kernel) ?_ | with_reducible refine adraw_f 5 (by decide +kernel) ?_ | with_reducible refine adraw_f 6 (by decide +kernel) ?_ | with_reducible refine adraw_f 7 (by decide +kernel) ?_ | with_reducible refine adraw_f 8 (by decide +kernel) ?_ | with_reducible refine adraw_f 9 (by decide +kernel) ?_ | with_reducible refine adraw_f 10 (by decide +kernel) ?_ | with_reducible refine adraw_f 11 (by decide +kernel) ?_ | with_reducible refine adraw_cut 0 (by decide +kernel) ?_ | with_reducible refine adraw_cut 1 (by decide +kernel) ?_ | with_reducible refine adraw_cut 2 (by decide +kernel) ?_ | with_reducible refine adraw_cut 3 (by decide +kernel) ?_ | with_reducible refine adraw_cut 4 (by decide +kernel) ?_ | with_reducible refine adraw_cut 5 (by decide +kernel) ?_ | with_reducible refine adraw_cut 6 (by decide +kernel) ?_ | with_reducible refine adraw_cut 7 (by decide +kernel) ?_ | with_reducible refine adraw_cut 8 (by decide +kernel) ?_ | with_reducible refine adraw_cut 9 (by decide +kernel) ?_ | with_reducible refine adraw_all (by kernel_rfl) ?_)
    | with_reducible refine call_p (p_compareVersions _ _ _ _ _ _) (by simp) ?_
    | with_reducible refine call_f (p_compareVersions _ _ _ _ _ _) (by simp) ?_
    | simp (config := { contextual := true, maxSteps := 4000000 }) [*, inTF, -Int.not_le, -Int.not_lt]
  all_goals simp_all [inTF]

theorem q_has (t : Trm) (n : ByteArray) (v : Ver) : Pure Try.prog 46 [t.av, .v (.string n), v.av] (.v (.bool (inTF t n v))) := by
  refine pure_of_code (G := G0) vers0 mixed0 Try.func46 rfl (by decide) (by simp [Try.f46]) (by simp) fun ver => ?_
  simp only [Try.f46, G0]
  repeat' first
    | with_reducible refine And.intro ?_ ?_
    | with_reducible intro _
    | (first | with_reducible refine adraw_f 2 (by decide +kernel) ?_ | with_reducible refine adraw_f 3 (by decide +kernel) ?_ | with_reducible refine adraw_f 4 (by decide +kernel) ?_ | with_reducible refine adraw_f 5 (by decide +kernel) ?_ | with_reducible refine adraw_f 6 (by decide +kernel) ?_ | with_reducible refine adraw_f 7 (by decide +kernel) ?_ | with_reducible refine adraw_f 8 (by decide +kernel) ?_ | with_reducible refine adraw_f 9 (by decide +kernel) ?_ | with_reducible refine adraw_f 10 (by decide +kernel) ?_ | with_reducible refine adraw_f 11 (by decide +kernel) ?_ | with_reducible refine adraw_cut 0 (by decide +kernel) ?_ | with_reducible refine adraw_cut 1 (by decide +kernel) ?_ | with_reducible refine adraw_cut 2 (by decide +kernel) ?_ | with_reducible refine adraw_cut 3 (by decide +kernel) ?_ | with_reducible refine adraw_cut 4 (by decide +kernel) ?_ | with_reducible refine adraw_cut 5 (by decide +kernel) ?_ | with_reducible refine adraw_cut 6 (by decide +kernel) ?_ | with_reducible refine adraw_cut 7 (by decide +kernel) ?_ | with_reducible refine adraw_cut 8 (by decide +kernel) ?_ | with_reducible refine adraw_cut 9 (by decide +kernel) ?_ | with_reducible refine adraw_all (by kernel_rfl) ?_)
    | with_reducible refine call_p (p_compare _ _ _ _ _ _) (by simp) ?_
    | with_reducible refine call_f (p_compare _ _ _ _ _ _) (by simp) ?_
    | simp (config := { contextual := true, maxSteps := 4000000 }) [*, inTF, cmpF_anti, -Int.not_le, -Int.not_lt]
  all_goals simp_all [inTF, cmpF_anti]

theorem p_inTerm (t : Trm) (n : ByteArray) (v : Ver) : Pure Try.prog 30 [t.av, .v (.string n), v.av] (.v (.bool (inTermF t n v))) := by
  refine pure_of_code (G := G0) vers0 mixed0 Try.func30 rfl (by decide) (by simp [Try.f30]) (by simp) fun ver => ?_
  simp only [Try.f30, G0]
  repeat' first
    | with_reducible refine And.intro ?_ ?_
    | with_reducible intro _
    | (first | with_reducible refine adraw_f 2 (by decide +kernel) ?_ | with_reducible refine adraw_f 3 (by decide +kernel) ?_ | with_reducible refine adraw_f 4 (by decide +kernel) ?_ | with_reducible refine adraw_f 5 (by decide +kernel) ?_ | with_reducible refine adraw_f 6 (by decide +kernel) ?_ | with_reducible refine adraw_f 7 (by decide +kernel) ?_ | with_reducible refine adraw_f 8 (by decide +kernel) ?_ | with_reducible refine adraw_f 9 (by decide +kernel) ?_ | with_reducible refine adraw_f 10 (by decide +kernel) ?_ | with_reducible refine adraw_f 11 (by decide +kernel) ?_ | with_reducible refine adraw_cut 0 (by decide +kernel) ?_ | with_reducible refine adraw_cut 1 (by decide +kernel) ?_ | with_reducible refine adraw_cut 2 (by decide +kernel) ?_ | with_reducible refine adraw_cut 3 (by decide +kernel) ?_ | with_reducible refine adraw_cut 4 (by decide +kernel) ?_ | with_reducible refine adraw_cut 5 (by decide +kernel) ?_ | with_reducible refine adraw_cut 6 (by decide +kernel) ?_ | with_reducible refine adraw_cut 7 (by decide +kernel) ?_ | with_reducible refine adraw_cut 8 (by decide +kernel) ?_ | with_reducible refine adraw_cut 9 (by decide +kernel) ?_ | with_reducible refine adraw_all (by kernel_rfl) ?_)
    | with_reducible refine call_p (p_termFault _ _ _ _ _ _ _) (by simp) ?_
    | with_reducible refine call_f (p_termFault _ _ _ _ _ _ _) (by simp) ?_
    | with_reducible refine call_p (p_versionFault _ _ _) (by simp) ?_
    | with_reducible refine call_f (p_versionFault _ _ _) (by simp) ?_
    | with_reducible refine call_p (p_inT t n v) (by simp) ?_
    | with_reducible refine call_f (p_inT t n v) (by simp) ?_
    | simp (config := { contextual := true, maxSteps := 4000000 }) [*, inTermF, -Int.not_le, -Int.not_lt]
  all_goals simp_all [inTermF]

theorem q_inTerm (t : Trm) (n : ByteArray) (v : Ver) : Pure Try.prog 31 [t.av, .v (.string n), v.av] (.v (.bool (inTermF t n v))) := by
  refine pure_of_code (G := G0) vers0 mixed0 Try.func31 rfl (by decide) (by simp [Try.f31]) (by simp) fun ver => ?_
  simp only [Try.f31, G0]
  repeat' first
    | with_reducible refine And.intro ?_ ?_
    | with_reducible intro _
    | (first | with_reducible refine adraw_f 2 (by decide +kernel) ?_ | with_reducible refine adraw_f 3 (by decide +kernel) ?_ | with_reducible refine adraw_f 4 (by decide +kernel) ?_ | with_reducible refine adraw_f 5 (by decide +kernel) ?_ | with_reducible refine adraw_f 6 (by decide +kernel) ?_ | with_reducible refine adraw_f 7 (by decide +kernel) ?_ | with_reducible refine adraw_f 8 (by decide +kernel) ?_ | with_reducible refine adraw_f 9 (by decide +kernel) ?_ | with_reducible refine adraw_f 10 (by decide +kernel) ?_ | with_reducible refine adraw_f 11 (by decide +kernel) ?_ | with_reducible refine adraw_cut 0 (by decide +kernel) ?_ | with_reducible refine adraw_cut 1 (by decide +kernel) ?_ | with_reducible refine adraw_cut 2 (by decide +kernel) ?_ | with_reducible refine adraw_cut 3 (by decide +kernel) ?_ | with_reducible refine adraw_cut 4 (by decide +kernel) ?_ | with_reducible refine adraw_cut 5 (by decide +kernel) ?_ | with_reducible refine adraw_cut 6 (by decide +kernel) ?_ | with_reducible refine adraw_cut 7 (by decide +kernel) ?_ | with_reducible refine adraw_cut 8 (by decide +kernel) ?_ | with_reducible refine adraw_cut 9 (by decide +kernel) ?_ | with_reducible refine adraw_all (by kernel_rfl) ?_)
    | with_reducible refine call_p (q_termFault _ _ _ _ _ _ _) (by simp) ?_
    | with_reducible refine call_f (q_termFault _ _ _ _ _ _ _) (by simp) ?_
    | with_reducible refine call_p (q_versionFault _ _ _) (by simp) ?_
    | with_reducible refine call_f (q_versionFault _ _ _) (by simp) ?_
    | with_reducible refine call_p (q_has t n v) (by simp) ?_
    | with_reducible refine call_f (q_has t n v) (by simp) ?_
    | simp (config := { contextual := true, maxSteps := 4000000 }) [*, inTermF, -Int.not_le, -Int.not_lt]
  all_goals simp_all [inTermF]

theorem l_inTerm (t : Trm) (n : ByteArray) (v : Ver) : Pure Try.prog 10 [t.av, .v (.string n), v.av] (.v (.bool true)) := by
  refine pure_of_code (G := G0) vers0 mixed0 Try.func10 rfl (by decide) (by simp [Try.f10]) (by simp) fun ver => ?_
  simp only [Try.f10, G0]
  repeat' first
    | with_reducible refine And.intro ?_ ?_
    | with_reducible intro _
    | (first | with_reducible refine adraw_f 2 (by decide +kernel) ?_ | with_reducible refine adraw_f 3 (by decide +kernel) ?_ | with_reducible refine adraw_f 4 (by decide +kernel) ?_ | with_reducible refine adraw_f 5 (by decide +kernel) ?_ | with_reducible refine adraw_f 6 (by decide +kernel) ?_ | with_reducible refine adraw_f 7 (by decide +kernel) ?_ | with_reducible refine adraw_f 8 (by decide +kernel) ?_ | with_reducible refine adraw_f 9 (by decide +kernel) ?_ | with_reducible refine adraw_f 10 (by decide +kernel) ?_ | with_reducible refine adraw_f 11 (by decide +kernel) ?_ | with_reducible refine adraw_cut 0 (by decide +kernel) ?_ | with_reducible refine adraw_cut 1 (by decide +kernel) ?_ | with_reducible refine adraw_cut 2 (by decide +kernel) ?_ | with_reducible refine adraw_cut 3 (by decide +kernel) ?_ | with_reducible refine adraw_cut 4 (by decide +kernel) ?_ | with_reducible refine adraw_cut 5 (by decide +kernel) ?_ | with_reducible refine adraw_cut 6 (by decide +kernel) ?_ | with_reducible refine adraw_cut 7 (by decide +kernel) ?_ | with_reducible refine adraw_cut 8 (by decide +kernel) ?_ | with_reducible refine adraw_cut 9 (by decide +kernel) ?_ | with_reducible refine adraw_all (by kernel_rfl) ?_)
    | with_reducible refine call_p (z_term t _) (by simp) ?_
    | with_reducible refine call_f (z_term t _) (by simp) ?_
    | with_reducible refine call_p (t_term t) (by simp) ?_
    | with_reducible refine call_f (t_term t) (by simp) ?_
    | with_reducible refine call_p (p_toVersion _ _ _) (by simp) ?_
    | with_reducible refine call_f (p_toVersion _ _ _) (by simp) ?_
    | with_reducible refine call_p (p_inTerm t n v) (by simp) ?_
    | with_reducible refine call_f (p_inTerm t n v) (by simp) ?_
    | with_reducible refine call_p (q_inTerm t n v) (by simp) ?_
    | with_reducible refine call_f (q_inTerm t n v) (by simp) ?_
    | simp (config := { contextual := true, maxSteps := 4000000 }) [*, -Int.not_le, -Int.not_lt]

def mxV (a b : Ver) : Ver := if 0 < cmpF b.a b.b b.c a.a a.b a.c then b else a
def mnV (a b : Ver) : Ver := if cmpF b.a b.b b.c a.a a.b a.c < 0 then b else a
def meetT (a b : Trm) : Trm := ⟨a.n, mxV a.lo b.lo, mnV a.hi b.hi⟩
def noT : Trm := ⟨ByteArray.empty, ⟨0, 0, 0⟩, ⟨0, 0, 0⟩⟩
def trR (k : Int) (t : Trm) : AV := .agg [.v (.int .i64 k), .v (.string t.n), .v (.int .i64 t.lo.a), .v (.int .i64 t.lo.b), .v (.int .i64 t.lo.c), .v (.int .i64 t.hi.a), .v (.int .i64 t.hi.b), .v (.int .i64 t.hi.c)]
def tF (t : Trm) : Int := termFault t.n t.lo.a t.lo.b t.lo.c t.hi.a t.hi.b t.hi.c
def meetF (a b : Trm) : AV := if tF a ≠ 0 then trR (tF a) noT else if tF b ≠ 0 then trR (tF b) noT else
  if a.n ≠ b.n ∨ 0 ≤ cmpF (meetT a b).lo.a (meetT a b).lo.b (meetT a b).lo.c (meetT a b).hi.a (meetT a b).hi.b (meetT a b).hi.c then trR 4 noT else trR 0 (meetT a b)

@[reducible, simp] def resT (k : Int) (t : Trm) : AV := .agg [.v (.int .i64 k), .v (.string t.n), .v (.int .i64 t.lo.a), .v (.int .i64 t.lo.b), .v (.int .i64 t.lo.c), .v (.int .i64 t.hi.a), .v (.int .i64 t.hi.b), .v (.int .i64 t.hi.c)]
theorem e_resT (k : Int) (t : Trm) : Pure Try.prog 34 [resT k t, resT k t] (.v (.bool true)) := by
  refine pure_of_code (G := G0) vers0 mixed0 Try.func34 rfl (by decide) (by simp [Try.f34]) (by simp) fun ver => ?_
  simp only [Try.f34, G0]
  repeat' first
    | with_reducible refine And.intro ?_ ?_
    | with_reducible intro _
    | (first | with_reducible refine adraw_f 2 (by decide +kernel) ?_ | with_reducible refine adraw_f 3 (by decide +kernel) ?_ | with_reducible refine adraw_f 4 (by decide +kernel) ?_ | with_reducible refine adraw_f 5 (by decide +kernel) ?_ | with_reducible refine adraw_f 6 (by decide +kernel) ?_ | with_reducible refine adraw_f 7 (by decide +kernel) ?_ | with_reducible refine adraw_f 8 (by decide +kernel) ?_ | with_reducible refine adraw_f 9 (by decide +kernel) ?_ | with_reducible refine adraw_f 10 (by decide +kernel) ?_ | with_reducible refine adraw_f 11 (by decide +kernel) ?_ | with_reducible refine adraw_cut 0 (by decide +kernel) ?_ | with_reducible refine adraw_cut 1 (by decide +kernel) ?_ | with_reducible refine adraw_cut 2 (by decide +kernel) ?_ | with_reducible refine adraw_cut 3 (by decide +kernel) ?_ | with_reducible refine adraw_cut 4 (by decide +kernel) ?_ | with_reducible refine adraw_cut 5 (by decide +kernel) ?_ | with_reducible refine adraw_cut 6 (by decide +kernel) ?_ | with_reducible refine adraw_cut 7 (by decide +kernel) ?_ | with_reducible refine adraw_cut 8 (by decide +kernel) ?_ | with_reducible refine adraw_cut 9 (by decide +kernel) ?_ | with_reducible refine adraw_all (by kernel_rfl) ?_)
    | with_reducible refine call_p (e_term t) (by simp) ?_
    | with_reducible refine call_f (e_term t) (by simp) ?_
    | simp (config := { contextual := true, maxSteps := 4000000 }) [*, -Int.not_le, -Int.not_lt]

end Go.Proofs.Ytldbckbldddaaaa.Am
