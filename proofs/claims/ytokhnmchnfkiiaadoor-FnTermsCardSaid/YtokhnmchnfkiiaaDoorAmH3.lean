/- Terms met, versions in terms: what the program and the reference return. No conditions. -/
import Derived.Test.YtokhnmchnfkiiaaDoorAmH2
import Derived.Test.YtokhnmchnfkiiaaDoorAmCg2
namespace Go.Proofs.YtokhnmchnfkiiaaDoor.Am
open Go Go.RowKit Go.Proofs
set_option linter.unusedSimpArgs false
set_option linter.unusedVariables false

theorem trmT_ok : isTrmT Tryd.prog 38 = true := by kernel_rfl
attribute [simp] trmT_ok
def inTermF (t : Trm) (n : ByteArray) (v : Ver) : Bool := decide (termFault t.n t.lo.a t.lo.b t.lo.c t.hi.a t.hi.b t.hi.c = 0) && decide (versionFault v.a v.b v.c = 0) && inTF t n v

theorem q_inTerm (t : Trm) (n : ByteArray) (v : Ver) : Pure Tryd.prog 31 [t.av, .v (.string n), v.av] (.v (.bool (inTermF t n v))) := by
  refine pure_of_code (G := G0) vers0 mixed0 Tryd.func31 rfl (by decide) (by simp [Tryd.f31]) (by simp) fun ver => ?_
  simp only [Tryd.f31, G0]
  repeat' first
    | with_reducible refine And.intro ?_ ?_
    | with_reducible intro _
    | (first | with_reducible refine adraw_f 2 (by decide +kernel) ?_ | with_reducible refine adraw_f 3 (by decide +kernel) ?_ | with_reducible refine adraw_f 4 (by decide +kernel) ?_ | with_reducible refine adraw_f 5 (by decide +kernel) ?_ | with_reducible refine adraw_f 6 (by decide +kernel) ?_ | with_reducible refine adraw_f 7 (by decide +kernel) ?_ | with_reducible refine adraw_f 8 (by decide +kernel) ?_ | with_reducible refine adraw_f 9 (by decide +kernel) ?_ | with_reducible refine adraw_f 10 (by decide +kernel) ?_ | with_reducible refine adraw_f 11 (by decide +kernel) ?_ | with_reducible refine adraw_cut 0 (by decide +kernel) ?_ | with_reducible refine adraw_cut 1 (by decide +kernel) ?_ | with_reducible refine adraw_cut 2 (by decide +kernel) ?_ | with_reducible refine adraw_cut 3 (by decide +kernel) ?_ | with_reducible refine adraw_cut 4 (by decide +kernel) ?_ | with_reducible refine adraw_cut 5 (by decide +kernel) ?_ | with_reducible refine adraw_cut 6 (by decide +kernel) ?_ | with_reducible refine adraw_cut 7 (by decide +kernel) ?_ | with_reducible refine adraw_cut 8 (by decide +kernel) ?_ | with_reducible refine adraw_cut 9 (by decide +kernel) ?_ | with_reducible refine adraw_all (by kernel_rfl) ?_)
    | with_reducible refine call_p (q_termFault _ _ _ _ _ _ _) (by simp) ?_
    | with_reducible refine call_f (q_termFault _ _ _ _ _ _ _) (by simp) ?_
    | with_reducible refine call_p (q_versionFault _ _ _) (by simp) ?_
    | with_reducible refine call_f (q_versionFault _ _ _) (by simp) ?_
    | with_reducible refine call_p (q_has t n v) (by simp) ?_
    | with_reducible refine call_f (q_has t n v) (by simp) ?_
    | simp (config := { contextual := true, maxSteps := 4000000 }) [*, inTermF, -Int.not_le, -Int.not_lt]
  all_goals simp_all [inTermF]

def mxV (a b : Ver) : Ver := if 0 < cmpF b.a b.b b.c a.a a.b a.c then b else a
def mnV (a b : Ver) : Ver := if cmpF b.a b.b b.c a.a a.b a.c < 0 then b else a
def meetT (a b : Trm) : Trm := ⟨a.n, mxV a.lo b.lo, mnV a.hi b.hi⟩
def noT : Trm := ⟨ByteArray.empty, ⟨0, 0, 0⟩, ⟨0, 0, 0⟩⟩
def tF (t : Trm) : Int := termFault t.n t.lo.a t.lo.b t.lo.c t.hi.a t.hi.b t.hi.c
@[reducible, simp] def resT (k : Int) (t : Trm) : AV := .agg [.v (.int .i64 k), .v (.string t.n), .v (.int .i64 t.lo.a), .v (.int .i64 t.lo.b), .v (.int .i64 t.lo.c), .v (.int .i64 t.hi.a), .v (.int .i64 t.hi.b), .v (.int .i64 t.hi.c)]
def meetK (a b : Trm) : Int × Trm := if ¬ tF a = 0 then (tF a, noT) else if ¬ tF b = 0 then (tF b, noT) else
  if ¬ a.n = b.n ∨ 0 ≤ cmpF (meetT a b).lo.a (meetT a b).lo.b (meetT a b).lo.c (meetT a b).hi.a (meetT a b).hi.b (meetT a b).hi.c then (4, noT) else (0, meetT a b)

set_option maxHeartbeats 4000000 in
set_option maxRecDepth 10000 in
theorem p_meet (a b : Trm) : Pure Tryd.prog 32 [a.av, b.av] (resT (meetK a b).1 (meetK a b).2) := by
  by_cases h1 : termFault a.n a.lo.a a.lo.b a.lo.c a.hi.a a.hi.b a.hi.c = 0
  · by_cases h2 : termFault b.n b.lo.a b.lo.b b.lo.c b.hi.a b.hi.b b.hi.c = 0
    · by_cases h3 : 0 < cmpF b.lo.a b.lo.b b.lo.c a.lo.a a.lo.b a.lo.c <;> by_cases h4 : cmpF b.hi.a b.hi.b b.hi.c a.hi.a a.hi.b a.hi.c < 0 <;> by_cases h5 : a.n = b.n
      all_goals
        refine pure_of_code (G := (G0)) vers0 mixed0 Tryd.func32 rfl (by decide) (by simp [Tryd.f32]) (by simp) fun ver => ?_
        simp only [Tryd.f32, G0]
        simp
        refine call_p (p_termFault _ _ _ _ _ _ _) (by simp) ?_
        simp [h1]
        refine call_p (p_termFault _ _ _ _ _ _ _) (by simp) ?_
        simp [h2]
        refine call_p (p_compareVersions _ _ _ _ _ _) (by simp) ?_
        simp [h3, -Int.not_le, -Int.not_lt]
        refine call_p (p_compareVersions _ _ _ _ _ _) (by simp) ?_
        simp [h4, h5, -Int.not_le, -Int.not_lt]
      all_goals first
        | (rw [h5] at h1
           refine call_p (p_compareVersions _ _ _ _ _ _) (by simp) ?_
           simp (config := { contextual := true, maxSteps := 4000000 }) [meetK, tF, h1, h2, h3, h4, h5, meetT, mxV, mnV, noT, -Int.not_le, -Int.not_lt])
        | simp [meetK, tF, h1, h2, h3, h4, h5, meetT, mxV, mnV, noT]
    · refine pure_of_code (G := (G0)) vers0 mixed0 Tryd.func32 rfl (by decide) (by simp [Tryd.f32]) (by simp) fun ver => ?_
      simp only [Tryd.f32, G0]
      simp
      refine call_p (p_termFault _ _ _ _ _ _ _) (by simp) ?_
      simp [h1]
      refine call_p (p_termFault _ _ _ _ _ _ _) (by simp) ?_
      simp [h2]
      simp [meetK, tF, h1, h2, noT]
  · refine pure_of_code (G := (G0)) vers0 mixed0 Tryd.func32 rfl (by decide) (by simp [Tryd.f32]) (by simp) fun ver => ?_
    simp only [Tryd.f32, G0]
    simp
    refine call_p (p_termFault _ _ _ _ _ _ _) (by simp) ?_
    simp [h1]
    simp [meetK, tF, h1, noT]

set_option maxHeartbeats 4000000 in
set_option maxRecDepth 10000 in
theorem q_meet (a b : Trm) : Pure Tryd.prog 29 [a.av, b.av] (resT (meetK a b).1 (meetK a b).2) := by
  refine pure_of_code (G := (G0)) vers0 mixed0 Tryd.func29 rfl (by decide) (by simp [Tryd.f29]) (by simp) fun ver => ?_
  simp only [Tryd.f29, G0]
  simp [sealRows, sealCells, List.range_succ]
  refine aloop (α := Nat × List (List AV)) (fun d => ⟨envOf [(2, .box 0 0), (3, .box 1 0), (4, .box 2 0), (11, trmsAV false [a, b]), (12, .v (.int .i64 2)), (13, .v (.int .i64 d.1))], ⟨a.cells :: b.cells :: [.v (.int .i64 0), .v (.string ByteArray.empty), .v (.int .i64 0), .v (.int .i64 0), .v (.int .i64 0), .v (.int .i64 0), .v (.int .i64 0), .v (.int .i64 0)] :: d.2, noArrs ver⟩⟩)
    (fun d => d.1 ≤ 2 ∧ (0 < d.1 → termFault a.n a.lo.a a.lo.b a.lo.c a.hi.a a.hi.b a.hi.c = 0) ∧ (1 < d.1 → termFault b.n b.lo.a b.lo.b b.lo.c b.hi.a b.hi.b b.hi.c = 0)) (fun d => 2 - d.1) (0, []) (less_envOf (by simp) rfl fun _ => rfl) (by simp) ?_
  rintro ⟨k, bs⟩ ⟨hk, i1, i2⟩
  simp only at hk i1 i2 ⊢
  by_cases hlt : k < 2
  · have hk01 : k = 0 ∨ k = 1 := by omega
    rcases hk01 with rfl | rfl
    · simp
      refine call_p (q_termFault _ _ _ _ _ _ _) (by simp) ?_
      by_cases h : termFault a.n a.lo.a a.lo.b a.lo.c a.hi.a a.hi.b a.hi.c = 0
      · simp [h]
        exact ⟨1, ⟨_, less_envOf (by simp; decide) rfl fun _ => rfl⟩, by omega, by omega⟩
      · simp [h, meetK, tF, noT]
    · have h1 := i1 (by omega)
      simp
      refine call_p (q_termFault _ _ _ _ _ _ _) (by simp) ?_
      by_cases h : termFault b.n b.lo.a b.lo.b b.lo.c b.hi.a b.hi.b b.hi.c = 0
      · simp [h]
        exact ⟨2, ⟨_, less_envOf (by simp; decide) rfl fun _ => rfl⟩, ⟨by omega, fun _ => h1⟩, by omega⟩
      · simp [h, h1, meetK, tF, noT]
  · have h1 := i1 (by omega)
    have h2 := i2 (by omega)
    simp [show ¬ (k : Int) < 2 by omega]
    refine call_p (p_compare _ _ _ _ _ _) (by simp) ?_
    by_cases h3 : 0 < cmpF b.lo.a b.lo.b b.lo.c a.lo.a a.lo.b a.lo.c <;> by_cases h4 : cmpF b.hi.a b.hi.b b.hi.c a.hi.a a.hi.b a.hi.c < 0 <;> by_cases h5 : a.n = b.n
    all_goals
      simp [h3, -Int.not_le, -Int.not_lt]
      refine call_p (p_compare _ _ _ _ _ _) (by simp) ?_
      simp [h4, h5, -Int.not_le, -Int.not_lt]
    all_goals first
      | (rw [h5] at h1
         refine call_p (p_compare _ _ _ _ _ _) (by simp) ?_
         simp (config := { contextual := true, maxSteps := 4000000 }) [meetK, tF, h1, h2, h3, h4, h5, meetT, mxV, mnV, noT, -Int.not_le, -Int.not_lt])
      | simp [meetK, tF, h1, h2, h3, h4, h5, meetT, mxV, mnV, noT]


end Go.Proofs.YtokhnmchnfkiiaaDoor.Am
