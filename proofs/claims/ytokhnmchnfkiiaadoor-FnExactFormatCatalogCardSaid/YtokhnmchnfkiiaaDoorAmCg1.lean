import Derived.Test.YtokhnmchnfkiiaaDoorAmT
import Derived.Test.YtokhnmchnfkiiaaDoorAmW
import Derived.IntWalk
/- Versions, names, terms: what the functions about them return. No conditions. -/
namespace Go.Proofs.YtokhnmchnfkiiaaDoor.Am
open Go Go.RowKit Go.Proofs
set_option linter.unusedSimpArgs false
set_option linter.unusedVariables false

noncomputable def G0 : Cfg := ⟨Tryd.prog, fun _ => false, fun t => t == 25, fun _ => true, 0⟩
theorem vers0 : G0.Vers := by
  intro t h x y a1 a2 a3 b1 b2 b3 w
  have e : t = 25 := by simpa [G0] using h
  subst e
  exact vers_of Tryd.underlying25 (by kernel_rfl) (by kernel_rfl) (by decide) (by decide) (by decide) rfl rfl rfl (by kernel_rfl) (by kernel_rfl) (by kernel_rfl) x y a1 a2 a3 b1 b2 b3 w
theorem mixed0 : Tryd.prog.follows .mixedOrders = true := by kernel_rfl

def inF (a b c : Int) : Bool := decide (b ≤ a) && decide (a ≤ c)

theorem p_in (a b c : Int) : Pure Tryd.prog 58 [.v (.int .i64 a), .v (.int .i64 b), .v (.int .i64 c)] (.v (.bool (inF a b c))) := by
  refine pure_of_code (G := G0) vers0 mixed0 Tryd.func58 rfl (by decide) (by simp [Tryd.f58]) (by simp) fun ver => ?_
  simp only [Tryd.f58, G0]
  repeat' first
    | with_reducible refine And.intro ?_ ?_
    | with_reducible intro _
    | (first | with_reducible refine adraw_f 2 (by decide +kernel) ?_ | with_reducible refine adraw_f 3 (by decide +kernel) ?_ | with_reducible refine adraw_f 4 (by decide +kernel) ?_ | with_reducible refine adraw_f 5 (by decide +kernel) ?_ | with_reducible refine adraw_f 6 (by decide +kernel) ?_ | with_reducible refine adraw_f 7 (by decide +kernel) ?_ | with_reducible refine adraw_f 8 (by decide +kernel) ?_ | with_reducible refine adraw_f 9 (by decide +kernel) ?_ | with_reducible refine adraw_f 10 (by decide +kernel) ?_ | with_reducible refine adraw_f 11 (by decide +kernel) ?_ | with_reducible refine adraw_cut 0 (by decide +kernel) ?_ | with_reducible refine adraw_cut 1 (by decide +kernel) ?_ | with_reducible refine adraw_cut 2 (by decide +kernel) ?_ | with_reducible refine adraw_cut 3 (by decide +kernel) ?_ | with_reducible refine adraw_cut 4 (by decide +kernel) ?_ | with_reducible refine adraw_cut 5 (by decide +kernel) ?_ | with_reducible refine adraw_cut 6 (by decide +kernel) ?_ | with_reducible refine adraw_cut 7 (by decide +kernel) ?_ | with_reducible refine adraw_cut 8 (by decide +kernel) ?_ | with_reducible refine adraw_cut 9 (by decide +kernel) ?_ | with_reducible refine adraw_all (by kernel_rfl) ?_)
    | simp (config := { contextual := true, maxSteps := 4000000 }) [*, inF, -Int.not_le, -Int.not_lt]

theorem p_within (a b c : Int) : Pure Tryd.prog 85 [.v (.int .i64 a), .v (.int .i64 b), .v (.int .i64 c)] (.v (.bool (inF a b c))) := by
  refine pure_of_code (G := G0) vers0 mixed0 Tryd.func85 rfl (by decide) (by simp [Tryd.f85]) (by simp) fun ver => ?_
  simp only [Tryd.f85, G0]
  repeat' first
    | with_reducible refine And.intro ?_ ?_
    | with_reducible intro _
    | (first | with_reducible refine adraw_f 2 (by decide +kernel) ?_ | with_reducible refine adraw_f 3 (by decide +kernel) ?_ | with_reducible refine adraw_f 4 (by decide +kernel) ?_ | with_reducible refine adraw_f 5 (by decide +kernel) ?_ | with_reducible refine adraw_f 6 (by decide +kernel) ?_ | with_reducible refine adraw_f 7 (by decide +kernel) ?_ | with_reducible refine adraw_f 8 (by decide +kernel) ?_ | with_reducible refine adraw_f 9 (by decide +kernel) ?_ | with_reducible refine adraw_f 10 (by decide +kernel) ?_ | with_reducible refine adraw_f 11 (by decide +kernel) ?_ | with_reducible refine adraw_cut 0 (by decide +kernel) ?_ | with_reducible refine adraw_cut 1 (by decide +kernel) ?_ | with_reducible refine adraw_cut 2 (by decide +kernel) ?_ | with_reducible refine adraw_cut 3 (by decide +kernel) ?_ | with_reducible refine adraw_cut 4 (by decide +kernel) ?_ | with_reducible refine adraw_cut 5 (by decide +kernel) ?_ | with_reducible refine adraw_cut 6 (by decide +kernel) ?_ | with_reducible refine adraw_cut 7 (by decide +kernel) ?_ | with_reducible refine adraw_cut 8 (by decide +kernel) ?_ | with_reducible refine adraw_cut 9 (by decide +kernel) ?_ | with_reducible refine adraw_all (by kernel_rfl) ?_)
    | simp (config := { contextual := true, maxSteps := 4000000 }) [*, inF, -Int.not_le, -Int.not_lt]

def versionFault (a b c : Int) : Int := if inF a 0 999 && inF b 0 999 && inF c 0 999 then 0 else 3

theorem p_versionFault (a b c : Int) : Pure Tryd.prog 24 [.agg [.v (.int .i64 a), .v (.int .i64 b), .v (.int .i64 c)]] (.v (.int .i64 (versionFault a b c))) := by
  refine pure_of_code (G := G0) vers0 mixed0 Tryd.func24 rfl (by decide) (by simp [Tryd.f24]) (by simp) fun ver => ?_
  simp only [Tryd.f24, G0]
  repeat' first
    | with_reducible refine And.intro ?_ ?_
    | with_reducible intro _
    | (first | with_reducible refine adraw_f 2 (by decide +kernel) ?_ | with_reducible refine adraw_f 3 (by decide +kernel) ?_ | with_reducible refine adraw_f 4 (by decide +kernel) ?_ | with_reducible refine adraw_f 5 (by decide +kernel) ?_ | with_reducible refine adraw_f 6 (by decide +kernel) ?_ | with_reducible refine adraw_f 7 (by decide +kernel) ?_ | with_reducible refine adraw_f 8 (by decide +kernel) ?_ | with_reducible refine adraw_f 9 (by decide +kernel) ?_ | with_reducible refine adraw_f 10 (by decide +kernel) ?_ | with_reducible refine adraw_f 11 (by decide +kernel) ?_ | with_reducible refine adraw_cut 0 (by decide +kernel) ?_ | with_reducible refine adraw_cut 1 (by decide +kernel) ?_ | with_reducible refine adraw_cut 2 (by decide +kernel) ?_ | with_reducible refine adraw_cut 3 (by decide +kernel) ?_ | with_reducible refine adraw_cut 4 (by decide +kernel) ?_ | with_reducible refine adraw_cut 5 (by decide +kernel) ?_ | with_reducible refine adraw_cut 6 (by decide +kernel) ?_ | with_reducible refine adraw_cut 7 (by decide +kernel) ?_ | with_reducible refine adraw_cut 8 (by decide +kernel) ?_ | with_reducible refine adraw_cut 9 (by decide +kernel) ?_ | with_reducible refine adraw_all (by kernel_rfl) ?_)
    | with_reducible refine call_p (p_in _ _ _) (by simp) ?_
    | with_reducible refine call_f (p_in _ _ _) (by simp) ?_
    | simp (config := { contextual := true, maxSteps := 4000000 }) [*, versionFault, -Int.not_le, -Int.not_lt]

theorem q_versionFault (a b c : Int) : Pure Tryd.prog 44 [.agg [.v (.int .i64 a), .v (.int .i64 b), .v (.int .i64 c)]] (.v (.int .i64 (versionFault a b c))) := by
  refine pure_of_code (G := G0) vers0 mixed0 Tryd.func44 rfl (by decide) (by simp [Tryd.f44]) (by simp) fun ver => ?_
  simp only [Tryd.f44, G0]
  repeat' first
    | with_reducible refine And.intro ?_ ?_
    | with_reducible intro _
    | (first | with_reducible refine adraw_f 2 (by decide +kernel) ?_ | with_reducible refine adraw_f 3 (by decide +kernel) ?_ | with_reducible refine adraw_f 4 (by decide +kernel) ?_ | with_reducible refine adraw_f 5 (by decide +kernel) ?_ | with_reducible refine adraw_f 6 (by decide +kernel) ?_ | with_reducible refine adraw_f 7 (by decide +kernel) ?_ | with_reducible refine adraw_f 8 (by decide +kernel) ?_ | with_reducible refine adraw_f 9 (by decide +kernel) ?_ | with_reducible refine adraw_f 10 (by decide +kernel) ?_ | with_reducible refine adraw_f 11 (by decide +kernel) ?_ | with_reducible refine adraw_cut 0 (by decide +kernel) ?_ | with_reducible refine adraw_cut 1 (by decide +kernel) ?_ | with_reducible refine adraw_cut 2 (by decide +kernel) ?_ | with_reducible refine adraw_cut 3 (by decide +kernel) ?_ | with_reducible refine adraw_cut 4 (by decide +kernel) ?_ | with_reducible refine adraw_cut 5 (by decide +kernel) ?_ | with_reducible refine adraw_cut 6 (by decide +kernel) ?_ | with_reducible refine adraw_cut 7 (by decide +kernel) ?_ | with_reducible refine adraw_cut 8 (by decide +kernel) ?_ | with_reducible refine adraw_cut 9 (by decide +kernel) ?_ | with_reducible refine adraw_all (by kernel_rfl) ?_)
    | with_reducible refine call_p (p_within _ _ _) (by simp) ?_
    | with_reducible refine call_f (p_within _ _ _) (by simp) ?_
    | simp (config := { contextual := true, maxSteps := 4000000 }) [*, versionFault, -Int.not_le, -Int.not_lt]

theorem p_toVersion (a b c : Int) : Pure Tryd.prog 12 [.agg [.v (.int .i64 a), .v (.int .i64 b), .v (.int .i64 c)]] (.agg [.v (.int .i64 a), .v (.int .i64 b), .v (.int .i64 c)]) := by
  refine pure_of_code (G := G0) vers0 mixed0 Tryd.func12 rfl (by decide) (by simp [Tryd.f12]) (by simp) fun ver => ?_
  simp only [Tryd.f12, G0]
  repeat' first
    | with_reducible refine And.intro ?_ ?_
    | with_reducible intro _
    | (first | with_reducible refine adraw_f 2 (by decide +kernel) ?_ | with_reducible refine adraw_f 3 (by decide +kernel) ?_ | with_reducible refine adraw_f 4 (by decide +kernel) ?_ | with_reducible refine adraw_f 5 (by decide +kernel) ?_ | with_reducible refine adraw_f 6 (by decide +kernel) ?_ | with_reducible refine adraw_f 7 (by decide +kernel) ?_ | with_reducible refine adraw_f 8 (by decide +kernel) ?_ | with_reducible refine adraw_f 9 (by decide +kernel) ?_ | with_reducible refine adraw_f 10 (by decide +kernel) ?_ | with_reducible refine adraw_f 11 (by decide +kernel) ?_ | with_reducible refine adraw_cut 0 (by decide +kernel) ?_ | with_reducible refine adraw_cut 1 (by decide +kernel) ?_ | with_reducible refine adraw_cut 2 (by decide +kernel) ?_ | with_reducible refine adraw_cut 3 (by decide +kernel) ?_ | with_reducible refine adraw_cut 4 (by decide +kernel) ?_ | with_reducible refine adraw_cut 5 (by decide +kernel) ?_ | with_reducible refine adraw_cut 6 (by decide +kernel) ?_ | with_reducible refine adraw_cut 7 (by decide +kernel) ?_ | with_reducible refine adraw_cut 8 (by decide +kernel) ?_ | with_reducible refine adraw_cut 9 (by decide +kernel) ?_ | with_reducible refine adraw_all (by kernel_rfl) ?_)
    | simp (config := { contextual := true, maxSteps := 4000000 }) [*, -Int.not_le, -Int.not_lt]


def signF (a b : Int) : Int := if a < b then -1 else if b < a then 1 else 0

theorem p_sign (a b : Int) : Pure Tryd.prog 88 [.v (.int .i64 a), .v (.int .i64 b)] (.v (.int .i64 (signF a b))) := by
  refine pure_of_code (G := G0) vers0 mixed0 Tryd.func88 rfl (by decide) (by simp [Tryd.f88]) (by simp) fun ver => ?_
  simp only [Tryd.f88, G0]
  repeat' first
    | with_reducible refine And.intro ?_ ?_
    | with_reducible intro _
    | (first | with_reducible refine adraw_f 2 (by decide +kernel) ?_ | with_reducible refine adraw_f 3 (by decide +kernel) ?_ | with_reducible refine adraw_f 4 (by decide +kernel) ?_ | with_reducible refine adraw_f 5 (by decide +kernel) ?_ | with_reducible refine adraw_f 6 (by decide +kernel) ?_ | with_reducible refine adraw_f 7 (by decide +kernel) ?_ | with_reducible refine adraw_f 8 (by decide +kernel) ?_ | with_reducible refine adraw_f 9 (by decide +kernel) ?_ | with_reducible refine adraw_f 10 (by decide +kernel) ?_ | with_reducible refine adraw_f 11 (by decide +kernel) ?_ | with_reducible refine adraw_cut 0 (by decide +kernel) ?_ | with_reducible refine adraw_cut 1 (by decide +kernel) ?_ | with_reducible refine adraw_cut 2 (by decide +kernel) ?_ | with_reducible refine adraw_cut 3 (by decide +kernel) ?_ | with_reducible refine adraw_cut 4 (by decide +kernel) ?_ | with_reducible refine adraw_cut 5 (by decide +kernel) ?_ | with_reducible refine adraw_cut 6 (by decide +kernel) ?_ | with_reducible refine adraw_cut 7 (by decide +kernel) ?_ | with_reducible refine adraw_cut 8 (by decide +kernel) ?_ | with_reducible refine adraw_cut 9 (by decide +kernel) ?_ | with_reducible refine adraw_all (by kernel_rfl) ?_)
    | simp (config := { contextual := true, maxSteps := 4000000 }) [*, signF, -Int.not_le, -Int.not_lt]

theorem p_isNaN (a : Int) : Pure Tryd.prog 119 [.v (.int .i64 a)] (.v (.bool false)) := by
  refine pure_of_code (G := G0) vers0 mixed0 Tryd.func119 rfl (by decide) (by simp [Tryd.f119]) (by simp) fun ver => ?_
  simp only [Tryd.f119, G0]
  repeat' first
    | with_reducible refine And.intro ?_ ?_
    | with_reducible intro _
    | (first | with_reducible refine adraw_f 2 (by decide +kernel) ?_ | with_reducible refine adraw_f 3 (by decide +kernel) ?_ | with_reducible refine adraw_f 4 (by decide +kernel) ?_ | with_reducible refine adraw_f 5 (by decide +kernel) ?_ | with_reducible refine adraw_f 6 (by decide +kernel) ?_ | with_reducible refine adraw_f 7 (by decide +kernel) ?_ | with_reducible refine adraw_f 8 (by decide +kernel) ?_ | with_reducible refine adraw_f 9 (by decide +kernel) ?_ | with_reducible refine adraw_f 10 (by decide +kernel) ?_ | with_reducible refine adraw_f 11 (by decide +kernel) ?_ | with_reducible refine adraw_cut 0 (by decide +kernel) ?_ | with_reducible refine adraw_cut 1 (by decide +kernel) ?_ | with_reducible refine adraw_cut 2 (by decide +kernel) ?_ | with_reducible refine adraw_cut 3 (by decide +kernel) ?_ | with_reducible refine adraw_cut 4 (by decide +kernel) ?_ | with_reducible refine adraw_cut 5 (by decide +kernel) ?_ | with_reducible refine adraw_cut 6 (by decide +kernel) ?_ | with_reducible refine adraw_cut 7 (by decide +kernel) ?_ | with_reducible refine adraw_cut 8 (by decide +kernel) ?_ | with_reducible refine adraw_cut 9 (by decide +kernel) ?_ | with_reducible refine adraw_all (by kernel_rfl) ?_)
    | simp (config := { contextual := true, maxSteps := 4000000 }) [*, -Int.not_le, -Int.not_lt]

theorem p_cmp (a b : Int) : Pure Tryd.prog 93 [.v (.int .i64 a), .v (.int .i64 b)] (.v (.int .i64 (signF a b))) := by
  refine pure_of_code (G := G0) vers0 mixed0 Tryd.func93 rfl (by decide) (by simp [Tryd.f93]) (by simp) fun ver => ?_
  simp only [Tryd.f93, G0]
  repeat' first
    | with_reducible refine And.intro ?_ ?_
    | with_reducible intro _
    | (first | with_reducible refine adraw_f 2 (by decide +kernel) ?_ | with_reducible refine adraw_f 3 (by decide +kernel) ?_ | with_reducible refine adraw_f 4 (by decide +kernel) ?_ | with_reducible refine adraw_f 5 (by decide +kernel) ?_ | with_reducible refine adraw_f 6 (by decide +kernel) ?_ | with_reducible refine adraw_f 7 (by decide +kernel) ?_ | with_reducible refine adraw_f 8 (by decide +kernel) ?_ | with_reducible refine adraw_f 9 (by decide +kernel) ?_ | with_reducible refine adraw_f 10 (by decide +kernel) ?_ | with_reducible refine adraw_f 11 (by decide +kernel) ?_ | with_reducible refine adraw_cut 0 (by decide +kernel) ?_ | with_reducible refine adraw_cut 1 (by decide +kernel) ?_ | with_reducible refine adraw_cut 2 (by decide +kernel) ?_ | with_reducible refine adraw_cut 3 (by decide +kernel) ?_ | with_reducible refine adraw_cut 4 (by decide +kernel) ?_ | with_reducible refine adraw_cut 5 (by decide +kernel) ?_ | with_reducible refine adraw_cut 6 (by decide +kernel) ?_ | with_reducible refine adraw_cut 7 (by decide +kernel) ?_ | with_reducible refine adraw_cut 8 (by decide +kernel) ?_ | with_reducible refine adraw_cut 9 (by decide +kernel) ?_ | with_reducible refine adraw_all (by kernel_rfl) ?_)
    | with_reducible refine call_p (p_isNaN _) (by simp) ?_
    | with_reducible refine call_f (p_isNaN _) (by simp) ?_
    | simp (config := { contextual := true, maxSteps := 4000000 }) [*, signF, -Int.not_le, -Int.not_lt]

def cmpF (a b c x y z : Int) : Int := if signF a x ≠ 0 then signF a x else if signF b y ≠ 0 then signF b y else signF c z

theorem p_compareVersions (a b c x y z : Int) : Pure Tryd.prog 52 [.agg [.v (.int .i64 a), .v (.int .i64 b), .v (.int .i64 c)], .agg [.v (.int .i64 x), .v (.int .i64 y), .v (.int .i64 z)]] (.v (.int .i64 (cmpF a b c x y z))) := by
  refine pure_of_code (G := G0) vers0 mixed0 Tryd.func52 rfl (by decide) (by simp [Tryd.f52]) (by simp) fun ver => ?_
  simp only [Tryd.f52, G0]
  repeat' first
    | with_reducible refine And.intro ?_ ?_
    | with_reducible intro _
    | (first | with_reducible refine adraw_f 2 (by decide +kernel) ?_ | with_reducible refine adraw_f 3 (by decide +kernel) ?_ | with_reducible refine adraw_f 4 (by decide +kernel) ?_ | with_reducible refine adraw_f 5 (by decide +kernel) ?_ | with_reducible refine adraw_f 6 (by decide +kernel) ?_ | with_reducible refine adraw_f 7 (by decide +kernel) ?_ | with_reducible refine adraw_f 8 (by decide +kernel) ?_ | with_reducible refine adraw_f 9 (by decide +kernel) ?_ | with_reducible refine adraw_f 10 (by decide +kernel) ?_ | with_reducible refine adraw_f 11 (by decide +kernel) ?_ | with_reducible refine adraw_cut 0 (by decide +kernel) ?_ | with_reducible refine adraw_cut 1 (by decide +kernel) ?_ | with_reducible refine adraw_cut 2 (by decide +kernel) ?_ | with_reducible refine adraw_cut 3 (by decide +kernel) ?_ | with_reducible refine adraw_cut 4 (by decide +kernel) ?_ | with_reducible refine adraw_cut 5 (by decide +kernel) ?_ | with_reducible refine adraw_cut 6 (by decide +kernel) ?_ | with_reducible refine adraw_cut 7 (by decide +kernel) ?_ | with_reducible refine adraw_cut 8 (by decide +kernel) ?_ | with_reducible refine adraw_cut 9 (by decide +kernel) ?_ | with_reducible refine adraw_all (by kernel_rfl) ?_)
    | with_reducible refine call_p (p_sign _ _) (by simp) ?_
    | with_reducible refine call_f (p_sign _ _) (by simp) ?_
    | simp (config := { contextual := true, maxSteps := 4000000 }) [*, cmpF, -Int.not_le, -Int.not_lt]

def ints (l : List Int) : List (List AV) := l.map fun n => [.v (.int .i64 n)]
def orF : List Int → Int
  | [] => 0
  | n :: l => if n ≠ 0 then n else orF l

theorem p_or (col : Bool) (l : List Int) (hl : l.length ≤ 4611686018427387904) : Pure Tryd.prog 92 [.sl col (ints l)] (.v (.int .i64 (orF l))) := by
  refine pure_of_code (G := G0) vers0 mixed0 Tryd.func92 rfl (by decide) (by simp [Tryd.f92]) (by simp) fun ver => ?_
  simp [Tryd.f92, G0, ints]
  refine aloop (α := Nat) (fun k => ⟨envOf [(3, .v (.int .i64 0)), (6, .sl col (ints l)), (7, .v (.int .i64 l.length)), (8, .v (.int .i64 k))], ⟨[], noArrs ver⟩⟩)
    (fun k => k ≤ l.length ∧ orF (l.drop k) = orF l) (fun k => l.length - k) 0 (less_envOf (by simp [ints]) rfl fun _ => rfl) (by simp) ?_
  rintro k ⟨hk, hm⟩
  by_cases hlt : k < l.length
  · have hd : l.drop k = l[k] :: l.drop (k + 1) := List.drop_eq_getElem_cons hlt
    have hw : IntKind.i64.wrap ((k : Int) + 1) = ((k + 1 : Nat) : Int) := by rw [IntWalk.i64_in _ (by omega)]; omega
    rw [hd] at hm
    simp (config := { contextual := true }) [ints, hlt, hw]
    refine ⟨fun h => ?_, fun h => ?_⟩
    · simpa [orF, h] using hm
    · refine ⟨k + 1, less_envOf (by simp [ints]) rfl fun _ => rfl, ⟨by omega, ?_⟩, by omega⟩
      simpa [orF, h] using hm
  · have hd : l.drop k = [] := List.drop_eq_nil_of_le (by omega)
    rw [hd] at hm
    simp (config := { contextual := true }) [hlt]
    exact hm

theorem or_cmp (a b c x y z : Int) : orF [signF a x, signF b y, signF c z] = cmpF a b c x y z := by
  simp only [orF, cmpF]
  split
  · rfl
  · split
    · rfl
    · split <;> simp_all

theorem p_compare (a b c x y z : Int) : Pure Tryd.prog 57 [.agg [.v (.int .i64 a), .v (.int .i64 b), .v (.int .i64 c)], .agg [.v (.int .i64 x), .v (.int .i64 y), .v (.int .i64 z)]] (.v (.int .i64 (cmpF a b c x y z))) := by
  rw [← or_cmp]
  refine pure_of_code (G := G0) vers0 mixed0 Tryd.func57 rfl (by decide) (by simp [Tryd.f57]) (by simp) fun ver => ?_
  simp only [Tryd.f57, G0]
  repeat' first
    | with_reducible refine And.intro ?_ ?_
    | with_reducible intro _
    | (first | with_reducible refine adraw_f 2 (by decide +kernel) ?_ | with_reducible refine adraw_f 3 (by decide +kernel) ?_ | with_reducible refine adraw_f 4 (by decide +kernel) ?_ | with_reducible refine adraw_f 5 (by decide +kernel) ?_ | with_reducible refine adraw_f 6 (by decide +kernel) ?_ | with_reducible refine adraw_f 7 (by decide +kernel) ?_ | with_reducible refine adraw_f 8 (by decide +kernel) ?_ | with_reducible refine adraw_f 9 (by decide +kernel) ?_ | with_reducible refine adraw_f 10 (by decide +kernel) ?_ | with_reducible refine adraw_f 11 (by decide +kernel) ?_ | with_reducible refine adraw_cut 0 (by decide +kernel) ?_ | with_reducible refine adraw_cut 1 (by decide +kernel) ?_ | with_reducible refine adraw_cut 2 (by decide +kernel) ?_ | with_reducible refine adraw_cut 3 (by decide +kernel) ?_ | with_reducible refine adraw_cut 4 (by decide +kernel) ?_ | with_reducible refine adraw_cut 5 (by decide +kernel) ?_ | with_reducible refine adraw_cut 6 (by decide +kernel) ?_ | with_reducible refine adraw_cut 7 (by decide +kernel) ?_ | with_reducible refine adraw_cut 8 (by decide +kernel) ?_ | with_reducible refine adraw_cut 9 (by decide +kernel) ?_ | with_reducible refine adraw_all (by kernel_rfl) ?_)
    | with_reducible refine call_p (p_cmp _ _) (by simp) ?_
    | with_reducible refine call_f (p_cmp _ _) (by simp) ?_
    | ((with_reducible refine at_call ?_); refine call_p (p_or _ [_, _, _] (by simp)) (by simp) ?_)
    | simp (config := { contextual := true, maxSteps := 4000000 }) [*, sealRows, sealCells, List.range_succ, -Int.not_le, -Int.not_lt]

theorem q_compareVersions (a b c x y z : Int) : Pure Tryd.prog 23 [.agg [.v (.int .i64 a), .v (.int .i64 b), .v (.int .i64 c)], .agg [.v (.int .i64 x), .v (.int .i64 y), .v (.int .i64 z)]] (.v (.int .i64 (cmpF a b c x y z))) := by
  refine pure_of_code (G := G0) vers0 mixed0 Tryd.func23 rfl (by decide) (by simp [Tryd.f23]) (by simp) fun ver => ?_
  simp only [Tryd.f23, G0]
  repeat' first
    | with_reducible refine And.intro ?_ ?_
    | with_reducible intro _
    | (first | with_reducible refine adraw_f 2 (by decide +kernel) ?_ | with_reducible refine adraw_f 3 (by decide +kernel) ?_ | with_reducible refine adraw_f 4 (by decide +kernel) ?_ | with_reducible refine adraw_f 5 (by decide +kernel) ?_ | with_reducible refine adraw_f 6 (by decide +kernel) ?_ | with_reducible refine adraw_f 7 (by decide +kernel) ?_ | with_reducible refine adraw_f 8 (by decide +kernel) ?_ | with_reducible refine adraw_f 9 (by decide +kernel) ?_ | with_reducible refine adraw_f 10 (by decide +kernel) ?_ | with_reducible refine adraw_f 11 (by decide +kernel) ?_ | with_reducible refine adraw_cut 0 (by decide +kernel) ?_ | with_reducible refine adraw_cut 1 (by decide +kernel) ?_ | with_reducible refine adraw_cut 2 (by decide +kernel) ?_ | with_reducible refine adraw_cut 3 (by decide +kernel) ?_ | with_reducible refine adraw_cut 4 (by decide +kernel) ?_ | with_reducible refine adraw_cut 5 (by decide +kernel) ?_ | with_reducible refine adraw_cut 6 (by decide +kernel) ?_ | with_reducible refine adraw_cut 7 (by decide +kernel) ?_ | with_reducible refine adraw_cut 8 (by decide +kernel) ?_ | with_reducible refine adraw_cut 9 (by decide +kernel) ?_ | with_reducible refine adraw_all (by kernel_rfl) ?_)
    | with_reducible refine call_p (p_compare _ _ _ _ _ _) (by simp) ?_
    | with_reducible refine call_f (p_compare _ _ _ _ _ _) (by simp) ?_
    | simp (config := { contextual := true, maxSteps := 4000000 }) [*, -Int.not_le, -Int.not_lt]


theorem p_letter (a : Int) : Pure Tryd.prog 94 [.v (.int .u8 a)] (.v (.bool (inF a 97 122))) := by
  refine pure_of_code (G := G0) vers0 mixed0 Tryd.func94 rfl (by decide) (by simp [Tryd.f94]) (by simp) fun ver => ?_
  simp only [Tryd.f94, G0]
  repeat' first
    | with_reducible refine And.intro ?_ ?_
    | with_reducible intro _
    | (first | with_reducible refine adraw_f 2 (by decide +kernel) ?_ | with_reducible refine adraw_f 3 (by decide +kernel) ?_ | with_reducible refine adraw_f 4 (by decide +kernel) ?_ | with_reducible refine adraw_f 5 (by decide +kernel) ?_ | with_reducible refine adraw_f 6 (by decide +kernel) ?_ | with_reducible refine adraw_f 7 (by decide +kernel) ?_ | with_reducible refine adraw_f 8 (by decide +kernel) ?_ | with_reducible refine adraw_f 9 (by decide +kernel) ?_ | with_reducible refine adraw_f 10 (by decide +kernel) ?_ | with_reducible refine adraw_f 11 (by decide +kernel) ?_ | with_reducible refine adraw_cut 0 (by decide +kernel) ?_ | with_reducible refine adraw_cut 1 (by decide +kernel) ?_ | with_reducible refine adraw_cut 2 (by decide +kernel) ?_ | with_reducible refine adraw_cut 3 (by decide +kernel) ?_ | with_reducible refine adraw_cut 4 (by decide +kernel) ?_ | with_reducible refine adraw_cut 5 (by decide +kernel) ?_ | with_reducible refine adraw_cut 6 (by decide +kernel) ?_ | with_reducible refine adraw_cut 7 (by decide +kernel) ?_ | with_reducible refine adraw_cut 8 (by decide +kernel) ?_ | with_reducible refine adraw_cut 9 (by decide +kernel) ?_ | with_reducible refine adraw_all (by kernel_rfl) ?_)
    | simp (config := { contextual := true, maxSteps := 4000000 }) [*, inF, -Int.not_le, -Int.not_lt]

theorem p_digit (a : Int) : Pure Tryd.prog 86 [.v (.int .u8 a)] (.v (.bool (inF a 48 57))) := by
  refine pure_of_code (G := G0) vers0 mixed0 Tryd.func86 rfl (by decide) (by simp [Tryd.f86]) (by simp) fun ver => ?_
  simp only [Tryd.f86, G0]
  repeat' first
    | with_reducible refine And.intro ?_ ?_
    | with_reducible intro _
    | (first | with_reducible refine adraw_f 2 (by decide +kernel) ?_ | with_reducible refine adraw_f 3 (by decide +kernel) ?_ | with_reducible refine adraw_f 4 (by decide +kernel) ?_ | with_reducible refine adraw_f 5 (by decide +kernel) ?_ | with_reducible refine adraw_f 6 (by decide +kernel) ?_ | with_reducible refine adraw_f 7 (by decide +kernel) ?_ | with_reducible refine adraw_f 8 (by decide +kernel) ?_ | with_reducible refine adraw_f 9 (by decide +kernel) ?_ | with_reducible refine adraw_f 10 (by decide +kernel) ?_ | with_reducible refine adraw_f 11 (by decide +kernel) ?_ | with_reducible refine adraw_cut 0 (by decide +kernel) ?_ | with_reducible refine adraw_cut 1 (by decide +kernel) ?_ | with_reducible refine adraw_cut 2 (by decide +kernel) ?_ | with_reducible refine adraw_cut 3 (by decide +kernel) ?_ | with_reducible refine adraw_cut 4 (by decide +kernel) ?_ | with_reducible refine adraw_cut 5 (by decide +kernel) ?_ | with_reducible refine adraw_cut 6 (by decide +kernel) ?_ | with_reducible refine adraw_cut 7 (by decide +kernel) ?_ | with_reducible refine adraw_cut 8 (by decide +kernel) ?_ | with_reducible refine adraw_cut 9 (by decide +kernel) ?_ | with_reducible refine adraw_all (by kernel_rfl) ?_)
    | simp (config := { contextual := true, maxSteps := 4000000 }) [*, inF, -Int.not_le, -Int.not_lt]

def nameB (a : Int) : Bool := inF a 97 122 || inF a 48 57 || decide (a = 95)

theorem p_nameB (a : Int) : Pure Tryd.prog 59 [.v (.int .u8 a)] (.v (.bool (nameB a))) := by
  refine pure_of_code (G := G0) vers0 mixed0 Tryd.func59 rfl (by decide) (by simp [Tryd.f59]) (by simp) fun ver => ?_
  simp only [Tryd.f59, G0]
  repeat' first
    | with_reducible refine And.intro ?_ ?_
    | with_reducible intro _
    | (first | with_reducible refine adraw_f 2 (by decide +kernel) ?_ | with_reducible refine adraw_f 3 (by decide +kernel) ?_ | with_reducible refine adraw_f 4 (by decide +kernel) ?_ | with_reducible refine adraw_f 5 (by decide +kernel) ?_ | with_reducible refine adraw_f 6 (by decide +kernel) ?_ | with_reducible refine adraw_f 7 (by decide +kernel) ?_ | with_reducible refine adraw_f 8 (by decide +kernel) ?_ | with_reducible refine adraw_f 9 (by decide +kernel) ?_ | with_reducible refine adraw_f 10 (by decide +kernel) ?_ | with_reducible refine adraw_f 11 (by decide +kernel) ?_ | with_reducible refine adraw_cut 0 (by decide +kernel) ?_ | with_reducible refine adraw_cut 1 (by decide +kernel) ?_ | with_reducible refine adraw_cut 2 (by decide +kernel) ?_ | with_reducible refine adraw_cut 3 (by decide +kernel) ?_ | with_reducible refine adraw_cut 4 (by decide +kernel) ?_ | with_reducible refine adraw_cut 5 (by decide +kernel) ?_ | with_reducible refine adraw_cut 6 (by decide +kernel) ?_ | with_reducible refine adraw_cut 7 (by decide +kernel) ?_ | with_reducible refine adraw_cut 8 (by decide +kernel) ?_ | with_reducible refine adraw_cut 9 (by decide +kernel) ?_ | with_reducible refine adraw_all (by kernel_rfl) ?_)
    | with_reducible refine call_p (p_letter _) (by simp) ?_
    | with_reducible refine call_f (p_letter _) (by simp) ?_
    | with_reducible refine call_p (p_digit _) (by simp) ?_
    | with_reducible refine call_f (p_digit _) (by simp) ?_
    | simp (config := { contextual := true, maxSteps := 4000000 }) [*, nameB, -Int.not_le, -Int.not_lt]

set_option maxRecDepth 10000 in
theorem q_nameB (a : Int) : Pure Tryd.prog 62 [.v (.int .u8 a)] (.v (.bool (nameB a))) := by
  refine pure_of_code (G := G0) vers0 mixed0 Tryd.func62 rfl (by decide) (by simp [Tryd.f62]) (by simp) fun ver => ?_
  simp only [Tryd.f62, G0]
  repeat' first
    | with_reducible refine And.intro ?_ ?_
    | with_reducible intro _
    | (first | with_reducible refine adraw_f 2 (by decide +kernel) ?_ | with_reducible refine adraw_f 3 (by decide +kernel) ?_ | with_reducible refine adraw_f 4 (by decide +kernel) ?_ | with_reducible refine adraw_f 5 (by decide +kernel) ?_ | with_reducible refine adraw_f 6 (by decide +kernel) ?_ | with_reducible refine adraw_f 7 (by decide +kernel) ?_ | with_reducible refine adraw_f 8 (by decide +kernel) ?_ | with_reducible refine adraw_f 9 (by decide +kernel) ?_ | with_reducible refine adraw_f 10 (by decide +kernel) ?_ | with_reducible refine adraw_f 11 (by decide +kernel) ?_ | with_reducible refine adraw_cut 0 (by decide +kernel) ?_ | with_reducible refine adraw_cut 1 (by decide +kernel) ?_ | with_reducible refine adraw_cut 2 (by decide +kernel) ?_ | with_reducible refine adraw_cut 3 (by decide +kernel) ?_ | with_reducible refine adraw_cut 4 (by decide +kernel) ?_ | with_reducible refine adraw_cut 5 (by decide +kernel) ?_ | with_reducible refine adraw_cut 6 (by decide +kernel) ?_ | with_reducible refine adraw_cut 7 (by decide +kernel) ?_ | with_reducible refine adraw_cut 8 (by decide +kernel) ?_ | with_reducible refine adraw_cut 9 (by decide +kernel) ?_ | with_reducible refine adraw_all (by kernel_rfl) ?_)
    | simp (config := { contextual := true, maxSteps := 4000000 }) [*, nameB, inF, -Int.not_le, -Int.not_lt]

theorem p_top : Pure Tryd.prog 53 [] (.agg [.v (.int .i64 1000), .v (.int .i64 0), .v (.int .i64 0)]) := by
  refine pure_of_code (G := G0) vers0 mixed0 Tryd.func53 rfl (by decide) (by simp [Tryd.f53]) (by simp) fun ver => ?_
  simp only [Tryd.f53, G0]
  repeat' first
    | with_reducible refine And.intro ?_ ?_
    | with_reducible intro _
    | (first | with_reducible refine adraw_f 2 (by decide +kernel) ?_ | with_reducible refine adraw_f 3 (by decide +kernel) ?_ | with_reducible refine adraw_f 4 (by decide +kernel) ?_ | with_reducible refine adraw_f 5 (by decide +kernel) ?_ | with_reducible refine adraw_f 6 (by decide +kernel) ?_ | with_reducible refine adraw_f 7 (by decide +kernel) ?_ | with_reducible refine adraw_f 8 (by decide +kernel) ?_ | with_reducible refine adraw_f 9 (by decide +kernel) ?_ | with_reducible refine adraw_f 10 (by decide +kernel) ?_ | with_reducible refine adraw_f 11 (by decide +kernel) ?_ | with_reducible refine adraw_cut 0 (by decide +kernel) ?_ | with_reducible refine adraw_cut 1 (by decide +kernel) ?_ | with_reducible refine adraw_cut 2 (by decide +kernel) ?_ | with_reducible refine adraw_cut 3 (by decide +kernel) ?_ | with_reducible refine adraw_cut 4 (by decide +kernel) ?_ | with_reducible refine adraw_cut 5 (by decide +kernel) ?_ | with_reducible refine adraw_cut 6 (by decide +kernel) ?_ | with_reducible refine adraw_cut 7 (by decide +kernel) ?_ | with_reducible refine adraw_cut 8 (by decide +kernel) ?_ | with_reducible refine adraw_cut 9 (by decide +kernel) ?_ | with_reducible refine adraw_all (by kernel_rfl) ?_)
    | simp (config := { contextual := true, maxSteps := 4000000 }) [*, -Int.not_le, -Int.not_lt]

theorem q_top : Pure Tryd.prog 54 [] (.agg [.v (.int .i64 1000), .v (.int .i64 0), .v (.int .i64 0)]) := by
  refine pure_of_code (G := G0) vers0 mixed0 Tryd.func54 rfl (by decide) (by simp [Tryd.f54]) (by simp) fun ver => ?_
  simp only [Tryd.f54, G0]
  repeat' first
    | with_reducible refine And.intro ?_ ?_
    | with_reducible intro _
    | (first | with_reducible refine adraw_f 2 (by decide +kernel) ?_ | with_reducible refine adraw_f 3 (by decide +kernel) ?_ | with_reducible refine adraw_f 4 (by decide +kernel) ?_ | with_reducible refine adraw_f 5 (by decide +kernel) ?_ | with_reducible refine adraw_f 6 (by decide +kernel) ?_ | with_reducible refine adraw_f 7 (by decide +kernel) ?_ | with_reducible refine adraw_f 8 (by decide +kernel) ?_ | with_reducible refine adraw_f 9 (by decide +kernel) ?_ | with_reducible refine adraw_f 10 (by decide +kernel) ?_ | with_reducible refine adraw_f 11 (by decide +kernel) ?_ | with_reducible refine adraw_cut 0 (by decide +kernel) ?_ | with_reducible refine adraw_cut 1 (by decide +kernel) ?_ | with_reducible refine adraw_cut 2 (by decide +kernel) ?_ | with_reducible refine adraw_cut 3 (by decide +kernel) ?_ | with_reducible refine adraw_cut 4 (by decide +kernel) ?_ | with_reducible refine adraw_cut 5 (by decide +kernel) ?_ | with_reducible refine adraw_cut 6 (by decide +kernel) ?_ | with_reducible refine adraw_cut 7 (by decide +kernel) ?_ | with_reducible refine adraw_cut 8 (by decide +kernel) ?_ | with_reducible refine adraw_cut 9 (by decide +kernel) ?_ | with_reducible refine adraw_all (by kernel_rfl) ?_)
    | simp (config := { contextual := true, maxSteps := 4000000 }) [*, -Int.not_le, -Int.not_lt]

/-- The bytes from the end-but-n on. -/
def nameRest (x : ByteArray) : Nat → Int
  | 0 => 0
  | n + 1 => if nameB (bAt x (x.size - (n + 1))) then nameRest x n else 5
def nameFault (x : ByteArray) : Int := if x.size < 1 ∨ 12 < x.size ∨ inF (bAt x 0) 97 122 = false then 5 else nameRest x x.size

theorem nameRest_step {x : ByteArray} {k : Nat} (h : k < x.size) : nameRest x (x.size - k) = if nameB (bAt x k) then nameRest x (x.size - (k + 1)) else 5 := by
  rw [show x.size - k = (x.size - (k + 1)) + 1 by omega, nameRest, show x.size - (x.size - (k + 1) + 1) = k by omega]

theorem p_nameFault (x : ByteArray) : Pure Tryd.prog 61 [.v (.string x)] (.v (.int .i64 (nameFault x))) := by
  refine pure_of_code (G := G0) vers0 mixed0 Tryd.func61 rfl (by decide) (by simp [Tryd.f61]) (by simp) fun ver => ?_
  simp only [Tryd.f61, G0]
  simp (config := { contextual := true, maxSteps := 4000000 }) [-Int.not_le, -Int.not_lt]
  refine And.intro (fun h1 => And.intro (fun h2 => ?_) (fun h2 => ?_)) (fun h1 => ?_)
  · have h0 : 0 < x.size := by omega
    simp [h0]
    refine call_p (p_letter _) (by simp) ?_
    simp (config := { contextual := true, maxSteps := 4000000 }) [-Int.not_le, -Int.not_lt]
    refine And.intro (fun h3 => ?_) (fun h3 => ?_)
    · unfold nameFault
      rw [if_pos (.inr (.inr h3))]
    have hres : nameFault x = nameRest x x.size := by
      unfold nameFault
      rw [if_neg (by rintro (h | h | h) <;> first | omega | (rw [h3] at h; cases h))]
    rw [hres]
    refine aloop (α := Nat) (fun k => ⟨envOf [(0, .v (.string x)), (3, .v (.int .i64 k))], ⟨[], noArrs ver⟩⟩)
      (fun k => k ≤ x.size ∧ nameRest x (x.size - k) = nameRest x x.size) (fun k => x.size - k) 0 (less_envOf (by simp) rfl fun _ => rfl) (by simp) ?_
    rintro k ⟨hk, hm⟩
    by_cases hlt : k < x.size
    · have hw : IntKind.i64.wrap ((k : Int) + 1) = ((k + 1 : Nat) : Int) := by rw [IntWalk.i64_in _ (by omega)]; omega
      rw [nameRest_step hlt] at hm
      simp [hlt]
      refine call_p (p_nameB _) (by simp) ?_
      simp (config := { contextual := true }) [hw]
      refine And.intro (fun h => ?_) (fun h => ?_)
      · simpa [h] using hm
      · refine ⟨k + 1, less_envOf (by simp) rfl fun _ => rfl, ⟨by omega, ?_⟩, by omega⟩
        simpa [h] using hm
    · have hd : x.size - k = 0 := by omega
      rw [hd] at hm
      simp [hlt]
      exact hm
  · unfold nameFault
    rw [if_pos (by omega)]
  · unfold nameFault
    rw [if_pos (by omega)]


theorem q_nameFault (x : ByteArray) : Pure Tryd.prog 64 [.v (.string x)] (.v (.int .i64 (nameFault x))) := by
  refine pure_of_code (G := G0) vers0 mixed0 Tryd.func64 rfl (by decide) (by simp [Tryd.f64]) (by simp) fun ver => ?_
  simp only [Tryd.f64, G0]
  by_cases h1 : x.size < 1
  · have h0 : ¬ 0 < x.size := by omega
    have e : nameFault x = 5 := by unfold nameFault; rw [if_pos (.inl h1)]
    rw [e]
    simp [h0, show (x.size : Int) < 1 by omega]
  by_cases h2 : 12 < x.size
  · have e : nameFault x = 5 := by unfold nameFault; rw [if_pos (.inr (.inl h2))]
    rw [e]
    simp [show ¬ (x.size : Int) < 1 by omega, show (12 : Int) < x.size by omega]
  have h0 : 0 < x.size := by omega
  cases h3 : inF (bAt x 0) 97 122 with
  | false =>
    have e : nameFault x = 5 := by unfold nameFault; rw [if_pos (.inr (.inr h3))]
    rw [e]
    simp (config := { contextual := true }) [show ¬ (x.size : Int) < 1 by omega, show ¬ (12 : Int) < x.size by omega, h0, -Int.not_le, -Int.not_lt]
    intro g1 g2
    exfalso
    simp [inF] at h3
    omega
  | true =>
    have hres : nameFault x = nameRest x x.size := by
      unfold nameFault
      rw [if_neg (by rintro (h | h | h) <;> first | omega | (rw [h3] at h; cases h))]
    rw [hres]
    simp [inF] at h3
    simp (config := { contextual := true }) [show ¬ (x.size : Int) < 1 by omega, show ¬ (12 : Int) < x.size by omega, h0, show ¬ bAt x 0 < 97 by omega, show ¬ 122 < bAt x 0 by omega, -Int.not_le, -Int.not_lt]
    refine aloop (α := Nat) (fun k => ⟨envOf [(0, .v (.string x)), (23, .v (.int .i64 x.size)), (24, .v (.int .i64 k))], ⟨[], noArrs ver⟩⟩)
      (fun k => k ≤ x.size ∧ nameRest x (x.size - k) = nameRest x x.size) (fun k => x.size - k) 0 (less_envOf (by simp) rfl fun _ => rfl) (by simp) ?_
    rintro k ⟨hk, hm⟩
    by_cases hlt : k < x.size
    · have hw : IntKind.i64.wrap ((k : Int) + 1) = ((k + 1 : Nat) : Int) := by rw [IntWalk.i64_in _ (by omega)]; omega
      rw [nameRest_step hlt] at hm
      simp [hlt]
      refine call_p (q_nameB _) (by simp) ?_
      simp (config := { contextual := true }) [hw]
      refine And.intro (fun h => ?_) (fun h => ?_)
      · simpa [h] using hm
      · refine ⟨k + 1, less_envOf (by simp) rfl fun _ => rfl, ⟨by omega, ?_⟩, by omega⟩
        simpa [h] using hm
    · have hd : x.size - k = 0 := by omega
      rw [hd] at hm
      simp [hlt]
      exact hm


def termFault (x : ByteArray) (a b c d e f : Int) : Int :=
  if nameFault x ≠ 0 then nameFault x else if versionFault a b c ≠ 0 then versionFault a b c else
  if ¬ (d = 1000 ∧ e = 0 ∧ f = 0) ∧ versionFault d e f ≠ 0 then 3 else if 0 ≤ cmpF a b c d e f then 1 else 0

set_option maxRecDepth 10000 in
theorem p_termFault (x : ByteArray) (a b c d e f : Int) : Pure Tryd.prog 51 [.agg [.v (.string x), .v (.int .i64 a), .v (.int .i64 b), .v (.int .i64 c), .v (.int .i64 d), .v (.int .i64 e), .v (.int .i64 f)]] (.v (.int .i64 (termFault x a b c d e f))) := by
  refine pure_of_code (G := G0) vers0 mixed0 Tryd.func51 rfl (by decide) (by simp [Tryd.f51]) (by simp) fun ver => ?_
  simp only [Tryd.f51, G0]
  repeat' first
    | with_reducible refine And.intro ?_ ?_
    | with_reducible intro _
    | (first | with_reducible refine adraw_f 2 (by decide +kernel) ?_ | with_reducible refine adraw_f 3 (by decide +kernel) ?_ | with_reducible refine adraw_f 4 (by decide +kernel) ?_ | with_reducible refine adraw_f 5 (by decide +kernel) ?_ | with_reducible refine adraw_f 6 (by decide +kernel) ?_ | with_reducible refine adraw_f 7 (by decide +kernel) ?_ | with_reducible refine adraw_f 8 (by decide +kernel) ?_ | with_reducible refine adraw_f 9 (by decide +kernel) ?_ | with_reducible refine adraw_f 10 (by decide +kernel) ?_ | with_reducible refine adraw_f 11 (by decide +kernel) ?_ | with_reducible refine adraw_cut 0 (by decide +kernel) ?_ | with_reducible refine adraw_cut 1 (by decide +kernel) ?_ | with_reducible refine adraw_cut 2 (by decide +kernel) ?_ | with_reducible refine adraw_cut 3 (by decide +kernel) ?_ | with_reducible refine adraw_cut 4 (by decide +kernel) ?_ | with_reducible refine adraw_cut 5 (by decide +kernel) ?_ | with_reducible refine adraw_cut 6 (by decide +kernel) ?_ | with_reducible refine adraw_cut 7 (by decide +kernel) ?_ | with_reducible refine adraw_cut 8 (by decide +kernel) ?_ | with_reducible refine adraw_cut 9 (by decide +kernel) ?_ | with_reducible refine adraw_all (by kernel_rfl) ?_)
    | with_reducible refine call_p (p_nameFault _) (by simp) ?_
    | with_reducible refine call_f (p_nameFault _) (by simp) ?_
    | with_reducible refine call_p (p_versionFault _ _ _) (by simp) ?_
    | with_reducible refine call_f (p_versionFault _ _ _) (by simp) ?_
    | with_reducible refine call_p (p_top) (by simp) ?_
    | with_reducible refine call_f (p_top) (by simp) ?_
    | with_reducible refine call_p (p_compareVersions _ _ _ _ _ _) (by simp) ?_
    | with_reducible refine call_f (p_compareVersions _ _ _ _ _ _) (by simp) ?_
    | simp (config := { contextual := true, maxSteps := 4000000 }) [*, termFault, -not_and, -Int.not_le, -Int.not_lt]
  all_goals simp_all

set_option maxRecDepth 10000 in
theorem q_termFault (x : ByteArray) (a b c d e f : Int) : Pure Tryd.prog 33 [.agg [.v (.string x), .v (.int .i64 a), .v (.int .i64 b), .v (.int .i64 c), .v (.int .i64 d), .v (.int .i64 e), .v (.int .i64 f)]] (.v (.int .i64 (termFault x a b c d e f))) := by
  refine pure_of_code (G := G0) vers0 mixed0 Tryd.func33 rfl (by decide) (by simp [Tryd.f33]) (by simp) fun ver => ?_
  simp only [Tryd.f33, G0]
  repeat' first
    | with_reducible refine And.intro ?_ ?_
    | with_reducible intro _
    | (first | with_reducible refine adraw_f 2 (by decide +kernel) ?_ | with_reducible refine adraw_f 3 (by decide +kernel) ?_ | with_reducible refine adraw_f 4 (by decide +kernel) ?_ | with_reducible refine adraw_f 5 (by decide +kernel) ?_ | with_reducible refine adraw_f 6 (by decide +kernel) ?_ | with_reducible refine adraw_f 7 (by decide +kernel) ?_ | with_reducible refine adraw_f 8 (by decide +kernel) ?_ | with_reducible refine adraw_f 9 (by decide +kernel) ?_ | with_reducible refine adraw_f 10 (by decide +kernel) ?_ | with_reducible refine adraw_f 11 (by decide +kernel) ?_ | with_reducible refine adraw_cut 0 (by decide +kernel) ?_ | with_reducible refine adraw_cut 1 (by decide +kernel) ?_ | with_reducible refine adraw_cut 2 (by decide +kernel) ?_ | with_reducible refine adraw_cut 3 (by decide +kernel) ?_ | with_reducible refine adraw_cut 4 (by decide +kernel) ?_ | with_reducible refine adraw_cut 5 (by decide +kernel) ?_ | with_reducible refine adraw_cut 6 (by decide +kernel) ?_ | with_reducible refine adraw_cut 7 (by decide +kernel) ?_ | with_reducible refine adraw_cut 8 (by decide +kernel) ?_ | with_reducible refine adraw_cut 9 (by decide +kernel) ?_ | with_reducible refine adraw_all (by kernel_rfl) ?_)
    | with_reducible refine call_p (q_nameFault _) (by simp) ?_
    | with_reducible refine call_f (q_nameFault _) (by simp) ?_
    | with_reducible refine call_p (q_versionFault _ _ _) (by simp) ?_
    | with_reducible refine call_f (q_versionFault _ _ _) (by simp) ?_
    | with_reducible refine call_p (q_top) (by simp) ?_
    | with_reducible refine call_f (q_top) (by simp) ?_
    | with_reducible refine call_p (p_compare _ _ _ _ _ _) (by simp) ?_
    | with_reducible refine call_f (p_compare _ _ _ _ _ _) (by simp) ?_
    | simp (config := { contextual := true, maxSteps := 4000000 }) [*, termFault, -not_and, -Int.not_le, -Int.not_lt]
  all_goals simp_all

theorem p_toTerm (x : ByteArray) (a b c d e f : Int) : Pure Tryd.prog 19 [.agg [.v (.string x), .v (.int .i64 a), .v (.int .i64 b), .v (.int .i64 c), .v (.int .i64 d), .v (.int .i64 e), .v (.int .i64 f)]] (.agg [.v (.string x), .v (.int .i64 a), .v (.int .i64 b), .v (.int .i64 c), .v (.int .i64 d), .v (.int .i64 e), .v (.int .i64 f)]) := by
  refine pure_of_code (G := G0) vers0 mixed0 Tryd.func19 rfl (by decide) (by simp [Tryd.f19]) (by simp) fun ver => ?_
  simp only [Tryd.f19, G0]
  repeat' first
    | with_reducible refine And.intro ?_ ?_
    | with_reducible intro _
    | (first | with_reducible refine adraw_f 2 (by decide +kernel) ?_ | with_reducible refine adraw_f 3 (by decide +kernel) ?_ | with_reducible refine adraw_f 4 (by decide +kernel) ?_ | with_reducible refine adraw_f 5 (by decide +kernel) ?_ | with_reducible refine adraw_f 6 (by decide +kernel) ?_ | with_reducible refine adraw_f 7 (by decide +kernel) ?_ | with_reducible refine adraw_f 8 (by decide +kernel) ?_ | with_reducible refine adraw_f 9 (by decide +kernel) ?_ | with_reducible refine adraw_f 10 (by decide +kernel) ?_ | with_reducible refine adraw_f 11 (by decide +kernel) ?_ | with_reducible refine adraw_cut 0 (by decide +kernel) ?_ | with_reducible refine adraw_cut 1 (by decide +kernel) ?_ | with_reducible refine adraw_cut 2 (by decide +kernel) ?_ | with_reducible refine adraw_cut 3 (by decide +kernel) ?_ | with_reducible refine adraw_cut 4 (by decide +kernel) ?_ | with_reducible refine adraw_cut 5 (by decide +kernel) ?_ | with_reducible refine adraw_cut 6 (by decide +kernel) ?_ | with_reducible refine adraw_cut 7 (by decide +kernel) ?_ | with_reducible refine adraw_cut 8 (by decide +kernel) ?_ | with_reducible refine adraw_cut 9 (by decide +kernel) ?_ | with_reducible refine adraw_all (by kernel_rfl) ?_)
    | with_reducible refine call_p (p_toVersion _ _ _) (by simp) ?_
    | with_reducible refine call_f (p_toVersion _ _ _) (by simp) ?_
    | simp (config := { contextual := true, maxSteps := 4000000 }) [*, -Int.not_le, -Int.not_lt]

def szTermF (x : ByteArray) (n : Int) : Int := if IntKind.i64.wrap (n - x.size) < 0 then -1 else IntKind.i64.wrap (n - x.size)

theorem p_szTerm (x : ByteArray) (a b c d e f n : Int) : Pure Tryd.prog 17 [.agg [.v (.string x), .v (.int .i64 a), .v (.int .i64 b), .v (.int .i64 c), .v (.int .i64 d), .v (.int .i64 e), .v (.int .i64 f)], .v (.int .i64 n)] (.v (.int .i64 (szTermF x n))) := by
  refine pure_of_code (G := G0) vers0 mixed0 Tryd.func17 rfl (by decide) (by simp [Tryd.f17]) (by simp) fun ver => ?_
  simp only [Tryd.f17, G0]
  repeat' first
    | with_reducible refine And.intro ?_ ?_
    | with_reducible intro _
    | (first | with_reducible refine adraw_f 2 (by decide +kernel) ?_ | with_reducible refine adraw_f 3 (by decide +kernel) ?_ | with_reducible refine adraw_f 4 (by decide +kernel) ?_ | with_reducible refine adraw_f 5 (by decide +kernel) ?_ | with_reducible refine adraw_f 6 (by decide +kernel) ?_ | with_reducible refine adraw_f 7 (by decide +kernel) ?_ | with_reducible refine adraw_f 8 (by decide +kernel) ?_ | with_reducible refine adraw_f 9 (by decide +kernel) ?_ | with_reducible refine adraw_f 10 (by decide +kernel) ?_ | with_reducible refine adraw_f 11 (by decide +kernel) ?_ | with_reducible refine adraw_cut 0 (by decide +kernel) ?_ | with_reducible refine adraw_cut 1 (by decide +kernel) ?_ | with_reducible refine adraw_cut 2 (by decide +kernel) ?_ | with_reducible refine adraw_cut 3 (by decide +kernel) ?_ | with_reducible refine adraw_cut 4 (by decide +kernel) ?_ | with_reducible refine adraw_cut 5 (by decide +kernel) ?_ | with_reducible refine adraw_cut 6 (by decide +kernel) ?_ | with_reducible refine adraw_cut 7 (by decide +kernel) ?_ | with_reducible refine adraw_cut 8 (by decide +kernel) ?_ | with_reducible refine adraw_cut 9 (by decide +kernel) ?_ | with_reducible refine adraw_all (by kernel_rfl) ?_)
    | simp (config := { contextual := true, maxSteps := 4000000 }) [*, szTermF, -Int.not_le, -Int.not_lt]


end Go.Proofs.YtokhnmchnfkiiaaDoor.Am

/- The law's own helpers over lists: sizes, copies, comparisons. No conditions. -/
namespace Go.Proofs.YtokhnmchnfkiiaaDoor.Am
open Go Go.RowKit Go.Proofs
set_option linter.unusedSimpArgs false
set_option linter.unusedVariables false

theorem wrapS {k n : Nat} (h : k < n) (hn : n ≤ 4611686018427387904) : IntKind.i64.wrap ((k : Int) + 1) = ((k + 1 : Nat) : Int) := by rw [IntWalk.i64_in _ (by omega)]; omega

theorem e_version (a b c : Int) : Pure Tryd.prog 50 [.agg [.v (.int .i64 a), .v (.int .i64 b), .v (.int .i64 c)], .agg [.v (.int .i64 a), .v (.int .i64 b), .v (.int .i64 c)]] (.v (.bool true)) := by
  refine pure_of_code (G := G0) vers0 mixed0 Tryd.func50 rfl (by decide) (by simp [Tryd.f50]) (by simp) fun ver => ?_
  simp only [Tryd.f50, G0]
  repeat' first
    | with_reducible refine And.intro ?_ ?_
    | with_reducible intro _
    | (first | with_reducible refine adraw_f 2 (by decide +kernel) ?_ | with_reducible refine adraw_f 3 (by decide +kernel) ?_ | with_reducible refine adraw_f 4 (by decide +kernel) ?_ | with_reducible refine adraw_f 5 (by decide +kernel) ?_ | with_reducible refine adraw_f 6 (by decide +kernel) ?_ | with_reducible refine adraw_f 7 (by decide +kernel) ?_ | with_reducible refine adraw_f 8 (by decide +kernel) ?_ | with_reducible refine adraw_f 9 (by decide +kernel) ?_ | with_reducible refine adraw_f 10 (by decide +kernel) ?_ | with_reducible refine adraw_f 11 (by decide +kernel) ?_ | with_reducible refine adraw_cut 0 (by decide +kernel) ?_ | with_reducible refine adraw_cut 1 (by decide +kernel) ?_ | with_reducible refine adraw_cut 2 (by decide +kernel) ?_ | with_reducible refine adraw_cut 3 (by decide +kernel) ?_ | with_reducible refine adraw_cut 4 (by decide +kernel) ?_ | with_reducible refine adraw_cut 5 (by decide +kernel) ?_ | with_reducible refine adraw_cut 6 (by decide +kernel) ?_ | with_reducible refine adraw_cut 7 (by decide +kernel) ?_ | with_reducible refine adraw_cut 8 (by decide +kernel) ?_ | with_reducible refine adraw_cut 9 (by decide +kernel) ?_ | with_reducible refine adraw_all (by kernel_rfl) ?_)
    | simp (config := { contextual := true, maxSteps := 4000000 }) [*, -Int.not_le, -Int.not_lt]

theorem e_term (t : Trm) : Pure Tryd.prog 67 [t.av, t.av] (.v (.bool true)) := by
  simp only [Trm.av]
  refine pure_of_code (G := G0) vers0 mixed0 Tryd.func67 rfl (by decide) (by simp [Tryd.f67]) (by simp) fun ver => ?_
  simp only [Tryd.f67, G0]
  repeat' first
    | with_reducible refine And.intro ?_ ?_
    | with_reducible intro _
    | (first | with_reducible refine adraw_f 2 (by decide +kernel) ?_ | with_reducible refine adraw_f 3 (by decide +kernel) ?_ | with_reducible refine adraw_f 4 (by decide +kernel) ?_ | with_reducible refine adraw_f 5 (by decide +kernel) ?_ | with_reducible refine adraw_f 6 (by decide +kernel) ?_ | with_reducible refine adraw_f 7 (by decide +kernel) ?_ | with_reducible refine adraw_f 8 (by decide +kernel) ?_ | with_reducible refine adraw_f 9 (by decide +kernel) ?_ | with_reducible refine adraw_f 10 (by decide +kernel) ?_ | with_reducible refine adraw_f 11 (by decide +kernel) ?_ | with_reducible refine adraw_cut 0 (by decide +kernel) ?_ | with_reducible refine adraw_cut 1 (by decide +kernel) ?_ | with_reducible refine adraw_cut 2 (by decide +kernel) ?_ | with_reducible refine adraw_cut 3 (by decide +kernel) ?_ | with_reducible refine adraw_cut 4 (by decide +kernel) ?_ | with_reducible refine adraw_cut 5 (by decide +kernel) ?_ | with_reducible refine adraw_cut 6 (by decide +kernel) ?_ | with_reducible refine adraw_cut 7 (by decide +kernel) ?_ | with_reducible refine adraw_cut 8 (by decide +kernel) ?_ | with_reducible refine adraw_cut 9 (by decide +kernel) ?_ | with_reducible refine adraw_all (by kernel_rfl) ?_)
    | with_reducible refine call_p (e_version _ _ _) (by simp) ?_
    | with_reducible refine call_f (e_version _ _ _) (by simp) ?_
    | simp (config := { contextual := true, maxSteps := 4000000 }) [*, -Int.not_le, -Int.not_lt]

def szT (t : Trm) (n : Int) : Int := szTermF t.n n

theorem z_term (t : Trm) (n : Int) : Pure Tryd.prog 17 [t.av, .v (.int .i64 n)] (.v (.int .i64 (szT t n))) := p_szTerm _ _ _ _ _ _ _ _

@[reducible] def BigS (l : List ByteArray) : Prop := l.length * 16 ≤ 140737488355328
@[reducible] def BigI (l : List Int) : Prop := l.length * 8 ≤ 140737488355328
@[reducible] def BigT (l : List Trm) : Prop := l.length * 64 ≤ 140737488355328
@[reducible] def BigTT (l : List (List Trm)) : Prop := l.length * 24 ≤ 140737488355328 ∧ ∀ c ∈ l, BigT c
@[reducible] def Pk.Big (p : Pk) : Prop := BigS p.pr ∧ BigTT p.ne ∧ BigT p.ba
@[reducible] def BigP (l : List Pk) : Prop := l.length * 120 ≤ 140737488355328 ∧ ∀ p ∈ l, p.Big

def szr_strs : List ByteArray → Int → Int
  | [], n => n
  | a :: l, n => if IntKind.i64.wrap (n - a.size) < 0 then -1 else szr_strs l (IntKind.i64.wrap (n - a.size))
def sz_strs (l : List ByteArray) (n : Int) : Int := if IntKind.i64.wrap (n - l.length) < 0 then -1 else szr_strs l (IntKind.i64.wrap (n - l.length))

theorem z_strs (c : Bool) (l : List ByteArray) (hl : l.length * 16 ≤ 140737488355328) (n : Int) : Pure Tryd.prog 99 [strsAV c l, .v (.int .i64 n)] (.v (.int .i64 (sz_strs l n))) := by
  have hl2 : l.length ≤ 4611686018427387904 := by omega
  refine pure_of_code (G := (G0)) vers0 mixed0 Tryd.func99 rfl (by decide) (by simp [Tryd.f99]) (by simp) fun ver => ?_
  simp only [Tryd.f99, G0]
  by_cases h0 : IntKind.i64.wrap (n - l.length) < 0
  · simp [h0, sz_strs]
  have e : sz_strs l n = szr_strs l (IntKind.i64.wrap (n - l.length)) := by simp [sz_strs, h0]
  rw [e]
  simp [h0]
  refine aloop (α := Nat × Int) (fun d => ⟨envOf [(0, strsAV c l), (1, .v (.int .i64 d.2)), (5, .v (.int .i64 d.1))], ⟨[], noArrs ver⟩⟩)
    (fun d => d.1 ≤ l.length ∧ szr_strs (l.drop d.1) d.2 = szr_strs l (IntKind.i64.wrap (n - l.length))) (fun d => l.length - d.1) (0, IntKind.i64.wrap (n - l.length)) (less_envOf (by simp) rfl fun _ => rfl) (by simp) ?_
  rintro ⟨k, m⟩ ⟨hk, hm⟩
  simp only at hk hm ⊢
  by_cases hlt : k < l.length
  · have hw := wrapS hlt hl2
    rw [drop_get hlt, szr_strs] at hm
    have hmem : l[k] ∈ l := List.getElem_mem hlt
    simp [hlt, -Int.not_lt, -Int.not_le]
    try simp (config := { contextual := true }) [-Int.not_lt, -Int.not_le]
    refine And.intro (fun h => ?_) (fun h => ?_)
    · simpa [h] using hm
    · refine ⟨k + 1, IntKind.i64.wrap (m - l[k].size), less_envOf (by simp [hw]) rfl fun _ => rfl, ⟨by omega, by simpa [h] using hm⟩, by omega⟩
  · have hd : l.drop k = [] := List.drop_eq_nil_of_le (by omega)
    rw [hd] at hm
    simp [hlt]
    exact hm

def szr_trms : List Trm → Int → Int
  | [], n => n
  | a :: l, n => if szT a n < 0 then -1 else szr_trms l (szT a n)
def sz_trms (l : List Trm) (n : Int) : Int := if IntKind.i64.wrap (n - l.length) < 0 then -1 else szr_trms l (IntKind.i64.wrap (n - l.length))

theorem z_trms (c : Bool) (l : List Trm) (hl : l.length * 64 ≤ 140737488355328) (n : Int) : Pure Tryd.prog 101 [trmsAV c l, .v (.int .i64 n)] (.v (.int .i64 (sz_trms l n))) := by
  have hl2 : l.length ≤ 4611686018427387904 := by omega
  refine pure_of_code (G := (G0)) vers0 mixed0 Tryd.func101 rfl (by decide) (by simp [Tryd.f101]) (by simp) fun ver => ?_
  simp only [Tryd.f101, G0]
  by_cases h0 : IntKind.i64.wrap (n - l.length) < 0
  · simp [h0, sz_trms]
  have e : sz_trms l n = szr_trms l (IntKind.i64.wrap (n - l.length)) := by simp [sz_trms, h0]
  rw [e]
  simp [h0]
  refine aloop (α := Nat × Int) (fun d => ⟨envOf [(0, trmsAV c l), (1, .v (.int .i64 d.2)), (5, .v (.int .i64 d.1))], ⟨[], noArrs ver⟩⟩)
    (fun d => d.1 ≤ l.length ∧ szr_trms (l.drop d.1) d.2 = szr_trms l (IntKind.i64.wrap (n - l.length))) (fun d => l.length - d.1) (0, IntKind.i64.wrap (n - l.length)) (less_envOf (by simp) rfl fun _ => rfl) (by simp) ?_
  rintro ⟨k, m⟩ ⟨hk, hm⟩
  simp only at hk hm ⊢
  by_cases hlt : k < l.length
  · have hw := wrapS hlt hl2
    rw [drop_get hlt, szr_trms] at hm
    have hmem : l[k] ∈ l := List.getElem_mem hlt
    simp [hlt, -Int.not_lt, -Int.not_le]
    refine call_p (z_term l[k] _) (by simp) ?_
    try simp (config := { contextual := true }) [-Int.not_lt, -Int.not_le]
    refine And.intro (fun h => ?_) (fun h => ?_)
    · simpa [h] using hm
    · refine ⟨k + 1, szT l[k] m, less_envOf (by simp [hw]) rfl fun _ => rfl, ⟨by omega, by simpa [h] using hm⟩, by omega⟩
  · have hd : l.drop k = [] := List.drop_eq_nil_of_le (by omega)
    rw [hd] at hm
    simp [hlt]
    exact hm

def szr_cls : List (List Trm) → Int → Int
  | [], n => n
  | a :: l, n => if sz_trms a n < 0 then -1 else szr_cls l (sz_trms a n)
def sz_cls (l : List (List Trm)) (n : Int) : Int := if IntKind.i64.wrap (n - l.length) < 0 then -1 else szr_cls l (IntKind.i64.wrap (n - l.length))

theorem z_cls (c : Bool) (l : List (List Trm)) (hl : l.length * 24 ≤ 140737488355328 ∧ ∀ q ∈ l, BigT q) (n : Int) : Pure Tryd.prog 100 [clausesAV c l, .v (.int .i64 n)] (.v (.int .i64 (sz_cls l n))) := by
  have hl2 : l.length ≤ 4611686018427387904 := by have := hl.1; omega
  refine pure_of_code (G := (G0)) vers0 mixed0 Tryd.func100 rfl (by decide) (by simp [Tryd.f100]) (by simp) fun ver => ?_
  simp only [Tryd.f100, G0]
  by_cases h0 : IntKind.i64.wrap (n - l.length) < 0
  · simp [h0, sz_cls]
  have e : sz_cls l n = szr_cls l (IntKind.i64.wrap (n - l.length)) := by simp [sz_cls, h0]
  rw [e]
  simp [h0]
  refine aloop (α := Nat × Int) (fun d => ⟨envOf [(0, clausesAV c l), (1, .v (.int .i64 d.2)), (5, .v (.int .i64 d.1))], ⟨[], noArrs ver⟩⟩)
    (fun d => d.1 ≤ l.length ∧ szr_cls (l.drop d.1) d.2 = szr_cls l (IntKind.i64.wrap (n - l.length))) (fun d => l.length - d.1) (0, IntKind.i64.wrap (n - l.length)) (less_envOf (by simp) rfl fun _ => rfl) (by simp) ?_
  rintro ⟨k, m⟩ ⟨hk, hm⟩
  simp only at hk hm ⊢
  by_cases hlt : k < l.length
  · have hw := wrapS hlt hl2
    rw [drop_get hlt, szr_cls] at hm
    have hmem : l[k] ∈ l := List.getElem_mem hlt
    simp [hlt, -Int.not_lt, -Int.not_le]
    refine call_p (z_trms c l[k] (hl.2 _ hmem) _) (by simp) ?_
    try simp (config := { contextual := true }) [-Int.not_lt, -Int.not_le]
    refine And.intro (fun h => ?_) (fun h => ?_)
    · simpa [h] using hm
    · refine ⟨k + 1, sz_trms l[k] m, less_envOf (by simp [hw]) rfl fun _ => rfl, ⟨by omega, by simpa [h] using hm⟩, by omega⟩
  · have hd : l.drop k = [] := List.drop_eq_nil_of_le (by omega)
    rw [hd] at hm
    simp [hlt]
    exact hm

def szPk (p : Pk) (n : Int) : Int :=
  if IntKind.i64.wrap (n - p.n.size) < 0 then -1 else if sz_strs p.pr (IntKind.i64.wrap (n - p.n.size)) < 0 then -1 else
  if sz_cls p.ne (sz_strs p.pr (IntKind.i64.wrap (n - p.n.size))) < 0 then -1 else
  if sz_trms p.ba (sz_cls p.ne (sz_strs p.pr (IntKind.i64.wrap (n - p.n.size)))) < 0 then -1 else sz_trms p.ba (sz_cls p.ne (sz_strs p.pr (IntKind.i64.wrap (n - p.n.size))))

theorem z_pk (c : Bool) (p : Pk) (hp : p.Big) (n : Int) : Pure Tryd.prog 71 [p.av c, .v (.int .i64 n)] (.v (.int .i64 (szPk p n))) := by
  simp only [Pk.av]
  obtain ⟨hp1, hp2, hp3⟩ := hp
  refine pure_of_code (G := G0) vers0 mixed0 Tryd.func71 rfl (by decide) (by simp [Tryd.f71]) (by simp) fun ver => ?_
  simp only [Tryd.f71, G0]
  repeat' first
    | with_reducible refine And.intro ?_ ?_
    | with_reducible intro _
    | (first | with_reducible refine adraw_f 2 (by decide +kernel) ?_ | with_reducible refine adraw_f 3 (by decide +kernel) ?_ | with_reducible refine adraw_f 4 (by decide +kernel) ?_ | with_reducible refine adraw_f 5 (by decide +kernel) ?_ | with_reducible refine adraw_f 6 (by decide +kernel) ?_ | with_reducible refine adraw_f 7 (by decide +kernel) ?_ | with_reducible refine adraw_f 8 (by decide +kernel) ?_ | with_reducible refine adraw_f 9 (by decide +kernel) ?_ | with_reducible refine adraw_f 10 (by decide +kernel) ?_ | with_reducible refine adraw_f 11 (by decide +kernel) ?_ | with_reducible refine adraw_cut 0 (by decide +kernel) ?_ | with_reducible refine adraw_cut 1 (by decide +kernel) ?_ | with_reducible refine adraw_cut 2 (by decide +kernel) ?_ | with_reducible refine adraw_cut 3 (by decide +kernel) ?_ | with_reducible refine adraw_cut 4 (by decide +kernel) ?_ | with_reducible refine adraw_cut 5 (by decide +kernel) ?_ | with_reducible refine adraw_cut 6 (by decide +kernel) ?_ | with_reducible refine adraw_cut 7 (by decide +kernel) ?_ | with_reducible refine adraw_cut 8 (by decide +kernel) ?_ | with_reducible refine adraw_cut 9 (by decide +kernel) ?_ | with_reducible refine adraw_all (by kernel_rfl) ?_)
    | with_reducible refine call_p (z_strs c p.pr hp1 _) (by simp) ?_
    | with_reducible refine call_f (z_strs c p.pr hp1 _) (by simp) ?_
    | with_reducible refine call_p (z_cls c p.ne hp2 _) (by simp) ?_
    | with_reducible refine call_f (z_cls c p.ne hp2 _) (by simp) ?_
    | with_reducible refine call_p (z_trms c p.ba hp3 _) (by simp) ?_
    | with_reducible refine call_f (z_trms c p.ba hp3 _) (by simp) ?_
    | simp (config := { contextual := true, maxSteps := 4000000 }) [*, szPk, -Int.not_le, -Int.not_lt]

def szr_pks : List Pk → Int → Int
  | [], n => n
  | a :: l, n => if szPk a n < 0 then -1 else szr_pks l (szPk a n)
def sz_pks (l : List Pk) (n : Int) : Int := if IntKind.i64.wrap (n - l.length) < 0 then -1 else szr_pks l (IntKind.i64.wrap (n - l.length))

theorem z_pks (c : Bool) (l : List Pk) (hl : l.length * 120 ≤ 140737488355328 ∧ ∀ p ∈ l, p.Big) (n : Int) : Pure Tryd.prog 34 [pksAV c c l, .v (.int .i64 n)] (.v (.int .i64 (sz_pks l n))) := by
  have hl2 : l.length ≤ 4611686018427387904 := by have := hl.1; omega
  refine pure_of_code (G := (G0)) vers0 mixed0 Tryd.func34 rfl (by decide) (by simp [Tryd.f34]) (by simp) fun ver => ?_
  simp only [Tryd.f34, G0]
  by_cases h0 : IntKind.i64.wrap (n - l.length) < 0
  · simp [h0, sz_pks]
  have e : sz_pks l n = szr_pks l (IntKind.i64.wrap (n - l.length)) := by simp [sz_pks, h0]
  rw [e]
  simp [h0]
  refine aloop (α := Nat × Int) (fun d => ⟨envOf [(0, pksAV c c l), (1, .v (.int .i64 d.2)), (5, .v (.int .i64 d.1))], ⟨[], noArrs ver⟩⟩)
    (fun d => d.1 ≤ l.length ∧ szr_pks (l.drop d.1) d.2 = szr_pks l (IntKind.i64.wrap (n - l.length))) (fun d => l.length - d.1) (0, IntKind.i64.wrap (n - l.length)) (less_envOf (by simp) rfl fun _ => rfl) (by simp) ?_
  rintro ⟨k, m⟩ ⟨hk, hm⟩
  simp only at hk hm ⊢
  by_cases hlt : k < l.length
  · have hw := wrapS hlt hl2
    rw [drop_get hlt, szr_pks] at hm
    have hmem : l[k] ∈ l := List.getElem_mem hlt
    simp [hlt, -Int.not_lt, -Int.not_le]
    refine call_p (z_pk c l[k] (hl.2 _ hmem) _) (by simp) ?_
    try simp (config := { contextual := true }) [-Int.not_lt, -Int.not_le]
    refine And.intro (fun h => ?_) (fun h => ?_)
    · simpa [h] using hm
    · refine ⟨k + 1, szPk l[k] m, less_envOf (by simp [hw]) rfl fun _ => rfl, ⟨by omega, by simpa [h] using hm⟩, by omega⟩
  · have hd : l.drop k = [] := List.drop_eq_nil_of_le (by omega)
    rw [hd] at hm
    simp [hlt]
    exact hm

theorem t_strs (c : Bool) (l : List ByteArray) (hl : BigS l) : Pure Tryd.prog 103 [strsAV c l] (strsAV false l) := by
  have hl1 : l.length * 16 ≤ 140737488355328 := hl
  have hl2 : (l.length : Int) * 16 ≤ 140737488355328 := by omega
  have hl3 : (l.length : Int) ≤ 140737488355328 := by omega
  have hl4 : l.length ≤ 4611686018427387904 := by omega
  refine pure_of_code (G := (G0)) vers0 mixed0 Tryd.func103 rfl (by decide) (by simp [Tryd.f103]) (by simp) fun ver => ?_
  simp only [Tryd.f103, G0]
  simp [hl2, hl3, Mem.made, noArrs]
  refine aloop (α := Nat) (fun k => ⟨envOf [(0, strsAV c l), (3, .arr 7 (ver 7 + 1) 0 l.length), (4, .v (.int .i64 k))], ⟨[], fun j => if j = 7 then ⟨ver 7 + 1, true, 9, fillR (strCells) [.v (.string ByteArray.empty)] l k⟩ else ⟨ver j, false, 0, []⟩⟩⟩)
    (fun k => k ≤ l.length) (fun k => l.length - k) 0 (less_envOf (by simp) rfl (by intro j; simp [fillR_zero])) (by simp) ?_
  intro k hk
  by_cases hlt : k < l.length
  · have hw := wrapS hlt hl4
    have hmem : l[k] ∈ l := List.getElem_mem hlt
    have hset := fillR_set (strCells) [.v (.string ByteArray.empty)] l hlt
    simp only [strCells, intCells, byteCells, Trm.cells, clauseCells, Pk.cells] at hset
    simp [hlt, Mem.ok, fillR_get]
    refine ⟨k + 1, less_envOf (by simp [hw]) rfl (by intro j; by_cases hj : j = 7 <;> simp [hj, hset]), by omega, by omega⟩
  · obtain rfl : k = l.length := by omega
    simp [Mem.ok, fillR_all]

theorem t_ints (c : Bool) (l : List Int) (hl : BigI l) : Pure Tryd.prog 37 [intsAV c l] (intsAV false l) := by
  have hl1 : l.length * 8 ≤ 140737488355328 := hl
  have hl2 : (l.length : Int) * 8 ≤ 140737488355328 := by omega
  have hl3 : (l.length : Int) ≤ 140737488355328 := by omega
  have hl4 : l.length ≤ 4611686018427387904 := by omega
  refine pure_of_code (G := (G0)) vers0 mixed0 Tryd.func37 rfl (by decide) (by simp [Tryd.f37]) (by simp) fun ver => ?_
  simp only [Tryd.f37, G0]
  simp [hl2, hl3, Mem.made, noArrs]
  refine aloop (α := Nat) (fun k => ⟨envOf [(0, intsAV c l), (3, .arr 7 (ver 7 + 1) 0 l.length), (4, .v (.int .i64 k))], ⟨[], fun j => if j = 7 then ⟨ver 7 + 1, true, 2, fillR (intCells) [.v (.int .i64 0)] l k⟩ else ⟨ver j, false, 0, []⟩⟩⟩)
    (fun k => k ≤ l.length) (fun k => l.length - k) 0 (less_envOf (by simp) rfl (by intro j; simp [fillR_zero])) (by simp) ?_
  intro k hk
  by_cases hlt : k < l.length
  · have hw := wrapS hlt hl4
    have hmem : l[k] ∈ l := List.getElem_mem hlt
    have hset := fillR_set (intCells) [.v (.int .i64 0)] l hlt
    simp only [strCells, intCells, byteCells, Trm.cells, clauseCells, Pk.cells] at hset
    simp [hlt, Mem.ok, fillR_get]
    refine ⟨k + 1, less_envOf (by simp [hw]) rfl (by intro j; by_cases hj : j = 7 <;> simp [hj, hset]), by omega, by omega⟩
  · obtain rfl : k = l.length := by omega
    simp [Mem.ok, fillR_all]

theorem t_term (t : Trm) : Pure Tryd.prog 19 [t.av] t.av := p_toTerm _ _ _ _ _ _ _

theorem t_trms (c : Bool) (l : List Trm) (hl : BigT l) : Pure Tryd.prog 105 [trmsAV c l] (trmsAV false l) := by
  have hl1 : l.length * 64 ≤ 140737488355328 := hl
  have hl2 : (l.length : Int) * 64 ≤ 140737488355328 := by omega
  have hl3 : (l.length : Int) ≤ 140737488355328 := by omega
  have hl4 : l.length ≤ 4611686018427387904 := by omega
  refine pure_of_code (G := (G0)) vers0 mixed0 Tryd.func105 rfl (by decide) (by simp [Tryd.f105]) (by simp) fun ver => ?_
  simp only [Tryd.f105, G0]
  simp [hl2, hl3, Mem.made, noArrs]
  refine aloop (α := Nat) (fun k => ⟨envOf [(0, trmsAV c l), (3, .arr 7 (ver 7 + 1) 0 l.length), (4, .v (.int .i64 k))], ⟨[], fun j => if j = 7 then ⟨ver 7 + 1, true, 38, fillR (Trm.cells) [.v (.string ByteArray.empty), .v (.int .i64 0), .v (.int .i64 0), .v (.int .i64 0), .v (.int .i64 0), .v (.int .i64 0), .v (.int .i64 0)] l k⟩ else ⟨ver j, false, 0, []⟩⟩⟩)
    (fun k => k ≤ l.length) (fun k => l.length - k) 0 (less_envOf (by simp) rfl (by intro j; simp [fillR_zero])) (by simp) ?_
  intro k hk
  by_cases hlt : k < l.length
  · have hw := wrapS hlt hl4
    have hmem : l[k] ∈ l := List.getElem_mem hlt
    have hset := fillR_set (Trm.cells) [.v (.string ByteArray.empty), .v (.int .i64 0), .v (.int .i64 0), .v (.int .i64 0), .v (.int .i64 0), .v (.int .i64 0), .v (.int .i64 0)] l hlt
    simp only [strCells, intCells, byteCells, Trm.cells, clauseCells, Pk.cells] at hset
    simp [hlt, Mem.ok, fillR_get]
    refine call_p (t_term l[k]) (by simp) ?_
    simp [Mem.ok, hlt, fillR_get]
    refine ⟨k + 1, less_envOf (by simp [hw]) rfl (by intro j; by_cases hj : j = 7 <;> simp [hj, hset]), by omega, by omega⟩
  · obtain rfl : k = l.length := by omega
    simp [Mem.ok, fillR_all]

theorem t_cls (c : Bool) (l : List (List Trm)) (hl : l.length * 24 ≤ 140737488355328 ∧ ∀ q ∈ l, BigT q) : Pure Tryd.prog 104 [clausesAV c l] (clausesAV false l) := by
  have hl1 : l.length * 24 ≤ 140737488355328 := hl.1
  have hl2 : (l.length : Int) * 24 ≤ 140737488355328 := by omega
  have hl3 : (l.length : Int) ≤ 140737488355328 := by omega
  have hl4 : l.length ≤ 4611686018427387904 := by omega
  refine pure_of_code (G := (G0)) vers0 mixed0 Tryd.func104 rfl (by decide) (by simp [Tryd.f104]) (by simp) fun ver => ?_
  simp only [Tryd.f104, G0]
  simp [hl2, hl3, Mem.made, noArrs]
  refine aloop (α := Nat) (fun k => ⟨envOf [(0, clausesAV c l), (3, .arr 7 (ver 7 + 1) 0 l.length), (4, .v (.int .i64 k))], ⟨[], fun j => if j = 7 then ⟨ver 7 + 1, true, 94, fillR (clauseCells false) [.nil] l k⟩ else ⟨ver j, false, 0, []⟩⟩⟩)
    (fun k => k ≤ l.length) (fun k => l.length - k) 0 (less_envOf (by simp) rfl (by intro j; simp [fillR_zero])) (by simp) ?_
  intro k hk
  by_cases hlt : k < l.length
  · have hw := wrapS hlt hl4
    have hmem : l[k] ∈ l := List.getElem_mem hlt
    have hset := fillR_set (clauseCells false) [.nil] l hlt
    simp only [strCells, intCells, byteCells, Trm.cells, clauseCells, Pk.cells] at hset
    simp [hlt, Mem.ok, fillR_get]
    refine call_p (t_trms c l[k] (hl.2 _ hmem)) (by simp) ?_
    simp [Mem.ok, hlt, fillR_get]
    refine ⟨k + 1, less_envOf (by simp [hw]) rfl (by intro j; by_cases hj : j = 7 <;> simp [hj, hset]), by omega, by omega⟩
  · obtain rfl : k = l.length := by omega
    simp [Mem.ok, fillR_all]

theorem t_pk (c : Bool) (p : Pk) (hp : p.Big) : Pure Tryd.prog 74 [p.av c] (p.av false) := by
  simp only [Pk.av]
  obtain ⟨hp1, hp2, hp3⟩ := hp
  refine pure_of_code (G := G0) vers0 mixed0 Tryd.func74 rfl (by decide) (by simp [Tryd.f74]) (by simp) fun ver => ?_
  simp only [Tryd.f74, G0]
  repeat' first
    | with_reducible refine And.intro ?_ ?_
    | with_reducible intro _
    | (first | with_reducible refine adraw_f 2 (by decide +kernel) ?_ | with_reducible refine adraw_f 3 (by decide +kernel) ?_ | with_reducible refine adraw_f 4 (by decide +kernel) ?_ | with_reducible refine adraw_f 5 (by decide +kernel) ?_ | with_reducible refine adraw_f 6 (by decide +kernel) ?_ | with_reducible refine adraw_f 7 (by decide +kernel) ?_ | with_reducible refine adraw_f 8 (by decide +kernel) ?_ | with_reducible refine adraw_f 9 (by decide +kernel) ?_ | with_reducible refine adraw_f 10 (by decide +kernel) ?_ | with_reducible refine adraw_f 11 (by decide +kernel) ?_ | with_reducible refine adraw_cut 0 (by decide +kernel) ?_ | with_reducible refine adraw_cut 1 (by decide +kernel) ?_ | with_reducible refine adraw_cut 2 (by decide +kernel) ?_ | with_reducible refine adraw_cut 3 (by decide +kernel) ?_ | with_reducible refine adraw_cut 4 (by decide +kernel) ?_ | with_reducible refine adraw_cut 5 (by decide +kernel) ?_ | with_reducible refine adraw_cut 6 (by decide +kernel) ?_ | with_reducible refine adraw_cut 7 (by decide +kernel) ?_ | with_reducible refine adraw_cut 8 (by decide +kernel) ?_ | with_reducible refine adraw_cut 9 (by decide +kernel) ?_ | with_reducible refine adraw_all (by kernel_rfl) ?_)
    | with_reducible refine call_p (p_toVersion _ _ _) (by simp) ?_
    | with_reducible refine call_f (p_toVersion _ _ _) (by simp) ?_
    | with_reducible refine call_p (t_strs c p.pr hp1) (by simp) ?_
    | with_reducible refine call_f (t_strs c p.pr hp1) (by simp) ?_
    | with_reducible refine call_p (t_cls c p.ne hp2) (by simp) ?_
    | with_reducible refine call_f (t_cls c p.ne hp2) (by simp) ?_
    | with_reducible refine call_p (t_trms c p.ba hp3) (by simp) ?_
    | with_reducible refine call_f (t_trms c p.ba hp3) (by simp) ?_
    | simp (config := { contextual := true, maxSteps := 4000000 }) [*, -Int.not_le, -Int.not_lt]

theorem t_pks (c : Bool) (l : List Pk) (hl : l.length * 120 ≤ 140737488355328 ∧ ∀ p ∈ l, p.Big) : Pure Tryd.prog 36 [pksAV c c l] (pksAV false false l) := by
  have hl1 : l.length * 120 ≤ 140737488355328 := hl.1
  have hl2 : (l.length : Int) * 120 ≤ 140737488355328 := by omega
  have hl3 : (l.length : Int) ≤ 140737488355328 := by omega
  have hl4 : l.length ≤ 4611686018427387904 := by omega
  refine pure_of_code (G := (G0)) vers0 mixed0 Tryd.func36 rfl (by decide) (by simp [Tryd.f36]) (by simp) fun ver => ?_
  simp only [Tryd.f36, G0]
  simp [hl2, hl3, Mem.made, noArrs]
  refine aloop (α := Nat) (fun k => ⟨envOf [(0, pksAV c c l), (3, .arr 7 (ver 7 + 1) 0 l.length), (4, .v (.int .i64 k))], ⟨[], fun j => if j = 7 then ⟨ver 7 + 1, true, 104, fillR (Pk.cells false) [.v (.string ByteArray.empty), .v (.int .i64 0), .v (.int .i64 0), .v (.int .i64 0), .v (.int .i64 0), .nil, .nil, .nil] l k⟩ else ⟨ver j, false, 0, []⟩⟩⟩)
    (fun k => k ≤ l.length) (fun k => l.length - k) 0 (less_envOf (by simp) rfl (by intro j; simp [fillR_zero])) (by simp) ?_
  intro k hk
  by_cases hlt : k < l.length
  · have hw := wrapS hlt hl4
    have hmem : l[k] ∈ l := List.getElem_mem hlt
    have hset := fillR_set (Pk.cells false) [.v (.string ByteArray.empty), .v (.int .i64 0), .v (.int .i64 0), .v (.int .i64 0), .v (.int .i64 0), .nil, .nil, .nil] l hlt
    simp only [strCells, intCells, byteCells, Trm.cells, clauseCells, Pk.cells] at hset
    simp [hlt, Mem.ok, fillR_get]
    refine call_p (t_pk c l[k] (hl.2 _ hmem)) (by simp) ?_
    simp [Mem.ok, hlt, fillR_get]
    refine ⟨k + 1, less_envOf (by simp [hw]) rfl (by intro j; by_cases hj : j = 7 <;> simp [hj, hset]), by omega, by omega⟩
  · obtain rfl : k = l.length := by omega
    simp [Mem.ok, fillR_all]

theorem e_strs (c d : Bool) (l : List ByteArray) (hl : l.length ≤ 4611686018427387904) : Pure Tryd.prog 107 [strsAV c l, strsAV d l] (.v (.bool true)) := by
  refine pure_of_code (G := (G0)) vers0 mixed0 Tryd.func107 rfl (by decide) (by simp [Tryd.f107]) (by simp) fun ver => ?_
  simp only [Tryd.f107, G0]
  simp
  refine aloop (α := Nat) (fun k => ⟨envOf [(0, strsAV c l), (1, strsAV d l), (5, .v (.int .i64 k))], ⟨[], noArrs ver⟩⟩)
    (fun k => k ≤ l.length) (fun k => l.length - k) 0 (less_envOf (by simp) rfl fun _ => rfl) (by simp) ?_
  intro k hk
  by_cases hlt : k < l.length
  · have hw := wrapS hlt hl
    have hmem : l[k] ∈ l := List.getElem_mem hlt
    simp [hlt]
    refine adraw_all (by kernel_rfl) ?_
    simp [hlt]
    try simp
    refine ⟨k + 1, less_envOf (by simp [hw]) rfl fun _ => rfl, by omega, by omega⟩
  · simp [hlt]

theorem e_ints (c d : Bool) (l : List Int) (hl : l.length ≤ 4611686018427387904) : Pure Tryd.prog 40 [intsAV c l, intsAV d l] (.v (.bool true)) := by
  refine pure_of_code (G := (G0)) vers0 mixed0 Tryd.func40 rfl (by decide) (by simp [Tryd.f40]) (by simp) fun ver => ?_
  simp only [Tryd.f40, G0]
  simp
  refine aloop (α := Nat) (fun k => ⟨envOf [(0, intsAV c l), (1, intsAV d l), (5, .v (.int .i64 k))], ⟨[], noArrs ver⟩⟩)
    (fun k => k ≤ l.length) (fun k => l.length - k) 0 (less_envOf (by simp) rfl fun _ => rfl) (by simp) ?_
  intro k hk
  by_cases hlt : k < l.length
  · have hw := wrapS hlt hl
    have hmem : l[k] ∈ l := List.getElem_mem hlt
    simp [hlt]
    refine adraw_all (by kernel_rfl) ?_
    simp [hlt]
    try simp
    refine ⟨k + 1, less_envOf (by simp [hw]) rfl fun _ => rfl, by omega, by omega⟩
  · simp [hlt]

theorem e_trms (c d : Bool) (l : List Trm) (hl : l.length ≤ 4611686018427387904) : Pure Tryd.prog 109 [trmsAV c l, trmsAV d l] (.v (.bool true)) := by
  refine pure_of_code (G := (G0)) vers0 mixed0 Tryd.func109 rfl (by decide) (by simp [Tryd.f109]) (by simp) fun ver => ?_
  simp only [Tryd.f109, G0]
  simp
  refine aloop (α := Nat) (fun k => ⟨envOf [(0, trmsAV c l), (1, trmsAV d l), (5, .v (.int .i64 k))], ⟨[], noArrs ver⟩⟩)
    (fun k => k ≤ l.length) (fun k => l.length - k) 0 (less_envOf (by simp) rfl fun _ => rfl) (by simp) ?_
  intro k hk
  by_cases hlt : k < l.length
  · have hw := wrapS hlt hl
    have hmem : l[k] ∈ l := List.getElem_mem hlt
    simp [hlt]
    refine adraw_all (by kernel_rfl) ?_
    simp [hlt]
    refine call_p (e_term l[k]) (by simp) ?_
    try simp
    refine ⟨k + 1, less_envOf (by simp [hw]) rfl fun _ => rfl, by omega, by omega⟩
  · simp [hlt]

theorem e_cls (c d : Bool) (l : List (List Trm)) (hl : l.length ≤ 4611686018427387904) (hb : ∀ q ∈ l, q.length ≤ 4611686018427387904) : Pure Tryd.prog 108 [clausesAV c l, clausesAV d l] (.v (.bool true)) := by
  refine pure_of_code (G := (G0)) vers0 mixed0 Tryd.func108 rfl (by decide) (by simp [Tryd.f108]) (by simp) fun ver => ?_
  simp only [Tryd.f108, G0]
  simp
  refine aloop (α := Nat) (fun k => ⟨envOf [(0, clausesAV c l), (1, clausesAV d l), (5, .v (.int .i64 k))], ⟨[], noArrs ver⟩⟩)
    (fun k => k ≤ l.length) (fun k => l.length - k) 0 (less_envOf (by simp) rfl fun _ => rfl) (by simp) ?_
  intro k hk
  by_cases hlt : k < l.length
  · have hw := wrapS hlt hl
    have hmem : l[k] ∈ l := List.getElem_mem hlt
    simp [hlt]
    refine adraw_all (by kernel_rfl) ?_
    simp [hlt]
    refine call_p (e_trms c d l[k] (hb _ hmem)) (by simp) ?_
    try simp
    refine ⟨k + 1, less_envOf (by simp [hw]) rfl fun _ => rfl, by omega, by omega⟩
  · simp [hlt]

@[reducible] def Pk.Len (p : Pk) : Prop := p.pr.length ≤ 4611686018427387904 ∧ p.ne.length ≤ 4611686018427387904 ∧ (∀ q ∈ p.ne, q.length ≤ 4611686018427387904) ∧ p.ba.length ≤ 4611686018427387904
theorem Pk.Big.len {p : Pk} (h : p.Big) : p.Len := by
  obtain ⟨h1, ⟨h2, h3⟩, h4⟩ := h
  unfold BigS BigT at *
  exact ⟨by omega, by omega, fun q hq => by have := h3 q hq; omega, by omega⟩

theorem e_pk (c d : Bool) (p : Pk) (hp : p.Len) : Pure Tryd.prog 77 [p.av c, p.av d] (.v (.bool true)) := by
  simp only [Pk.av]
  obtain ⟨hp1, hp2, hp3, hp4⟩ := hp
  refine pure_of_code (G := G0) vers0 mixed0 Tryd.func77 rfl (by decide) (by simp [Tryd.f77]) (by simp) fun ver => ?_
  simp only [Tryd.f77, G0]
  repeat' first
    | with_reducible refine And.intro ?_ ?_
    | with_reducible intro _
    | (first | with_reducible refine adraw_f 2 (by decide +kernel) ?_ | with_reducible refine adraw_f 3 (by decide +kernel) ?_ | with_reducible refine adraw_f 4 (by decide +kernel) ?_ | with_reducible refine adraw_f 5 (by decide +kernel) ?_ | with_reducible refine adraw_f 6 (by decide +kernel) ?_ | with_reducible refine adraw_f 7 (by decide +kernel) ?_ | with_reducible refine adraw_f 8 (by decide +kernel) ?_ | with_reducible refine adraw_f 9 (by decide +kernel) ?_ | with_reducible refine adraw_f 10 (by decide +kernel) ?_ | with_reducible refine adraw_f 11 (by decide +kernel) ?_ | with_reducible refine adraw_cut 0 (by decide +kernel) ?_ | with_reducible refine adraw_cut 1 (by decide +kernel) ?_ | with_reducible refine adraw_cut 2 (by decide +kernel) ?_ | with_reducible refine adraw_cut 3 (by decide +kernel) ?_ | with_reducible refine adraw_cut 4 (by decide +kernel) ?_ | with_reducible refine adraw_cut 5 (by decide +kernel) ?_ | with_reducible refine adraw_cut 6 (by decide +kernel) ?_ | with_reducible refine adraw_cut 7 (by decide +kernel) ?_ | with_reducible refine adraw_cut 8 (by decide +kernel) ?_ | with_reducible refine adraw_cut 9 (by decide +kernel) ?_ | with_reducible refine adraw_all (by kernel_rfl) ?_)
    | with_reducible refine call_p (e_version _ _ _) (by simp) ?_
    | with_reducible refine call_f (e_version _ _ _) (by simp) ?_
    | with_reducible refine call_p (e_strs c d p.pr hp1) (by simp) ?_
    | with_reducible refine call_f (e_strs c d p.pr hp1) (by simp) ?_
    | with_reducible refine call_p (e_cls c d p.ne hp2 hp3) (by simp) ?_
    | with_reducible refine call_f (e_cls c d p.ne hp2 hp3) (by simp) ?_
    | with_reducible refine call_p (e_trms c d p.ba hp4) (by simp) ?_
    | with_reducible refine call_f (e_trms c d p.ba hp4) (by simp) ?_
    | simp (config := { contextual := true, maxSteps := 4000000 }) [*, -Int.not_le, -Int.not_lt]

theorem e_pks (c d : Bool) (l : List Pk) (hl : l.length ≤ 4611686018427387904) (hb : ∀ q ∈ l, q.Len) : Pure Tryd.prog 39 [pksAV c c l, pksAV d d l] (.v (.bool true)) := by
  refine pure_of_code (G := (G0)) vers0 mixed0 Tryd.func39 rfl (by decide) (by simp [Tryd.f39]) (by simp) fun ver => ?_
  simp only [Tryd.f39, G0]
  simp
  refine aloop (α := Nat) (fun k => ⟨envOf [(0, pksAV c c l), (1, pksAV d d l), (5, .v (.int .i64 k))], ⟨[], noArrs ver⟩⟩)
    (fun k => k ≤ l.length) (fun k => l.length - k) 0 (less_envOf (by simp) rfl fun _ => rfl) (by simp) ?_
  intro k hk
  by_cases hlt : k < l.length
  · have hw := wrapS hlt hl
    have hmem : l[k] ∈ l := List.getElem_mem hlt
    simp [hlt]
    refine adraw_all (by kernel_rfl) ?_
    simp [hlt]
    refine call_p (e_pk c d l[k] (hb _ hmem)) (by simp) ?_
    try simp
    refine ⟨k + 1, less_envOf (by simp [hw]) rfl fun _ => rfl, by omega, by omega⟩
  · simp [hlt]

end Go.Proofs.YtokhnmchnfkiiaaDoor.Am

/- Terms and packages: their faults, as the reference and the program find them. No conditions. -/
namespace Go.Proofs.YtokhnmchnfkiiaaDoor.Am
open Go Go.RowKit Go.Proofs
set_option linter.unusedSimpArgs false
set_option linter.unusedVariables false

def verF (v : Ver) : Int := versionFault v.a v.b v.c
def cmpV (a b : Ver) : Int := cmpF a.a a.b a.c b.a b.b b.c
def trmF (t : Trm) : Int := termFault t.n t.lo.a t.lo.b t.lo.c t.hi.a t.hi.b t.hi.c
def trmsF : List Trm → Int
  | [] => 0
  | t :: l => if trmF t ≠ 0 then trmF t else trmsF l
def clsF : List (List Trm) → Int
  | [] => 0
  | c :: l => if c.length = 0 then 1 else if trmsF c ≠ 0 then trmsF c else clsF l
def memB (x : ByteArray) : List ByteArray → Bool
  | [] => false
  | s :: l => decide (s = x) || memB x l
theorem memB_app (x s : ByteArray) : ∀ l, memB x (l ++ [s]) = (memB x l || decide (s = x))
  | [] => by simp [memB]
  | a :: l => by simp [memB, memB_app x s l, Bool.or_assoc]
def prF (n : ByteArray) : List ByteArray → List ByteArray → Int
  | _, [] => 0
  | seen, s :: l => if nameFault s ≠ 0 then nameFault s else if s = n ∨ memB s seen = true then 6 else prF n (seen ++ [s]) l
def manyC : List (List Trm) → Bool
  | [] => false
  | c :: l => decide (4 < c.length) || manyC l
def packF (p : Pk) : Int :=
  if nameFault p.n ≠ 0 then nameFault p.n else if verF p.v ≠ 0 then verF p.v else if inF p.s 1 200 = false then 3 else
  if 4 < p.pr.length ∨ 4 < p.ne.length ∨ 4 < p.ba.length then 2 else if manyC p.ne = true then 2 else
  if prF p.n [] p.pr ≠ 0 then prF p.n [] p.pr else if clsF p.ne ≠ 0 then clsF p.ne else trmsF p.ba

theorem p_trm (t : Trm) : Pure Tryd.prog 51 [t.av] (.v (.int .i64 (trmF t))) := p_termFault _ _ _ _ _ _ _

theorem q_trm (t : Trm) : Pure Tryd.prog 33 [t.av] (.v (.int .i64 (trmF t))) := q_termFault _ _ _ _ _ _ _

theorem p_trms (c : Bool) (l : List Trm) (hl : l.length ≤ 4611686018427387904) : Pure Tryd.prog 126 [trmsAV c l] (.v (.int .i64 (trmsF l))) := by
  refine pure_of_code (G := (G0)) vers0 mixed0 Tryd.func126 rfl (by decide) (by simp [Tryd.f126]) (by simp) fun ver => ?_
  simp only [Tryd.f126, G0]
  simp
  refine aloop (α := Nat) (fun k => ⟨envOf [(0, trmsAV c l), (3, .v (.int .i64 k))], ⟨[], noArrs ver⟩⟩)
    (fun k => k ≤ l.length ∧ trmsF (l.drop k) = trmsF l) (fun k => l.length - k) 0 (less_envOf (by simp) rfl fun _ => rfl) (by simp) ?_
  rintro k ⟨hk, hm⟩
  by_cases hlt : k < l.length
  · have hw := wrapS hlt hl
    rw [drop_get hlt, trmsF] at hm
    simp [hlt]
    refine call_p (p_trm l[k]) (by simp) ?_
    simp (config := { contextual := true }) [-Int.not_lt, -Int.not_le]
    refine And.intro (fun h => ?_) (fun h => ?_)
    · simpa [h] using hm
    · refine ⟨k + 1, less_envOf (by simp [hw]) rfl fun _ => rfl, ⟨by omega, by simpa [h] using hm⟩, by omega⟩
  · rw [List.drop_eq_nil_of_le (by omega)] at hm
    simp [hlt]
    exact hm

theorem q_trms (c : Bool) (l : List Trm) (hl : l.length ≤ 4611686018427387904) : Pure Tryd.prog 131 [trmsAV c l] (.v (.int .i64 (trmsF l))) := by
  refine pure_of_code (G := (G0)) vers0 mixed0 Tryd.func131 rfl (by decide) (by simp [Tryd.f131]) (by simp) fun ver => ?_
  simp only [Tryd.f131, G0]
  simp
  refine aloop (α := Nat × List (List AV)) (fun d => ⟨envOf [(6, trmsAV c l), (7, .v (.int .i64 l.length)), (8, .v (.int .i64 d.1))], ⟨d.2, noArrs ver⟩⟩)
    (fun d => d.1 ≤ l.length ∧ trmsF (l.drop d.1) = trmsF l) (fun d => l.length - d.1) (0, []) (less_envOf (by simp) rfl fun _ => rfl) (by simp) ?_
  rintro ⟨k, bs⟩ ⟨hk, hm⟩
  simp only at hk hm ⊢
  by_cases hlt : k < l.length
  · have hw := wrapS hlt hl
    rw [drop_get hlt, trmsF] at hm
    simp [hlt]
    refine call_p (q_trm l[k]) (by simp) ?_
    simp (config := { contextual := true }) [-Int.not_lt, -Int.not_le]
    refine And.intro (fun h => ?_) (fun h => ?_)
    · simpa [h] using hm
    · refine ⟨k + 1, ⟨_, less_envOf (by simp [hw]) rfl fun _ => rfl⟩, ⟨by omega, by simpa [h] using hm⟩, by omega⟩
  · rw [List.drop_eq_nil_of_le (by omega)] at hm
    simp [hlt]
    exact hm

theorem q_first (c : Bool) (l : List Int) (hl : l.length ≤ 4611686018427387904) : Pure Tryd.prog 127 [intsAV c l] (.v (.int .i64 (orF l))) := by
  refine pure_of_code (G := (G0)) vers0 mixed0 Tryd.func127 rfl (by decide) (by simp [Tryd.f127]) (by simp) fun ver => ?_
  simp only [Tryd.f127, G0]
  simp
  refine aloop (α := Nat) (fun k => ⟨envOf [(5, intsAV c l), (6, .v (.int .i64 l.length)), (7, .v (.int .i64 k))], ⟨[], noArrs ver⟩⟩)
    (fun k => k ≤ l.length ∧ orF (l.drop k) = orF l) (fun k => l.length - k) 0 (less_envOf (by simp) rfl fun _ => rfl) (by simp) ?_
  rintro k ⟨hk, hm⟩
  by_cases hlt : k < l.length
  · have hw := wrapS hlt hl
    rw [drop_get hlt, orF] at hm
    simp (config := { contextual := true }) [hlt, -Int.not_lt, -Int.not_le]
    refine And.intro (fun h => ?_) (fun h => ?_)
    · simpa [h] using hm
    · refine ⟨k + 1, less_envOf (by simp [hw]) rfl fun _ => rfl, ⟨by omega, by simpa [h] using hm⟩, by omega⟩
  · rw [List.drop_eq_nil_of_le (by omega)] at hm
    simp [hlt]
    exact hm

theorem p_holds (c : Bool) (l : List ByteArray) (hl : l.length ≤ 4611686018427387904) (x : ByteArray) : Pure Tryd.prog 125 [strsAV c l, .v (.string x)] (.v (.bool (memB x l))) := by
  refine pure_of_code (G := (G0)) vers0 mixed0 Tryd.func125 rfl (by decide) (by simp [Tryd.f125]) (by simp) fun ver => ?_
  simp only [Tryd.f125, G0]
  simp
  refine aloop (α := Nat) (fun k => ⟨envOf [(0, strsAV c l), (1, .v (.string x)), (5, .v (.int .i64 k))], ⟨[], noArrs ver⟩⟩)
    (fun k => k ≤ l.length ∧ memB x (l.drop k) = memB x l) (fun k => l.length - k) 0 (less_envOf (by simp) rfl fun _ => rfl) (by simp) ?_
  rintro k ⟨hk, hm⟩
  by_cases hlt : k < l.length
  · have hw := wrapS hlt hl
    rw [drop_get hlt, memB] at hm
    simp (config := { contextual := true }) [hlt]
    refine And.intro (fun h => ?_) (fun h => ?_)
    · rw [← hm]; simp [h]
    · refine ⟨k + 1, less_envOf (by simp [hw]) rfl fun _ => rfl, ⟨by omega, by rw [← hm]; simp [h]⟩, by omega⟩
  · rw [List.drop_eq_nil_of_le (by omega)] at hm
    simp [hlt]
    simpa [memB] using hm

def idxS (x : ByteArray) : List ByteArray → Int → Int
  | [], _ => -1
  | s :: l, k => if x = s then k else idxS x l (k + 1)
theorem idxS_mem (x : ByteArray) : ∀ (l : List ByteArray) (k : Int), 0 ≤ k → decide (0 ≤ idxS x l k) = memB x l
  | [], k, h => by simp [idxS, memB]
  | s :: l, k, h => by
    unfold idxS memB
    by_cases e : x = s
    · simp [e, h]
    · simp only [if_neg e]
      rw [idxS_mem x l (k + 1) (by omega)]
      simp [Ne.symm e]

theorem q_index (c : Bool) (l : List ByteArray) (hl : l.length ≤ 4611686018427387904) (x : ByteArray) : Pure Tryd.prog 144 [strsAV c l, .v (.string x)] (.v (.int .i64 (idxS x l 0))) := by
  refine pure_of_code (G := (G0)) vers0 mixed0 Tryd.func144 rfl (by decide) (by simp [Tryd.f144]) (by simp) fun ver => ?_
  simp only [Tryd.f144, G0]
  simp
  refine aloop (α := Nat) (fun k => ⟨envOf [(0, strsAV c l), (1, .v (.string x)), (7, .v (.int .i64 l.length)), (8, .v (.int .i64 k))], ⟨[], noArrs ver⟩⟩)
    (fun k => k ≤ l.length ∧ idxS x (l.drop k) k = idxS x l 0) (fun k => l.length - k) 0 (less_envOf (by simp) rfl fun _ => rfl) (by simp) ?_
  rintro k ⟨hk, hm⟩
  by_cases hlt : k < l.length
  · have hw := wrapS hlt hl
    rw [drop_get hlt, idxS] at hm
    simp (config := { contextual := true }) [hlt]
    refine And.intro (fun h => ?_) (fun h => ?_)
    · simpa [h] using hm
    · refine ⟨k + 1, less_envOf (by simp [hw]) rfl fun _ => rfl, ⟨by omega, by simpa [h] using hm⟩, by omega⟩
  · rw [List.drop_eq_nil_of_le (by omega)] at hm
    simp [hlt]
    exact hm

theorem q_contains (c : Bool) (l : List ByteArray) (hl : l.length ≤ 4611686018427387904) (x : ByteArray) : Pure Tryd.prog 130 [strsAV c l, .v (.string x)] (.v (.bool (memB x l))) := by
  rw [← idxS_mem x l 0 (Int.le_refl _)]
  refine pure_of_code (G := G0) vers0 mixed0 Tryd.func130 rfl (by decide) (by simp [Tryd.f130]) (by simp) fun ver => ?_
  simp only [Tryd.f130, G0]
  repeat' first
    | with_reducible refine And.intro ?_ ?_
    | with_reducible intro _
    | (first | with_reducible refine adraw_f 2 (by decide +kernel) ?_ | with_reducible refine adraw_f 3 (by decide +kernel) ?_ | with_reducible refine adraw_f 4 (by decide +kernel) ?_ | with_reducible refine adraw_f 5 (by decide +kernel) ?_ | with_reducible refine adraw_f 6 (by decide +kernel) ?_ | with_reducible refine adraw_f 7 (by decide +kernel) ?_ | with_reducible refine adraw_f 8 (by decide +kernel) ?_ | with_reducible refine adraw_f 9 (by decide +kernel) ?_ | with_reducible refine adraw_f 10 (by decide +kernel) ?_ | with_reducible refine adraw_f 11 (by decide +kernel) ?_ | with_reducible refine adraw_cut 0 (by decide +kernel) ?_ | with_reducible refine adraw_cut 1 (by decide +kernel) ?_ | with_reducible refine adraw_cut 2 (by decide +kernel) ?_ | with_reducible refine adraw_cut 3 (by decide +kernel) ?_ | with_reducible refine adraw_cut 4 (by decide +kernel) ?_ | with_reducible refine adraw_cut 5 (by decide +kernel) ?_ | with_reducible refine adraw_cut 6 (by decide +kernel) ?_ | with_reducible refine adraw_cut 7 (by decide +kernel) ?_ | with_reducible refine adraw_cut 8 (by decide +kernel) ?_ | with_reducible refine adraw_cut 9 (by decide +kernel) ?_ | with_reducible refine adraw_all (by kernel_rfl) ?_)
    | with_reducible refine call_p (q_index c l hl x) (by simp) ?_
    | with_reducible refine call_f (q_index c l hl x) (by simp) ?_
    | simp (config := { contextual := true, maxSteps := 4000000 }) [*, -Int.not_le, -Int.not_lt]

end Go.Proofs.YtokhnmchnfkiiaaDoor.Am

/- slices.IndexFunc, slices.ContainsFunc: what they return, by what the function handed in returns. No conditions. -/
namespace Go.Proofs.YtokhnmchnfkiiaaDoor.Am
open Go Go.RowKit Go.Proofs
set_option linter.unusedSimpArgs false
set_option linter.unusedVariables false

/-- For functions that may read the caller's n boxes. -/
noncomputable def Gb (n : Nat) : Cfg := ⟨Tryd.prog, fun _ => false, fun t => t == 25, fun k => decide (n ≤ k), 0⟩
theorem versb (n : Nat) : (Gb n).Vers := fun t h => vers0 t h
/-- What is handed on is the same when it is handed on again. -/
def Stab (bs : List (List AV)) : Prop := ∀ a, lentBoxes ⟨bs, a⟩ = bs
def StabA (l : List AV) : Prop := ∀ m, l.map (lend m) = l

theorem bcode {f : FuncId} {fn : Func} {c : Code} (hf : Tryd.prog.funcs[f]? = some fn) (hb : fn.body = some c) (hn : fn.name ≠ "runtime.NumGoroutine") {args : List AV} {bs : List (List AV)} (ha : args.length ≤ fn.ntmps) {r : AV} (hr : r.Free (· = false))
    (h : ∀ ver, acode (Gb bs.length) fn.ntmps c (kRes (Gb bs.length) fn.results.toList r) ⟨envOf (zipEnv 0 args), ⟨bs, noArrs ver⟩⟩) : BCall Tryd.prog f args bs r :=
  boxes_of_code (G := Gb bs.length) (versb _) mixed0 hf hb hn ha (fun k hk => by simpa [Gb] using hk) hr h

theorem call_b {P : Program} {own : Nat → Bool} {verT : TypeId → Bool} {wr : Nat → Bool} {md : Nat} {ic : Bool} {dst : Option Tmp} {L : St → Prop} {st : St} {f : FuncId} {xs les : List AV} {r : AV} {bs : List (List AV)} (hp : BCall P f les bs r) (hb : lentBoxes st.mem = bs) (h : L (st.put dst r)) : onCall ⟨P, own, verT, wr, md⟩ ic f xs les dst L st :=
  call_boxes (G := ⟨P, own, verT, wr, md⟩) hb hp h

def idxQ {α : Type} (q : α → Bool) : List α → Int → Int
  | [], _ => -1
  | a :: l, k => if q a = true then k else idxQ q l (k + 1)
theorem idxQ_any {α : Type} (q : α → Bool) : ∀ (l : List α) (k : Int), 0 ≤ k → decide (0 ≤ idxQ q l k) = l.any q
  | [], k, h => by simp [idxQ]
  | a :: l, k, h => by
    unfold idxQ
    by_cases e : q a = true
    · simp [e, h]
    · simp only [if_neg e]
      rw [idxQ_any q l (k + 1) (by omega)]
      simp [e]

theorem xb_cls (c d : Bool) (l : List (List Trm)) (hl : l.length ≤ 4611686018427387904) (f : FuncId) (pre post : List AV) (bs : List (List AV)) (q : (List Trm) → Bool) (hst : Stab bs) (hs1 : StabA pre) (hs2 : StabA post)
    (h : ∀ a ∈ l, BCall Tryd.prog f (pre ++ [trmsAV d a] ++ post) bs (.v (.bool (q a)))) : BCall Tryd.prog 143 [.sl c (l.map (clauseCells d)), .clo f pre post] bs (.v (.int .i64 (idxQ q l 0))) := by
  refine bcode Tryd.func143 rfl (by decide) (by simp [Tryd.f143]) (by simp) fun ver => ?_
  simp only [Tryd.f143, Gb]
  simp
  refine aloop (α := Nat) (fun k => ⟨envOf [(0, .sl c (l.map (clauseCells d))), (1, .clo f pre post), (7, .v (.int .i64 l.length)), (8, .v (.int .i64 k))], ⟨bs, noArrs ver⟩⟩)
    (fun k => k ≤ l.length ∧ idxQ q (l.drop k) k = idxQ q l 0) (fun k => l.length - k) 0 (less_envOf (by simp) rfl fun _ => rfl) (by simp) ?_
  rintro k ⟨hk, hm⟩
  by_cases hlt : k < l.length
  · have hw := wrapS hlt hl
    have hmem : l[k] ∈ l := List.getElem_mem hlt
    rw [drop_get hlt, idxQ] at hm
    have es := hs1
    have es2 := hs2
    unfold StabA at es es2
    simp [hlt]
    simp only [es, es2]
    have h := h
    simp only [List.append_assoc, List.cons_append, List.nil_append, Trm.av, Pk.av, trmsAV] at h
    refine call_b (h _ hmem) (hst _) ?_
    simp (config := { contextual := true }) [-Int.not_lt, -Int.not_le]
    refine And.intro (fun h => ?_) (fun h => ?_)
    · simpa [h] using hm
    · refine ⟨k + 1, less_envOf (by simp [hw]) rfl fun _ => rfl, ⟨by omega, by simpa [h] using hm⟩, by omega⟩
  · rw [List.drop_eq_nil_of_le (by omega)] at hm
    simp [hlt]
    exact hm

theorem cb_cls (c d : Bool) (l : List (List Trm)) (hl : l.length ≤ 4611686018427387904) (f : FuncId) (pre post : List AV) (bs : List (List AV)) (q : (List Trm) → Bool) (hst : Stab bs) (hs1 : StabA pre) (hs2 : StabA post)
    (h : ∀ a ∈ l, BCall Tryd.prog f (pre ++ [trmsAV d a] ++ post) bs (.v (.bool (q a)))) : BCall Tryd.prog 128 [.sl c (l.map (clauseCells d)), .clo f pre post] bs (.v (.bool (l.any q))) := by
  rw [← idxQ_any q l 0 (Int.le_refl _)]
  refine bcode Tryd.func128 rfl (by decide) (by simp [Tryd.f128]) (by simp) fun ver => ?_
  simp only [Tryd.f128, Gb]
  simp
  refine call_b (xb_cls c d l hl f pre post bs q hst hs1 hs2 h) (hst _) ?_
  simp

theorem xp_cls (c d : Bool) (l : List (List Trm)) (hl : l.length ≤ 4611686018427387904) (f : FuncId) (pre post : List AV) (q : (List Trm) → Bool) (hs1 : StabA pre) (hs2 : StabA post) (hf1 : ∀ b ∈ pre, AV.Free (fun _ => True) b) (hf2 : ∀ b ∈ post, AV.Free (fun _ => True) b)
    (h : ∀ a ∈ l, Pure Tryd.prog f (pre ++ [trmsAV d a] ++ post) (.v (.bool (q a)))) : Pure Tryd.prog 143 [.sl c (l.map (clauseCells d)), .clo f pre post] (.v (.int .i64 (idxQ q l 0))) := by
  refine pure_of_code (G := G0) vers0 mixed0 Tryd.func143 rfl (by decide) (by simp [Tryd.f143]) (by simp) fun ver => ?_
  simp only [Tryd.f143, G0]
  simp
  refine aloop (α := Nat) (fun k => ⟨envOf [(0, .sl c (l.map (clauseCells d))), (1, .clo f pre post), (7, .v (.int .i64 l.length)), (8, .v (.int .i64 k))], ⟨[], noArrs ver⟩⟩)
    (fun k => k ≤ l.length ∧ idxQ q (l.drop k) k = idxQ q l 0) (fun k => l.length - k) 0 (less_envOf (by simp) rfl fun _ => rfl) (by simp) ?_
  rintro k ⟨hk, hm⟩
  by_cases hlt : k < l.length
  · have hw := wrapS hlt hl
    have hmem : l[k] ∈ l := List.getElem_mem hlt
    rw [drop_get hlt, idxQ] at hm
    have es := hs1
    have es2 := hs2
    unfold StabA at es es2
    simp [hlt]
    simp only [es, es2]
    have h := h
    simp only [List.append_assoc, List.cons_append, List.nil_append, Trm.av, Pk.av, trmsAV] at h
    refine call_p (h _ hmem) ?_ ?_
    · intro b hb
      simp only [List.mem_append, List.mem_cons] at hb
      rcases hb with hb | rfl | hb
      · exact hf1 b hb
      · simp
      · exact hf2 b hb
    simp (config := { contextual := true }) [-Int.not_lt, -Int.not_le]
    refine And.intro (fun h => ?_) (fun h => ?_)
    · simpa [h] using hm
    · refine ⟨k + 1, less_envOf (by simp [hw]) rfl fun _ => rfl, ⟨by omega, by simpa [h] using hm⟩, by omega⟩
  · rw [List.drop_eq_nil_of_le (by omega)] at hm
    simp [hlt]
    exact hm

theorem cp_cls (c d : Bool) (l : List (List Trm)) (hl : l.length ≤ 4611686018427387904) (f : FuncId) (pre post : List AV) (q : (List Trm) → Bool) (hs1 : StabA pre) (hs2 : StabA post) (hf1 : ∀ b ∈ pre, AV.Free (fun _ => True) b) (hf2 : ∀ b ∈ post, AV.Free (fun _ => True) b)
    (h : ∀ a ∈ l, Pure Tryd.prog f (pre ++ [trmsAV d a] ++ post) (.v (.bool (q a)))) : Pure Tryd.prog 128 [.sl c (l.map (clauseCells d)), .clo f pre post] (.v (.bool (l.any q))) := by
  rw [← idxQ_any q l 0 (Int.le_refl _)]
  refine pure_of_code (G := G0) vers0 mixed0 Tryd.func128 rfl (by decide) (by simp [Tryd.f128]) (by simp) fun ver => ?_
  simp only [Tryd.f128, G0]
  simp
  refine call_p (xp_cls c d l hl f pre post q hs1 hs2 hf1 hf2 h) (by simp; exact ⟨hf1, hf2⟩) ?_
  simp

theorem xb_pks (c d : Bool) (l : List Pk) (hl : l.length ≤ 4611686018427387904) (f : FuncId) (pre post : List AV) (bs : List (List AV)) (q : Pk → Bool) (hst : Stab bs) (hs1 : StabA pre) (hs2 : StabA post)
    (h : ∀ a ∈ l, BCall Tryd.prog f (pre ++ [Pk.av d a] ++ post) bs (.v (.bool (q a)))) : BCall Tryd.prog 132 [.sl c (l.map (Pk.cells d)), .clo f pre post] bs (.v (.int .i64 (idxQ q l 0))) := by
  refine bcode Tryd.func132 rfl (by decide) (by simp [Tryd.f132]) (by simp) fun ver => ?_
  simp only [Tryd.f132, Gb]
  simp
  refine aloop (α := Nat) (fun k => ⟨envOf [(0, .sl c (l.map (Pk.cells d))), (1, .clo f pre post), (7, .v (.int .i64 l.length)), (8, .v (.int .i64 k))], ⟨bs, noArrs ver⟩⟩)
    (fun k => k ≤ l.length ∧ idxQ q (l.drop k) k = idxQ q l 0) (fun k => l.length - k) 0 (less_envOf (by simp) rfl fun _ => rfl) (by simp) ?_
  rintro k ⟨hk, hm⟩
  by_cases hlt : k < l.length
  · have hw := wrapS hlt hl
    have hmem : l[k] ∈ l := List.getElem_mem hlt
    rw [drop_get hlt, idxQ] at hm
    have es := hs1
    have es2 := hs2
    unfold StabA at es es2
    simp [hlt]
    simp only [es, es2]
    have h := h
    simp only [List.append_assoc, List.cons_append, List.nil_append, Trm.av, Pk.av, trmsAV] at h
    refine call_b (h _ hmem) (hst _) ?_
    simp (config := { contextual := true }) [-Int.not_lt, -Int.not_le]
    refine And.intro (fun h => ?_) (fun h => ?_)
    · simpa [h] using hm
    · refine ⟨k + 1, less_envOf (by simp [hw]) rfl fun _ => rfl, ⟨by omega, by simpa [h] using hm⟩, by omega⟩
  · rw [List.drop_eq_nil_of_le (by omega)] at hm
    simp [hlt]
    exact hm

theorem xp_pks (c d : Bool) (l : List Pk) (hl : l.length ≤ 4611686018427387904) (f : FuncId) (pre post : List AV) (q : Pk → Bool) (hs1 : StabA pre) (hs2 : StabA post) (hf1 : ∀ b ∈ pre, AV.Free (fun _ => True) b) (hf2 : ∀ b ∈ post, AV.Free (fun _ => True) b)
    (h : ∀ a ∈ l, Pure Tryd.prog f (pre ++ [Pk.av d a] ++ post) (.v (.bool (q a)))) : Pure Tryd.prog 132 [.sl c (l.map (Pk.cells d)), .clo f pre post] (.v (.int .i64 (idxQ q l 0))) := by
  refine pure_of_code (G := G0) vers0 mixed0 Tryd.func132 rfl (by decide) (by simp [Tryd.f132]) (by simp) fun ver => ?_
  simp only [Tryd.f132, G0]
  simp
  refine aloop (α := Nat) (fun k => ⟨envOf [(0, .sl c (l.map (Pk.cells d))), (1, .clo f pre post), (7, .v (.int .i64 l.length)), (8, .v (.int .i64 k))], ⟨[], noArrs ver⟩⟩)
    (fun k => k ≤ l.length ∧ idxQ q (l.drop k) k = idxQ q l 0) (fun k => l.length - k) 0 (less_envOf (by simp) rfl fun _ => rfl) (by simp) ?_
  rintro k ⟨hk, hm⟩
  by_cases hlt : k < l.length
  · have hw := wrapS hlt hl
    have hmem : l[k] ∈ l := List.getElem_mem hlt
    rw [drop_get hlt, idxQ] at hm
    have es := hs1
    have es2 := hs2
    unfold StabA at es es2
    simp [hlt]
    simp only [es, es2]
    have h := h
    simp only [List.append_assoc, List.cons_append, List.nil_append, Trm.av, Pk.av, trmsAV] at h
    refine call_p (h _ hmem) ?_ ?_
    · intro b hb
      simp only [List.mem_append, List.mem_cons] at hb
      rcases hb with hb | rfl | hb
      · exact hf1 b hb
      · simp
      · exact hf2 b hb
    simp (config := { contextual := true }) [-Int.not_lt, -Int.not_le]
    refine And.intro (fun h => ?_) (fun h => ?_)
    · simpa [h] using hm
    · refine ⟨k + 1, less_envOf (by simp [hw]) rfl fun _ => rfl, ⟨by omega, by simpa [h] using hm⟩, by omega⟩
  · rw [List.drop_eq_nil_of_le (by omega)] at hm
    simp [hlt]
    exact hm

theorem xb_ints (c : Bool) (l : List Int) (hl : l.length ≤ 4611686018427387904) (f : FuncId) (pre post : List AV) (bs : List (List AV)) (q : Int → Bool) (hst : Stab bs) (hs1 : StabA pre) (hs2 : StabA post)
    (h : ∀ a ∈ l, BCall Tryd.prog f (pre ++ [.v (.int .i64 a)] ++ post) bs (.v (.bool (q a)))) : BCall Tryd.prog 142 [.sl c (l.map intCells), .clo f pre post] bs (.v (.int .i64 (idxQ q l 0))) := by
  refine bcode Tryd.func142 rfl (by decide) (by simp [Tryd.f142]) (by simp) fun ver => ?_
  simp only [Tryd.f142, Gb]
  simp
  refine aloop (α := Nat) (fun k => ⟨envOf [(0, .sl c (l.map intCells)), (1, .clo f pre post), (7, .v (.int .i64 l.length)), (8, .v (.int .i64 k))], ⟨bs, noArrs ver⟩⟩)
    (fun k => k ≤ l.length ∧ idxQ q (l.drop k) k = idxQ q l 0) (fun k => l.length - k) 0 (less_envOf (by simp) rfl fun _ => rfl) (by simp) ?_
  rintro k ⟨hk, hm⟩
  by_cases hlt : k < l.length
  · have hw := wrapS hlt hl
    have hmem : l[k] ∈ l := List.getElem_mem hlt
    rw [drop_get hlt, idxQ] at hm
    have es := hs1
    have es2 := hs2
    unfold StabA at es es2
    simp [hlt]
    simp only [es, es2]
    have h := h
    simp only [List.append_assoc, List.cons_append, List.nil_append, Trm.av, Pk.av, trmsAV] at h
    refine call_b (h _ hmem) (hst _) ?_
    simp (config := { contextual := true }) [-Int.not_lt, -Int.not_le]
    refine And.intro (fun h => ?_) (fun h => ?_)
    · simpa [h] using hm
    · refine ⟨k + 1, less_envOf (by simp [hw]) rfl fun _ => rfl, ⟨by omega, by simpa [h] using hm⟩, by omega⟩
  · rw [List.drop_eq_nil_of_le (by omega)] at hm
    simp [hlt]
    exact hm

theorem cb_ints (c : Bool) (l : List Int) (hl : l.length ≤ 4611686018427387904) (f : FuncId) (pre post : List AV) (bs : List (List AV)) (q : Int → Bool) (hst : Stab bs) (hs1 : StabA pre) (hs2 : StabA post)
    (h : ∀ a ∈ l, BCall Tryd.prog f (pre ++ [.v (.int .i64 a)] ++ post) bs (.v (.bool (q a)))) : BCall Tryd.prog 123 [.sl c (l.map intCells), .clo f pre post] bs (.v (.bool (l.any q))) := by
  rw [← idxQ_any q l 0 (Int.le_refl _)]
  refine bcode Tryd.func123 rfl (by decide) (by simp [Tryd.f123]) (by simp) fun ver => ?_
  simp only [Tryd.f123, Gb]
  simp
  refine call_b (xb_ints c l hl f pre post bs q hst hs1 hs2 h) (hst _) ?_
  simp

theorem xp_ints (c : Bool) (l : List Int) (hl : l.length ≤ 4611686018427387904) (f : FuncId) (pre post : List AV) (q : Int → Bool) (hs1 : StabA pre) (hs2 : StabA post) (hf1 : ∀ b ∈ pre, AV.Free (fun _ => True) b) (hf2 : ∀ b ∈ post, AV.Free (fun _ => True) b)
    (h : ∀ a ∈ l, Pure Tryd.prog f (pre ++ [.v (.int .i64 a)] ++ post) (.v (.bool (q a)))) : Pure Tryd.prog 142 [.sl c (l.map intCells), .clo f pre post] (.v (.int .i64 (idxQ q l 0))) := by
  refine pure_of_code (G := G0) vers0 mixed0 Tryd.func142 rfl (by decide) (by simp [Tryd.f142]) (by simp) fun ver => ?_
  simp only [Tryd.f142, G0]
  simp
  refine aloop (α := Nat) (fun k => ⟨envOf [(0, .sl c (l.map intCells)), (1, .clo f pre post), (7, .v (.int .i64 l.length)), (8, .v (.int .i64 k))], ⟨[], noArrs ver⟩⟩)
    (fun k => k ≤ l.length ∧ idxQ q (l.drop k) k = idxQ q l 0) (fun k => l.length - k) 0 (less_envOf (by simp) rfl fun _ => rfl) (by simp) ?_
  rintro k ⟨hk, hm⟩
  by_cases hlt : k < l.length
  · have hw := wrapS hlt hl
    have hmem : l[k] ∈ l := List.getElem_mem hlt
    rw [drop_get hlt, idxQ] at hm
    have es := hs1
    have es2 := hs2
    unfold StabA at es es2
    simp [hlt]
    simp only [es, es2]
    have h := h
    simp only [List.append_assoc, List.cons_append, List.nil_append, Trm.av, Pk.av, trmsAV] at h
    refine call_p (h _ hmem) ?_ ?_
    · intro b hb
      simp only [List.mem_append, List.mem_cons] at hb
      rcases hb with hb | rfl | hb
      · exact hf1 b hb
      · simp
      · exact hf2 b hb
    simp (config := { contextual := true }) [-Int.not_lt, -Int.not_le]
    refine And.intro (fun h => ?_) (fun h => ?_)
    · simpa [h] using hm
    · refine ⟨k + 1, less_envOf (by simp [hw]) rfl fun _ => rfl, ⟨by omega, by simpa [h] using hm⟩, by omega⟩
  · rw [List.drop_eq_nil_of_le (by omega)] at hm
    simp [hlt]
    exact hm

theorem cp_ints (c : Bool) (l : List Int) (hl : l.length ≤ 4611686018427387904) (f : FuncId) (pre post : List AV) (q : Int → Bool) (hs1 : StabA pre) (hs2 : StabA post) (hf1 : ∀ b ∈ pre, AV.Free (fun _ => True) b) (hf2 : ∀ b ∈ post, AV.Free (fun _ => True) b)
    (h : ∀ a ∈ l, Pure Tryd.prog f (pre ++ [.v (.int .i64 a)] ++ post) (.v (.bool (q a)))) : Pure Tryd.prog 123 [.sl c (l.map intCells), .clo f pre post] (.v (.bool (l.any q))) := by
  rw [← idxQ_any q l 0 (Int.le_refl _)]
  refine pure_of_code (G := G0) vers0 mixed0 Tryd.func123 rfl (by decide) (by simp [Tryd.f123]) (by simp) fun ver => ?_
  simp only [Tryd.f123, G0]
  simp
  refine call_p (xp_ints c l hl f pre post q hs1 hs2 hf1 hf2 h) (by simp; exact ⟨hf1, hf2⟩) ?_
  simp

end Go.Proofs.YtokhnmchnfkiiaaDoor.Am
