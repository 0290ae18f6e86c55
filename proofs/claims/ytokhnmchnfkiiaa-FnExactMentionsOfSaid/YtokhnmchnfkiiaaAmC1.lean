/- Versions, names, terms: what the functions about them return. No conditions. -/
import Derived.Test.YtokhnmchnfkiiaaAmT
import Derived.Test.YtokhnmchnfkiiaaAmW
import Derived.IntWalk
namespace Go.Proofs.Ytokhnmchnfkiiaa.Am
open Go Go.RowKit Go.Proofs
set_option linter.unusedSimpArgs false
set_option linter.unusedVariables false

noncomputable def G0 : Cfg := ⟨Try.prog, fun _ => false, fun t => t == 26, fun _ => true, 0⟩
theorem vers0 : G0.Vers := by
  intro t h x y a1 a2 a3 b1 b2 b3 w
  have e : t = 26 := by simpa [G0] using h
  subst e
  exact vers_of Try.underlying26 (by kernel_rfl) (by kernel_rfl) (by decide) (by decide) (by decide) rfl rfl rfl (by kernel_rfl) (by kernel_rfl) (by kernel_rfl) x y a1 a2 a3 b1 b2 b3 w
theorem mixed0 : Try.prog.follows .mixedOrders = true := by kernel_rfl

def inF (a b c : Int) : Bool := decide (b ≤ a) && decide (a ≤ c)

theorem p_in (a b c : Int) : Pure Try.prog 115 [.v (.int .i64 a), .v (.int .i64 b), .v (.int .i64 c)] (.v (.bool (inF a b c))) := by
  refine pure_of_code (G := G0) vers0 mixed0 Try.func115 rfl (by decide) (by simp [Try.f115]) (by simp) fun ver => ?_
  simp only [Try.f115, G0]
  repeat' first
    | with_reducible refine And.intro ?_ ?_
    | with_reducible intro _
    | (first | with_reducible refine adraw_f 2 (by decide +kernel) ?_ | with_reducible refine adraw_f 3 (by decide +kernel) ?_ | with_reducible refine adraw_f 4 (by decide +kernel) ?_ | with_reducible refine adraw_f 5 (by decide +kernel) ?_ | with_reducible refine adraw_f 6 (by decide +kernel) ?_ | with_reducible refine adraw_f 7 (by decide +kernel) ?_ | with_reducible refine adraw_f 8 (by decide +kernel) ?_ | with_reducible refine adraw_f 9 (by decide +kernel) ?_ | with_reducible refine adraw_f 10 (by decide +kernel) ?_ | with_reducible refine adraw_f 11 (by decide +kernel) ?_ | with_reducible refine adraw_cut 0 (by decide +kernel) ?_ | with_reducible refine adraw_cut 1 (by decide +kernel) ?_ | with_reducible refine adraw_cut 2 (by decide +kernel) ?_ | with_reducible refine adraw_cut 3 (by decide +kernel) ?_ | with_reducible refine adraw_cut 4 (by decide +kernel) ?_ | with_reducible refine adraw_cut 5 (by decide +kernel) ?_ | with_reducible refine adraw_cut 6 (by decide +kernel) ?_ | with_reducible refine adraw_cut 7 (by decide +kernel) ?_ | with_reducible refine adraw_cut 8 (by decide +kernel) ?_ | with_reducible refine adraw_cut 9 (by decide +kernel) ?_ | with_reducible refine adraw_all (by kernel_rfl) ?_)
    | simp (config := { contextual := true, maxSteps := 4000000 }) [*, inF, -Int.not_le, -Int.not_lt]

theorem p_within (a b c : Int) : Pure Try.prog 109 [.v (.int .i64 a), .v (.int .i64 b), .v (.int .i64 c)] (.v (.bool (inF a b c))) := by
  refine pure_of_code (G := G0) vers0 mixed0 Try.func109 rfl (by decide) (by simp [Try.f109]) (by simp) fun ver => ?_
  simp only [Try.f109, G0]
  repeat' first
    | with_reducible refine And.intro ?_ ?_
    | with_reducible intro _
    | (first | with_reducible refine adraw_f 2 (by decide +kernel) ?_ | with_reducible refine adraw_f 3 (by decide +kernel) ?_ | with_reducible refine adraw_f 4 (by decide +kernel) ?_ | with_reducible refine adraw_f 5 (by decide +kernel) ?_ | with_reducible refine adraw_f 6 (by decide +kernel) ?_ | with_reducible refine adraw_f 7 (by decide +kernel) ?_ | with_reducible refine adraw_f 8 (by decide +kernel) ?_ | with_reducible refine adraw_f 9 (by decide +kernel) ?_ | with_reducible refine adraw_f 10 (by decide +kernel) ?_ | with_reducible refine adraw_f 11 (by decide +kernel) ?_ | with_reducible refine adraw_cut 0 (by decide +kernel) ?_ | with_reducible refine adraw_cut 1 (by decide +kernel) ?_ | with_reducible refine adraw_cut 2 (by decide +kernel) ?_ | with_reducible refine adraw_cut 3 (by decide +kernel) ?_ | with_reducible refine adraw_cut 4 (by decide +kernel) ?_ | with_reducible refine adraw_cut 5 (by decide +kernel) ?_ | with_reducible refine adraw_cut 6 (by decide +kernel) ?_ | with_reducible refine adraw_cut 7 (by decide +kernel) ?_ | with_reducible refine adraw_cut 8 (by decide +kernel) ?_ | with_reducible refine adraw_cut 9 (by decide +kernel) ?_ | with_reducible refine adraw_all (by kernel_rfl) ?_)
    | simp (config := { contextual := true, maxSteps := 4000000 }) [*, inF, -Int.not_le, -Int.not_lt]

def versionFault (a b c : Int) : Int := if inF a 0 999 && inF b 0 999 && inF c 0 999 then 0 else 3

theorem p_versionFault (a b c : Int) : Pure Try.prog 104 [.agg [.v (.int .i64 a), .v (.int .i64 b), .v (.int .i64 c)]] (.v (.int .i64 (versionFault a b c))) := by
  refine pure_of_code (G := G0) vers0 mixed0 Try.func104 rfl (by decide) (by simp [Try.f104]) (by simp) fun ver => ?_
  simp only [Try.f104, G0]
  repeat' first
    | with_reducible refine And.intro ?_ ?_
    | with_reducible intro _
    | (first | with_reducible refine adraw_f 2 (by decide +kernel) ?_ | with_reducible refine adraw_f 3 (by decide +kernel) ?_ | with_reducible refine adraw_f 4 (by decide +kernel) ?_ | with_reducible refine adraw_f 5 (by decide +kernel) ?_ | with_reducible refine adraw_f 6 (by decide +kernel) ?_ | with_reducible refine adraw_f 7 (by decide +kernel) ?_ | with_reducible refine adraw_f 8 (by decide +kernel) ?_ | with_reducible refine adraw_f 9 (by decide +kernel) ?_ | with_reducible refine adraw_f 10 (by decide +kernel) ?_ | with_reducible refine adraw_f 11 (by decide +kernel) ?_ | with_reducible refine adraw_cut 0 (by decide +kernel) ?_ | with_reducible refine adraw_cut 1 (by decide +kernel) ?_ | with_reducible refine adraw_cut 2 (by decide +kernel) ?_ | with_reducible refine adraw_cut 3 (by decide +kernel) ?_ | with_reducible refine adraw_cut 4 (by decide +kernel) ?_ | with_reducible refine adraw_cut 5 (by decide +kernel) ?_ | with_reducible refine adraw_cut 6 (by decide +kernel) ?_ | with_reducible refine adraw_cut 7 (by decide +kernel) ?_ | with_reducible refine adraw_cut 8 (by decide +kernel) ?_ | with_reducible refine adraw_cut 9 (by decide +kernel) ?_ | with_reducible refine adraw_all (by kernel_rfl) ?_)
    | with_reducible refine call_p (p_in _ _ _) (by simp) ?_
    | with_reducible refine call_f (p_in _ _ _) (by simp) ?_
    | simp (config := { contextual := true, maxSteps := 4000000 }) [*, versionFault, -Int.not_le, -Int.not_lt]

theorem q_versionFault (a b c : Int) : Pure Try.prog 95 [.agg [.v (.int .i64 a), .v (.int .i64 b), .v (.int .i64 c)]] (.v (.int .i64 (versionFault a b c))) := by
  refine pure_of_code (G := G0) vers0 mixed0 Try.func95 rfl (by decide) (by simp [Try.f95]) (by simp) fun ver => ?_
  simp only [Try.f95, G0]
  repeat' first
    | with_reducible refine And.intro ?_ ?_
    | with_reducible intro _
    | (first | with_reducible refine adraw_f 2 (by decide +kernel) ?_ | with_reducible refine adraw_f 3 (by decide +kernel) ?_ | with_reducible refine adraw_f 4 (by decide +kernel) ?_ | with_reducible refine adraw_f 5 (by decide +kernel) ?_ | with_reducible refine adraw_f 6 (by decide +kernel) ?_ | with_reducible refine adraw_f 7 (by decide +kernel) ?_ | with_reducible refine adraw_f 8 (by decide +kernel) ?_ | with_reducible refine adraw_f 9 (by decide +kernel) ?_ | with_reducible refine adraw_f 10 (by decide +kernel) ?_ | with_reducible refine adraw_f 11 (by decide +kernel) ?_ | with_reducible refine adraw_cut 0 (by decide +kernel) ?_ | with_reducible refine adraw_cut 1 (by decide +kernel) ?_ | with_reducible refine adraw_cut 2 (by decide +kernel) ?_ | with_reducible refine adraw_cut 3 (by decide +kernel) ?_ | with_reducible refine adraw_cut 4 (by decide +kernel) ?_ | with_reducible refine adraw_cut 5 (by decide +kernel) ?_ | with_reducible refine adraw_cut 6 (by decide +kernel) ?_ | with_reducible refine adraw_cut 7 (by decide +kernel) ?_ | with_reducible refine adraw_cut 8 (by decide +kernel) ?_ | with_reducible refine adraw_cut 9 (by decide +kernel) ?_ | with_reducible refine adraw_all (by kernel_rfl) ?_)
    | with_reducible refine call_p (p_within _ _ _) (by simp) ?_
    | with_reducible refine call_f (p_within _ _ _) (by simp) ?_
    | simp (config := { contextual := true, maxSteps := 4000000 }) [*, versionFault, -Int.not_le, -Int.not_lt]

theorem p_toVersion (a b c : Int) : Pure Try.prog 61 [.agg [.v (.int .i64 a), .v (.int .i64 b), .v (.int .i64 c)]] (.agg [.v (.int .i64 a), .v (.int .i64 b), .v (.int .i64 c)]) := by
  refine pure_of_code (G := G0) vers0 mixed0 Try.func61 rfl (by decide) (by simp [Try.f61]) (by simp) fun ver => ?_
  simp only [Try.f61, G0]
  repeat' first
    | with_reducible refine And.intro ?_ ?_
    | with_reducible intro _
    | (first | with_reducible refine adraw_f 2 (by decide +kernel) ?_ | with_reducible refine adraw_f 3 (by decide +kernel) ?_ | with_reducible refine adraw_f 4 (by decide +kernel) ?_ | with_reducible refine adraw_f 5 (by decide +kernel) ?_ | with_reducible refine adraw_f 6 (by decide +kernel) ?_ | with_reducible refine adraw_f 7 (by decide +kernel) ?_ | with_reducible refine adraw_f 8 (by decide +kernel) ?_ | with_reducible refine adraw_f 9 (by decide +kernel) ?_ | with_reducible refine adraw_f 10 (by decide +kernel) ?_ | with_reducible refine adraw_f 11 (by decide +kernel) ?_ | with_reducible refine adraw_cut 0 (by decide +kernel) ?_ | with_reducible refine adraw_cut 1 (by decide +kernel) ?_ | with_reducible refine adraw_cut 2 (by decide +kernel) ?_ | with_reducible refine adraw_cut 3 (by decide +kernel) ?_ | with_reducible refine adraw_cut 4 (by decide +kernel) ?_ | with_reducible refine adraw_cut 5 (by decide +kernel) ?_ | with_reducible refine adraw_cut 6 (by decide +kernel) ?_ | with_reducible refine adraw_cut 7 (by decide +kernel) ?_ | with_reducible refine adraw_cut 8 (by decide +kernel) ?_ | with_reducible refine adraw_cut 9 (by decide +kernel) ?_ | with_reducible refine adraw_all (by kernel_rfl) ?_)
    | simp (config := { contextual := true, maxSteps := 4000000 }) [*, -Int.not_le, -Int.not_lt]


def signF (a b : Int) : Int := if a < b then -1 else if b < a then 1 else 0

theorem p_sign (a b : Int) : Pure Try.prog 108 [.v (.int .i64 a), .v (.int .i64 b)] (.v (.int .i64 (signF a b))) := by
  refine pure_of_code (G := G0) vers0 mixed0 Try.func108 rfl (by decide) (by simp [Try.f108]) (by simp) fun ver => ?_
  simp only [Try.f108, G0]
  repeat' first
    | with_reducible refine And.intro ?_ ?_
    | with_reducible intro _
    | (first | with_reducible refine adraw_f 2 (by decide +kernel) ?_ | with_reducible refine adraw_f 3 (by decide +kernel) ?_ | with_reducible refine adraw_f 4 (by decide +kernel) ?_ | with_reducible refine adraw_f 5 (by decide +kernel) ?_ | with_reducible refine adraw_f 6 (by decide +kernel) ?_ | with_reducible refine adraw_f 7 (by decide +kernel) ?_ | with_reducible refine adraw_f 8 (by decide +kernel) ?_ | with_reducible refine adraw_f 9 (by decide +kernel) ?_ | with_reducible refine adraw_f 10 (by decide +kernel) ?_ | with_reducible refine adraw_f 11 (by decide +kernel) ?_ | with_reducible refine adraw_cut 0 (by decide +kernel) ?_ | with_reducible refine adraw_cut 1 (by decide +kernel) ?_ | with_reducible refine adraw_cut 2 (by decide +kernel) ?_ | with_reducible refine adraw_cut 3 (by decide +kernel) ?_ | with_reducible refine adraw_cut 4 (by decide +kernel) ?_ | with_reducible refine adraw_cut 5 (by decide +kernel) ?_ | with_reducible refine adraw_cut 6 (by decide +kernel) ?_ | with_reducible refine adraw_cut 7 (by decide +kernel) ?_ | with_reducible refine adraw_cut 8 (by decide +kernel) ?_ | with_reducible refine adraw_cut 9 (by decide +kernel) ?_ | with_reducible refine adraw_all (by kernel_rfl) ?_)
    | simp (config := { contextual := true, maxSteps := 4000000 }) [*, signF, -Int.not_le, -Int.not_lt]

theorem p_isNaN (a : Int) : Pure Try.prog 130 [.v (.int .i64 a)] (.v (.bool false)) := by
  refine pure_of_code (G := G0) vers0 mixed0 Try.func130 rfl (by decide) (by simp [Try.f130]) (by simp) fun ver => ?_
  simp only [Try.f130, G0]
  repeat' first
    | with_reducible refine And.intro ?_ ?_
    | with_reducible intro _
    | (first | with_reducible refine adraw_f 2 (by decide +kernel) ?_ | with_reducible refine adraw_f 3 (by decide +kernel) ?_ | with_reducible refine adraw_f 4 (by decide +kernel) ?_ | with_reducible refine adraw_f 5 (by decide +kernel) ?_ | with_reducible refine adraw_f 6 (by decide +kernel) ?_ | with_reducible refine adraw_f 7 (by decide +kernel) ?_ | with_reducible refine adraw_f 8 (by decide +kernel) ?_ | with_reducible refine adraw_f 9 (by decide +kernel) ?_ | with_reducible refine adraw_f 10 (by decide +kernel) ?_ | with_reducible refine adraw_f 11 (by decide +kernel) ?_ | with_reducible refine adraw_cut 0 (by decide +kernel) ?_ | with_reducible refine adraw_cut 1 (by decide +kernel) ?_ | with_reducible refine adraw_cut 2 (by decide +kernel) ?_ | with_reducible refine adraw_cut 3 (by decide +kernel) ?_ | with_reducible refine adraw_cut 4 (by decide +kernel) ?_ | with_reducible refine adraw_cut 5 (by decide +kernel) ?_ | with_reducible refine adraw_cut 6 (by decide +kernel) ?_ | with_reducible refine adraw_cut 7 (by decide +kernel) ?_ | with_reducible refine adraw_cut 8 (by decide +kernel) ?_ | with_reducible refine adraw_cut 9 (by decide +kernel) ?_ | with_reducible refine adraw_all (by kernel_rfl) ?_)
    | simp (config := { contextual := true, maxSteps := 4000000 }) [*, -Int.not_le, -Int.not_lt]

theorem p_cmp (a b : Int) : Pure Try.prog 102 [.v (.int .i64 a), .v (.int .i64 b)] (.v (.int .i64 (signF a b))) := by
  refine pure_of_code (G := G0) vers0 mixed0 Try.func102 rfl (by decide) (by simp [Try.f102]) (by simp) fun ver => ?_
  simp only [Try.f102, G0]
  repeat' first
    | with_reducible refine And.intro ?_ ?_
    | with_reducible intro _
    | (first | with_reducible refine adraw_f 2 (by decide +kernel) ?_ | with_reducible refine adraw_f 3 (by decide +kernel) ?_ | with_reducible refine adraw_f 4 (by decide +kernel) ?_ | with_reducible refine adraw_f 5 (by decide +kernel) ?_ | with_reducible refine adraw_f 6 (by decide +kernel) ?_ | with_reducible refine adraw_f 7 (by decide +kernel) ?_ | with_reducible refine adraw_f 8 (by decide +kernel) ?_ | with_reducible refine adraw_f 9 (by decide +kernel) ?_ | with_reducible refine adraw_f 10 (by decide +kernel) ?_ | with_reducible refine adraw_f 11 (by decide +kernel) ?_ | with_reducible refine adraw_cut 0 (by decide +kernel) ?_ | with_reducible refine adraw_cut 1 (by decide +kernel) ?_ | with_reducible refine adraw_cut 2 (by decide +kernel) ?_ | with_reducible refine adraw_cut 3 (by decide +kernel) ?_ | with_reducible refine adraw_cut 4 (by decide +kernel) ?_ | with_reducible refine adraw_cut 5 (by decide +kernel) ?_ | with_reducible refine adraw_cut 6 (by decide +kernel) ?_ | with_reducible refine adraw_cut 7 (by decide +kernel) ?_ | with_reducible refine adraw_cut 8 (by decide +kernel) ?_ | with_reducible refine adraw_cut 9 (by decide +kernel) ?_ | with_reducible refine adraw_all (by kernel_rfl) ?_)
    | with_reducible refine call_p (p_isNaN _) (by simp) ?_
    | with_reducible refine call_f (p_isNaN _) (by simp) ?_
    | simp (config := { contextual := true, maxSteps := 4000000 }) [*, signF, -Int.not_le, -Int.not_lt]

def cmpF (a b c x y z : Int) : Int := if signF a x ≠ 0 then signF a x else if signF b y ≠ 0 then signF b y else signF c z

theorem p_compareVersions (a b c x y z : Int) : Pure Try.prog 53 [.agg [.v (.int .i64 a), .v (.int .i64 b), .v (.int .i64 c)], .agg [.v (.int .i64 x), .v (.int .i64 y), .v (.int .i64 z)]] (.v (.int .i64 (cmpF a b c x y z))) := by
  refine pure_of_code (G := G0) vers0 mixed0 Try.func53 rfl (by decide) (by simp [Try.f53]) (by simp) fun ver => ?_
  simp only [Try.f53, G0]
  repeat' first
    | with_reducible refine And.intro ?_ ?_
    | with_reducible intro _
    | (first | with_reducible refine adraw_f 2 (by decide +kernel) ?_ | with_reducible refine adraw_f 3 (by decide +kernel) ?_ | with_reducible refine adraw_f 4 (by decide +kernel) ?_ | with_reducible refine adraw_f 5 (by decide +kernel) ?_ | with_reducible refine adraw_f 6 (by decide +kernel) ?_ | with_reducible refine adraw_f 7 (by decide +kernel) ?_ | with_reducible refine adraw_f 8 (by decide +kernel) ?_ | with_reducible refine adraw_f 9 (by decide +kernel) ?_ | with_reducible refine adraw_f 10 (by decide +kernel) ?_ | with_reducible refine adraw_f 11 (by decide +kernel) ?_ | with_reducible refine adraw_cut 0 (by decide +kernel) ?_ | with_reducible refine adraw_cut 1 (by decide +kernel) ?_ | with_reducible refine adraw_cut 2 (by decide +kernel) ?_ | with_reducible refine adraw_cut 3 (by decide +kernel) ?_ | with_reducible refine adraw_cut 4 (by decide +kernel) ?_ | with_reducible refine adraw_cut 5 (by decide +kernel) ?_ | with_reducible refine adraw_cut 6 (by decide +kernel) ?_ | with_reducible refine adraw_cut 7 (by decide +kernel) ?_ | with_reducible refine adraw_cut 8 (by decide +kernel) ?_ | with_reducible refine adraw_cut 9 (by decide +kernel) ?_ | with_reducible refine adraw_all (by kernel_rfl) ?_)
    | with_reducible refine call_p (p_sign _ _) (by simp) ?_
    | with_reducible refine call_f (p_sign _ _) (by simp) ?_
    | simp (config := { contextual := true, maxSteps := 4000000 }) [*, cmpF, -Int.not_le, -Int.not_lt]

def ints (l : List Int) : List (List AV) := l.map fun n => [.v (.int .i64 n)]
def orF : List Int → Int
  | [] => 0
  | n :: l => if n ≠ 0 then n else orF l

theorem p_or (col : Bool) (l : List Int) (hl : l.length ≤ 4611686018427387904) : Pure Try.prog 101 [.sl col (ints l)] (.v (.int .i64 (orF l))) := by
  refine pure_of_code (G := G0) vers0 mixed0 Try.func101 rfl (by decide) (by simp [Try.f101]) (by simp) fun ver => ?_
  simp [Try.f101, G0, ints]
  refine aloop (α := Nat) (fun k => ⟨envOf [(3, .v (.int .i64 0)), (6, .sl col (ints l)), (7, .v (.int .i64 l.length)), (8, .v (.int .i64 k))], ⟨[], noArrs ver⟩⟩)
    (fun k => k ≤ l.length ∧ orF (l.drop k) = orF l) (fun k => l.length - k) 0 (less_envOf (by simp [ints]) rfl fun _ => rfl) (by simp) ?_
  rintro k ⟨hk, hm⟩
  by_cases hlt : k < l.length
  · have hd : l.drop k = l[k] :: l.drop (k + 1) := List.drop_eq_getElem_cons hlt
    have hw : IntKind.i64.wrap ((k : Int) + 1) = ((k + 1 : Nat) : Int) := by rw [IntWalk.i64_in _ (by omega)]; omega
    rw [hd] at hm
    simp (config := { contextual := true }) [ints, hlt, hw]
    refine ⟨fun h => ?_, fun h => ?_⟩
    · simpa [orF, h] using hm
    · refine ⟨k + 1, less_envOf (by simp [ints]) rfl fun _ => rfl, ⟨by omega, ?_⟩, by omega⟩
      simpa [orF, h] using hm
  · have hd : l.drop k = [] := List.drop_eq_nil_of_le (by omega)
    rw [hd] at hm
    simp (config := { contextual := true }) [hlt]
    exact hm

theorem or_cmp (a b c x y z : Int) : orF [signF a x, signF b y, signF c z] = cmpF a b c x y z := by
  simp only [orF, cmpF]
  split
  · rfl
  · split
    · rfl
    · split <;> simp_all

theorem p_compare (a b c x y z : Int) : Pure Try.prog 49 [.agg [.v (.int .i64 a), .v (.int .i64 b), .v (.int .i64 c)], .agg [.v (.int .i64 x), .v (.int .i64 y), .v (.int .i64 z)]] (.v (.int .i64 (cmpF a b c x y z))) := by
  rw [← or_cmp]
  refine pure_of_code (G := G0) vers0 mixed0 Try.func49 rfl (by decide) (by simp [Try.f49]) (by simp) fun ver => ?_
  simp only [Try.f49, G0]
  repeat' first
    | with_reducible refine And.intro ?_ ?_
    | with_reducible intro _
    | (first | with_reducible refine adraw_f 2 (by decide +kernel) ?_ | with_reducible refine adraw_f 3 (by decide +kernel) ?_ | with_reducible refine adraw_f 4 (by decide +kernel) ?_ | with_reducible refine adraw_f 5 (by decide +kernel) ?_ | with_reducible refine adraw_f 6 (by decide +kernel) ?_ | with_reducible refine adraw_f 7 (by decide +kernel) ?_ | with_reducible refine adraw_f 8 (by decide +kernel) ?_ | with_reducible refine adraw_f 9 (by decide +kernel) ?_ | with_reducible refine adraw_f 10 (by decide +kernel) ?_ | with_reducible refine adraw_f 11 (by decide +kernel) ?_ | with_reducible refine adraw_cut 0 (by decide +kernel) ?_ | with_reducible refine adraw_cut 1 (by decide +kernel) ?_ | with_reducible refine adraw_cut 2 (by decide +kernel) ?_ | with_reducible refine adraw_cut 3 (by decide +kernel) ?_ | with_reducible refine adraw_cut 4 (by decide +kernel) ?_ | with_reducible refine adraw_cut 5 (by decide +kernel) ?_ | with_reducible refine adraw_cut 6 (by decide +kernel) ?_ | with_reducible refine adraw_cut 7 (by decide +kernel) ?_ | with_reducible refine adraw_cut 8 (by decide +kernel) ?_ | with_reducible refine adraw_cut 9 (by decide +kernel) ?_ | with_reducible refine adraw_all (by kernel_rfl) ?_)
    | with_reducible refine call_p (p_cmp _ _) (by simp) ?_
    | with_reducible refine call_f (p_cmp _ _) (by simp) ?_
    | ((with_reducible refine at_call ?_); refine call_p (p_or _ [_, _, _] (by simp)) (by simp) ?_)
    | simp (config := { contextual := true, maxSteps := 4000000 }) [*, sealRows, sealCells, List.range_succ, -Int.not_le, -Int.not_lt]

theorem q_compareVersions (a b c x y z : Int) : Pure Try.prog 12 [.agg [.v (.int .i64 a), .v (.int .i64 b), .v (.int .i64 c)], .agg [.v (.int .i64 x), .v (.int .i64 y), .v (.int .i64 z)]] (.v (.int .i64 (cmpF a b c x y z))) := by
  refine pure_of_code (G := G0) vers0 mixed0 Try.func12 rfl (by decide) (by simp [Try.f12]) (by simp) fun ver => ?_
  simp only [Try.f12, G0]
  repeat' first
    | with_reducible refine And.intro ?_ ?_
    | with_reducible intro _
    | (first | with_reducible refine adraw_f 2 (by decide +kernel) ?_ | with_reducible refine adraw_f 3 (by decide +kernel) ?_ | with_reducible refine adraw_f 4 (by decide +kernel) ?_ | with_reducible refine adraw_f 5 (by decide +kernel) ?_ | with_reducible refine adraw_f 6 (by decide +kernel) ?_ | with_reducible refine adraw_f 7 (by decide +kernel) ?_ | with_reducible refine adraw_f 8 (by decide +kernel) ?_ | with_reducible refine adraw_f 9 (by decide +kernel) ?_ | with_reducible refine adraw_f 10 (by decide +kernel) ?_ | with_reducible refine adraw_f 11 (by decide +kernel) ?_ | with_reducible refine adraw_cut 0 (by decide +kernel) ?_ | with_reducible refine adraw_cut 1 (by decide +kernel) ?_ | with_reducible refine adraw_cut 2 (by decide +kernel) ?_ | with_reducible refine adraw_cut 3 (by decide +kernel) ?_ | with_reducible refine adraw_cut 4 (by decide +kernel) ?_ | with_reducible refine adraw_cut 5 (by decide +kernel) ?_ | with_reducible refine adraw_cut 6 (by decide +kernel) ?_ | with_reducible refine adraw_cut 7 (by decide +kernel) ?_ | with_reducible refine adraw_cut 8 (by decide +kernel) ?_ | with_reducible refine adraw_cut 9 (by decide +kernel) ?_ | with_reducible refine adraw_all (by kernel_rfl) ?_)
    | with_reducible refine call_p (p_compare _ _ _ _ _ _) (by simp) ?_
    | with_reducible refine call_f (p_compare _ _ _ _ _ _) (by simp) ?_
    | simp (config := { contextual := true, maxSteps := 4000000 }) [*, -Int.not_le, -Int.not_lt]


theorem p_letter (a : Int) : Pure Try.prog 131 [.v (.int .u8 a)] (.v (.bool (inF a 97 122))) := by
  refine pure_of_code (G := G0) vers0 mixed0 Try.func131 rfl (by decide) (by simp [Try.f131]) (by simp) fun ver => ?_
  simp only [Try.f131, G0]
  repeat' first
    | with_reducible refine And.intro ?_ ?_
    | with_reducible intro _
    | (first | with_reducible refine adraw_f 2 (by decide +kernel) ?_ | with_reducible refine adraw_f 3 (by decide +kernel) ?_ | with_reducible refine adraw_f 4 (by decide +kernel) ?_ | with_reducible refine adraw_f 5 (by decide +kernel) ?_ | with_reducible refine adraw_f 6 (by decide +kernel) ?_ | with_reducible refine adraw_f 7 (by decide +kernel) ?_ | with_reducible refine adraw_f 8 (by decide +kernel) ?_ | with_reducible refine adraw_f 9 (by decide +kernel) ?_ | with_reducible refine adraw_f 10 (by decide +kernel) ?_ | with_reducible refine adraw_f 11 (by decide +kernel) ?_ | with_reducible refine adraw_cut 0 (by decide +kernel) ?_ | with_reducible refine adraw_cut 1 (by decide +kernel) ?_ | with_reducible refine adraw_cut 2 (by decide +kernel) ?_ | with_reducible refine adraw_cut 3 (by decide +kernel) ?_ | with_reducible refine adraw_cut 4 (by decide +kernel) ?_ | with_reducible refine adraw_cut 5 (by decide +kernel) ?_ | with_reducible refine adraw_cut 6 (by decide +kernel) ?_ | with_reducible refine adraw_cut 7 (by decide +kernel) ?_ | with_reducible refine adraw_cut 8 (by decide +kernel) ?_ | with_reducible refine adraw_cut 9 (by decide +kernel) ?_ | with_reducible refine adraw_all (by kernel_rfl) ?_)
    | simp (config := { contextual := true, maxSteps := 4000000 }) [*, inF, -Int.not_le, -Int.not_lt]

theorem p_digit (a : Int) : Pure Try.prog 141 [.v (.int .u8 a)] (.v (.bool (inF a 48 57))) := by
  refine pure_of_code (G := G0) vers0 mixed0 Try.func141 rfl (by decide) (by simp [Try.f141]) (by simp) fun ver => ?_
  simp only [Try.f141, G0]
  repeat' first
    | with_reducible refine And.intro ?_ ?_
    | with_reducible intro _
    | (first | with_reducible refine adraw_f 2 (by decide +kernel) ?_ | with_reducible refine adraw_f 3 (by decide +kernel) ?_ | with_reducible refine adraw_f 4 (by decide +kernel) ?_ | with_reducible refine adraw_f 5 (by decide +kernel) ?_ | with_reducible refine adraw_f 6 (by decide +kernel) ?_ | with_reducible refine adraw_f 7 (by decide +kernel) ?_ | with_reducible refine adraw_f 8 (by decide +kernel) ?_ | with_reducible refine adraw_f 9 (by decide +kernel) ?_ | with_reducible refine adraw_f 10 (by decide +kernel) ?_ | with_reducible refine adraw_f 11 (by decide +kernel) ?_ | with_reducible refine adraw_cut 0 (by decide +kernel) ?_ | with_reducible refine adraw_cut 1 (by decide +kernel) ?_ | with_reducible refine adraw_cut 2 (by decide +kernel) ?_ | with_reducible refine adraw_cut 3 (by decide +kernel) ?_ | with_reducible refine adraw_cut 4 (by decide +kernel) ?_ | with_reducible refine adraw_cut 5 (by decide +kernel) ?_ | with_reducible refine adraw_cut 6 (by decide +kernel) ?_ | with_reducible refine adraw_cut 7 (by decide +kernel) ?_ | with_reducible refine adraw_cut 8 (by decide +kernel) ?_ | with_reducible refine adraw_cut 9 (by decide +kernel) ?_ | with_reducible refine adraw_all (by kernel_rfl) ?_)
    | simp (config := { contextual := true, maxSteps := 4000000 }) [*, inF, -Int.not_le, -Int.not_lt]

def nameB (a : Int) : Bool := inF a 97 122 || inF a 48 57 || decide (a = 95)

theorem p_nameB (a : Int) : Pure Try.prog 132 [.v (.int .u8 a)] (.v (.bool (nameB a))) := by
  refine pure_of_code (G := G0) vers0 mixed0 Try.func132 rfl (by decide) (by simp [Try.f132]) (by simp) fun ver => ?_
  simp only [Try.f132, G0]
  repeat' first
    | with_reducible refine And.intro ?_ ?_
    | with_reducible intro _
    | (first | with_reducible refine adraw_f 2 (by decide +kernel) ?_ | with_reducible refine adraw_f 3 (by decide +kernel) ?_ | with_reducible refine adraw_f 4 (by decide +kernel) ?_ | with_reducible refine adraw_f 5 (by decide +kernel) ?_ | with_reducible refine adraw_f 6 (by decide +kernel) ?_ | with_reducible refine adraw_f 7 (by decide +kernel) ?_ | with_reducible refine adraw_f 8 (by decide +kernel) ?_ | with_reducible refine adraw_f 9 (by decide +kernel) ?_ | with_reducible refine adraw_f 10 (by decide +kernel) ?_ | with_reducible refine adraw_f 11 (by decide +kernel) ?_ | with_reducible refine adraw_cut 0 (by decide +kernel) ?_ | with_reducible refine adraw_cut 1 (by decide +kernel) ?_ | with_reducible refine adraw_cut 2 (by decide +kernel) ?_ | with_reducible refine adraw_cut 3 (by decide +kernel) ?_ | with_reducible refine adraw_cut 4 (by decide +kernel) ?_ | with_reducible refine adraw_cut 5 (by decide +kernel) ?_ | with_reducible refine adraw_cut 6 (by decide +kernel) ?_ | with_reducible refine adraw_cut 7 (by decide +kernel) ?_ | with_reducible refine adraw_cut 8 (by decide +kernel) ?_ | with_reducible refine adraw_cut 9 (by decide +kernel) ?_ | with_reducible refine adraw_all (by kernel_rfl) ?_)
    | with_reducible refine call_p (p_letter _) (by simp) ?_
    | with_reducible refine call_f (p_letter _) (by simp) ?_
    | with_reducible refine call_p (p_digit _) (by simp) ?_
    | with_reducible refine call_f (p_digit _) (by simp) ?_
    | simp (config := { contextual := true, maxSteps := 4000000 }) [*, nameB, -Int.not_le, -Int.not_lt]

set_option maxRecDepth 10000 in
theorem q_nameB (a : Int) : Pure Try.prog 128 [.v (.int .u8 a)] (.v (.bool (nameB a))) := by
  refine pure_of_code (G := G0) vers0 mixed0 Try.func128 rfl (by decide) (by simp [Try.f128]) (by simp) fun ver => ?_
  simp only [Try.f128, G0]
  repeat' first
    | with_reducible refine And.intro ?_ ?_
    | with_reducible intro _
    | (first | with_reducible refine adraw_f 2 (by decide +kernel) ?_ | with_reducible refine adraw_f 3 (by decide +kernel) ?_ | with_reducible refine adraw_f 4 (by decide +kernel) ?_ | with_reducible refine adraw_f 5 (by decide +kernel) ?_ | with_reducible refine adraw_f 6 (by decide +kernel) ?_ | with_reducible refine adraw_f 7 (by decide +kernel) ?_ | with_reducible refine adraw_f 8 (by decide +kernel) ?_ | with_reducible refine adraw_f 9 (by decide +kernel) ?_ | with_reducible refine adraw_f 10 (by decide +kernel) ?_ | with_reducible refine adraw_f 11 (by decide +kernel) ?_ | with_reducible refine adraw_cut 0 (by decide +kernel) ?_ | with_reducible refine adraw_cut 1 (by decide +kernel) ?_ | with_reducible refine adraw_cut 2 (by decide +kernel) ?_ | with_reducible refine adraw_cut 3 (by decide +kernel) ?_ | with_reducible refine adraw_cut 4 (by decide +kernel) ?_ | with_reducible refine adraw_cut 5 (by decide +kernel) ?_ | with_reducible refine adraw_cut 6 (by decide +kernel) ?_ | with_reducible refine adraw_cut 7 (by decide +kernel) ?_ | with_reducible refine adraw_cut 8 (by decide +kernel) ?_ | with_reducible refine adraw_cut 9 (by decide +kernel) ?_ | with_reducible refine adraw_all (by kernel_rfl) ?_)
    | simp (config := { contextual := true, maxSteps := 4000000 }) [*, nameB, inF, -Int.not_le, -Int.not_lt]

theorem p_top : Pure Try.prog 105 [] (.agg [.v (.int .i64 1000), .v (.int .i64 0), .v (.int .i64 0)]) := by
  refine pure_of_code (G := G0) vers0 mixed0 Try.func105 rfl (by decide) (by simp [Try.f105]) (by simp) fun ver => ?_
  simp only [Try.f105, G0]
  repeat' first
    | with_reducible refine And.intro ?_ ?_
    | with_reducible intro _
    | (first | with_reducible refine adraw_f 2 (by decide +kernel) ?_ | with_reducible refine adraw_f 3 (by decide +kernel) ?_ | with_reducible refine adraw_f 4 (by decide +kernel) ?_ | with_reducible refine adraw_f 5 (by decide +kernel) ?_ | with_reducible refine adraw_f 6 (by decide +kernel) ?_ | with_reducible refine adraw_f 7 (by decide +kernel) ?_ | with_reducible refine adraw_f 8 (by decide +kernel) ?_ | with_reducible refine adraw_f 9 (by decide +kernel) ?_ | with_reducible refine adraw_f 10 (by decide +kernel) ?_ | with_reducible refine adraw_f 11 (by decide +kernel) ?_ | with_reducible refine adraw_cut 0 (by decide +kernel) ?_ | with_reducible refine adraw_cut 1 (by decide +kernel) ?_ | with_reducible refine adraw_cut 2 (by decide +kernel) ?_ | with_reducible refine adraw_cut 3 (by decide +kernel) ?_ | with_reducible refine adraw_cut 4 (by decide +kernel) ?_ | with_reducible refine adraw_cut 5 (by decide +kernel) ?_ | with_reducible refine adraw_cut 6 (by decide +kernel) ?_ | with_reducible refine adraw_cut 7 (by decide +kernel) ?_ | with_reducible refine adraw_cut 8 (by decide +kernel) ?_ | with_reducible refine adraw_cut 9 (by decide +kernel) ?_ | with_reducible refine adraw_all (by kernel_rfl) ?_)
    | simp (config := { contextual := true, maxSteps := 4000000 }) [*, -Int.not_le, -Int.not_lt]

theorem q_top : Pure Try.prog 96 [] (.agg [.v (.int .i64 1000), .v (.int .i64 0), .v (.int .i64 0)]) := by
  refine pure_of_code (G := G0) vers0 mixed0 Try.func96 rfl (by decide) (by simp [Try.f96]) (by simp) fun ver => ?_
  simp only [Try.f96, G0]
  repeat' first
    | with_reducible refine And.intro ?_ ?_
    | with_reducible intro _
    | (first | with_reducible refine adraw_f 2 (by decide +kernel) ?_ | with_reducible refine adraw_f 3 (by decide +kernel) ?_ | with_reducible refine adraw_f 4 (by decide +kernel) ?_ | with_reducible refine adraw_f 5 (by decide +kernel) ?_ | with_reducible refine adraw_f 6 (by decide +kernel) ?_ | with_reducible refine adraw_f 7 (by decide +kernel) ?_ | with_reducible refine adraw_f 8 (by decide +kernel) ?_ | with_reducible refine adraw_f 9 (by decide +kernel) ?_ | with_reducible refine adraw_f 10 (by decide +kernel) ?_ | with_reducible refine adraw_f 11 (by decide +kernel) ?_ | with_reducible refine adraw_cut 0 (by decide +kernel) ?_ | with_reducible refine adraw_cut 1 (by decide +kernel) ?_ | with_reducible refine adraw_cut 2 (by decide +kernel) ?_ | with_reducible refine adraw_cut 3 (by decide +kernel) ?_ | with_reducible refine adraw_cut 4 (by decide +kernel) ?_ | with_reducible refine adraw_cut 5 (by decide +kernel) ?_ | with_reducible refine adraw_cut 6 (by decide +kernel) ?_ | with_reducible refine adraw_cut 7 (by decide +kernel) ?_ | with_reducible refine adraw_cut 8 (by decide +kernel) ?_ | with_reducible refine adraw_cut 9 (by decide +kernel) ?_ | with_reducible refine adraw_all (by kernel_rfl) ?_)
    | simp (config := { contextual := true, maxSteps := 4000000 }) [*, -Int.not_le, -Int.not_lt]

/-- The bytes from the end-but-n on. -/
def nameRest (x : ByteArray) : Nat → Int
  | 0 => 0
  | n + 1 => if nameB (bAt x (x.size - (n + 1))) then nameRest x n else 5
def nameFault (x : ByteArray) : Int := if x.size < 1 ∨ 12 < x.size ∨ inF (bAt x 0) 97 122 = false then 5 else nameRest x x.size

theorem nameRest_step {x : ByteArray} {k : Nat} (h : k < x.size) : nameRest x (x.size - k) = if nameB (bAt x k) then nameRest x (x.size - (k + 1)) else 5 := by
  rw [show x.size - k = (x.size - (k + 1)) + 1 by omega, nameRest, show x.size - (x.size - (k + 1) + 1) = k by omega]

theorem p_nameFault (x : ByteArray) : Pure Try.prog 103 [.v (.string x)] (.v (.int .i64 (nameFault x))) := by
  refine pure_of_code (G := G0) vers0 mixed0 Try.func103 rfl (by decide) (by simp [Try.f103]) (by simp) fun ver => ?_
  simp only [Try.f103, G0]
  simp (config := { contextual := true, maxSteps := 4000000 }) [-Int.not_le, -Int.not_lt]
  refine And.intro (fun h1 => And.intro (fun h2 => ?_) (fun h2 => ?_)) (fun h1 => ?_)
  · have h0 : 0 < x.size := by omega
    simp [h0]
    refine call_p (p_letter _) (by simp) ?_
    simp (config := { contextual := true, maxSteps := 4000000 }) [-Int.not_le, -Int.not_lt]
    refine And.intro (fun h3 => ?_) (fun h3 => ?_)
    · unfold nameFault
      rw [if_pos (.inr (.inr h3))]
    have hres : nameFault x = nameRest x x.size := by
      unfold nameFault
      rw [if_neg (by rintro (h | h | h) <;> first | omega | (rw [h3] at h; cases h))]
    rw [hres]
    refine aloop (α := Nat) (fun k => ⟨envOf [(0, .v (.string x)), (3, .v (.int .i64 k))], ⟨[], noArrs ver⟩⟩)
      (fun k => k ≤ x.size ∧ nameRest x (x.size - k) = nameRest x x.size) (fun k => x.size - k) 0 (less_envOf (by simp) rfl fun _ => rfl) (by simp) ?_
    rintro k ⟨hk, hm⟩
    by_cases hlt : k < x.size
    · have hw : IntKind.i64.wrap ((k : Int) + 1) = ((k + 1 : Nat) : Int) := by rw [IntWalk.i64_in _ (by omega)]; omega
      rw [nameRest_step hlt] at hm
      simp [hlt]
      refine call_p (p_nameB _) (by simp) ?_
      simp (config := { contextual := true }) [hw]
      refine And.intro (fun h => ?_) (fun h => ?_)
      · simpa [h] using hm
      · refine ⟨k + 1, less_envOf (by simp) rfl fun _ => rfl, ⟨by omega, ?_⟩, by omega⟩
        simpa [h] using hm
    · have hd : x.size - k = 0 := by omega
      rw [hd] at hm
      simp [hlt]
      exact hm
  · unfold nameFault
    rw [if_pos (by omega)]
  · unfold nameFault
    rw [if_pos (by omega)]


theorem q_nameFault (x : ByteArray) : Pure Try.prog 94 [.v (.string x)] (.v (.int .i64 (nameFault x))) := by
  refine pure_of_code (G := G0) vers0 mixed0 Try.func94 rfl (by decide) (by simp [Try.f94]) (by simp) fun ver => ?_
  simp only [Try.f94, G0]
  by_cases h1 : x.size < 1
  · have h0 : ¬ 0 < x.size := by omega
    have e : nameFault x = 5 := by unfold nameFault; rw [if_pos (.inl h1)]
    rw [e]
    simp [h0, show (x.size : Int) < 1 by omega]
  by_cases h2 : 12 < x.size
  · have e : nameFault x = 5 := by unfold nameFault; rw [if_pos (.inr (.inl h2))]
    rw [e]
    simp [show ¬ (x.size : Int) < 1 by omega, show (12 : Int) < x.size by omega]
  have h0 : 0 < x.size := by omega
  cases h3 : inF (bAt x 0) 97 122 with
  | false =>
    have e : nameFault x = 5 := by unfold nameFault; rw [if_pos (.inr (.inr h3))]
    rw [e]
    simp (config := { contextual := true }) [show ¬ (x.size : Int) < 1 by omega, show ¬ (12 : Int) < x.size by omega, h0, -Int.not_le, -Int.not_lt]
    intro g1 g2
    exfalso
    simp [inF] at h3
    omega
  | true =>
    have hres : nameFault x = nameRest x x.size := by
      unfold nameFault
      rw [if_neg (by rintro (h | h | h) <;> first | omega | (rw [h3] at h; cases h))]
    rw [hres]
    simp [inF] at h3
    simp (config := { contextual := true }) [show ¬ (x.size : Int) < 1 by omega, show ¬ (12 : Int) < x.size by omega, h0, show ¬ bAt x 0 < 97 by omega, show ¬ 122 < bAt x 0 by omega, -Int.not_le, -Int.not_lt]
    refine aloop (α := Nat) (fun k => ⟨envOf [(0, .v (.string x)), (23, .v (.int .i64 x.size)), (24, .v (.int .i64 k))], ⟨[], noArrs ver⟩⟩)
      (fun k => k ≤ x.size ∧ nameRest x (x.size - k) = nameRest x x.size) (fun k => x.size - k) 0 (less_envOf (by simp) rfl fun _ => rfl) (by simp) ?_
    rintro k ⟨hk, hm⟩
    by_cases hlt : k < x.size
    · have hw : IntKind.i64.wrap ((k : Int) + 1) = ((k + 1 : Nat) : Int) := by rw [IntWalk.i64_in _ (by omega)]; omega
      rw [nameRest_step hlt] at hm
      simp [hlt]
      refine call_p (q_nameB _) (by simp) ?_
      simp (config := { contextual := true }) [hw]
      refine And.intro (fun h => ?_) (fun h => ?_)
      · simpa [h] using hm
      · refine ⟨k + 1, less_envOf (by simp) rfl fun _ => rfl, ⟨by omega, ?_⟩, by omega⟩
        simpa [h] using hm
    · have hd : x.size - k = 0 := by omega
      rw [hd] at hm
      simp [hlt]
      exact hm


def termFault (x : ByteArray) (a b c d e f : Int) : Int :=
  if nameFault x ≠ 0 then nameFault x else if versionFault a b c ≠ 0 then versionFault a b c else
  if ¬ (d = 1000 ∧ e = 0 ∧ f = 0) ∧ versionFault d e f ≠ 0 then 3 else if 0 ≤ cmpF a b c d e f then 1 else 0

set_option maxRecDepth 10000 in
theorem p_termFault (x : ByteArray) (a b c d e f : Int) : Pure Try.prog 51 [.agg [.v (.string x), .v (.int .i64 a), .v (.int .i64 b), .v (.int .i64 c), .v (.int .i64 d), .v (.int .i64 e), .v (.int .i64 f)]] (.v (.int .i64 (termFault x a b c d e f))) := by
  refine pure_of_code (G := G0) vers0 mixed0 Try.func51 rfl (by decide) (by simp [Try.f51]) (by simp) fun ver => ?_
  simp only [Try.f51, G0]
  repeat' first
    | with_reducible refine And.intro ?_ ?_
    | with_reducible intro _
    | (first | with_reducible refine adraw_f 2 (by decide +kernel) ?_ | with_reducible refine adraw_f 3 (by decide +kernel) ?_ | with_reducible refine adraw_f 4 (by decide +kernel) ?_ | with_reducible refine adraw_f 5 (by decide +kernel) ?_ | with_reducible refine adraw_f 6 (by decide +kernel) ?_ | with_reducible refine adraw_f 7 (by decide +kernel) ?_ | with_reducible refine adraw_f 8 (by decide +kernel) ?_ | with_reducible refine adraw_f 9 (by decide +kernel) ?_ | with_reducible refine adraw_f 10 (by decide +kernel) ?_ | with_reducible refine adraw_f 11 (by decide +kernel) ?_ | with_reducible refine adraw_cut 0 (by decide +kernel) ?_ | with_reducible refine adraw_cut 1 (by decide +kernel) ?_ | with_reducible refine adraw_cut 2 (by decide +kernel) ?_ | with_reducible refine adraw_cut 3 (by decide +kernel) ?_ | with_reducible refine adraw_cut 4 (by decide +kernel) ?_ | with_reducible refine adraw_cut 5 (by decide +kernel) ?_ | with_reducible refine adraw_cut 6 (by decide +kernel) ?_ | with_reducible refine adraw_cut 7 (by decide +kernel) ?_ | with_reducible refine adraw_cut 8 (by decide +kernel) ?_ | with_reducible refine adraw_cut 9 (by decide +kernel) ?_ | with_reducible refine adraw_all (by kernel_rfl) ?_)
    | with_reducible refine call_p (p_nameFault _) (by simp) ?_
    | with_reducible refine call_f (p_nameFault _) (by simp) ?_
    | with_reducible refine call_p (p_versionFault _ _ _) (by simp) ?_
    | with_reducible refine call_f (p_versionFault _ _ _) (by simp) ?_
    | with_reducible refine call_p (p_top) (by simp) ?_
    | with_reducible refine call_f (p_top) (by simp) ?_
    | with_reducible refine call_p (p_compareVersions _ _ _ _ _ _) (by simp) ?_
    | with_reducible refine call_f (p_compareVersions _ _ _ _ _ _) (by simp) ?_
    | simp (config := { contextual := true, maxSteps := 4000000 }) [*, termFault, -not_and, -Int.not_le, -Int.not_lt]
  all_goals simp_all

set_option maxRecDepth 10000 in
theorem q_termFault (x : ByteArray) (a b c d e f : Int) : Pure Try.prog 47 [.agg [.v (.string x), .v (.int .i64 a), .v (.int .i64 b), .v (.int .i64 c), .v (.int .i64 d), .v (.int .i64 e), .v (.int .i64 f)]] (.v (.int .i64 (termFault x a b c d e f))) := by
  refine pure_of_code (G := G0) vers0 mixed0 Try.func47 rfl (by decide) (by simp [Try.f47]) (by simp) fun ver => ?_
  simp only [Try.f47, G0]
  repeat' first
    | with_reducible refine And.intro ?_ ?_
    | with_reducible intro _
    | (first | with_reducible refine adraw_f 2 (by decide +kernel) ?_ | with_reducible refine adraw_f 3 (by decide +kernel) ?_ | with_reducible refine adraw_f 4 (by decide +kernel) ?_ | with_reducible refine adraw_f 5 (by decide +kernel) ?_ | with_reducible refine adraw_f 6 (by decide +kernel) ?_ | with_reducible refine adraw_f 7 (by decide +kernel) ?_ | with_reducible refine adraw_f 8 (by decide +kernel) ?_ | with_reducible refine adraw_f 9 (by decide +kernel) ?_ | with_reducible refine adraw_f 10 (by decide +kernel) ?_ | with_reducible refine adraw_f 11 (by decide +kernel) ?_ | with_reducible refine adraw_cut 0 (by decide +kernel) ?_ | with_reducible refine adraw_cut 1 (by decide +kernel) ?_ | with_reducible refine adraw_cut 2 (by decide +kernel) ?_ | with_reducible refine adraw_cut 3 (by decide +kernel) ?_ | with_reducible refine adraw_cut 4 (by decide +kernel) ?_ | with_reducible refine adraw_cut 5 (by decide +kernel) ?_ | with_reducible refine adraw_cut 6 (by decide +kernel) ?_ | with_reducible refine adraw_cut 7 (by decide +kernel) ?_ | with_reducible refine adraw_cut 8 (by decide +kernel) ?_ | with_reducible refine adraw_cut 9 (by decide +kernel) ?_ | with_reducible refine adraw_all (by kernel_rfl) ?_)
    | with_reducible refine call_p (q_nameFault _) (by simp) ?_
    | with_reducible refine call_f (q_nameFault _) (by simp) ?_
    | with_reducible refine call_p (q_versionFault _ _ _) (by simp) ?_
    | with_reducible refine call_f (q_versionFault _ _ _) (by simp) ?_
    | with_reducible refine call_p (q_top) (by simp) ?_
    | with_reducible refine call_f (q_top) (by simp) ?_
    | with_reducible refine call_p (p_compare _ _ _ _ _ _) (by simp) ?_
    | with_reducible refine call_f (p_compare _ _ _ _ _ _) (by simp) ?_
    | simp (config := { contextual := true, maxSteps := 4000000 }) [*, termFault, -not_and, -Int.not_le, -Int.not_lt]
  all_goals simp_all

theorem p_toTerm (x : ByteArray) (a b c d e f : Int) : Pure Try.prog 76 [.agg [.v (.string x), .v (.int .i64 a), .v (.int .i64 b), .v (.int .i64 c), .v (.int .i64 d), .v (.int .i64 e), .v (.int .i64 f)]] (.agg [.v (.string x), .v (.int .i64 a), .v (.int .i64 b), .v (.int .i64 c), .v (.int .i64 d), .v (.int .i64 e), .v (.int .i64 f)]) := by
  refine pure_of_code (G := G0) vers0 mixed0 Try.func76 rfl (by decide) (by simp [Try.f76]) (by simp) fun ver => ?_
  simp only [Try.f76, G0]
  repeat' first
    | with_reducible refine And.intro ?_ ?_
    | with_reducible intro _
    | (first | with_reducible refine adraw_f 2 (by decide +kernel) ?_ | with_reducible refine adraw_f 3 (by decide +kernel) ?_ | with_reducible refine adraw_f 4 (by decide +kernel) ?_ | with_reducible refine adraw_f 5 (by decide +kernel) ?_ | with_reducible refine adraw_f 6 (by decide +kernel) ?_ | with_reducible refine adraw_f 7 (by decide +kernel) ?_ | with_reducible refine adraw_f 8 (by decide +kernel) ?_ | with_reducible refine adraw_f 9 (by decide +kernel) ?_ | with_reducible refine adraw_f 10 (by decide +kernel) ?_ | with_reducible refine adraw_f 11 (by decide +kernel) ?_ | with_reducible refine adraw_cut 0 (by decide +kernel) ?_ | with_reducible refine adraw_cut 1 (by decide +kernel) ?_ | with_reducible refine adraw_cut 2 (by decide +kernel) ?_ | with_reducible refine adraw_cut 3 (by decide +kernel) ?_ | with_reducible refine adraw_cut 4 (by decide +kernel) ?_ | with_reducible refine adraw_cut 5 (by decide +kernel) ?_ | with_reducible refine adraw_cut 6 (by decide +kernel) ?_ | with_reducible refine adraw_cut 7 (by decide +kernel) ?_ | with_reducible refine adraw_cut 8 (by decide +kernel) ?_ | with_reducible refine adraw_cut 9 (by decide +kernel) ?_ | with_reducible refine adraw_all (by kernel_rfl) ?_)
    | with_reducible refine call_p (p_toVersion _ _ _) (by simp) ?_
    | with_reducible refine call_f (p_toVersion _ _ _) (by simp) ?_
    | simp (config := { contextual := true, maxSteps := 4000000 }) [*, -Int.not_le, -Int.not_lt]

def szTermF (x : ByteArray) (n : Int) : Int := if IntKind.i64.wrap (n - x.size) < 0 then -1 else IntKind.i64.wrap (n - x.size)

theorem p_szTerm (x : ByteArray) (a b c d e f n : Int) : Pure Try.prog 72 [.agg [.v (.string x), .v (.int .i64 a), .v (.int .i64 b), .v (.int .i64 c), .v (.int .i64 d), .v (.int .i64 e), .v (.int .i64 f)], .v (.int .i64 n)] (.v (.int .i64 (szTermF x n))) := by
  refine pure_of_code (G := G0) vers0 mixed0 Try.func72 rfl (by decide) (by simp [Try.f72]) (by simp) fun ver => ?_
  simp only [Try.f72, G0]
  repeat' first
    | with_reducible refine And.intro ?_ ?_
    | with_reducible intro _
    | (first | with_reducible refine adraw_f 2 (by decide +kernel) ?_ | with_reducible refine adraw_f 3 (by decide +kernel) ?_ | with_reducible refine adraw_f 4 (by decide +kernel) ?_ | with_reducible refine adraw_f 5 (by decide +kernel) ?_ | with_reducible refine adraw_f 6 (by decide +kernel) ?_ | with_reducible refine adraw_f 7 (by decide +kernel) ?_ | with_reducible refine adraw_f 8 (by decide +kernel) ?_ | with_reducible refine adraw_f 9 (by decide +kernel) ?_ | with_reducible refine adraw_f 10 (by decide +kernel) ?_ | with_reducible refine adraw_f 11 (by decide +kernel) ?_ | with_reducible refine adraw_cut 0 (by decide +kernel) ?_ | with_reducible refine adraw_cut 1 (by decide +kernel) ?_ | with_reducible refine adraw_cut 2 (by decide +kernel) ?_ | with_reducible refine adraw_cut 3 (by decide +kernel) ?_ | with_reducible refine adraw_cut 4 (by decide +kernel) ?_ | with_reducible refine adraw_cut 5 (by decide +kernel) ?_ | with_reducible refine adraw_cut 6 (by decide +kernel) ?_ | with_reducible refine adraw_cut 7 (by decide +kernel) ?_ | with_reducible refine adraw_cut 8 (by decide +kernel) ?_ | with_reducible refine adraw_cut 9 (by decide +kernel) ?_ | with_reducible refine adraw_all (by kernel_rfl) ?_)
    | simp (config := { contextual := true, maxSteps := 4000000 }) [*, szTermF, -Int.not_le, -Int.not_lt]


end Go.Proofs.Ytokhnmchnfkiiaa.Am
