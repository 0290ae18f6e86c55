/- Versions compared: what the functions return. No conditions. -/
import Derived.Test.YtldbckbldddaaaaAm1
import Derived.IntWalk
namespace Go.Proofs.Ytldbckbldddaaaa.Am
open Go Go.RowKit Go.Proofs

def signF (a b : Int) : Int := if a < b then -1 else if b < a then 1 else 0

theorem p_sign (a b : Int) : Pure Try.prog 43 [.v (.int .i64 a), .v (.int .i64 b)] (.v (.int .i64 (signF a b))) := by
  refine pure_of_code (G := G0) vers0 mixed0 Try.func43 rfl (by decide) (by simp [Try.f43]) (by simp) fun ver => ?_
  simp only [Try.f43, G0]
  repeat' first
    | with_reducible refine And.intro ?_ ?_
    | with_reducible intro _
    | with_reducible refine adraw_all (by kernel_rfl) ?_
    | simp (config := { contextual := true }) [*, signF, -Int.not_le, -Int.not_lt]

theorem p_isNaN (a : Int) : Pure Try.prog 50 [.v (.int .i64 a)] (.v (.bool false)) := by
  refine pure_of_code (G := G0) vers0 mixed0 Try.func50 rfl (by decide) (by simp [Try.f50]) (by simp) fun ver => ?_
  simp only [Try.f50, G0]
  repeat' first
    | with_reducible refine And.intro ?_ ?_
    | with_reducible intro _
    | with_reducible refine adraw_all (by kernel_rfl) ?_
    | simp (config := { contextual := true }) [*, -Int.not_le, -Int.not_lt]

theorem p_cmp (a b : Int) : Pure Try.prog 49 [.v (.int .i64 a), .v (.int .i64 b)] (.v (.int .i64 (signF a b))) := by
  refine pure_of_code (G := G0) vers0 mixed0 Try.func49 rfl (by decide) (by simp [Try.f49]) (by simp) fun ver => ?_
  simp only [Try.f49, G0]
  repeat' first
    | with_reducible refine And.intro ?_ ?_
    | with_reducible intro _
    | with_reducible refine adraw_all (by kernel_rfl) ?_
    | refine call_p (p_isNaN _) (by simp) ?_
    | simp (config := { contextual := true }) [*, signF, -Int.not_le, -Int.not_lt]

def cmpF (a b c x y z : Int) : Int := if signF a x ≠ 0 then signF a x else if signF b y ≠ 0 then signF b y else signF c z

theorem p_compareVersions (a b c x y z : Int) : Pure Try.prog 24 [.agg [.v (.int .i64 a), .v (.int .i64 b), .v (.int .i64 c)], .agg [.v (.int .i64 x), .v (.int .i64 y), .v (.int .i64 z)]] (.v (.int .i64 (cmpF a b c x y z))) := by
  refine pure_of_code (G := G0) vers0 mixed0 Try.func24 rfl (by decide) (by simp [Try.f24]) (by simp) fun ver => ?_
  simp only [Try.f24, G0]
  repeat' first
    | with_reducible refine And.intro ?_ ?_
    | with_reducible intro _
    | with_reducible refine adraw_all (by kernel_rfl) ?_
    | refine call_p (p_sign _ _) (by simp) ?_
    | simp (config := { contextual := true }) [*, cmpF, -Int.not_le, -Int.not_lt]

def ints (l : List Int) : List (List AV) := l.map fun n => [.v (.int .i64 n)]
def orF : List Int → Int
  | [] => 0
  | n :: l => if n ≠ 0 then n else orF l

theorem p_or (col : Bool) (l : List Int) (hl : l.length ≤ 4611686018427387904) : Pure Try.prog 48 [.sl col (ints l)] (.v (.int .i64 (orF l))) := by
  refine pure_of_code (G := G0) vers0 mixed0 Try.func48 rfl (by decide) (by simp [Try.f48]) (by simp) fun ver => ?_
  simp [Try.f48, G0, ints]
  refine aloop (α := Nat) (fun k => ⟨envOf [(3, .v (.int .i64 0)), (6, .sl col (ints l)), (7, .v (.int .i64 l.length)), (8, .v (.int .i64 k))], ⟨[], noArrs ver⟩⟩)
    (fun k => k ≤ l.length ∧ orF (l.drop k) = orF l) (fun k => l.length - k) 0 (less_envOf (by simp [ints]) rfl fun _ => rfl) (by simp) ?_
  rintro k ⟨hk, hm⟩
  by_cases hlt : k < l.length
  · have hd : l.drop k = l[k] :: l.drop (k + 1) := List.drop_eq_getElem_cons hlt
    have hw : IntKind.i64.wrap ((k : Int) + 1) = ((k + 1 : Nat) : Int) := by rw [IntWalk.i64_in _ (by omega)]; omega
    rw [hd] at hm
    simp (config := { contextual := true }) [ints, hlt, hw]
    refine ⟨fun h => ?_, fun h => ?_⟩
    · simpa [orF, h] using hm
    · refine ⟨k + 1, less_envOf (by simp [ints]) rfl fun _ => rfl, ⟨by omega, ?_⟩, by omega⟩
      simpa [orF, h] using hm
  · have hd : l.drop k = [] := List.drop_eq_nil_of_le (by omega)
    rw [hd] at hm
    simp (config := { contextual := true }) [hlt]
    exact hm

theorem or_cmp (a b c x y z : Int) : orF [signF a x, signF b y, signF c z] = cmpF a b c x y z := by
  simp only [orF, cmpF]
  split
  · rfl
  · split
    · rfl
    · split <;> simp_all

theorem p_compare (a b c x y z : Int) : Pure Try.prog 44 [.agg [.v (.int .i64 a), .v (.int .i64 b), .v (.int .i64 c)], .agg [.v (.int .i64 x), .v (.int .i64 y), .v (.int .i64 z)]] (.v (.int .i64 (cmpF a b c x y z))) := by
  rw [← or_cmp]
  refine pure_of_code (G := G0) vers0 mixed0 Try.func44 rfl (by decide) (by simp [Try.f44]) (by simp) fun ver => ?_
  simp only [Try.f44, G0]
  repeat' first
    | with_reducible refine And.intro ?_ ?_
    | with_reducible intro _
    | with_reducible refine adraw_all (by kernel_rfl) ?_
    | refine call_p (p_cmp _ _) (by simp) ?_
    | refine call_p (p_or _ [_, _, _] (by simp)) (by simp) ?_
    | simp (config := { contextual := true }) [*, sealRows, sealCells, List.range_succ, -Int.not_le, -Int.not_lt]

theorem q_compareVersions (a b c x y z : Int) : Pure Try.prog 25 [.agg [.v (.int .i64 a), .v (.int .i64 b), .v (.int .i64 c)], .agg [.v (.int .i64 x), .v (.int .i64 y), .v (.int .i64 z)]] (.v (.int .i64 (cmpF a b c x y z))) := by
  refine pure_of_code (G := G0) vers0 mixed0 Try.func25 rfl (by decide) (by simp [Try.f25]) (by simp) fun ver => ?_
  simp only [Try.f25, G0]
  repeat' first
    | with_reducible refine And.intro ?_ ?_
    | with_reducible intro _
    | with_reducible refine adraw_all (by kernel_rfl) ?_
    | refine call_p (p_compare _ _ _ _ _ _) (by simp) ?_
    | simp (config := { contextual := true }) [*, -Int.not_le, -Int.not_lt]

theorem p_lawCompareVersions (a b c x y z : Int) : Pure Try.prog 8 [.agg [.v (.int .i64 a), .v (.int .i64 b), .v (.int .i64 c)], .agg [.v (.int .i64 x), .v (.int .i64 y), .v (.int .i64 z)]] (.v (.bool true)) := by
  refine pure_of_code (G := G0) vers0 mixed0 Try.func8 rfl (by decide) (by simp [Try.f8]) (by simp) fun ver => ?_
  simp only [Try.f8, G0]
  repeat' first
    | with_reducible refine And.intro ?_ ?_
    | with_reducible intro _
    | with_reducible refine adraw_all (by kernel_rfl) ?_
    | refine call_p (p_toVersion _ _ _) (by simp) ?_
    | refine call_p (p_compareVersions _ _ _ _ _ _) (by simp) ?_
    | refine call_p (q_compareVersions _ _ _ _ _ _) (by simp) ?_
    | simp (config := { contextual := true }) [*, -Int.not_le, -Int.not_lt]

end Go.Proofs.Ytldbckbldddaaaa.Am
