/- Versions: what the functions about them return. No conditions. -/
import Derived.Test.YtldbckbldddaaaaAmT
namespace Go.Proofs.Ytldbckbldddaaaa.Am
open Go Go.RowKit Go.Proofs

noncomputable def G0 : Cfg := ⟨Try.prog, fun _ => false, fun _ => false, fun _ => true⟩
theorem vers0 : G0.Vers := by
  intro t h
  cases h
theorem mixed0 : Try.prog.follows .mixedOrders = true := by kernel_rfl

def inF (a b c : Int) : Bool := decide (b ≤ a) && decide (a ≤ c)

theorem p_in (a b c : Int) : Pure Try.prog 35 [.v (.int .i64 a), .v (.int .i64 b), .v (.int .i64 c)] (.v (.bool (inF a b c))) := by
  refine pure_of_code (G := G0) vers0 mixed0 Try.func35 rfl (by decide) (by simp [Try.f35]) (by simp) fun ver => ?_
  simp only [Try.f35, G0]
  repeat' first
    | with_reducible refine And.intro ?_ ?_
    | with_reducible intro _
    | with_reducible refine adraw_all (by kernel_rfl) ?_
    | simp (config := { contextual := true }) [*, inF, -Int.not_le, -Int.not_lt]

theorem p_within (a b c : Int) : Pure Try.prog 36 [.v (.int .i64 a), .v (.int .i64 b), .v (.int .i64 c)] (.v (.bool (inF a b c))) := by
  refine pure_of_code (G := G0) vers0 mixed0 Try.func36 rfl (by decide) (by simp [Try.f36]) (by simp) fun ver => ?_
  simp only [Try.f36, G0]
  repeat' first
    | with_reducible refine And.intro ?_ ?_
    | with_reducible intro _
    | with_reducible refine adraw_all (by kernel_rfl) ?_
    | simp (config := { contextual := true }) [*, inF, -Int.not_le, -Int.not_lt]

def versionFault (a b c : Int) : Int := if inF a 0 999 && inF b 0 999 && inF c 0 999 then 0 else 3

theorem p_versionFault (a b c : Int) : Pure Try.prog 12 [.agg [.v (.int .i64 a), .v (.int .i64 b), .v (.int .i64 c)]] (.v (.int .i64 (versionFault a b c))) := by
  refine pure_of_code (G := G0) vers0 mixed0 Try.func12 rfl (by decide) (by simp [Try.f12]) (by simp) fun ver => ?_
  simp only [Try.f12, G0]
  repeat' first
    | with_reducible refine And.intro ?_ ?_
    | with_reducible intro _
    | with_reducible refine adraw_all (by kernel_rfl) ?_
    | refine call_p (p_in _ _ _) (by simp) ?_
    | simp (config := { contextual := true }) [*, versionFault, -Int.not_le, -Int.not_lt]

theorem q_versionFault (a b c : Int) : Pure Try.prog 14 [.agg [.v (.int .i64 a), .v (.int .i64 b), .v (.int .i64 c)]] (.v (.int .i64 (versionFault a b c))) := by
  refine pure_of_code (G := G0) vers0 mixed0 Try.func14 rfl (by decide) (by simp [Try.f14]) (by simp) fun ver => ?_
  simp only [Try.f14, G0]
  repeat' first
    | with_reducible refine And.intro ?_ ?_
    | with_reducible intro _
    | with_reducible refine adraw_all (by kernel_rfl) ?_
    | refine call_p (p_within _ _ _) (by simp) ?_
    | simp (config := { contextual := true }) [*, versionFault, -Int.not_le, -Int.not_lt]

theorem p_toVersion (a b c : Int) : Pure Try.prog 13 [.agg [.v (.int .i64 a), .v (.int .i64 b), .v (.int .i64 c)]] (.agg [.v (.int .i64 a), .v (.int .i64 b), .v (.int .i64 c)]) := by
  refine pure_of_code (G := G0) vers0 mixed0 Try.func13 rfl (by decide) (by simp [Try.f13]) (by simp) fun ver => ?_
  simp only [Try.f13, G0]
  repeat' first
    | with_reducible refine And.intro ?_ ?_
    | with_reducible intro _
    | with_reducible refine adraw_all (by kernel_rfl) ?_
    | simp (config := { contextual := true }) [*, -Int.not_le, -Int.not_lt]

theorem p_lawVersionFault (a b c : Int) : Pure Try.prog 4 [.agg [.v (.int .i64 a), .v (.int .i64 b), .v (.int .i64 c)]] (.v (.bool true)) := by
  refine pure_of_code (G := G0) vers0 mixed0 Try.func4 rfl (by decide) (by simp [Try.f4]) (by simp) fun ver => ?_
  simp only [Try.f4, G0]
  repeat' first
    | with_reducible refine And.intro ?_ ?_
    | with_reducible intro _
    | with_reducible refine adraw_all (by kernel_rfl) ?_
    | refine call_p (p_toVersion _ _ _) (by simp) ?_
    | refine call_p (p_versionFault _ _ _) (by simp) ?_
    | refine call_p (q_versionFault _ _ _) (by simp) ?_
    | simp (config := { contextual := true }) [*, -Int.not_le, -Int.not_lt]

end Go.Proofs.Ytldbckbldddaaaa.Am
