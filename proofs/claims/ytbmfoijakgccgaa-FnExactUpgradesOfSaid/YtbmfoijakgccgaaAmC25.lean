/- All places of a catalog; which of them are newer than what a set holds. No conditions. -/
import Derived.Test.YtbmfoijakgccgaaAmC23
namespace Go.Proofs.Ytbmfoijakgccgaa.Am
open Go Go.RowKit Go.Proofs
set_option linter.unusedSimpArgs false
set_option linter.unusedVariables false

def allI (n : Nat) : List Int := (List.range n).map fun i => ((i : Nat) : Int)
@[simp] theorem allI_length (n : Nat) : (allI n).length = n := by simp [allI]
theorem allI_succ (n : Nat) : allI (n + 1) = allI n ++ [(n : Int)] := by simp [allI, List.range_succ]
theorem allI_mem {n : Nat} {m : Int} (h : m ∈ allI n) : 0 ≤ m ∧ m.toNat < n := by
  simp only [allI, List.mem_map, List.mem_range] at h
  obtain ⟨i, hi, rfl⟩ := h
  exact ⟨by omega, by simpa using hi⟩

theorem q_all0 (a b : Bool) : Pure Try.prog 142 [pksAV a b []] (.sl false []) := by
  refine pure_of_code (G := (G0)) vers0 mixed0 Try.func142 rfl (by decide) (by simp [Try.f142]) (by simp) fun ver => ?_
  simp only [Try.f142, G0]
  simp
  refine aloop (α := Unit) (fun _ => ⟨envOf [(0, .sl a []), (3, .nil), (7, .v (.int .i64 0)), (8, .v (.int .i64 0))], ⟨[], noArrs ver⟩⟩)
    (fun _ => True) (fun _ => 0) () (less_envOf (by simp) rfl fun _ => rfl) trivial ?_
  intro _ _
  simp

theorem q_all (a b : Bool) (c : List Pk) (hc : c.length * 8 ≤ 140737488355328) : OCall Try.prog 142 none [pksAV a b c] (some (false, 2, (allI c.length).map intCells)) (.arr 0 0 0 c.length) := by
  have hc2 : c.length ≤ 4611686018427387904 := by omega
  refine own_of_code (G := Go1 5) (verso 5) mixed0 Try.func142 rfl (by decide) (by simp [Try.f142]) 5 .dead (by intro s e es h; cases h; exact fr_int _) ?_
  simp only [Try.f142, Go1, inArrs]
  simp [sealRows, sealCells, Mem.made]
  refine aloop (α := Nat × Nat) (fun d => ⟨envOf [(0, pksAV a b c), (3, .arr 5 d.2 0 d.1), (7, .v (.int .i64 c.length)), (8, .v (.int .i64 d.1))], ⟨[], arr1 5 d.2 2 ((allI d.1).map intCells)⟩⟩)
    (fun d => d.1 ≤ c.length) (fun d => c.length - d.1) (0, 1) (less_envOf (by simp) rfl (by simp [allI, arr1])) (by simp) ?_
  rintro ⟨i, v⟩ hi
  simp only at hi ⊢
  by_cases hlt : i < c.length
  · have hw := wrapS hlt hc2
    have h2 : (i + 1) * 8 ≤ 140737488355328 := by omega
    simp [hlt, aappend, sealRows, sealCells, h2]
    refine ⟨i + 1, ⟨v + 1, less_envOf (by simp [hw]) rfl ?_⟩, by omega, by omega⟩
    intro j
    by_cases hj : j = 5 <;> simp [hj, arr1, allI_succ]
  · have e : i = c.length := by omega
    subst e
    simp

def newerB (c : List Pk) (m k : Int) : Bool := decide ((pkAt c k).n = (pkAt c m).n) && decide (cmpF (pkAt c k).v.a (pkAt c k).v.b (pkAt c k).v.c (pkAt c m).v.a (pkAt c m).v.b (pkAt c m).v.c < 0)
def upgB (c : List Pk) (s : List Int) (m : Int) : Bool := !memI m s && s.any (newerB c m)
def upgL (c : List Pk) (s : List Int) : List Int := (allI c.length).filter (upgB c s)

theorem q_upg2 (a b : Bool) (c : List Pk) (m k : Int) (hk : 0 ≤ k ∧ k.toNat < c.length) (hm : 0 ≤ m ∧ m.toNat < c.length) (x y z : List AV) :
    BCall Try.prog 145 [.v (.int .i64 k), .box 0 0, .box 4 0] [[pksAV a b c], x, y, z, [.v (.int .i64 m)]] (.v (.bool (newerB c m k))) := by
  obtain ⟨q1, q2⟩ := hk
  obtain ⟨r1, r2⟩ := hm
  have hg := pkAt_get q2
  have hh := pkAt_get r2
  refine bcode Try.func145 rfl (by decide) (by simp [Try.f145]) (by simp) fun ver => ?_
  simp only [Try.f145, Gb]
  simp
  refine adraw_all (by kernel_rfl) ?_
  by_cases e : (pkAt c k).n = (pkAt c m).n
  · have e2 : ((pkAt c k).n = (pkAt c m).n) = True := eq_true e
    simp (config := { maxSteps := 4000000 }) [q1, hg, r1, hh, e2]
    refine call_p (p_compare _ _ _ _ _ _) (by simp) ?_
    simp [newerB, e]
  · simp (config := { maxSteps := 4000000 }) [q1, hg, r1, hh, e, newerB]

theorem q_upg1 (a b k : Bool) (c : List Pk) (s : List Int) (hs : s.length ≤ 4611686018427387904) (hp : Places c.length s) (m : Int) (hm : 0 ≤ m ∧ m.toNat < c.length) :
    BCall Try.prog 143 [.v (.int .i64 m), .box 1 0, .box 0 0] [[pksAV a b c], [intsAV k s], [.v (.int .i64 0), .v (.int .i64 0), .sl true []], [.clo 143 [] [.box 1 0, .box 0 0]]] (.v (.bool (upgB c s m))) := by
  refine bcode Try.func143 rfl (by decide) (by simp [Try.f143]) (by simp) fun ver => ?_
  simp only [Try.f143, Gb]
  simp
  refine call_p (q_containsI k s hs m) (by simp) ?_
  cases hmem : memI m s with
  | true => simp [upgB, hmem]
  | false =>
    simp
    refine call_b (cb_ints k s hs 145 [] [.box 0 0, .box 4 0] [[pksAV a b c], [intsAV k s], [.v (.int .i64 0), .v (.int .i64 0), .sl true []], [.clo 143 [] [.box 1 0, .box 0 0]], [.v (.int .i64 m)]] (newerB c m) (fun _ => rfl) (fun _ => rfl) (fun _ => rfl) fun x hx => q_upg2 a b c m x (hp x hx) hm _ _ _) rfl ?_
    simp [upgB, hmem]

end Go.Proofs.Ytbmfoijakgccgaa.Am
