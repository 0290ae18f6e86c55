/- Marks on arrays of the law's own: written, and found again. No conditions. -/
import Derived.Test.YtokhnmchnfkiiaaAmC17
import Derived.Test.YtokhnmchnfkiiaaAmC18
namespace Go.Proofs.Ytokhnmchnfkiiaa.Am
open Go Go.RowKit Go.Proofs
set_option linter.unusedSimpArgs false
set_option linter.unusedVariables false

def mlist (k : Int) (n : Nat) : List Int := (List.range n).map fun i => k + (i : Nat)
@[simp] theorem mlist_length (k : Int) (n : Nat) : (mlist k n).length = n := by simp [mlist]
theorem mlist_get {k : Int} {n i : Nat} (h : i < n) : (mlist k n)[i]'(by simpa using h) = k + (i : Nat) := by simp [mlist]
@[simp] theorem mlist_getElem (k : Int) (n i : Nat) (h : i < (mlist k n).length) : (mlist k n)[i] = k + (i : Nat) := by simp [mlist]
theorem mlist_succ (k : Int) (n : Nat) : mlist k (n + 1) = mlist k n ++ [k + (n : Nat)] := by simp [mlist, List.range_succ]
/-- The first i elements marked. -/
def curI (k : Int) (l : List Int) (i : Nat) : List Int := mlist k i ++ l.drop i
@[simp] theorem curI_length (k : Int) (l : List Int) (i : Nat) (h : i ≤ l.length) : (curI k l i).length = l.length := by simp [curI]; omega
theorem curI_set {k : Int} {l : List Int} {i : Nat} (h : i < l.length) : (curI k l i).set i (k + (i : Nat)) = curI k l (i + 1) := by
  simp only [curI]
  rw [List.set_append, if_neg (by simp), mlist_length, Nat.sub_self, drop_get h, List.set_cons_zero, mlist_succ]
  simp

theorem o_markInts (l : List Int) (k : Int) (h0 : 0 ≤ k) (hk : k + l.length ≤ 1099511627776) :
    OCall Try.prog 35 (some (2, l.map intCells)) [.arr 0 0 0 l.length, .v (.int .i64 k)] (some (true, 2, (mlist k l.length).map intCells)) (.v (.int .i64 (k + l.length))) := by
  have hl : l.length ≤ 4611686018427387904 := by omega
  refine own_of_code (G := G0) vers0 mixed0 Try.func35 rfl (by decide) (by simp [Try.f35]) 0 (.v _) (by intro s e es h; cases h; exact fr_int _) ?_
  simp only [Try.f35, G0, inArrs_some]
  simp
  refine aloop (α := Nat) (fun i => ⟨envOf [(0, .arr 0 0 0 l.length), (1, .v (.int .i64 (k + i))), (5, .v (.int .i64 i))], ⟨[], arr1 0 0 2 ((curI k l i).map intCells)⟩⟩)
    (fun i => i ≤ l.length) (fun i => l.length - i) 0 (less_envOf (by simp) rfl (by simp [curI, mlist])) (by simp) ?_
  intro i hi
  by_cases hlt : i < l.length
  · have hw := wrapS hlt hl
    have hw2 : IntKind.i64.wrap (k + (i : Int) + 1) = k + ((i + 1 : Nat) : Int) := by rw [IntWalk.i64_in _ (by omega)]; omega
    have hc : (curI k l i).length = l.length := curI_length k l i hi
    simp [hlt, hc]
    refine ⟨i + 1, less_envOf (by simp [hw, hw2]) rfl ?_, by omega, by omega⟩
    intro j
    rw [← curI_set hlt]
    by_cases hj : j = 0 <;> simp [hj, arr1]
  · have e : i = l.length := by omega
    subst e
    simp [curI]

theorem p_markInts0 (c : Bool) (k : Int) : Pure Try.prog 35 [.sl c [], .v (.int .i64 k)] (.v (.int .i64 k)) := by
  refine pure_of_code (G := (G0)) vers0 mixed0 Try.func35 rfl (by decide) (by simp [Try.f35]) (by simp) fun ver => ?_
  simp only [Try.f35, G0]
  simp
  refine aloop (α := Unit) (fun _ => ⟨envOf [(0, .sl c []), (1, .v (.int .i64 k)), (5, .v (.int .i64 0))], ⟨[], noArrs ver⟩⟩)
    (fun _ => True) (fun _ => 0) () (less_envOf (by simp) rfl fun _ => rfl) trivial ?_
  intro _ _
  simp

end Go.Proofs.Ytokhnmchnfkiiaa.Am
