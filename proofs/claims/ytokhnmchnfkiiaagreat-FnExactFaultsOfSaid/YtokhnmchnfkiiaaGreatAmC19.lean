/- Marks on arrays of the law's own: written, and found again. No conditions. -/
import Derived.Test.YtokhnmchnfkiiaaGreatAmC17
import Derived.Test.YtokhnmchnfkiiaaGreatAmC18
namespace Go.Proofs.YtokhnmchnfkiiaaGreat.Am
open Go Go.RowKit Go.Proofs
set_option linter.unusedSimpArgs false
set_option linter.unusedVariables false

def mlist (k : Int) (n : Nat) : List Int := (List.range n).map fun i => k + (i : Nat)
@[simp] theorem mlist_length (k : Int) (n : Nat) : (mlist k n).length = n := by simp [mlist]
theorem mlist_get {k : Int} {n i : Nat} (h : i < n) : (mlist k n)[i]'(by simpa using h) = k + (i : Nat) := by simp [mlist]
@[simp] theorem mlist_getElem (k : Int) (n i : Nat) (h : i < (mlist k n).length) : (mlist k n)[i] = k + (i : Nat) := by simp [mlist]
theorem mlist_succ (k : Int) (n : Nat) : mlist k (n + 1) = mlist k n ++ [k + (n : Nat)] := by simp [mlist, List.range_succ]
/-- The first i elements marked. -/
def curI (k : Int) (l : List Int) (i : Nat) : List Int := mlist k i ++ l.drop i
@[simp] theorem curI_length (k : Int) (l : List Int) (i : Nat) (h : i ≤ l.length) : (curI k l i).length = l.length := by simp [curI]; omega
theorem curI_set {k : Int} {l : List Int} {i : Nat} (h : i < l.length) : (curI k l i).set i (k + (i : Nat)) = curI k l (i + 1) := by
  simp only [curI]
  rw [List.set_append, if_neg (by simp), mlist_length, Nat.sub_self, drop_get h, List.set_cons_zero, mlist_succ]
  simp

theorem o_markInts (l : List Int) (k : Int) (h0 : 0 ≤ k) (hk : k + l.length ≤ 1099511627776) :
    OCall Tryz.prog 27 (some (2, l.map intCells)) [.arr 0 0 0 l.length, .v (.int .i64 k)] (some (true, 2, (mlist k l.length).map intCells)) (.v (.int .i64 (k + l.length))) := by
  have hl : l.length ≤ 4611686018427387904 := by omega
  refine own_of_code (G := G0) vers0 mixed0 Tryz.func27 rfl (by decide) (by simp [Tryz.f27]) 0 (.v _) (by intro s e es h; cases h; exact fr_int _) ?_
  simp only [Tryz.f27, G0, inArrs_some]
  simp
  refine aloop (α := Nat) (fun i => ⟨envOf [(0, .arr 0 0 0 l.length), (1, .v (.int .i64 (k + i))), (5, .v (.int .i64 i))], ⟨[], arr1 0 0 2 ((curI k l i).map intCells)⟩⟩)
    (fun i => i ≤ l.length) (fun i => l.length - i) 0 (less_envOf (by simp) rfl (by simp [curI, mlist])) (by simp) ?_
  intro i hi
  by_cases hlt : i < l.length
  · have hw := wrapS hlt hl
    have hw2 : IntKind.i64.wrap (k + (i : Int) + 1) = k + ((i + 1 : Nat) : Int) := by rw [IntWalk.i64_in _ (by omega)]; omega
    have hc : (curI k l i).length = l.length := curI_length k l i hi
    simp [hlt, hc]
    refine ⟨i + 1, less_envOf (by simp [hw, hw2]) rfl ?_, by omega, by omega⟩
    intro j
    rw [← curI_set hlt]
    by_cases hj : j = 0 <;> simp [hj, arr1]
  · have e : i = l.length := by omega
    subst e
    simp [curI]

theorem p_markInts0 (c : Bool) (k : Int) : Pure Tryz.prog 27 [.sl c [], .v (.int .i64 k)] (.v (.int .i64 k)) := by
  refine pure_of_code (G := (G0)) vers0 mixed0 Tryz.func27 rfl (by decide) (by simp [Tryz.f27]) (by simp) fun ver => ?_
  simp only [Tryz.f27, G0]
  simp
  refine aloop (α := Unit) (fun _ => ⟨envOf [(0, .sl c []), (1, .v (.int .i64 k)), (5, .v (.int .i64 0))], ⟨[], noArrs ver⟩⟩)
    (fun _ => True) (fun _ => 0) () (less_envOf (by simp) rfl fun _ => rfl) trivial ?_
  intro _ _
  simp

theorem p_heldInts (c : Bool) (n : Nat) (k : Int) (h0 : 0 ≤ k) (hk : k + n ≤ 1099511627776) : Pure Tryz.prog 82 [intsAV c (mlist k n), .v (.int .i64 k)] (.v (.int .i64 (k + n))) := by
  have hl : n ≤ 4611686018427387904 := by omega
  refine pure_of_code (G := (G0)) vers0 mixed0 Tryz.func82 rfl (by decide) (by simp [Tryz.f82]) (by simp) fun ver => ?_
  simp only [Tryz.f82, G0]
  simp
  refine aloop (α := Nat) (fun i => ⟨envOf [(0, intsAV c (mlist k n)), (1, .v (.int .i64 (k + i))), (5, .v (.int .i64 i))], ⟨[], noArrs ver⟩⟩)
    (fun i => i ≤ n) (fun i => n - i) 0 (less_envOf (by simp) rfl fun _ => rfl) (by simp) ?_
  intro i hi
  by_cases hlt : i < n
  · have hw := wrapS hlt hl
    have hw2 : IntKind.i64.wrap (k + (i : Int) + 1) = k + ((i + 1 : Nat) : Int) := by rw [IntWalk.i64_in _ (by omega)]; omega
    have hg : (mlist k n)[i]? = some (k + (i : Nat)) := by rw [List.getElem?_eq_getElem (by simpa using hlt), mlist_get hlt]
    simp [hlt, hg]
    exact ⟨i + 1, less_envOf (by simp [hw, hw2]) rfl fun _ => rfl, by omega, by omega⟩
  · have e : i = n := by omega
    subst e
    simp

/-- Results with one list of numbers. -/
theorem o_markSet (l : List Int) (k a b : Int) (h0 : 0 ≤ k) (hk : k + l.length ≤ 1099511627776) :
    OCall Tryz.prog 38 (some (2, l.map intCells)) [.agg [.v (.int .i64 a), .v (.int .i64 b), .arr 0 0 0 l.length], .v (.int .i64 k)] (some (true, 2, (mlist k l.length).map intCells)) (.v (.int .i64 (k + l.length))) := by
  refine own_of_code (G := G0) vers0 mixed0 Tryz.func38 rfl (by decide) (by simp [Tryz.f38]) 0 (.v _) (by intro s e es h; cases h; exact fr_int _) ?_
  simp only [Tryz.f38, G0, inArrs_some]
  simp
  refine call_s 0 0 2 (l.map intCells) (by simp) (o_markInts l k h0 hk) (by simp) (by simp) (fr_int _) ?_
  simp [arr1_put]

theorem p_markSet0 (c : Bool) (k a b : Int) : Pure Tryz.prog 38 [.agg [.v (.int .i64 a), .v (.int .i64 b), .sl c []], .v (.int .i64 k)] (.v (.int .i64 k)) := by
  refine pure_of_code (G := (G0)) vers0 mixed0 Tryz.func38 rfl (by decide) (by simp [Tryz.f38]) (by simp) fun ver => ?_
  simp only [Tryz.f38, G0]
  simp
  refine call_p (p_markInts0 c k) (by simp) ?_
  simp

theorem p_heldSet (c : Bool) (n : Nat) (k a b : Int) (h0 : 0 ≤ k) (hk : k + n ≤ 1099511627776) : Pure Tryz.prog 39 [.agg [.v (.int .i64 a), .v (.int .i64 b), intsAV c (mlist k n)], .v (.int .i64 k)] (.v (.int .i64 (k + n))) := by
  refine pure_of_code (G := (G0)) vers0 mixed0 Tryz.func39 rfl (by decide) (by simp [Tryz.f39]) (by simp) fun ver => ?_
  simp only [Tryz.f39, G0]
  simp
  refine call_p (p_heldInts c n k h0 hk) (by simp) ?_
  simp [show ¬ k + (n : Int) < 0 by omega]

theorem p_heldSet0 (c : Bool) (k a b : Int) (h0 : 0 ≤ k) (hk : k ≤ 1099511627776) : Pure Tryz.prog 39 [.agg [.v (.int .i64 a), .v (.int .i64 b), .sl c []], .v (.int .i64 k)] (.v (.int .i64 k)) := by
  have := p_heldSet c 0 k a b h0 (by simpa using hk)
  simpa [mlist] using this

theorem e_set (c d : Bool) (l : List Int) (hl : l.length ≤ 4611686018427387904) (a b : Int) : Pure Tryz.prog 37 [.agg [.v (.int .i64 a), .v (.int .i64 b), intsAV c l], .agg [.v (.int .i64 a), .v (.int .i64 b), intsAV d l]] (.v (.bool true)) := by
  refine pure_of_code (G := (G0)) vers0 mixed0 Tryz.func37 rfl (by decide) (by simp [Tryz.f37]) (by simp) fun ver => ?_
  simp only [Tryz.f37, G0]
  simp
  refine call_p (e_ints c d l hl) (by simp) ?_
  simp

end Go.Proofs.YtokhnmchnfkiiaaGreat.Am
