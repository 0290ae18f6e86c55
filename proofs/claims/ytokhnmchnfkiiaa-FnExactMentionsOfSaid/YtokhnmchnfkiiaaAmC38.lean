/- Lists of names as the laws' helpers meet them; the names that a package mentions, as both sides hand them out. No conditions. -/
import Derived.Test.YtokhnmchnfkiiaaAmC37
import Derived.Test.YtokhnmchnfkiiaaAmC19
namespace Go.Proofs.Ytokhnmchnfkiiaa.Am
open Go Go.RowKit Go.Proofs
set_option linter.unusedSimpArgs false
set_option linter.unusedVariables false

def mstrs (k : Int) (n : Nat) : List ByteArray := (List.range n).map fun i => markF (k + (i : Nat))
@[simp] theorem mstrs_length (k : Int) (n : Nat) : (mstrs k n).length = n := by simp [mstrs]
@[simp] theorem mstrs_getElem (k : Int) (n i : Nat) (h : i < (mstrs k n).length) : (mstrs k n)[i] = markF (k + (i : Nat)) := by simp [mstrs]
theorem mstrs_succ (k : Int) (n : Nat) : mstrs k (n + 1) = mstrs k n ++ [markF (k + (n : Nat))] := by simp [mstrs, List.range_succ]
def curSt (k : Int) (l : List ByteArray) (i : Nat) : List ByteArray := mstrs k i ++ l.drop i
theorem curSt_length (k : Int) (l : List ByteArray) (i : Nat) (h : i ≤ l.length) : (curSt k l i).length = l.length := by simp [curSt]; omega
theorem curSt_set {k : Int} {l : List ByteArray} {i : Nat} (h : i < l.length) : (curSt k l i).set i (markF (k + (i : Nat))) = curSt k l (i + 1) := by
  simp only [curSt]
  rw [List.set_append, if_neg (by simp), mstrs_length, Nat.sub_self, drop_get h, List.set_cons_zero, mstrs_succ]
  simp

theorem o_markStrs (l : List ByteArray) (k : Int) (h0 : 0 ≤ k) (hk : k + l.length ≤ 1099511627776) :
    OCall Try.prog 68 (some (9, l.map strCells)) [.arr 0 0 0 l.length, .v (.int .i64 k)] (some (true, 9, (mstrs k l.length).map strCells)) (.v (.int .i64 (k + l.length))) := by
  have hl : l.length ≤ 4611686018427387904 := by omega
  refine own_of_code (G := G0) vers0 mixed0 Try.func68 rfl (by decide) (by simp [Try.f68]) 0 (.v _) (by intro s e es h; cases h; exact fr_str _) ?_
  simp only [Try.f68, G0, inArrs_some]
  simp
  refine aloop (α := Nat) (fun i => ⟨envOf [(0, .arr 0 0 0 l.length), (1, .v (.int .i64 (k + i))), (5, .v (.int .i64 i))], ⟨[], arr1 0 0 9 ((curSt k l i).map strCells)⟩⟩)
    (fun i => i ≤ l.length) (fun i => l.length - i) 0 (less_envOf (by simp) rfl (by simp [curSt, mstrs])) (by simp) ?_
  intro i hi
  by_cases hlt : i < l.length
  · have hw := wrapS hlt hl
    have hw2 : IntKind.i64.wrap (k + (i : Int) + 1) = k + ((i + 1 : Nat) : Int) := by rw [IntWalk.i64_in _ (by omega)]; omega
    have hc : (curSt k l i).length = l.length := curSt_length k l i hi
    simp [hlt, hc]
    refine call_p (p_markText _ (by omega)) (by simp) ?_
    simp [hlt, hc]
    refine ⟨i + 1, less_envOf (by simp [hw, hw2]) rfl ?_, by omega, by omega⟩
    intro j
    rw [← curSt_set hlt]
    by_cases hj : j = 0 <;> simp [hj, arr1]
  · have e : i = l.length := by omega
    subst e
    simp [curSt]

theorem p_markStrs0 (c : Bool) (k : Int) : Pure Try.prog 68 [.sl c [], .v (.int .i64 k)] (.v (.int .i64 k)) := by
  refine pure_of_code (G := (G0)) vers0 mixed0 Try.func68 rfl (by decide) (by simp [Try.f68]) (by simp) fun ver => ?_
  simp only [Try.f68, G0]
  simp
  refine aloop (α := Unit) (fun _ => ⟨envOf [(0, .sl c []), (1, .v (.int .i64 k)), (5, .v (.int .i64 0))], ⟨[], noArrs ver⟩⟩)
    (fun _ => True) (fun _ => 0) () (less_envOf (by simp) rfl fun _ => rfl) trivial ?_
  intro _ _
  simp

theorem p_heldStrs (c : Bool) (n : Nat) (k : Int) (h0 : 0 ≤ k) (hk : k + n ≤ 1099511627776) : Pure Try.prog 85 [.sl c ((mstrs k n).map strCells), .v (.int .i64 k)] (.v (.int .i64 (k + n))) := by
  have hl : n ≤ 4611686018427387904 := by omega
  refine pure_of_code (G := (G0)) vers0 mixed0 Try.func85 rfl (by decide) (by simp [Try.f85]) (by simp) fun ver => ?_
  simp only [Try.f85, G0]
  simp
  refine aloop (α := Nat) (fun i => ⟨envOf [(0, .sl c ((mstrs k n).map strCells)), (1, .v (.int .i64 (k + i))), (5, .v (.int .i64 i))], ⟨[], noArrs ver⟩⟩)
    (fun i => i ≤ n) (fun i => n - i) 0 (less_envOf (by simp) rfl fun _ => rfl) (by simp) ?_
  intro i hi
  by_cases hlt : i < n
  · have hw := wrapS hlt hl
    have hw2 : IntKind.i64.wrap (k + (i : Int) + 1) = k + ((i + 1 : Nat) : Int) := by rw [IntWalk.i64_in _ (by omega)]; omega
    simp [hlt]
    refine adraw_all (by kernel_rfl) ?_
    simp [hlt]
    refine call_p (p_markText _ (by omega)) (by simp) ?_
    simp [hlt]
    exact ⟨i + 1, less_envOf (by simp [hw, hw2]) rfl fun _ => rfl, by omega, by omega⟩
  · have e : i = n := by omega
    subst e
    simp

theorem o_markNames (l : List ByteArray) (k a : Int) (h0 : 0 ≤ k) (hk : k + l.length ≤ 1099511627776) :
    OCall Try.prog 40 (some (9, l.map strCells)) [.agg [.v (.int .i64 a), .arr 0 0 0 l.length], .v (.int .i64 k)] (some (true, 9, (mstrs k l.length).map strCells)) (.v (.int .i64 (k + l.length))) := by
  refine own_of_code (G := G0) vers0 mixed0 Try.func40 rfl (by decide) (by simp [Try.f40]) 0 (.v _) (by intro s e es h; cases h; exact fr_str _) ?_
  simp only [Try.f40, G0, inArrs_some]
  simp
  refine call_s 0 0 9 (l.map strCells) (by simp) (o_markStrs l k h0 hk) (by simp) (by simp) (fr_str _) ?_
  simp [arr1_put]

theorem p_markNames0 (c : Bool) (k a : Int) : Pure Try.prog 40 [.agg [.v (.int .i64 a), .sl c []], .v (.int .i64 k)] (.v (.int .i64 k)) := by
  refine pure_of_code (G := (G0)) vers0 mixed0 Try.func40 rfl (by decide) (by simp [Try.f40]) (by simp) fun ver => ?_
  simp only [Try.f40, G0]
  simp
  refine call_p (p_markStrs0 c k) (by simp) ?_
  simp

theorem p_heldNames (c : Bool) (n : Nat) (k a : Int) (h0 : 0 ≤ k) (hk : k + n ≤ 1099511627776) : Pure Try.prog 41 [.agg [.v (.int .i64 a), .sl c ((mstrs k n).map strCells)], .v (.int .i64 k)] (.v (.int .i64 (k + n))) := by
  refine pure_of_code (G := (G0)) vers0 mixed0 Try.func41 rfl (by decide) (by simp [Try.f41]) (by simp) fun ver => ?_
  simp only [Try.f41, G0]
  simp
  refine call_p (p_heldStrs c n k h0 hk) (by simp) ?_
  simp [show ¬ k + (n : Int) < 0 by omega]

theorem p_heldNames0 (c : Bool) (k a : Int) (h0 : 0 ≤ k) (hk : k ≤ 1099511627776) : Pure Try.prog 41 [.agg [.v (.int .i64 a), .sl c []], .v (.int .i64 k)] (.v (.int .i64 k)) := by
  have := p_heldNames c 0 k a h0 (by simpa using hk)
  simpa [mstrs] using this

theorem e_names (c d : Bool) (l : List ByteArray) (hl : l.length ≤ 4611686018427387904) (a : Int) : Pure Try.prog 39 [.agg [.v (.int .i64 a), .sl c (l.map strCells)], .agg [.v (.int .i64 a), .sl d (l.map strCells)]] (.v (.bool true)) := by
  refine pure_of_code (G := (G0)) vers0 mixed0 Try.func39 rfl (by decide) (by simp [Try.f39]) (by simp) fun ver => ?_
  simp only [Try.f39, G0]
  simp
  refine call_p (e_strs c d l hl) (by simp) ?_
  simp

noncomputable def mentF (p : Pk) : List ByteArray := if packF p = 0 then putS [] (mentT p) else []
theorem mentT_len {p : Pk} (hok : p.Ok) : (mentT p).length ≤ 20 := by
  obtain ⟨k1, k2, k3, k4⟩ := hok
  have := flat_len p.ne k4
  simp only [mentT, List.length_append, List.length_map]
  omega

theorem p_mentionsOf (d : Bool) (p : Pk) (hp : p.Len) : Pure Try.prog 37 [p.av d] (.agg [.v (.int .i64 (packF p)), .sl false ((mentF p).map strCells)]) := by
  refine pure_of_code (G := (G0)) vers0 mixed0 Try.func37 rfl (by decide) (by simp [Try.f37]) (by simp) fun ver => ?_
  simp only [Try.f37, G0]
  simp
  refine call_p (p_pack d p hp) (by simp) ?_
  by_cases h : packF p = 0
  · simp [h]
    refine call_p (p_l5ment d p (packF_ok h)) (by simp) ?_
    simp [mentF, h]
  · simp [h, mentF]

theorem q_mentionsOfA (d : Bool) (p : Pk) (hp : p.Len) (h : packF p ≠ 0) : Pure Try.prog 38 [p.av d] (.agg [.v (.int .i64 (packF p)), .sl false []]) := by
  refine pure_of_code (G := (G0)) vers0 mixed0 Try.func38 rfl (by decide) (by simp [Try.f38]) (by simp) fun ver => ?_
  simp only [Try.f38, G0]
  simp
  refine call_p (q_pack d p hp) (by simp) ?_
  simp [h]

end Go.Proofs.Ytokhnmchnfkiiaa.Am
