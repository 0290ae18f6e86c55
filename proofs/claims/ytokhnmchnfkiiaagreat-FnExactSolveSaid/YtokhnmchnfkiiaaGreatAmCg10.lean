import Derived.Test.YtokhnmchnfkiiaaGreatAmCg9
import Derived.Test.YtokhnmchnfkiiaaGreatAmCg5
import Derived.Test.YtokhnmchnfkiiaaGreatAmCg8
/- The names that a package mentions, as both sides find them. No conditions. -/
namespace Go.Proofs.YtokhnmchnfkiiaaGreat.Am
open Go Go.RowKit Go.Proofs
set_option linter.unusedSimpArgs false
set_option linter.unusedVariables false

/-- A list of names that begins as nil. -/
def slN : List ByteArray → AV
  | [] => .nil
  | a :: l => .sl false ((a :: l).map strCells)
@[simp ↓ high] theorem lend_slN (m : Mem) (l : List ByteArray) : lend m (slN l) = .sl l.isEmpty (l.map strCells) := by
  cases l <;> rfl
@[simp ↓ high] theorem lend1_slN (m : Mem) (l : List ByteArray) : lend1 m (slN l) = .sl l.isEmpty (l.map strCells) := by
  cases l <;> rfl
@[simp ↓ high] theorem fin_slN (m : Mem) (l : List ByteArray) : fin m (slN l) = .sl false (l.map strCells) := by
  cases l <;> rfl
@[simp ↓ high] theorem fin1_slN (m : Mem) (l : List ByteArray) : fin1 m (slN l) = .sl false (l.map strCells) := by
  cases l <;> rfl
@[simp] theorem one_slN (l : List ByteArray) : (slN l).one = true := by cases l <;> rfl
theorem insS_ne (v : ByteArray) (l : List ByteArray) : insS v l ≠ [] := by
  cases l with
  | nil => simp [insS]
  | cons a l => unfold insS; split <;> (try split) <;> simp
theorem slN_ins (v : ByteArray) (l : List ByteArray) : slN (insS v l) = .sl false ((insS v l).map strCells) := by
  cases h : insS v l with
  | nil => exact absurd h (insS_ne v l)
  | cons a r => rfl
theorem empty_or (l : List ByteArray) : l.isEmpty = false ∨ l = [] := by cases l <;> simp

def mentT (p : Pk) : List ByteArray := p.ne.flatten.map Trm.n ++ p.ba.map Trm.n
theorem putS_cons (l : List ByteArray) (v : ByteArray) (vs : List ByteArray) : putS l (v :: vs) = putS (insS v l) vs := rfl
theorem putS_nil (l : List ByteArray) : putS l [] = l := rfl

set_option maxHeartbeats 4000000 in
set_option maxRecDepth 10000 in
theorem p_l5ment (d : Bool) (p : Pk) (hok : p.Ok) : Pure Tryz.prog 235 [p.av d] (.sl false ((putS [] (mentT p)).map strCells)) := by
  obtain ⟨k1, k2, k3, k4⟩ := hok
  obtain ⟨T, hT⟩ : ∃ T, T = putS [] (mentT p) := ⟨_, rfl⟩
  rw [← hT]
  refine pure_of_code (G := (G0)) vers0 mixed0 Tryz.func235 rfl (by decide) (by simp [Tryz.f235]) (by simp) fun ver => ?_
  simp only [Tryz.f235, G0]
  simp
  refine aloop (α := Nat × List ByteArray) (fun q => ⟨envOf [(1, .box 0 0), (3, slN q.2), (4, .v (.int .i64 q.1))], ⟨[p.cells d], noArrs ver⟩⟩)
    (fun q => q.1 ≤ p.ne.length ∧ Rise q.2 ∧ q.2.length ≤ 4 * q.1 ∧ putS q.2 ((p.ne.drop q.1).flatten.map Trm.n ++ p.ba.map Trm.n) = T) (fun q => p.ne.length - q.1) (0, []) (less_envOf (by simp [slN]) rfl fun _ => rfl) ⟨Nat.zero_le _, by simp [Rise], by simp, by simpa [mentT] using hT.symm⟩ ?_
  rintro ⟨i, out⟩ ⟨h1, h2, h3, h4⟩
  simp only at h1 h2 h3 h4 ⊢
  by_cases hlt : i < p.ne.length
  · have hw := wrapS hlt (by omega)
    have hq := k4 _ (List.getElem_mem hlt)
    rw [drop_get hlt, List.flatten_cons, List.map_append, List.append_assoc] at h4
    simp [hlt]
    refine aloop (α := Nat × List ByteArray) (fun q => ⟨envOf [(1, .box 0 0), (3, slN q.2), (4, .v (.int .i64 i)), (5, .v (.int .i64 q.1))], ⟨[p.cells d], noArrs ver⟩⟩)
      (fun q => q.1 ≤ p.ne[i].length ∧ Rise q.2 ∧ q.2.length ≤ 4 * i + q.1 ∧ putS q.2 ((p.ne[i].drop q.1).map Trm.n ++ ((p.ne.drop (i + 1)).flatten.map Trm.n ++ p.ba.map Trm.n)) = T) (fun q => p.ne[i].length - q.1) (0, out) (less_envOf (by simp) rfl fun _ => rfl) ⟨Nat.zero_le _, h2, by simpa using h3, by simpa using h4⟩ ?_
    rintro ⟨j, o2⟩ ⟨g1, g2, g3, g4⟩
    simp only at g1 g2 g3 g4 ⊢
    by_cases hj : j < p.ne[i].length
    · have hwj := wrapS hj (by omega)
      rw [drop_get hj, List.map_cons, List.cons_append, putS_cons] at g4
      simp [hlt, hj]
      refine call_p (p_l5put o2.isEmpty o2 (by omega) g2 p.ne[i][j].n (empty_or o2)) (by simp) ?_
      simp
      exact ⟨j + 1, insS p.ne[i][j].n o2, less_envOf (by simp [hwj, slN_ins]) rfl fun _ => rfl, ⟨by omega, insS_rise _ g2, by have := insS_len p.ne[i][j].n o2; omega, by simpa using g4⟩, by omega⟩
    · have e : j = p.ne[i].length := by omega
      rw [List.drop_eq_nil_of_le (by omega), List.map_nil, List.nil_append] at g4
      simp [hlt, hj]
      exact ⟨i + 1, o2, less_envOf (by simp [hw]) rfl fun _ => rfl, ⟨by omega, g2, by omega, by simpa using g4⟩, by omega⟩
  · rw [List.drop_eq_nil_of_le (by omega), List.flatten_nil, List.map_nil, List.nil_append] at h4
    simp [hlt]
    refine aloop (α := Nat × List ByteArray) (fun q => ⟨envOf [(1, .box 0 0), (3, slN q.2), (6, .v (.int .i64 q.1))], ⟨[p.cells d], noArrs ver⟩⟩)
      (fun q => q.1 ≤ p.ba.length ∧ Rise q.2 ∧ q.2.length ≤ 16 + q.1 ∧ putS q.2 ((p.ba.drop q.1).map Trm.n) = T) (fun q => p.ba.length - q.1) (0, out) (less_envOf (by simp) rfl fun _ => rfl) ⟨Nat.zero_le _, h2, by simp only; omega, by simpa using h4⟩ ?_
    rintro ⟨j, o2⟩ ⟨g1, g2, g3, g4⟩
    simp only at g1 g2 g3 g4 ⊢
    by_cases hj : j < p.ba.length
    · have hwj := wrapS hj (by omega)
      rw [drop_get hj, List.map_cons, putS_cons] at g4
      simp [hj]
      refine call_p (p_l5put o2.isEmpty o2 (by omega) g2 p.ba[j].n (empty_or o2)) (by simp) ?_
      simp
      exact ⟨j + 1, insS p.ba[j].n o2, less_envOf (by simp [hwj, slN_ins]) rfl fun _ => rfl, ⟨by omega, insS_rise _ g2, by have := insS_len p.ba[j].n o2; omega, by simpa using g4⟩, by omega⟩
    · rw [List.drop_eq_nil_of_le (by omega), List.map_nil, putS_nil] at g4
      simp [hj, g4]

/-- slices.Grow of nil, slices.Concat of lists of terms. -/
theorem wrap0 : IntKind.i64.wrap 0 = 0 := by decide
theorem c_growT (n : Nat) (h0 : 0 < n) (hn : n ≤ 1000000) : OCall Tryz.prog 259 none [.nil, .v (.int .i64 n)] (some (false, 105, [])) (.arr 0 0 0 0) := by
  have e1 : IntKind.i64.wrap (n : Int) = n := IntWalk.i64_in _ (by omega)
  refine own_of_code (G := Go1 25) (verso 25) mixed0 Tryz.func259 rfl (by decide) (by simp [Tryz.f259]) 22 .dead (by intro s e es h; cases h; intro q hq; cases hq) ?_
  simp only [Tryz.f259, Go1, inArrs]
  have h1 : ¬ (n : Int) < 0 := by omega
  have h2 : (0 : Int) < n := by omega
  have h3 : (n : Int) * 64 ≤ 140737488355328 := by omega
  have h4 : (n : Int) ≤ 140737488355328 := by omega
  simp [h0, h1, h2, h3, h4, e1, aappendZ, Mem.made, wrap0]

theorem c_growT0 : Pure Tryz.prog 259 [.nil, .v (.int .i64 0)] .nil := by
  refine nil_of_code (G := G0) vers0 mixed0 Tryz.func259 rfl (by decide) (by simp [Tryz.f259]) fun ver => ?_
  simp only [Tryz.f259, G0]
  simp [wrap0]

theorem sum_len (ne : List (List Trm)) (i : Nat) (h : i < ne.length) : (ne.take (i + 1)).flatten.length = (ne.take i).flatten.length + ne[i].length := by
  rw [List.take_succ_eq_append_getElem h]
  simp only [List.flatten_append, List.length_append, List.flatten_cons, List.flatten_nil, List.append_nil]
theorem flat_len (ne : List (List Trm)) (h : ∀ q ∈ ne, q.length ≤ 4) : ne.flatten.length ≤ 4 * ne.length := by
  induction ne with
  | nil => simp
  | cons q r ih =>
    have h1 := h q (by simp)
    have h2 := ih fun x hx => h x (by simp [hx])
    rw [List.flatten_cons, List.length_append, List.length_cons]
    omega

set_option maxRecDepth 10000 in
theorem c_concatT (k k' : Bool) (ne : List (List Trm)) (h1 : ne.length ≤ 1000) (h4 : ∀ q ∈ ne, q.length ≤ 4) (hne : ne.flatten ≠ []) :
    OCall Tryz.prog 238 none [.sl k (ne.map (clauseCells k'))] (some (false, 105, ne.flatten.map Trm.cells)) (.arr 0 0 0 ne.flatten.length) := by
  have hfl := flat_len ne h4
  have hpos : 0 < ne.flatten.length := List.length_pos_iff.2 hne
  refine own_of_code (G := G0) vers0 mixed0 Tryz.func238 rfl (by decide) (by simp [Tryz.f238]) 24 .dead (by intro s e es h; cases h; exact fr_trm _) ?_
  obtain ⟨ver, hver⟩ : ∃ ver : Nat → Nat, ver = fun _ => 0 := ⟨_, rfl⟩
  have hin : inArrs none = noArrs ver := by rw [hver]; rfl
  rw [hin]
  clear hin hver
  simp only [Tryz.f238, G0]
  simp
  refine aloop (α := Nat) (fun i => ⟨envOf [(0, .sl k (ne.map (clauseCells k'))), (3, .v (.int .i64 (ne.take i).flatten.length)), (9, .sl k (ne.map (clauseCells k'))), (10, .v (.int .i64 ne.length)), (11, .v (.int .i64 i))], ⟨[], noArrs ver⟩⟩)
    (fun i => i ≤ ne.length) (fun i => ne.length - i) 0 (less_envOf (by simp) rfl fun _ => rfl) (Nat.zero_le _) ?_
  intro i hi
  by_cases hlt : i < ne.length
  · have hw := wrapS hlt (by omega)
    have hs := sum_len ne i hlt
    have hq := h4 _ (List.getElem_mem hlt)
    have hf2 := flat_len (ne.take i) fun q hq => h4 q (List.mem_of_mem_take hq)
    rw [List.length_take] at hf2
    obtain ⟨N, hN⟩ : ∃ N, N = (ne.take i).flatten.length := ⟨_, rfl⟩
    rw [← hN] at hs hf2
    rw [← hN]
    have hw2 : IntKind.i64.wrap ((N : Int) + (ne[i].length : Int)) = ((ne.take (i + 1)).flatten.length : Int) := by rw [hs, IntWalk.i64_in _ (by omega)]; omega
    have hng : ¬ ((ne.take (i + 1)).flatten.length : Int) < 0 := by omega
    obtain ⟨N2, hN2⟩ : ∃ N2, N2 = (ne.take (i + 1)).flatten.length := ⟨_, rfl⟩
    rw [← hN2] at hw2 hng
    simp [hlt, hw2, hng, -List.length_flatten]
    exact ⟨i + 1, less_envOf (by simp [hw, ← hN2, -List.length_flatten]) rfl fun _ => rfl, by omega, by omega⟩
  · have e : i = ne.length := by omega
    subst e
    rw [List.take_length]
    simp
    refine call_nN 24 (c_growT ne.flatten.length hpos (by omega)) (by simp [lendN]) (by simp) ?_
    simp
    refine aloop (α := Nat × Nat) (fun d => ⟨envOf [(6, .arr 24 d.2 0 (ne.take d.1).flatten.length), (25, .sl k (ne.map (clauseCells k'))), (26, .v (.int .i64 ne.length)), (27, .v (.int .i64 d.1))], ⟨[], arrG 24 ver d.2 105 ((ne.take d.1).flatten.map Trm.cells)⟩⟩)
      (fun d => d.1 ≤ ne.length) (fun d => ne.length - d.1) (0, ver 24 + 1) (less_envOf (by simp [noArrs]) rfl (by intro j; simp [arrG, noArrs])) (Nat.zero_le _) ?_
    rintro ⟨j, v⟩ hj
    simp only at hj ⊢
    by_cases hl : j < ne.length
    · have hw := wrapS hl (by omega)
      have hs := sum_len ne j hl
      have hq := h4 _ (List.getElem_mem hl)
      have hf2 := flat_len (ne.take j) fun q hq => h4 q (List.mem_of_mem_take hq)
      rw [List.length_take] at hf2
      have hap : (ne.take (j + 1)).flatten = (ne.take j).flatten ++ ne[j] := by rw [List.take_succ_eq_append_getElem hl, List.flatten_append, List.flatten_cons, List.flatten_nil, List.append_nil]
      obtain ⟨N, hN⟩ : ∃ N, N = (ne.take j).flatten := ⟨_, rfl⟩
      rw [← hN] at hs hf2 hap
      rw [← hN]
      have hro : (N.length + ne[j].length) * 64 ≤ 140737488355328 := by omega
      simp [hl, aappend, arrG, hro, -List.length_flatten, -List.map_flatten]
      refine ⟨j + 1, ⟨v + 1, less_envOf (by simp [hw, hap, -List.length_flatten, -List.map_flatten]) rfl ?_⟩, by omega, by omega⟩
      intro q
      by_cases hq2 : q = 24 <;> simp [hq2, arrG, hap, -List.map_flatten]
    · have e : j = ne.length := by omega
      subst e
      rw [List.take_length]
      simp [arrG, Function.comp_def]

theorem c_concatT0 (k k' : Bool) (ne : List (List Trm)) (h1 : ne.length ≤ 1000) (hne : ne.flatten = []) :
    Pure Tryz.prog 238 [.sl k (ne.map (clauseCells k'))] .nil := by
  have hall : ∀ q ∈ ne, q = [] := List.flatten_eq_nil_iff.1 hne
  refine nil_of_code (G := G0) vers0 mixed0 Tryz.func238 rfl (by decide) (by simp [Tryz.f238]) fun ver => ?_
  simp only [Tryz.f238, G0]
  simp
  refine aloop (α := Nat) (fun i => ⟨envOf [(0, .sl k (ne.map (clauseCells k'))), (3, .v (.int .i64 0)), (9, .sl k (ne.map (clauseCells k'))), (10, .v (.int .i64 ne.length)), (11, .v (.int .i64 i))], ⟨[], noArrs ver⟩⟩)
    (fun i => i ≤ ne.length) (fun i => ne.length - i) 0 (less_envOf (by simp) rfl fun _ => rfl) (Nat.zero_le _) ?_
  intro i hi
  by_cases hlt : i < ne.length
  · have hw := wrapS hlt (by omega)
    have hq := hall _ (List.getElem_mem hlt)
    simp [hlt, hq, wrap0]
    exact ⟨i + 1, less_envOf (by simp [hw]) rfl fun _ => rfl, by omega, by omega⟩
  · have e : i = ne.length := by omega
    subst e
    simp
    refine call_pN c_growT0 (by simp [lendN]) (by simp) ?_
    simp
    refine aloop (α := Nat) (fun d => ⟨envOf [(6, .nil), (25, .sl k (ne.map (clauseCells k'))), (26, .v (.int .i64 ne.length)), (27, .v (.int .i64 d))], ⟨[], noArrs ver⟩⟩)
      (fun d => d ≤ ne.length) (fun d => ne.length - d) 0 (less_envOf (by simp) rfl fun _ => rfl) (Nat.zero_le _) ?_
    intro j hj
    by_cases hl : j < ne.length
    · have hw := wrapS hl (by omega)
      have hq := hall _ (List.getElem_mem hl)
      simp [hl, hq, aappend]
      exact ⟨j + 1, less_envOf (by simp [hw]) rfl fun _ => rfl, by omega, by omega⟩
    · simp [hl]

end Go.Proofs.YtokhnmchnfkiiaaGreat.Am

/- Lists of names as the laws' helpers meet them; the names that a package mentions, as both sides hand them out. No conditions. -/
namespace Go.Proofs.YtokhnmchnfkiiaaGreat.Am
open Go Go.RowKit Go.Proofs
set_option linter.unusedSimpArgs false
set_option linter.unusedVariables false

def mstrs (k : Int) (n : Nat) : List ByteArray := (List.range n).map fun i => markF (k + (i : Nat))
@[simp] theorem mstrs_length (k : Int) (n : Nat) : (mstrs k n).length = n := by simp [mstrs]
@[simp] theorem mstrs_getElem (k : Int) (n i : Nat) (h : i < (mstrs k n).length) : (mstrs k n)[i] = markF (k + (i : Nat)) := by simp [mstrs]
theorem mstrs_succ (k : Int) (n : Nat) : mstrs k (n + 1) = mstrs k n ++ [markF (k + (n : Nat))] := by simp [mstrs, List.range_succ]
def curSt (k : Int) (l : List ByteArray) (i : Nat) : List ByteArray := mstrs k i ++ l.drop i
theorem curSt_length (k : Int) (l : List ByteArray) (i : Nat) (h : i ≤ l.length) : (curSt k l i).length = l.length := by simp [curSt]; omega
theorem curSt_set {k : Int} {l : List ByteArray} {i : Nat} (h : i < l.length) : (curSt k l i).set i (markF (k + (i : Nat))) = curSt k l (i + 1) := by
  simp only [curSt]
  rw [List.set_append, if_neg (by simp), mstrs_length, Nat.sub_self, drop_get h, List.set_cons_zero, mstrs_succ]
  simp

theorem o_markStrs (l : List ByteArray) (k : Int) (h0 : 0 ≤ k) (hk : k + l.length ≤ 1099511627776) :
    OCall Tryz.prog 50 (some (9, l.map strCells)) [.arr 0 0 0 l.length, .v (.int .i64 k)] (some (true, 9, (mstrs k l.length).map strCells)) (.v (.int .i64 (k + l.length))) := by
  have hl : l.length ≤ 4611686018427387904 := by omega
  refine own_of_code (G := G0) vers0 mixed0 Tryz.func50 rfl (by decide) (by simp [Tryz.f50]) 0 (.v _) (by intro s e es h; cases h; exact fr_str _) ?_
  simp only [Tryz.f50, G0, inArrs_some]
  simp
  refine aloop (α := Nat) (fun i => ⟨envOf [(0, .arr 0 0 0 l.length), (1, .v (.int .i64 (k + i))), (5, .v (.int .i64 i))], ⟨[], arr1 0 0 9 ((curSt k l i).map strCells)⟩⟩)
    (fun i => i ≤ l.length) (fun i => l.length - i) 0 (less_envOf (by simp) rfl (by simp [curSt, mstrs])) (by simp) ?_
  intro i hi
  by_cases hlt : i < l.length
  · have hw := wrapS hlt hl
    have hw2 : IntKind.i64.wrap (k + (i : Int) + 1) = k + ((i + 1 : Nat) : Int) := by rw [IntWalk.i64_in _ (by omega)]; omega
    have hc : (curSt k l i).length = l.length := curSt_length k l i hi
    simp [hlt, hc]
    refine call_p (p_markText _ (by omega)) (by simp) ?_
    simp [hlt, hc]
    refine ⟨i + 1, less_envOf (by simp [hw, hw2]) rfl ?_, by omega, by omega⟩
    intro j
    rw [← curSt_set hlt]
    by_cases hj : j = 0 <;> simp [hj, arr1]
  · have e : i = l.length := by omega
    subst e
    simp [curSt]

theorem p_markStrs0 (c : Bool) (k : Int) : Pure Tryz.prog 50 [.sl c [], .v (.int .i64 k)] (.v (.int .i64 k)) := by
  refine pure_of_code (G := (G0)) vers0 mixed0 Tryz.func50 rfl (by decide) (by simp [Tryz.f50]) (by simp) fun ver => ?_
  simp only [Tryz.f50, G0]
  simp
  refine aloop (α := Unit) (fun _ => ⟨envOf [(0, .sl c []), (1, .v (.int .i64 k)), (5, .v (.int .i64 0))], ⟨[], noArrs ver⟩⟩)
    (fun _ => True) (fun _ => 0) () (less_envOf (by simp) rfl fun _ => rfl) trivial ?_
  intro _ _
  simp

theorem p_heldStrs (c : Bool) (n : Nat) (k : Int) (h0 : 0 ≤ k) (hk : k + n ≤ 1099511627776) : Pure Tryz.prog 109 [.sl c ((mstrs k n).map strCells), .v (.int .i64 k)] (.v (.int .i64 (k + n))) := by
  have hl : n ≤ 4611686018427387904 := by omega
  refine pure_of_code (G := (G0)) vers0 mixed0 Tryz.func109 rfl (by decide) (by simp [Tryz.f109]) (by simp) fun ver => ?_
  simp only [Tryz.f109, G0]
  simp
  refine aloop (α := Nat) (fun i => ⟨envOf [(0, .sl c ((mstrs k n).map strCells)), (1, .v (.int .i64 (k + i))), (5, .v (.int .i64 i))], ⟨[], noArrs ver⟩⟩)
    (fun i => i ≤ n) (fun i => n - i) 0 (less_envOf (by simp) rfl fun _ => rfl) (by simp) ?_
  intro i hi
  by_cases hlt : i < n
  · have hw := wrapS hlt hl
    have hw2 : IntKind.i64.wrap (k + (i : Int) + 1) = k + ((i + 1 : Nat) : Int) := by rw [IntWalk.i64_in _ (by omega)]; omega
    simp [hlt]
    refine adraw_all (by kernel_rfl) ?_
    simp [hlt]
    refine call_p (p_markText _ (by omega)) (by simp) ?_
    simp [hlt]
    exact ⟨i + 1, less_envOf (by simp [hw, hw2]) rfl fun _ => rfl, by omega, by omega⟩
  · have e : i = n := by omega
    subst e
    simp

theorem o_markNames (l : List ByteArray) (k a : Int) (h0 : 0 ≤ k) (hk : k + l.length ≤ 1099511627776) :
    OCall Tryz.prog 54 (some (9, l.map strCells)) [.agg [.v (.int .i64 a), .arr 0 0 0 l.length], .v (.int .i64 k)] (some (true, 9, (mstrs k l.length).map strCells)) (.v (.int .i64 (k + l.length))) := by
  refine own_of_code (G := G0) vers0 mixed0 Tryz.func54 rfl (by decide) (by simp [Tryz.f54]) 0 (.v _) (by intro s e es h; cases h; exact fr_str _) ?_
  simp only [Tryz.f54, G0, inArrs_some]
  simp
  refine call_s 0 0 9 (l.map strCells) (by simp) (o_markStrs l k h0 hk) (by simp) (by simp) (fr_str _) ?_
  simp [arr1_put]

theorem p_markNames0 (c : Bool) (k a : Int) : Pure Tryz.prog 54 [.agg [.v (.int .i64 a), .sl c []], .v (.int .i64 k)] (.v (.int .i64 k)) := by
  refine pure_of_code (G := (G0)) vers0 mixed0 Tryz.func54 rfl (by decide) (by simp [Tryz.f54]) (by simp) fun ver => ?_
  simp only [Tryz.f54, G0]
  simp
  refine call_p (p_markStrs0 c k) (by simp) ?_
  simp

theorem p_heldNames (c : Bool) (n : Nat) (k a : Int) (h0 : 0 ≤ k) (hk : k + n ≤ 1099511627776) : Pure Tryz.prog 55 [.agg [.v (.int .i64 a), .sl c ((mstrs k n).map strCells)], .v (.int .i64 k)] (.v (.int .i64 (k + n))) := by
  refine pure_of_code (G := (G0)) vers0 mixed0 Tryz.func55 rfl (by decide) (by simp [Tryz.f55]) (by simp) fun ver => ?_
  simp only [Tryz.f55, G0]
  simp
  refine call_p (p_heldStrs c n k h0 hk) (by simp) ?_
  simp [show ¬ k + (n : Int) < 0 by omega]

theorem p_heldNames0 (c : Bool) (k a : Int) (h0 : 0 ≤ k) (hk : k ≤ 1099511627776) : Pure Tryz.prog 55 [.agg [.v (.int .i64 a), .sl c []], .v (.int .i64 k)] (.v (.int .i64 k)) := by
  have := p_heldNames c 0 k a h0 (by simpa using hk)
  simpa [mstrs] using this

theorem e_names (c d : Bool) (l : List ByteArray) (hl : l.length ≤ 4611686018427387904) (a : Int) : Pure Tryz.prog 53 [.agg [.v (.int .i64 a), .sl c (l.map strCells)], .agg [.v (.int .i64 a), .sl d (l.map strCells)]] (.v (.bool true)) := by
  refine pure_of_code (G := (G0)) vers0 mixed0 Tryz.func53 rfl (by decide) (by simp [Tryz.f53]) (by simp) fun ver => ?_
  simp only [Tryz.f53, G0]
  simp
  refine call_p (e_strs c d l hl) (by simp) ?_
  simp

noncomputable def mentF (p : Pk) : List ByteArray := if packF p = 0 then putS [] (mentT p) else []
theorem mentT_len {p : Pk} (hok : p.Ok) : (mentT p).length ≤ 20 := by
  obtain ⟨k1, k2, k3, k4⟩ := hok
  have := flat_len p.ne k4
  simp only [mentT, List.length_append, List.length_map]
  omega

end Go.Proofs.YtokhnmchnfkiiaaGreat.Am

/- The names that a package mentions, as the program hands them out. No conditions. -/
namespace Go.Proofs.YtokhnmchnfkiiaaGreat.Am
open Go Go.RowKit Go.Proofs
set_option linter.unusedSimpArgs false
set_option linter.unusedVariables false

/-- Two arrays of the call's own: of names at place 6, of terms at place 12. -/
def arrV (ver : Nat → Nat) (v : Nat) (out : List ByteArray) (w : Nat) (T : List Trm) : Nat → ArrSt := fun j => if j = 12 then ⟨w, true, 105, T.map Trm.cells⟩ else if j = 6 then ⟨v, true, 9, out.map strCells⟩ else noArrs ver j

theorem arrV_made (ver : Nat → Nat) (v w : Nat) (T : List Trm) : (fun j => if j = 12 then (⟨w, true, 105, T.map Trm.cells⟩ : ArrSt) else arrW 6 v 9 [] ver j) = arrV ver v [] w T := by
  funext j
  by_cases h : j = 12 <;> simp [arrV, arrW, h]
theorem arrV_turn (ver : Nat → Nat) (v w w' : Nat) (out : List ByteArray) (T T' : List Trm) : (fun j => if j = 12 then (⟨w', true, 105, T'.map Trm.cells⟩ : ArrSt) else arrV ver v out w T j) = arrV ver v out w' T' := by
  funext j
  by_cases h : j = 12 <;> simp [arrV, h]
theorem arrV_12 (ver : Nat → Nat) (v w : Nat) (out : List ByteArray) (T : List Trm) : arrV ver v out w T 12 = ⟨w, true, 105, T.map Trm.cells⟩ := by simp [arrV]
theorem arrW_12 (ver : Nat → Nat) (v : Nat) (es : List (List AV)) : arrW 6 v 9 es ver 12 = noArrs ver 12 := by simp [arrW]

set_option maxHeartbeats 4000000 in
set_option maxRecDepth 10000 in
theorem q_mentO (d : Bool) (p : Pk) (hok : p.Ok) : OCall Tryz.prog 183 none [p.av d] (some (false, 9, (putS [] (mentT p)).map strCells)) (.arr 0 0 0 (putS [] (mentT p)).length) := by
  have hml := mentT_len hok
  obtain ⟨k1, k2, k3, k4⟩ := hok
  have hfl := flat_len p.ne k4
  obtain ⟨T, hT⟩ : ∃ T, T = p.ne.flatten ++ p.ba := ⟨_, rfl⟩
  have hmt : mentT p = T.map Trm.n := by rw [hT, mentT, List.map_append]
  have hTl : T.length ≤ 20 := by rw [hmt, List.length_map] at hml; exact hml
  rw [hmt]
  refine own_of_code (G := Go1 6) (verso 6) mixed0 Tryz.func183 rfl (by decide) (by simp [Tryz.f183]) 6 .dead (by intro s' e es h; cases h; exact fr_str _) ?_
  obtain ⟨ver, hver⟩ : ∃ ver : Nat → Nat, ver = fun _ => 0 := ⟨_, rfl⟩
  have hin : inArrs none = noArrs ver := by rw [hver]; rfl
  rw [hin]
  clear hin hver
  simp only [Tryz.f183, Go1]
  refine seq_step ⟨[p.cells d], noArrs ver⟩ (fun E => E 1 = .box 0 0) ?_ ?_
  · simp
  intro E z1
  refine seq_step ⟨[p.cells d], arrW 6 (ver 6 + 1) 9 [] ver⟩ (fun E => E 1 = .box 0 0 ∧ E 3 = .arr 6 (ver 6 + 1) 0 0) ?_ ?_
  · simp [z1, Mem.made, sealRows, noArrs_put]
  rintro E ⟨z1, z3⟩
  by_cases hT0 : T = []
  · have hb : p.ba = [] := by rw [hT0] at hT; exact (List.append_eq_nil_iff.1 hT.symm).2
    have hf : p.ne.flatten = [] := by rw [hT0] at hT; exact (List.append_eq_nil_iff.1 hT.symm).1
    rw [acode_seq, acode_seq]
    refine acode_cutE ⟨[p.cells d], arrW 6 (ver 6 + 1) 9 [] ver⟩ (fun E => E 3 = .arr 6 (ver 6 + 1) 0 0 ∧ E 12 = .nil ∧ E 13 = .v (.int .i64 0) ∧ E 14 = .v (.int .i64 0)) ?_ ?_
    · simp
      refine adraw_all (by kernel_rfl) ?_
      simp [z1, z3]
      refine call_p (c_concatT0 d d p.ne (by omega) hf) (by simp) ?_
      simp [z1, z3, hb, aappend, arrW, noArrs]
    rintro E ⟨z3, z12, z13, z14⟩
    rw [hT0, kSeq_normal]
    simp
    refine aloop (α := Unit) (fun _ => ⟨envOf [(3, .arr 6 (ver 6 + 1) 0 0), (12, .nil), (13, .v (.int .i64 0)), (14, .v (.int .i64 0))], ⟨[p.cells d], arrW 6 (ver 6 + 1) 9 [] ver⟩⟩)
      (fun _ => True) (fun _ => 0) () (less_envOf (by simp [z3, z12, z13, z14]) rfl fun _ => rfl) trivial ?_
    intro _ _
    simp
    refine call_o 6 (ver 6 + 1) 9 (([] : List ByteArray).map strCells) (by simp) (o_sorted [] (by simp)) (by simp) (by simp) (fr_str _) ?_
    simp [putS, arrW]
  rw [acode_seq, acode_seq]
  refine acode_cut (fun s => ∃ w, s.mem = ⟨[p.cells d], arrV ver (ver 6 + 1) [] w T⟩ ∧ s.env 3 = .arr 6 (ver 6 + 1) 0 0 ∧ s.env 12 = .arr 12 w 0 T.length ∧ s.env 13 = .v (.int .i64 T.length) ∧ s.env 14 = .v (.int .i64 0)) ?_ ?_
  · by_cases hf : p.ne.flatten = []
    · have hTb : T = p.ba := by rw [hT, hf]; rfl
      have hb0 : p.ba ≠ [] := by rw [← hTb]; exact hT0
      have hro : p.ba.length * 64 ≤ 140737488355328 := by omega
      simp
      refine adraw_g [0, 1, 2, 3, 4, 5, 6, 7] [5, 6] [⟨[p.cells d], arrW 6 (ver 6 + 1) 9 [] ver⟩, ⟨[p.cells d], arrV ver (ver 6 + 1) [] (ver 12 + 1) T⟩, ⟨[p.cells d], arrV ver (ver 6 + 1) [] (ver 12 + 1) T⟩]
        [.box 0 6, .sl d (p.ne.map (clauseCells d)), .nil, .box 0 7, .sl d (p.ba.map Trm.cells), .arr 12 (ver 12 + 1) 0 T.length, .v (.int .i64 T.length), .v (.int .i64 0)] (by decide +kernel) rfl rfl ?_
      simp [tellG_cons, tellG_nil, onTell, yieldsTo, z1, z3]
      have hc0 := c_concatT0 d d p.ne (by omega) hf
      have hn12 : ver 12 + 1 ≠ 0 := by omega
      refine ⟨⟨call_p hc0 (by simp) rfl, call_p hc0 (by simp) rfl⟩, ?_, ?_⟩
      · have hb1 : p.ba.map Trm.cells ≠ [] := by simpa using hb0
        simp [aappend, hro, hb0, Mem.made, arrV_made, arrW_12, hTb]
      · have x6 : List.idxOf 6 [5, 6] = 1 := by decide
        simp [x6, arrV_12, z3]
    · have hro : (p.ne.flatten.length + p.ba.length) * 64 ≤ 140737488355328 := by omega
      have x5 : List.idxOf 5 [2, 5, 6] = 1 := by decide
      have x6 : List.idxOf 6 [2, 5, 6] = 2 := by decide
      simp
      refine adraw_g [0, 1, 2, 3, 4, 5, 6, 7] [2, 5, 6] [⟨[p.cells d], arrW 6 (ver 6 + 1) 9 [] ver⟩, ⟨[p.cells d], arrV ver (ver 6 + 1) [] (ver 12 + 1) p.ne.flatten⟩, ⟨[p.cells d], arrV ver (ver 6 + 1) [] (ver 12 + 1 + 1) T⟩, ⟨[p.cells d], arrV ver (ver 6 + 1) [] (ver 12 + 1 + 1) T⟩]
        [.box 0 6, .sl d (p.ne.map (clauseCells d)), .arr 12 (ver 12 + 1) 0 p.ne.flatten.length, .box 0 7, .sl d (p.ba.map Trm.cells), .arr 12 (ver 12 + 1 + 1) 0 T.length, .v (.int .i64 T.length), .v (.int .i64 0)] (by decide +kernel) rfl rfl ?_
      simp [tellG_cons, tellG_nil, onTell, yieldsTo, z1, z3, x5, x6, -List.length_flatten, -List.map_flatten]
      refine ⟨call_n 12 (c_concatT d d p.ne (by omega) k4 hf) (by simp) (by simp [arrV_made, arrW_12, -List.length_flatten, -List.map_flatten]), ?_, ?_⟩
      · have e1 : p.ne.flatten.map Trm.cells ++ p.ba.map Trm.cells = T.map Trm.cells := by rw [hT, List.map_append]
        have e2 : p.ne.flatten.length + p.ba.length = T.length := by rw [hT, List.length_append]
        have hro2 : T.length * 64 ≤ 140737488355328 := by omega
        simp [aappend, hro2, arrV_12, e1, e2, arrV_turn, -List.length_flatten, -List.map_flatten]
      · simp [arrV_12, z3]
  · rintro ⟨E, M⟩ ⟨w, hM, z3, z12, z13, z14⟩
    simp only at hM z3 z12 z13 z14
    subst hM
    rw [kSeq_normal]
    simp
    refine aloop (α := Nat × Nat × List (List AV)) (fun q => ⟨envOf [(3, .arr 6 q.2.1 0 q.1), (12, .arr 12 w 0 T.length), (13, .v (.int .i64 T.length)), (14, .v (.int .i64 q.1))], ⟨[p.cells d] ++ q.2.2, arrV ver q.2.1 ((T.take q.1).map Trm.n) w T⟩⟩)
      (fun q => q.1 ≤ T.length) (fun q => T.length - q.1) (0, ver 6 + 1, []) (less_envOf (by simp [z3, z12, z13, z14]) (by simp) (by simp)) (Nat.zero_le _) ?_
    rintro ⟨i, v, B⟩ hi
    simp only at hi ⊢
    by_cases hlt : i < T.length
    · have hw := wrapS hlt (by omega)
      have hro : (i + 1) * 16 ≤ 140737488355328 := by omega
      have hmin : min i T.length = i := by omega
      simp [hlt, arrV, aappend, sealRows, sealCells, List.range_succ, hro, hmin]
      refine ⟨i + 1, ⟨v + 1, B ++ [T[i].cells], less_envOf (by simp [hw]) (by simp) ?_⟩, by omega, by omega⟩
      intro j
      by_cases h12 : j = 12
      · simp [h12, arrV]
      · by_cases h6 : j = 6
        · simp [h6, arrV]
          rw [List.take_succ_eq_append_getElem (by simpa using hlt)]
          simp [strCells]
        · simp [h6, h12, arrV]
    · have e : i = T.length := by omega
      subst e
      rw [List.take_length]
      simp
      refine call_o 6 v 9 ((T.map Trm.n).map strCells) (by simp [arrV]) (o_sorted (T.map Trm.n) (by simp; omega)) (by simp [arrV]) (by simp) (fr_str _) ?_
      simp

end Go.Proofs.YtokhnmchnfkiiaaGreat.Am

/- MentionsOf of the program. No conditions. -/
namespace Go.Proofs.YtokhnmchnfkiiaaGreat.Am
open Go Go.RowKit Go.Proofs
set_option linter.unusedSimpArgs false
set_option linter.unusedVariables false

end Go.Proofs.YtokhnmchnfkiiaaGreat.Am
