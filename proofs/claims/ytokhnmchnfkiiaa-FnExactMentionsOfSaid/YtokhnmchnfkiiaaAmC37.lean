/- The names that a package mentions, as both sides find them. No conditions. -/
import Derived.Test.YtokhnmchnfkiiaaAmC36
namespace Go.Proofs.Ytokhnmchnfkiiaa.Am
open Go Go.RowKit Go.Proofs
set_option linter.unusedSimpArgs false
set_option linter.unusedVariables false

/-- A list of names that begins as nil. -/
def slN : List ByteArray → AV
  | [] => .nil
  | a :: l => .sl false ((a :: l).map strCells)
@[simp ↓ high] theorem lend_slN (m : Mem) (l : List ByteArray) : lend m (slN l) = .sl l.isEmpty (l.map strCells) := by
  cases l <;> rfl
@[simp ↓ high] theorem lend1_slN (m : Mem) (l : List ByteArray) : lend1 m (slN l) = .sl l.isEmpty (l.map strCells) := by
  cases l <;> rfl
@[simp ↓ high] theorem fin_slN (m : Mem) (l : List ByteArray) : fin m (slN l) = .sl false (l.map strCells) := by
  cases l <;> rfl
@[simp ↓ high] theorem fin1_slN (m : Mem) (l : List ByteArray) : fin1 m (slN l) = .sl false (l.map strCells) := by
  cases l <;> rfl
@[simp] theorem one_slN (l : List ByteArray) : (slN l).one = true := by cases l <;> rfl
theorem insS_ne (v : ByteArray) (l : List ByteArray) : insS v l ≠ [] := by
  cases l with
  | nil => simp [insS]
  | cons a l => unfold insS; split <;> (try split) <;> simp
theorem slN_ins (v : ByteArray) (l : List ByteArray) : slN (insS v l) = .sl false ((insS v l).map strCells) := by
  cases h : insS v l with
  | nil => exact absurd h (insS_ne v l)
  | cons a r => rfl
theorem empty_or (l : List ByteArray) : l.isEmpty = false ∨ l = [] := by cases l <;> simp

def mentT (p : Pk) : List ByteArray := p.ne.flatten.map Trm.n ++ p.ba.map Trm.n
theorem putS_cons (l : List ByteArray) (v : ByteArray) (vs : List ByteArray) : putS l (v :: vs) = putS (insS v l) vs := rfl
theorem putS_nil (l : List ByteArray) : putS l [] = l := rfl

set_option maxHeartbeats 4000000 in
set_option maxRecDepth 10000 in
theorem p_l5ment (d : Bool) (p : Pk) (hok : p.Ok) : Pure Try.prog 83 [p.av d] (.sl false ((putS [] (mentT p)).map strCells)) := by
  obtain ⟨k1, k2, k3, k4⟩ := hok
  obtain ⟨T, hT⟩ : ∃ T, T = putS [] (mentT p) := ⟨_, rfl⟩
  rw [← hT]
  refine pure_of_code (G := (G0)) vers0 mixed0 Try.func83 rfl (by decide) (by simp [Try.f83]) (by simp) fun ver => ?_
  simp only [Try.f83, G0]
  simp
  refine aloop (α := Nat × List ByteArray) (fun q => ⟨envOf [(1, .box 0 0), (3, slN q.2), (4, .v (.int .i64 q.1))], ⟨[p.cells d], noArrs ver⟩⟩)
    (fun q => q.1 ≤ p.ne.length ∧ Rise q.2 ∧ q.2.length ≤ 4 * q.1 ∧ putS q.2 ((p.ne.drop q.1).flatten.map Trm.n ++ p.ba.map Trm.n) = T) (fun q => p.ne.length - q.1) (0, []) (less_envOf (by simp [slN]) rfl fun _ => rfl) ⟨Nat.zero_le _, by simp [Rise], by simp, by simpa [mentT] using hT.symm⟩ ?_
  rintro ⟨i, out⟩ ⟨h1, h2, h3, h4⟩
  simp only at h1 h2 h3 h4 ⊢
  by_cases hlt : i < p.ne.length
  · have hw := wrapS hlt (by omega)
    have hq := k4 _ (List.getElem_mem hlt)
    rw [drop_get hlt, List.flatten_cons, List.map_append, List.append_assoc] at h4
    simp [hlt]
    refine aloop (α := Nat × List ByteArray) (fun q => ⟨envOf [(1, .box 0 0), (3, slN q.2), (4, .v (.int .i64 i)), (5, .v (.int .i64 q.1))], ⟨[p.cells d], noArrs ver⟩⟩)
      (fun q => q.1 ≤ p.ne[i].length ∧ Rise q.2 ∧ q.2.length ≤ 4 * i + q.1 ∧ putS q.2 ((p.ne[i].drop q.1).map Trm.n ++ ((p.ne.drop (i + 1)).flatten.map Trm.n ++ p.ba.map Trm.n)) = T) (fun q => p.ne[i].length - q.1) (0, out) (less_envOf (by simp) rfl fun _ => rfl) ⟨Nat.zero_le _, h2, by simpa using h3, by simpa using h4⟩ ?_
    rintro ⟨j, o2⟩ ⟨g1, g2, g3, g4⟩
    simp only at g1 g2 g3 g4 ⊢
    by_cases hj : j < p.ne[i].length
    · have hwj := wrapS hj (by omega)
      rw [drop_get hj, List.map_cons, List.cons_append, putS_cons] at g4
      simp [hlt, hj]
      refine call_p (p_l5put o2.isEmpty o2 (by omega) g2 p.ne[i][j].n (empty_or o2)) (by simp) ?_
      simp
      exact ⟨j + 1, insS p.ne[i][j].n o2, less_envOf (by simp [hwj, slN_ins]) rfl fun _ => rfl, ⟨by omega, insS_rise _ g2, by have := insS_len p.ne[i][j].n o2; omega, by simpa using g4⟩, by omega⟩
    · have e : j = p.ne[i].length := by omega
      rw [List.drop_eq_nil_of_le (by omega), List.map_nil, List.nil_append] at g4
      simp [hlt, hj]
      exact ⟨i + 1, o2, less_envOf (by simp [hw]) rfl fun _ => rfl, ⟨by omega, g2, by omega, by simpa using g4⟩, by omega⟩
  · rw [List.drop_eq_nil_of_le (by omega), List.flatten_nil, List.map_nil, List.nil_append] at h4
    simp [hlt]
    refine aloop (α := Nat × List ByteArray) (fun q => ⟨envOf [(1, .box 0 0), (3, slN q.2), (6, .v (.int .i64 q.1))], ⟨[p.cells d], noArrs ver⟩⟩)
      (fun q => q.1 ≤ p.ba.length ∧ Rise q.2 ∧ q.2.length ≤ 16 + q.1 ∧ putS q.2 ((p.ba.drop q.1).map Trm.n) = T) (fun q => p.ba.length - q.1) (0, out) (less_envOf (by simp) rfl fun _ => rfl) ⟨Nat.zero_le _, h2, by simp only; omega, by simpa using h4⟩ ?_
    rintro ⟨j, o2⟩ ⟨g1, g2, g3, g4⟩
    simp only at g1 g2 g3 g4 ⊢
    by_cases hj : j < p.ba.length
    · have hwj := wrapS hj (by omega)
      rw [drop_get hj, List.map_cons, putS_cons] at g4
      simp [hj]
      refine call_p (p_l5put o2.isEmpty o2 (by omega) g2 p.ba[j].n (empty_or o2)) (by simp) ?_
      simp
      exact ⟨j + 1, insS p.ba[j].n o2, less_envOf (by simp [hwj, slN_ins]) rfl fun _ => rfl, ⟨by omega, insS_rise _ g2, by have := insS_len p.ba[j].n o2; omega, by simpa using g4⟩, by omega⟩
    · rw [List.drop_eq_nil_of_le (by omega), List.map_nil, putS_nil] at g4
      simp [hj, g4]

/-- slices.Grow of nil, slices.Concat of lists of terms. -/
theorem wrap0 : IntKind.i64.wrap 0 = 0 := by decide
theorem c_growT (n : Nat) (h0 : 0 < n) (hn : n ≤ 1000000) : OCall Try.prog 138 none [.nil, .v (.int .i64 n)] (some (false, 28, [])) (.arr 0 0 0 0) := by
  have e1 : IntKind.i64.wrap (n : Int) = n := IntWalk.i64_in _ (by omega)
  refine own_of_code (G := Go1 25) (verso 25) mixed0 Try.func138 rfl (by decide) (by simp [Try.f138]) 22 .dead (by intro s e es h; cases h; intro q hq; cases hq) ?_
  simp only [Try.f138, Go1, inArrs]
  have h1 : ¬ (n : Int) < 0 := by omega
  have h2 : (0 : Int) < n := by omega
  have h3 : (n : Int) * 64 ≤ 140737488355328 := by omega
  have h4 : (n : Int) ≤ 140737488355328 := by omega
  simp [h0, h1, h2, h3, h4, e1, aappendZ, Mem.made, wrap0]

theorem c_growT0 : Pure Try.prog 138 [.nil, .v (.int .i64 0)] .nil := by
  refine nil_of_code (G := G0) vers0 mixed0 Try.func138 rfl (by decide) (by simp [Try.f138]) fun ver => ?_
  simp only [Try.f138, G0]
  simp [wrap0]

theorem sum_len (ne : List (List Trm)) (i : Nat) (h : i < ne.length) : (ne.take (i + 1)).flatten.length = (ne.take i).flatten.length + ne[i].length := by
  rw [List.take_succ_eq_append_getElem h]
  simp only [List.flatten_append, List.length_append, List.flatten_cons, List.flatten_nil, List.append_nil]
theorem flat_len (ne : List (List Trm)) (h : ∀ q ∈ ne, q.length ≤ 4) : ne.flatten.length ≤ 4 * ne.length := by
  induction ne with
  | nil => simp
  | cons q r ih =>
    have h1 := h q (by simp)
    have h2 := ih fun x hx => h x (by simp [hx])
    rw [List.flatten_cons, List.length_append, List.length_cons]
    omega

set_option maxRecDepth 10000 in
theorem c_concatT (k k' : Bool) (ne : List (List Trm)) (h1 : ne.length ≤ 1000) (h4 : ∀ q ∈ ne, q.length ≤ 4) (hne : ne.flatten ≠ []) :
    OCall Try.prog 122 none [.sl k (ne.map (clauseCells k'))] (some (false, 28, ne.flatten.map Trm.cells)) (.arr 0 0 0 ne.flatten.length) := by
  have hfl := flat_len ne h4
  have hpos : 0 < ne.flatten.length := List.length_pos_iff.2 hne
  refine own_of_code (G := G0) vers0 mixed0 Try.func122 rfl (by decide) (by simp [Try.f122]) 24 .dead (by intro s e es h; cases h; exact fr_trm _) ?_
  obtain ⟨ver, hver⟩ : ∃ ver : Nat → Nat, ver = fun _ => 0 := ⟨_, rfl⟩
  have hin : inArrs none = noArrs ver := by rw [hver]; rfl
  rw [hin]
  clear hin hver
  simp only [Try.f122, G0]
  simp
  refine aloop (α := Nat) (fun i => ⟨envOf [(0, .sl k (ne.map (clauseCells k'))), (3, .v (.int .i64 (ne.take i).flatten.length)), (9, .sl k (ne.map (clauseCells k'))), (10, .v (.int .i64 ne.length)), (11, .v (.int .i64 i))], ⟨[], noArrs ver⟩⟩)
    (fun i => i ≤ ne.length) (fun i => ne.length - i) 0 (less_envOf (by simp) rfl fun _ => rfl) (Nat.zero_le _) ?_
  intro i hi
  by_cases hlt : i < ne.length
  · have hw := wrapS hlt (by omega)
    have hs := sum_len ne i hlt
    have hq := h4 _ (List.getElem_mem hlt)
    have hf2 := flat_len (ne.take i) fun q hq => h4 q (List.mem_of_mem_take hq)
    rw [List.length_take] at hf2
    obtain ⟨N, hN⟩ : ∃ N, N = (ne.take i).flatten.length := ⟨_, rfl⟩
    rw [← hN] at hs hf2
    rw [← hN]
    have hw2 : IntKind.i64.wrap ((N : Int) + (ne[i].length : Int)) = ((ne.take (i + 1)).flatten.length : Int) := by rw [hs, IntWalk.i64_in _ (by omega)]; omega
    have hng : ¬ ((ne.take (i + 1)).flatten.length : Int) < 0 := by omega
    obtain ⟨N2, hN2⟩ : ∃ N2, N2 = (ne.take (i + 1)).flatten.length := ⟨_, rfl⟩
    rw [← hN2] at hw2 hng
    simp [hlt, hw2, hng, -List.length_flatten]
    exact ⟨i + 1, less_envOf (by simp [hw, ← hN2, -List.length_flatten]) rfl fun _ => rfl, by omega, by omega⟩
  · have e : i = ne.length := by omega
    subst e
    rw [List.take_length]
    simp
    refine call_nN 24 (c_growT ne.flatten.length hpos (by omega)) (by simp [lendN]) (by simp) ?_
    simp
    refine aloop (α := Nat × Nat) (fun d => ⟨envOf [(6, .arr 24 d.2 0 (ne.take d.1).flatten.length), (25, .sl k (ne.map (clauseCells k'))), (26, .v (.int .i64 ne.length)), (27, .v (.int .i64 d.1))], ⟨[], arrG 24 ver d.2 28 ((ne.take d.1).flatten.map Trm.cells)⟩⟩)
      (fun d => d.1 ≤ ne.length) (fun d => ne.length - d.1) (0, ver 24 + 1) (less_envOf (by simp [noArrs]) rfl (by intro j; simp [arrG, noArrs])) (Nat.zero_le _) ?_
    rintro ⟨j, v⟩ hj
    simp only at hj ⊢
    by_cases hl : j < ne.length
    · have hw := wrapS hl (by omega)
      have hs := sum_len ne j hl
      have hq := h4 _ (List.getElem_mem hl)
      have hf2 := flat_len (ne.take j) fun q hq => h4 q (List.mem_of_mem_take hq)
      rw [List.length_take] at hf2
      have hap : (ne.take (j + 1)).flatten = (ne.take j).flatten ++ ne[j] := by rw [List.take_succ_eq_append_getElem hl, List.flatten_append, List.flatten_cons, List.flatten_nil, List.append_nil]
      obtain ⟨N, hN⟩ : ∃ N, N = (ne.take j).flatten := ⟨_, rfl⟩
      rw [← hN] at hs hf2 hap
      rw [← hN]
      have hro : (N.length + ne[j].length) * 64 ≤ 140737488355328 := by omega
      simp [hl, aappend, arrG, hro, -List.length_flatten, -List.map_flatten]
      refine ⟨j + 1, ⟨v + 1, less_envOf (by simp [hw, hap, -List.length_flatten, -List.map_flatten]) rfl ?_⟩, by omega, by omega⟩
      intro q
      by_cases hq2 : q = 24 <;> simp [hq2, arrG, hap, -List.map_flatten]
    · have e : j = ne.length := by omega
      subst e
      rw [List.take_length]
      simp [arrG, Function.comp_def]

theorem c_concatT0 (k k' : Bool) (ne : List (List Trm)) (h1 : ne.length ≤ 1000) (hne : ne.flatten = []) :
    Pure Try.prog 122 [.sl k (ne.map (clauseCells k'))] .nil := by
  have hall : ∀ q ∈ ne, q = [] := List.flatten_eq_nil_iff.1 hne
  refine nil_of_code (G := G0) vers0 mixed0 Try.func122 rfl (by decide) (by simp [Try.f122]) fun ver => ?_
  simp only [Try.f122, G0]
  simp
  refine aloop (α := Nat) (fun i => ⟨envOf [(0, .sl k (ne.map (clauseCells k'))), (3, .v (.int .i64 0)), (9, .sl k (ne.map (clauseCells k'))), (10, .v (.int .i64 ne.length)), (11, .v (.int .i64 i))], ⟨[], noArrs ver⟩⟩)
    (fun i => i ≤ ne.length) (fun i => ne.length - i) 0 (less_envOf (by simp) rfl fun _ => rfl) (Nat.zero_le _) ?_
  intro i hi
  by_cases hlt : i < ne.length
  · have hw := wrapS hlt (by omega)
    have hq := hall _ (List.getElem_mem hlt)
    simp [hlt, hq, wrap0]
    exact ⟨i + 1, less_envOf (by simp [hw]) rfl fun _ => rfl, by omega, by omega⟩
  · have e : i = ne.length := by omega
    subst e
    simp
    refine call_pN c_growT0 (by simp [lendN]) (by simp) ?_
    simp
    refine aloop (α := Nat) (fun d => ⟨envOf [(6, .nil), (25, .sl k (ne.map (clauseCells k'))), (26, .v (.int .i64 ne.length)), (27, .v (.int .i64 d))], ⟨[], noArrs ver⟩⟩)
      (fun d => d ≤ ne.length) (fun d => ne.length - d) 0 (less_envOf (by simp) rfl fun _ => rfl) (Nat.zero_le _) ?_
    intro j hj
    by_cases hl : j < ne.length
    · have hw := wrapS hl (by omega)
      have hq := hall _ (List.getElem_mem hl)
      simp [hl, hq, aappend]
      exact ⟨j + 1, less_envOf (by simp [hw]) rfl fun _ => rfl, by omega, by omega⟩
    · simp [hl]

end Go.Proofs.Ytokhnmchnfkiiaa.Am
