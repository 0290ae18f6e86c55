/- The texts of catalogs, by the reference. No conditions. -/
import Derived.Test.YtokhnmchnfkiiaaDoorAmE6
namespace Go.Proofs.YtokhnmchnfkiiaaDoor.Am
open Go Go.RowKit Go.Proofs
set_option linter.unusedSimpArgs false
set_option linter.unusedVariables false

set_option maxHeartbeats 4000000 in
theorem p_line (w : ByteArray) (hw : w.size ≤ 5) (c : Bool) (l : List Trm) (hl : l.length ≤ 4) (ht : ∀ t ∈ l, trmF t = 0) : Pure Tryd.prog 79 [.v (.string w), trmsAV c l] (.v (.string (lnS w (l.map tTx)))) := by
  refine pure_of_code (G := (G0)) vers0 mixed0 Tryd.func79 rfl (by decide) (by simp [Tryd.f79]) (by simp) fun ver => ?_
  simp only [Tryd.f79, G0]
  simp
  refine aloop (α := Nat × ByteArray) (fun i => ⟨envOf [(0, .v (.string i.2)), (1, trmsAV c l), (5, .v (.int .i64 i.1))], ⟨[], noArrs ver⟩⟩)
    (fun i => i.1 ≤ l.length ∧ i.2.size ≤ 5 + i.1 * 6101 ∧ wordsS i.2 ((l.drop i.1).map tTx) = wordsS w (l.map tTx)) (fun i => l.length - i.1) (0, w) (less_envOf (by simp) rfl fun _ => rfl) (by simpa using hw) ?_
  rintro ⟨i, x⟩ ⟨g1, g2, g3⟩
  simp only at g1 g2 g3 ⊢
  by_cases hlt : i < l.length
  · have hw := wrapS hlt (by omega : l.length ≤ 4611686018427387904)
    rw [drop_get hlt] at g3
    have hm := List.getElem_mem hlt
    obtain ⟨T, hT⟩ : ∃ T, T = l[i] := ⟨_, rfl⟩
    rw [← hT] at g3 hm
    have hv := ht T hm
    have hs := tTx_size hv
    have hf := p_formatTerm T.n T.lo.a T.lo.b T.lo.c T.hi.a T.hi.b T.hi.c
    rw [fmtT_ok hv] at hf
    have y1 : x.size + 1 ≤ 140737488355328 := by omega
    have y2 : x.size + 1 + (tTx T).size ≤ 140737488355328 := by omega
    simp [hlt, lit32, y1, ← hT]
    refine call_p hf (by simp) ?_
    simp [lit32, y2]
    refine ⟨i + 1, x ++ ⟨#[32]⟩ ++ tTx T, less_envOf (by simp [hw]) rfl fun _ => rfl, ⟨by omega, ?_, ?_⟩, by omega⟩
    · simp only [ByteArray.size_append, lit32]
      omega
    · simpa [wordsS] using g3
  · rw [List.drop_eq_nil_of_le (by omega), List.map_nil] at g3
    have g3 : x = wordsS w (l.map tTx) := g3
    have y1 : x.size + 1 ≤ 140737488355328 := by omega
    simp [hlt, lit10, y1]
    rw [g3]
    rfl

theorem bd_needs {y a j : Nat} (h : y ≤ a + 12200 + j * 25000) (h2 : j ≤ 4) : y ≤ a + 112200 := by
  have h3 : j * 25000 ≤ 4 * 25000 := Nat.mul_le_mul_right _ h2
  omega
theorem bd_bars {y i j : Nat} (h : y ≤ i * 300000 + 112200 + j * 25000) (h2 : j ≤ 4) : y ≤ (i + 1) * 300000 := by
  have h3 : j * 25000 ≤ 4 * 25000 := Nat.mul_le_mul_right _ h2
  rw [Nat.succ_mul]
  have h4 : i * 300000 + 112200 + 4 * 25000 ≤ i * 300000 + 1 * 300000 := by
    rw [Nat.add_assoc]
    exact Nat.add_le_add_left (Nat.le_of_ble_eq_true rfl) _
  rw [Nat.one_mul] at h4
  exact Nat.le_trans h (Nat.le_trans (Nat.add_le_add_left h3 _) h4)

set_option maxHeartbeats 8000000 in
set_option maxRecDepth 20000 in
theorem p_catText (a b : Bool) (c : List Pk) (hc : catF c = 0) (hb : ∀ p ∈ c, p.Len) (h1 : c.length ≤ 4611686018427387904) : Pure Tryd.prog 41 [pksAV a b c] (.v (.string (catS c ⟨#[]⟩))) := by
  obtain ⟨hcl, hcp⟩ := catF_ok hc
  refine pure_of_code (G := (G0)) vers0 mixed0 Tryd.func41 rfl (by decide) (by simp [Tryd.f41]) (by simp) fun ver => ?_
  simp only [Tryd.f41, G0]
  simp
  refine call_p (p_cat a b c h1 hb) (by simp) ?_
  simp [hc]
  refine aloop (α := Nat × ByteArray × List (List AV)) (fun i => ⟨envOf [(0, pksAV a b c), (3, .v (.string i.2.1)), (4, .v (.int .i64 i.1))], ⟨i.2.2, noArrs ver⟩⟩)
    (fun i => i.1 ≤ c.length ∧ i.2.1.size ≤ i.1 * 300000 ∧ catS (c.drop i.1) i.2.1 = catS c ⟨#[]⟩) (fun i => c.length - i.1) (0, ⟨#[]⟩, []) (less_envOf (by simp) rfl fun _ => rfl) (by simp; rfl) ?_
  rintro ⟨i, x, bs⟩ ⟨g1, g2, g3⟩
  simp only at g1 g2 g3 ⊢
  by_cases hlt : i < c.length
  · have hw := wrapS hlt h1
    rw [drop_get hlt] at g3
    have hm := List.getElem_mem hlt
    obtain ⟨P, hP⟩ : ∃ P, P = c[i] := ⟨_, rfl⟩
    rw [← hP] at g3 hm
    have hf := packF_fit (hcp P hm)
    obtain ⟨S, hS, hS2⟩ := hf.s
    have z1 := head_size hf
    have z2 := gives_size hf
    have f1 := hf.n
    have f2 := verS_size hf.v
    have f3 := decS_size S
    obtain ⟨N, hN⟩ : ∃ N, N = bs.length := ⟨_, rfl⟩
    obtain ⟨B, hB⟩ : ∃ B, B = bs ++ [P.cells b] := ⟨_, rfl⟩
    have hBN : B[N]? = some [.v (.string P.n), .v (.int .i64 P.v.a), .v (.int .i64 P.v.b), .v (.int .i64 P.v.c), .v (.int .i64 S), .sl b (P.pr.map strCells), .sl b (P.ne.map (clauseCells b)), .sl b (P.ba.map Trm.cells)] := by rw [hB, hN, ← hS]; simp
    have hfv := p_formatVersion P.v.a P.v.b P.v.c
    rw [fmtV, if_pos hf.v] at hfv
    simp [hlt, ← hP, ← hN]
    simp only [Pk.cells] at hB
    simp [← hB]
    refine adraw_all (by kernel_rfl) ?_
    have l5 : (⟨#[112, 97, 99, 107, 32]⟩ : ByteArray).size = 5 := rfl
    have y1 : x.size + 5 ≤ 140737488355328 := by omega
    have y2 : x.size + 5 + P.n.size ≤ 140737488355328 := by omega
    have y3 : x.size + 5 + P.n.size + 1 ≤ 140737488355328 := by omega
    have y4 : x.size + 5 + P.n.size + 1 + (verS P.v.a P.v.b P.v.c).size ≤ 140737488355328 := by omega
    have y5 : x.size + 5 + P.n.size + 1 + (verS P.v.a P.v.b P.v.c).size + 1 ≤ 140737488355328 := by omega
    have y6 : x.size + 5 + P.n.size + 1 + (verS P.v.a P.v.b P.v.c).size + 1 + (decS S).size ≤ 140737488355328 := by omega
    have y7 : x.size + 5 + P.n.size + 1 + (verS P.v.a P.v.b P.v.c).size + 1 + (decS S).size + 1 ≤ 140737488355328 := by omega
    have eh : x ++ ⟨#[112, 97, 99, 107, 32]⟩ ++ P.n ++ ⟨#[32]⟩ ++ verS P.v.a P.v.b P.v.c ++ ⟨#[32]⟩ ++ decS S ++ ⟨#[10]⟩ = x ++ headS P := by
      have e5 : (⟨#[112, 97, 99, 107, 32]⟩ : ByteArray) = kPack ++ ⟨#[32]⟩ := rfl
      simp only [headS, lnS, wordsS, List.foldl, hS, Int.toNat_natCast, e5, ByteArray.append_assoc]
    simp [hBN, l5, lit32, lit10, y1, y2, y3]
    refine call_p hfv (by simp) ?_
    simp [hBN, l5, lit32, lit10, y4, y5]
    refine call_p (p_decimal S (by omega)) (by simp) ?_
    simp [hBN, l5, lit32, lit10, y6, y7, -acode_cond]
    rw [eh]
    have k1 : (x ++ headS P).size ≤ i * 300000 + 12100 := by rw [ByteArray.size_append]; omega
    obtain ⟨X, hX⟩ : ∃ X, X = x ++ headS P := ⟨_, rfl⟩
    rw [← hX] at k1
    rw [← hX]
    refine acode_cutE ⟨B, noArrs ver⟩ (fun E => E 0 = pksAV a b c ∧ E 3 = .v (.string (X ++ givesS P)) ∧ E 4 = .v (.int .i64 i) ∧ E 5 = .box N 0) ?_ ?_
    · by_cases hp : P.pr = []
      · have e : X ++ givesS P = X := by rw [givesS, if_pos hp]; exact ByteArray.append_empty
        simp [hp, e]
      · have h0 : 0 < P.pr.length := List.length_pos_iff.2 hp
        have e : X ++ givesS P = wordsS (X ++ kGives) P.pr ++ ⟨#[10]⟩ := by rw [givesS, if_neg hp, lnS, wordsS_app, ByteArray.append_assoc]
        have lg : (⟨#[103, 105, 118, 101, 115]⟩ : ByteArray).size = 5 := rfl
        have eg : (⟨#[103, 105, 118, 101, 115]⟩ : ByteArray) = kGives := rfl
        have u1 : X.size + 5 ≤ 140737488355328 := by omega
        simp [h0, lg, u1]
        refine aloop (α := Nat × ByteArray) (fun j => ⟨envOf [(0, pksAV a b c), (3, .v (.string j.2)), (4, .v (.int .i64 i)), (5, .box N 0), (6, .v (.int .i64 j.1))], ⟨B, noArrs ver⟩⟩)
          (fun j => j.1 ≤ P.pr.length ∧ j.2.size ≤ i * 300000 + 12105 + j.1 * 13 ∧ wordsS j.2 (P.pr.drop j.1) = wordsS (X ++ kGives) P.pr) (fun j => P.pr.length - j.1) (0, X ++ kGives) (less_envOf (by simp [eg]) rfl fun _ => rfl) (by have : kGives.size = 5 := rfl; simp [ByteArray.size_append, this]; omega) ?_
        rintro ⟨j, y⟩ ⟨q1, q2, q3⟩
        simp only at q1 q2 q3 ⊢
        have hpl := hf.pr.1
        by_cases hjt : j < P.pr.length
        · have hw2 := wrapS hjt (by omega : P.pr.length ≤ 4611686018427387904)
          rw [drop_get hjt] at q3
          have hmw := hf.pr.2 _ (List.getElem_mem hjt)
          obtain ⟨W, hW⟩ : ∃ W, W = P.pr[j] := ⟨_, rfl⟩
          rw [← hW] at q3 hmw
          have v1 : y.size + 1 ≤ 140737488355328 := by omega
          have v2 : y.size + 1 + W.size ≤ 140737488355328 := by omega
          simp [hBN, hjt, ← hW, lit32, v1, v2]
          refine ⟨j + 1, y ++ ⟨#[32]⟩ ++ W, less_envOf (by simp [hw2]) rfl fun _ => rfl, ⟨by omega, ?_, ?_⟩, by omega⟩
          · simp only [ByteArray.size_append, lit32]
            omega
          · exact q3
        · rw [List.drop_eq_nil_of_le (by omega)] at q3
          have q3 : y = wordsS (X ++ kGives) P.pr := q3
          have v1 : y.size + 1 ≤ 140737488355328 := by omega
          simp [hBN, hjt, lit10, v1, e]
          rw [q3]
    rintro E ⟨E0, E3, E4, E5⟩
    have k2 : (X ++ givesS P).size ≤ i * 300000 + 12200 := by rw [ByteArray.size_append]; omega
    obtain ⟨Y, hY⟩ : ∃ Y, Y = X ++ givesS P := ⟨_, rfl⟩
    rw [← hY] at k2 E3
    have g4 : catS (c.drop (i + 1)) (barsS (needsS Y P.ne) P.ba) = catS c ⟨#[]⟩ := by rw [hY, hX]; exact g3
    clear g3 hX hY k1
    obtain ⟨n1, n2⟩ := hf.ne
    obtain ⟨m1, m2⟩ := hf.ba
    simp
    refine aloop (α := Nat × ByteArray) (fun j => ⟨envOf [(0, pksAV a b c), (3, .v (.string j.2)), (4, .v (.int .i64 i)), (5, .box N 0), (7, .v (.int .i64 j.1))], ⟨B, noArrs ver⟩⟩)
      (fun j => j.1 ≤ P.ne.length ∧ j.2.size ≤ i * 300000 + 12200 + j.1 * 25000 ∧ needsS j.2 (P.ne.drop j.1) = needsS Y P.ne) (fun j => P.ne.length - j.1) (0, Y) (less_envOf (by simp [E0, E3, E4, E5]) rfl fun _ => rfl) (by simp; omega) ?_
    rintro ⟨j, y⟩ ⟨q1, q2, q3⟩
    simp only at q1 q2 q3 ⊢
    by_cases hjt : j < P.ne.length
    · have hw2 := wrapS hjt (by omega : P.ne.length ≤ 4611686018427387904)
      rw [drop_get hjt] at q3
      have hmw := n2 _ (List.getElem_mem hjt)
      obtain ⟨W, hW⟩ : ∃ W, W = P.ne[j] := ⟨_, rfl⟩
      rw [← hW] at q3 hmw
      have hs := need_size hmw
      have e5 : kNeeds.size = 5 := rfl
      have hl := p_line kNeeds (by omega) b W hmw.1 hmw.2
      have v1 : y.size + (lnS kNeeds (W.map tTx)).size ≤ 140737488355328 := by omega
      simp [hBN, hjt, ← hW]
      refine call_p hl (by simp) ?_
      simp [v1]
      refine ⟨j + 1, y ++ lnS kNeeds (W.map tTx), less_envOf (by simp [hw2]) rfl fun _ => rfl, ⟨by omega, ?_, ?_⟩, by omega⟩
      · simp only [ByteArray.size_append]
        omega
      · exact q3
    rw [List.drop_eq_nil_of_le (by omega)] at q3
    have q3 : y = needsS Y P.ne := q3
    rw [← q3] at g4
    clear q3
    have k3 : y.size ≤ i * 300000 + 112200 := bd_needs q2 (Nat.le_trans q1 n1)
    simp [hBN, hjt]
    refine aloop (α := Nat × ByteArray) (fun j => ⟨envOf [(0, pksAV a b c), (3, .v (.string j.2)), (4, .v (.int .i64 i)), (5, .box N 0), (8, .v (.int .i64 j.1))], ⟨B, noArrs ver⟩⟩)
      (fun j => j.1 ≤ P.ba.length ∧ j.2.size ≤ i * 300000 + 112200 + j.1 * 25000 ∧ barsS j.2 (P.ba.drop j.1) = barsS y P.ba) (fun j => P.ba.length - j.1) (0, y) (less_envOf (by simp) rfl fun _ => rfl) (by simp; omega) ?_
    rintro ⟨h, u⟩ ⟨r1, r2, r3⟩
    simp only at r1 r2 r3 ⊢
    by_cases hht : h < P.ba.length
    · have hw2 := wrapS hht (by omega : P.ba.length ≤ 4611686018427387904)
      rw [drop_get hht] at r3
      have hmw := m2 _ (List.getElem_mem hht)
      obtain ⟨W, hW⟩ : ∃ W, W = P.ba[h] := ⟨_, rfl⟩
      rw [← hW] at r3 hmw
      have hs := bar_size hmw
      have e5 : kBars.size = 4 := rfl
      have hl := p_line kBars (by omega) b [W] (by simp) (by simpa using hmw)
      have v1 : u.size + (lnS kBars [tTx W]).size ≤ 140737488355328 := by omega
      have i1 : 0 ≤ (h : Int) + 1 ∧ (h : Int) + 1 ≤ P.ba.length := by omega
      have i2 : h ≤ h + 1 := by omega
      have i3 : h + 1 - h = 1 := by omega
      have i4 : List.take 1 (List.drop h (List.map Trm.cells P.ba)) = [W.cells] := by
        rw [List.drop_eq_getElem_cons (by simpa using hht), hW]
        simp
      simp [hBN, hht, hw2, i1, i2, i3, i4]
      refine call_p hl (by simp) ?_
      simp [v1]
      refine ⟨h + 1, u ++ lnS kBars [tTx W], less_envOf (by simp [hw2]) rfl fun _ => rfl, ⟨by omega, ?_, ?_⟩, by omega⟩
      · simp only [ByteArray.size_append]
        omega
      · exact r3
    · rw [List.drop_eq_nil_of_le (by omega)] at r3
      have r3 : u = barsS y P.ba := r3
      rw [← r3] at g4
      simp [hBN, hht]
      exact ⟨i + 1, u, ⟨B, less_envOf (by simp [hw]) rfl fun _ => rfl⟩, ⟨by omega, bd_bars r2 (Nat.le_trans r1 m1), g4⟩, by omega⟩
  · rw [List.drop_eq_nil_of_le (by omega)] at g3
    have g3 : x = catS c ⟨#[]⟩ := g3
    simp [hlt, g3]

end Go.Proofs.YtokhnmchnfkiiaaDoor.Am
