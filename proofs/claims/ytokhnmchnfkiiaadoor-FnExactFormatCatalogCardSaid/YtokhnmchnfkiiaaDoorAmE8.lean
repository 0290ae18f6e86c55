/- The texts of catalogs, by the program. No conditions. -/
import Derived.Test.YtokhnmchnfkiiaaDoorAmE7
import Derived.Test.YtokhnmchnfkiiaaDoorAmCg20
import Derived.Test.YtokhnmchnfkiiaaDoorAmCg3
namespace Go.Proofs.YtokhnmchnfkiiaaDoor.Am
open Go Go.RowKit Go.Proofs
set_option linter.unusedSimpArgs false
set_option linter.unusedVariables false

def arrE (p : Nat) (ver : Nat → Nat) (v : Nat) (e : TypeId) (es : List (List AV)) : Nat → ArrSt := fun j => if j = p then ⟨v, true, e, es⟩ else ⟨ver j, false, 0, []⟩

set_option maxHeartbeats 4000000 in
set_option maxRecDepth 10000 in
theorem q_termWords (c : Bool) (l : List Trm) (hl : l.length ≤ 4) (ht : ∀ t ∈ l, trmF t = 0) : Pure Tryd.prog 84 [trmsAV c l] (strsAV false (l.map tTx)) := by
  refine pure_of_code (G := (Go1 6)) (verso 6) mixed0 Tryd.func84 rfl (by decide) (by simp [Tryd.f84]) (by simp) fun ver => ?_
  simp only [Tryd.f84, Go1]
  simp [Mem.made, noArrs, sealRows]
  refine aloop (α := Nat × Nat × List (List AV)) (fun d => ⟨envOf [(3, .arr 6 d.2.1 0 d.1), (7, trmsAV c l), (8, .v (.int .i64 l.length)), (9, .v (.int .i64 d.1))], ⟨d.2.2, arrE 6 ver d.2.1 9 ((l.take d.1).map fun t => strCells (tTx t))⟩⟩)
    (fun d => d.1 ≤ l.length) (fun d => l.length - d.1) (0, ver 6 + 1, []) (less_envOf (by simp) rfl (by intro j; simp [arrE])) (by simp) ?_
  rintro ⟨i, w, bs⟩ h1
  simp only at h1 ⊢
  by_cases hlt : i < l.length
  · have hw := wrapS hlt (by omega : l.length ≤ 4611686018427387904)
    have hm := List.getElem_mem hlt
    obtain ⟨T, hT⟩ : ∃ T, T = l[i] := ⟨_, rfl⟩
    rw [← hT] at hm
    have hv := ht T hm
    have hf := q_formatTerm T.n T.lo.a T.lo.b T.lo.c T.hi.a T.hi.b T.hi.c
    rw [fmtT_ok hv] at hf
    have hro : (i + 1) * 16 ≤ 140737488355328 := by omega
    have hmin : min i l.length = i := by omega
    simp [hlt, ← hT]
    refine call_p hf (by simp) ?_
    simp [aappend, arrE, sealRows, sealCells, List.range_succ, hro, hmin]
    refine ⟨i + 1, ⟨w + 1, _, less_envOf (by simp [hw]) rfl ?_⟩, by omega, by omega⟩
    intro j
    by_cases hj : j = 6
    · simp [hj, arrE, List.take_add_one, List.getElem?_eq_getElem hlt, hT]
    · simp [hj, arrE]
  · have e : i = l.length := by omega
    subst e
    simp [hlt, arrE]

set_option maxHeartbeats 4000000 in
set_option maxRecDepth 10000 in
/-- The closure that writes a line behind the text. -/
theorem s_line (x w : ByteArray) (hx : x.size ≤ 100000000) (hw : w.size ≤ 5) (c : Bool) (l : List ByteArray) (hl : l.length ≤ 4) (hs : ∀ y ∈ l, y.size ≤ 6100) (bs : List (List AV)) (k : Nat) (hk : bs[k]? = some [.v (.string x)]) :
    SCall Tryd.prog 81 [.v (.string w), strsAV c l, .box k 0] bs (fun j => j == k) (bs.set k [.v (.string (x ++ lnS w l))]) (.tup []) := by
  have hkl := (List.getElem?_eq_some_iff.1 hk).1
  have hz := wordsS_size l hs w
  have hz2 : l.length * (6100 + 1) ≤ 4 * 6101 := Nat.mul_le_mul_right _ hl
  have hq := q_joined true (w :: l) (by simp) (by simp; omega) (by rw [joinS_words]; omega)
  rw [joinS_words] at hq
  refine scode (o := (fun t => t == 7)) Tryd.func81 rfl (by decide) hkl (by simp [Tryd.f81]) (by simp) (by simp) fun ver => ?_
  simp only [Tryd.f81, Gs]
  simp [hk]
  refine adraw_i [0, 1, 3] [2, 4, 5, 6] [7, 8] (fun mm => mm.boxes = bs) [.v (.string x), .v (.string w), strsAV c l] (by decide +kernel) rfl ?_
  simp +contextual [yieldsTo, hk]
  have hro : (1 + l.length) * 16 ≤ 140737488355328 := by omega
  have y1 : (wordsS w l).size + 1 ≤ 140737488355328 := by omega
  have y2 : x.size + ((wordsS w l).size + 1) ≤ 140737488355328 := by omega
  have htk : List.take (1 + l.length) ([AV.v (.string w)] :: l.map strCells) = (w :: l).map strCells := List.take_of_length_le (by simp; omega)
  simp [Mem.made, sealRows, sealCells, aappend, hro, htk]
  refine call_p hq (by simp) ?_
  simp [lit10, y1, y2, lnS, hk]

set_option maxHeartbeats 8000000 in
set_option maxRecDepth 20000 in
theorem q_catText (a b : Bool) (c : List Pk) (hc : catF c = 0) (hb : ∀ p ∈ c, p.Len) (h1 : c.length ≤ 4611686018427387904) : Pure Tryd.prog 42 [pksAV a b c] (.v (.string (catS c ⟨#[]⟩))) := by
  obtain ⟨hcl, hcp⟩ := catF_ok hc
  refine pure_of_code (G := (G0)) vers0 mixed0 Tryd.func42 rfl (by decide) (by simp [Tryd.f42]) (by simp) fun ver => ?_
  simp only [Tryd.f42, G0]
  simp
  refine call_p (q_cat a b c h1 hb) (by simp) ?_
  simp [hc]
  refine aloop (α := Nat × ByteArray × List (List AV)) (fun i => ⟨envOf [(3, .box 0 0), (4, .clo 81 [] [.box 0 0]), (15, pksAV a b c), (16, .v (.int .i64 c.length)), (17, .v (.int .i64 i.1))], ⟨i.2.2, noArrs ver⟩⟩)
    (fun i => i.1 ≤ c.length ∧ i.2.1.size ≤ i.1 * 300000 ∧ catS (c.drop i.1) i.2.1 = catS c ⟨#[]⟩ ∧ i.2.2[0]? = some [.v (.string i.2.1)]) (fun i => c.length - i.1) (0, ⟨#[]⟩, [[.v (.string ⟨#[]⟩)]]) (less_envOf (by simp) rfl fun _ => rfl) ⟨by simp, Nat.zero_le _, rfl, rfl⟩ ?_
  rintro ⟨i, x, bs⟩ ⟨g1, g2, g3, g5⟩
  simp only at g1 g2 g3 g5 ⊢
  by_cases hlt : i < c.length
  · have hw := wrapS hlt h1
    rw [drop_get hlt] at g3
    have hm := List.getElem_mem hlt
    obtain ⟨P, hP⟩ : ∃ P, P = c[i] := ⟨_, rfl⟩
    rw [← hP] at g3 hm
    have hf := packF_fit (hcp P hm)
    obtain ⟨S, hS, hS2⟩ := hf.s
    have z1 := head_size hf
    have z2 := gives_size hf
    have f1 := hf.n
    have f2 := verS_size hf.v
    have f3 := decS_size S
    obtain ⟨N, hN⟩ : ∃ N, N = bs.length := ⟨_, rfl⟩
    obtain ⟨B, hB⟩ : ∃ B, B = bs ++ [P.cells b] := ⟨_, rfl⟩
    have hN0 : 0 ≠ N := by
      have := (List.getElem?_eq_some_iff.1 g5).1
      omega
    have hB0 : B[0]? = some [.v (.string x)] := by rw [hB, List.getElem?_append_left (List.getElem?_eq_some_iff.1 g5).1]; exact g5
    have hBN : B[N]? = some [.v (.string P.n), .v (.int .i64 P.v.a), .v (.int .i64 P.v.b), .v (.int .i64 P.v.c), .v (.int .i64 S), .sl b (P.pr.map strCells), .sl b (P.ne.map (clauseCells b)), .sl b (P.ba.map Trm.cells)] := by rw [hB, hN, ← hS]; simp
    simp [hlt, ← hP, ← hN]
    simp only [Pk.cells] at hB
    simp [← hB]
    refine adraw_i [0, 1, 2, 3, 4, 6, 7] [5, 8, 9, 10] [] (fun mm => mm.boxes[N]? = some [.v (.string P.n), .v (.int .i64 P.v.a), .v (.int .i64 P.v.b), .v (.int .i64 P.v.c), .v (.int .i64 S), .sl b (P.pr.map strCells), .sl b (P.ne.map (clauseCells b)), .sl b (P.ba.map Trm.cells)])
      [.clo 81 [] [.box 0 0], .box N 0, .v (.string P.n), .box N 1, .agg [.v (.int .i64 P.v.a), .v (.int .i64 P.v.b), .v (.int .i64 P.v.c)], .box N 4, .v (.int .i64 S)] (by decide +kernel) hBN ?_
    simp +contextual [yieldsTo]
    refine call_p (q_verTextI hf.v) (by simp) ?_
    simp [hBN]
    refine call_p (q_dec S (by omega)) (by simp) ?_
    simp [hBN, List.range_succ, sealRows, sealCells]
    refine call_src (s_line x kPack (by omega) (by have : kPack.size = 4 := rfl; omega) false [P.n, verS P.v.a P.v.b P.v.c, decS S] (by simp) (by
      intro y hy
      simp only [List.mem_cons, List.not_mem_nil, or_false] at hy
      rcases hy with rfl | rfl | rfl <;> omega) B 0 hB0) rfl (by simp) ?_
    have eh : x ++ lnS kPack [P.n, verS P.v.a P.v.b P.v.c, decS S] = x ++ headS P := by simp [headS, hS]
    rw [eh]
    have k1 : (x ++ headS P).size ≤ i * 300000 + 12100 := by rw [ByteArray.size_append]; omega
    obtain ⟨X, hX⟩ : ∃ X, X = x ++ headS P := ⟨_, rfl⟩
    rw [← hX] at k1
    rw [← hX]
    have hlB := (List.getElem?_eq_some_iff.1 hB0).1
    obtain ⟨B1, hB1⟩ : ∃ B1, B1 = B.set 0 [.v (.string X)] := ⟨_, rfl⟩
    have b10 : B1[0]? = some [.v (.string X)] := by rw [hB1]; exact List.getElem?_set_self hlB
    have b1N : B1[N]? = some [.v (.string P.n), .v (.int .i64 P.v.a), .v (.int .i64 P.v.b), .v (.int .i64 P.v.c), .v (.int .i64 S), .sl b (P.pr.map strCells), .sl b (P.ne.map (clauseCells b)), .sl b (P.ba.map Trm.cells)] := by rw [hB1, List.getElem?_set_ne hN0]; exact hBN
    rw [← hB1]
    simp [b1N, -acode_cond]
    refine acode_cut (fun s => (s.env 3 = .box 0 0 ∧ s.env 4 = .clo 81 [] [.box 0 0] ∧ s.env 6 = .box N 0 ∧ s.env 15 = pksAV a b c ∧ s.env 16 = .v (.int .i64 c.length) ∧ s.env 17 = .v (.int .i64 i)) ∧ ∃ B2, s.mem = ⟨B2, noArrs ver⟩ ∧ B2[0]? = some [.v (.string (X ++ givesS P))] ∧ B2[N]? = some [.v (.string P.n), .v (.int .i64 P.v.a), .v (.int .i64 P.v.b), .v (.int .i64 P.v.c), .v (.int .i64 S), .sl b (P.pr.map strCells), .sl b (P.ne.map (clauseCells b)), .sl b (P.ba.map Trm.cells)]) ?_ ?_
    · by_cases hp : P.pr = []
      · have e : X ++ givesS P = X := by rw [givesS, if_pos hp]; exact ByteArray.append_empty
        simp [hp, e]
        exact ⟨b10, by simpa [hp] using b1N⟩
      · have h0 : 0 < P.pr.length := List.length_pos_iff.2 hp
        have e : X ++ givesS P = X ++ lnS kGives P.pr := by rw [givesS, if_neg hp]
        simp [h0, b1N]
        refine call_src (s_line X kGives (by omega) (by have : kGives.size = 5 := rfl; omega) b P.pr hf.pr.1 (fun w hw => by have := hf.pr.2 w hw; omega) B1 0 b10) rfl (by simp) ?_
        simp [e]
        refine ⟨List.getElem?_set_self (List.getElem?_eq_some_iff.1 b10).1, ?_⟩
        rw [List.getElem?_set_ne hN0]
        exact b1N
    rintro ⟨E, m⟩ ⟨⟨E3, E4, E6, E15, E16, E17⟩, B2, hm2, b20, b2N⟩
    simp only at E3 E4 E6 E15 E16 E17 hm2
    subst hm2
    have k2 : (X ++ givesS P).size ≤ i * 300000 + 12200 := by rw [ByteArray.size_append]; omega
    obtain ⟨Y, hY⟩ : ∃ Y, Y = X ++ givesS P := ⟨_, rfl⟩
    rw [← hY] at k2 b20
    have g4 : catS (c.drop (i + 1)) (barsS (needsS Y P.ne) P.ba) = catS c ⟨#[]⟩ := by rw [hY, hX]; exact g3
    clear g3 hX hY k1 hB0 hBN hB b10 b1N hB1 g5 eh
    obtain ⟨n1, n2⟩ := hf.ne
    obtain ⟨m1, m2⟩ := hf.ba
    simp [E6, b2N]
    refine aloop (α := Nat × ByteArray × List (List AV)) (fun j => ⟨envOf [(3, .box 0 0), (4, .clo 81 [] [.box 0 0]), (6, .box N 0), (15, pksAV a b c), (16, .v (.int .i64 c.length)), (17, .v (.int .i64 i)), (41, .sl b (P.ne.map (clauseCells b))), (42, .v (.int .i64 P.ne.length)), (43, .v (.int .i64 j.1))], ⟨j.2.2, noArrs ver⟩⟩)
      (fun j => j.1 ≤ P.ne.length ∧ j.2.1.size ≤ i * 300000 + 12200 + j.1 * 25000 ∧ needsS j.2.1 (P.ne.drop j.1) = needsS Y P.ne ∧ j.2.2[0]? = some [.v (.string j.2.1)] ∧ j.2.2[N]? = some [.v (.string P.n), .v (.int .i64 P.v.a), .v (.int .i64 P.v.b), .v (.int .i64 P.v.c), .v (.int .i64 S), .sl b (P.pr.map strCells), .sl b (P.ne.map (clauseCells b)), .sl b (P.ba.map Trm.cells)]) (fun j => P.ne.length - j.1) (0, Y, B2) (less_envOf (by simp [E3, E4, E6, E15, E16, E17]) rfl fun _ => rfl) ⟨Nat.zero_le _, by simp; omega, rfl, b20, b2N⟩ ?_
    rintro ⟨j, y, B3⟩ ⟨q1, q2, q3, b30, b3N⟩
    simp only at q1 q2 q3 b30 b3N ⊢
    by_cases hjt : j < P.ne.length
    · have hw2 := wrapS hjt (by omega : P.ne.length ≤ 4611686018427387904)
      rw [drop_get hjt] at q3
      have hmw := n2 _ (List.getElem_mem hjt)
      obtain ⟨W, hW⟩ : ∃ W, W = P.ne[j] := ⟨_, rfl⟩
      rw [← hW] at q3 hmw
      have hs := need_size hmw
      simp [b3N, hjt, ← hW]
      refine call_p (q_termWords b W hmw.1 hmw.2) (by simp) ?_
      simp [-List.map_map]
      refine call_src (s_line y kNeeds (by omega) (by have : kNeeds.size = 5 := rfl; omega) false (W.map tTx) (by simpa using hmw.1) (by
        intro z hz
        obtain ⟨t, ht, rfl⟩ := List.mem_map.1 hz
        exact tTx_size (hmw.2 t ht)) B3 0 b30) rfl (by simp) ?_
      simp
      refine ⟨j + 1, y ++ lnS kNeeds (W.map tTx), _, less_envOf (by simp [hw2]) rfl fun _ => rfl, ⟨by omega, ?_, ?_, List.getElem?_set_self (List.getElem?_eq_some_iff.1 b30).1, ?_⟩, by omega⟩
      · simp only [ByteArray.size_append]
        omega
      · exact q3
      · rw [List.getElem?_set_ne hN0]
        exact b3N
    rw [List.drop_eq_nil_of_le (by omega)] at q3
    have q3 : y = needsS Y P.ne := q3
    rw [← q3] at g4
    clear q3 b20 b2N
    have k3 : y.size ≤ i * 300000 + 112200 := bd_needs q2 (Nat.le_trans q1 n1)
    simp [b3N, hjt]
    refine aloop (α := Nat × ByteArray × List (List AV)) (fun j => ⟨envOf [(3, .box 0 0), (4, .clo 81 [] [.box 0 0]), (6, .box N 0), (15, pksAV a b c), (16, .v (.int .i64 c.length)), (17, .v (.int .i64 i)), (53, .sl b (P.ba.map Trm.cells)), (54, .v (.int .i64 P.ba.length)), (55, .v (.int .i64 j.1))], ⟨j.2.2, noArrs ver⟩⟩)
      (fun j => j.1 ≤ P.ba.length ∧ j.2.1.size ≤ i * 300000 + 112200 + j.1 * 25000 ∧ barsS j.2.1 (P.ba.drop j.1) = barsS y P.ba ∧ j.2.2[0]? = some [.v (.string j.2.1)]) (fun j => P.ba.length - j.1) (0, y, B3) (less_envOf (by simp) rfl fun _ => rfl) ⟨Nat.zero_le _, by simp; omega, rfl, b30⟩ ?_
    rintro ⟨h, u, B4⟩ ⟨r1, r2, r3, b40⟩
    simp only at r1 r2 r3 b40 ⊢
    by_cases hht : h < P.ba.length
    · have hw2 := wrapS hht (by omega : P.ba.length ≤ 4611686018427387904)
      rw [drop_get hht] at r3
      have hmw := m2 _ (List.getElem_mem hht)
      obtain ⟨W, hW⟩ : ∃ W, W = P.ba[h] := ⟨_, rfl⟩
      rw [← hW] at r3 hmw
      have hs := bar_size hmw
      have hfq := q_formatTerm W.n W.lo.a W.lo.b W.lo.c W.hi.a W.hi.b W.hi.c
      rw [fmtT_ok hmw] at hfq
      have b4l := (List.getElem?_eq_some_iff.1 b40).1
      simp [hht, ← hW]
      refine call_p hfq (by simp) ?_
      simp [List.range_succ, sealRows, sealCells]
      refine call_src (s_line u kBars (by omega) (by have : kBars.size = 4 := rfl; omega) false [tTx W] (by simp) (by
        intro z hz
        simp only [List.mem_cons, List.not_mem_nil, or_false] at hz
        subst hz
        exact tTx_size hmw) (B4 ++ [[.v (.string W.n), .v (.int .i64 W.lo.a), .v (.int .i64 W.lo.b), .v (.int .i64 W.lo.c), .v (.int .i64 W.hi.a), .v (.int .i64 W.hi.b), .v (.int .i64 W.hi.c)]]) 0 (by rw [List.getElem?_append_left b4l]; exact b40)) rfl (by simp) ?_
      simp
      refine ⟨h + 1, u ++ lnS kBars [tTx W], _, less_envOf (by simp [hw2]) rfl fun _ => rfl, ⟨by omega, ?_, ?_, ?_⟩, by omega⟩
      · simp only [ByteArray.size_append]
        omega
      · exact r3
      · exact List.getElem?_set_self (by simp)
    · rw [List.drop_eq_nil_of_le (by omega)] at r3
      have r3 : u = barsS y P.ba := r3
      rw [← r3] at g4
      simp [hht]
      exact ⟨i + 1, u, B4, less_envOf (by simp [hw]) rfl fun _ => rfl, ⟨by omega, bd_bars r2 (Nat.le_trans r1 m1), g4, b40⟩, by omega⟩
  · rw [List.drop_eq_nil_of_le (by omega)] at g3
    have g3 : x = catS c ⟨#[]⟩ := g3
    simp [hlt, g3, g5]

noncomputable def catTx (c : List Pk) : ByteArray := if catF c = 0 then catS c ⟨#[]⟩ else ⟨#[]⟩
theorem p_formatCatalog (a b : Bool) (c : List Pk) (hb : ∀ p ∈ c, p.Len) (h1 : c.length ≤ 4611686018427387904) : Pure Tryd.prog 41 [pksAV a b c] (.v (.string (catTx c))) := by
  by_cases h : catF c = 0
  · rw [catTx, if_pos h]
    exact p_catText a b c h hb h1
  · rw [catTx, if_neg h]
    refine pure_of_code (G := (G0)) vers0 mixed0 Tryd.func41 rfl (by decide) (by simp [Tryd.f41]) (by simp) fun ver => ?_
    simp only [Tryd.f41, G0]
    simp
    refine call_p (p_cat a b c h1 hb) (by simp) ?_
    simp [h]
theorem q_formatCatalog (a b : Bool) (c : List Pk) (hb : ∀ p ∈ c, p.Len) (h1 : c.length ≤ 4611686018427387904) : Pure Tryd.prog 42 [pksAV a b c] (.v (.string (catTx c))) := by
  by_cases h : catF c = 0
  · rw [catTx, if_pos h]
    exact q_catText a b c h hb h1
  · rw [catTx, if_neg h]
    refine pure_of_code (G := (G0)) vers0 mixed0 Tryd.func42 rfl (by decide) (by simp [Tryd.f42]) (by simp) fun ver => ?_
    simp only [Tryd.f42, G0]
    simp
    refine call_p (q_cat a b c h1 hb) (by simp) ?_
    simp [h]

set_option maxHeartbeats 4000000 in
set_option maxRecDepth 10000 in
theorem l_formatCatalog (l : List Pk) (hp : BigP l) : Pure Tryd.prog 10 [pksAV true true l] (.v (.bool true)) := by
  have h1 : l.length ≤ 4611686018427387904 := by have := hp.1; omega
  have h2 : ∀ p ∈ l, p.Len := fun p h => (hp.2 p h).len
  refine pure_of_code (G := (G0)) vers0 mixed0 Tryd.func10 rfl (by decide) (by simp [Tryd.f10]) (by simp) fun ver => ?_
  simp only [Tryd.f10, G0]
  simp
  refine call_p (z_pks true l hp _) (by simp) ?_
  by_cases g2 : sz_pks l 1048576 < 0
  · simp [g2]
  simp [g2]
  refine call_p (t_pks true l hp) (by simp) ?_
  simp
  refine call_p (p_formatCatalog false false l h2 h1) (by simp) ?_
  simp
  refine call_p (t_pks true l hp) (by simp) ?_
  simp
  refine call_p (q_formatCatalog false false l h2 h1) (by simp) ?_
  simp
  refine call_p (t_pks true l hp) (by simp) ?_
  simp
  refine call_p (e_pks false false l h1 h2) (by simp) ?_
  simp

end Go.Proofs.YtokhnmchnfkiiaaDoor.Am
