/- Draws of two terms; numbers from the bytes; plain laws of terms met. No conditions. -/
import Derived.Test.YtokhnmchnfkiiaaDoorAmH3
namespace Go.Proofs.YtokhnmchnfkiiaaDoor.Am
open Go Go.RowKit Go.Proofs
set_option linter.unusedSimpArgs false
set_option linter.unusedVariables false

def lwV (l : List Int) (k n : Int) : Int := if l.length = 0 then (k * 7).tmod n else (l.getD (k.tmod l.length).toNat 0 + k.tdiv l.length * 3).tmod n
set_option maxHeartbeats 4000000 in
set_option maxRecDepth 20000 in
theorem p_at (l : List Int) (hb : Byt l) (k n : Int) (k0 : 0 ≤ k) (k1 : k ≤ 1000) (n0 : 1 < n) (n1 : n ≤ 200) : Pure Tryd.prog 30 [.sl true (l.map bytCells), .v (.int .i64 k), .v (.int .i64 n)] (.v (.int .i64 (lwV l k n))) := by
  obtain ⟨hlen, hby⟩ := hb
  have hn : ¬ n ≤ 1 := by omega
  have hn2 : ¬ 200 < n := by omega
  have hn0 : ¬ n = 0 := by omega
  refine pure_of_code (G := (G0)) vers0 mixed0 Tryd.func30 rfl (by decide) (by simp [Tryd.f30]) (by simp) fun ver => ?_
  simp only [Tryd.f30, G0]
  by_cases h : l.length = 0
  · have hi : (l.length : Int) = 0 := by omega
    have hw : IntKind.i64.wrap (k * 7) = k * 7 := IntWalk.i64_in _ (by omega)
    have e : lwV l k n = (k * 7).tmod n := if_pos h
    simp [hn, h, hi, hw, hn0, e]
  · have hi : ¬ (l.length : Int) = 0 := by omega
    have r1 : 0 ≤ k.tmod l.length := Int.tmod_nonneg _ k0
    have r2 : k.tmod l.length < l.length := Int.tmod_lt_of_pos _ (by omega)
    have hlt : (k.tmod l.length).toNat < l.length := by omega
    have hg : l[(k.tmod l.length).toNat]? = some (l.getD (k.tmod l.length).toNat 0) := by rw [getD_at hlt]; exact List.getElem?_eq_getElem hlt
    have hv := hby (l.getD (k.tmod l.length).toNat 0) (by rw [getD_at hlt]; exact List.getElem_mem hlt)
    have d1 : 0 ≤ k.tdiv l.length := Int.tdiv_nonneg k0 (by omega)
    have d2 : k.tdiv l.length ≤ k := by rw [Int.tdiv_eq_ediv_of_nonneg k0]; exact Int.ediv_le_self _ k0
    obtain ⟨x, hx⟩ : ∃ x, x = l.getD (k.tmod l.length).toNat 0 := ⟨_, rfl⟩
    obtain ⟨y, hy⟩ : ∃ y, y = k.tdiv l.length := ⟨_, rfl⟩
    have e : lwV l k n = (x + y * 3).tmod n := by rw [hx, hy]; exact if_neg h
    rw [← hx] at hg hv
    rw [← hy] at d1 d2
    have w1 : IntKind.i64.wrap x = x := IntWalk.i64_in _ (by omega)
    have w2 : IntKind.i64.wrap y = y := IntWalk.i64_in _ (by omega)
    have w3 : IntKind.i64.wrap (y * 3) = y * 3 := IntWalk.i64_in _ (by omega)
    have w4 : IntKind.i64.wrap (x + y * 3) = x + y * 3 := IntWalk.i64_in _ (by omega)
    have hl0 : ¬ l = [] := fun e => h (by rw [e]; rfl)
    simp [hn, hl0, hn0]
    refine adraw_all (by kernel_rfl) ?_
    simp [hl0, r1, hg, ← hy, w1, w2, w3, w4, e, hn0, hn2]

set_option maxHeartbeats 4000000 in
set_option maxRecDepth 20000 in
/-- Two terms, as they are drawn. -/
theorem i_drawMeet (l : List Int) (hb : Byt l) (m : Mem) : ICall Tryd.prog m 28 [.sl true (l.map bytCells)] (fun r m' => (∃ v w : Trm, r = .tup [v.av, w.av]) ∧ m' = m) := by
  refine icall_mono (icall_closed (Q := fun r => ∃ v w : Trm, r = .tup [v.av, w.av]) (fun ver => ?_) (by simp [fr_bytes]) m) fun r m' h => h
  obtain ⟨z, hz⟩ : ∃ z : List AV, z = [.v (.string ByteArray.empty), .v (.int .i64 0), .v (.int .i64 0), .v (.int .i64 0), .v (.int .i64 0), .v (.int .i64 0), .v (.int .i64 0)] := ⟨_, rfl⟩
  refine icode (md := 4000) (o := fun _ => false) (by decide) (by decide) Tryd.func28 rfl (by decide) (by simp [Tryd.f28]) ?_
  simp only [Tryd.f28, Gd]
  simp [← hz]
  refine call_ic (i_source l ⟨[z, z], noArrs ver⟩) rfl (by simp) (icok (by decide) (by decide)) ?_
  rintro r m1 ⟨rfl, rfl⟩
  simp
  refine call_ic (i_bentTerm l hb ⟨[z, z, srcB l 0], noArrs ver⟩ 2 0 rfl (by decide) (by decide)) rfl (by simp) (icok (by decide) (by decide)) ?_
  rintro r m2 ⟨⟨⟨x, ⟨x1, x2, x3⟩, ⟨x4, x5, x6⟩⟩, rfl, _⟩, a2, ⟨g1, g2⟩, A2, e2⟩
  have b0 := A2.box (j := 0) (z := z) rfl (by decide)
  have b1 := A2.box (j := 1) (z := z) rfl (by decide)
  obtain ⟨M, hM⟩ : ∃ M, M = m2.boxes.length := ⟨_, rfl⟩
  have hl2 : 3 ≤ m2.boxes.length := A2.len
  have M0 : M ≠ 0 := by omega
  have M1 : M ≠ 1 := by omega
  have M2 : M ≠ 2 := by omega
  have A2' := A2.app [.v (.string x), .v (.int .i64 x1), .v (.int .i64 x2), .v (.int .i64 x3), .v (.int .i64 x4), .v (.int .i64 x5), .v (.int .i64 x6)] m2.arrs
  have b0' := box_app b0 [.v (.string x), .v (.int .i64 x1), .v (.int .i64 x2), .v (.int .i64 x3), .v (.int .i64 x4), .v (.int .i64 x5), .v (.int .i64 x6)]
  have b1' := box_app b1 [.v (.string x), .v (.int .i64 x1), .v (.int .i64 x2), .v (.int .i64 x3), .v (.int .i64 x4), .v (.int .i64 x5), .v (.int .i64 x6)]
  have bM' : (m2.boxes ++ [[.v (.string x), .v (.int .i64 x1), .v (.int .i64 x2), .v (.int .i64 x3), .v (.int .i64 x4), .v (.int .i64 x5), .v (.int .i64 x6)]])[M]? = some [.v (.string x), .v (.int .i64 x1), .v (.int .i64 x2), .v (.int .i64 x3), .v (.int .i64 x4), .v (.int .i64 x5), .v (.int .i64 x6)] := by rw [hM]; simp
  simp [← hM]
  refine call_ic (i_bentTerm l hb ⟨m2.boxes ++ [[.v (.string x), .v (.int .i64 x1), .v (.int .i64 x2), .v (.int .i64 x3), .v (.int .i64 x4), .v (.int .i64 x5), .v (.int .i64 x6)]], m2.arrs⟩ 2 a2 A2'.src (by omega) (by omega)) rfl (by simp) (icok (by decide) (by decide)) ?_
  rintro r m3 ⟨⟨⟨y, ⟨y1, y2, y3⟩, ⟨y4, y5, y6⟩⟩, rfl, _⟩, a3, ⟨g3, g4⟩, A3, e3⟩
  have c0 := A3.box b0' (by decide)
  have c1 := A3.box b1' (by decide)
  have cM := A3.box bM' M2
  obtain ⟨N, hN⟩ : ∃ N, N = m3.boxes.length := ⟨_, rfl⟩
  have lM := isBox cM
  have N0 : N ≠ 0 := by omega
  have N1 : N ≠ 1 := by omega
  have N2 : N ≠ 2 := by omega
  have NM : N ≠ M := by omega
  have A3' := A3.app [.v (.string y), .v (.int .i64 y1), .v (.int .i64 y2), .v (.int .i64 y3), .v (.int .i64 y4), .v (.int .i64 y5), .v (.int .i64 y6)] m3.arrs
  have c0' := box_app c0 [.v (.string y), .v (.int .i64 y1), .v (.int .i64 y2), .v (.int .i64 y3), .v (.int .i64 y4), .v (.int .i64 y5), .v (.int .i64 y6)]
  have c1' := box_app c1 [.v (.string y), .v (.int .i64 y1), .v (.int .i64 y2), .v (.int .i64 y3), .v (.int .i64 y4), .v (.int .i64 y5), .v (.int .i64 y6)]
  have cM' := box_app cM [.v (.string y), .v (.int .i64 y1), .v (.int .i64 y2), .v (.int .i64 y3), .v (.int .i64 y4), .v (.int .i64 y5), .v (.int .i64 y6)]
  have cN' : (m3.boxes ++ [[.v (.string y), .v (.int .i64 y1), .v (.int .i64 y2), .v (.int .i64 y3), .v (.int .i64 y4), .v (.int .i64 y5), .v (.int .i64 y6)]])[N]? = some [.v (.string y), .v (.int .i64 y1), .v (.int .i64 y2), .v (.int .i64 y3), .v (.int .i64 y4), .v (.int .i64 y5), .v (.int .i64 y6)] := by rw [hN]; simp
  simp [← hN]
  refine call_ic (i_chance l hb ⟨m3.boxes ++ [[.v (.string y), .v (.int .i64 y1), .v (.int .i64 y2), .v (.int .i64 y3), .v (.int .i64 y4), .v (.int .i64 y5), .v (.int .i64 y6)]], m3.arrs⟩ 2 a3 A3'.src (by omega) (by omega) 4 (by decide) (by decide)) rfl (by simp) (icok (by decide) (by decide)) ?_
  rintro r m4 ⟨⟨b, rfl⟩, a4, ⟨g5, g6⟩, A4, e4⟩
  have f0 := A4.box c0' (by decide)
  have f1 := A4.box c1' (by decide)
  have fM := A4.box cM' M2
  have fN := A4.box cN' N2
  clear A2' A3' A2 A3 A4
  cases b with
  | true =>
    simp
    have k0 := fun x => box_put f0 x
    have k1 := fun x => box_set f1 (j := 0) (by decide) x
    have k2 := fun x y => box_put (k1 x) y
    have k3 := fun x y => box_set (k0 x) (j := 1) (by decide) y
    have kM := fun x => box_set fM (j := 0) (Ne.symm M0) x
    have kN := fun x => box_set fN (j := 0) (Ne.symm N0) x
    have kM2 := fun x y => box_set (kM x) (j := 1) (Ne.symm M1) y
    have kN2 := fun x y => box_set (kN x) (j := 1) (Ne.symm N1) y
    refine adraw_i [0, 1] [2, 3] [] (fun mm => mm.boxes[M]? = some [.v (.string x), .v (.int .i64 x1), .v (.int .i64 x2), .v (.int .i64 x3), .v (.int .i64 x4), .v (.int .i64 x5), .v (.int .i64 x6)] ∧ mm.boxes[N]? = some [.v (.string y), .v (.int .i64 y1), .v (.int .i64 y2), .v (.int .i64 y3), .v (.int .i64 y4), .v (.int .i64 y5), .v (.int .i64 y6)]) [.agg [.v (.string x), .v (.int .i64 x1), .v (.int .i64 x2), .v (.int .i64 x3), .v (.int .i64 x4), .v (.int .i64 x5), .v (.int .i64 x6)], .agg [.v (.string y), .v (.int .i64 y1), .v (.int .i64 y2), .v (.int .i64 y3), .v (.int .i64 y4), .v (.int .i64 y5), .v (.int .i64 y6)]] (by decide +kernel) ⟨fM, fN⟩ ?_
    simp +contextual [yieldsTo]
    simp [f0, f1, fM, fN, k1, k0, kM, kN, kM2, kN2, hz]
    refine kice_x ?_
    simp [k2, k3]
    exact ⟨⟨⟨x, ⟨x1, x2, x3⟩, ⟨x4, x5, x6⟩⟩, rfl, rfl, rfl, rfl, rfl, rfl, rfl⟩, ⟨y, ⟨y1, y2, y3⟩, ⟨y4, y5, y6⟩⟩, rfl, rfl, rfl, rfl, rfl, rfl, rfl⟩
  | false =>
    simp [fM, fN]
    obtain ⟨m5, hm5⟩ : ∃ m5 : Mem, m5 = ⟨m4.boxes.set N [.v (.string x), .v (.int .i64 y1), .v (.int .i64 y2), .v (.int .i64 y3), .v (.int .i64 y4), .v (.int .i64 y5), .v (.int .i64 y6)], m4.arrs⟩ := ⟨_, rfl⟩
    replace f0 : m5.boxes[0]? = some z := by rw [hm5]; exact box_set f0 N0 _
    replace f1 : m5.boxes[1]? = some z := by rw [hm5]; exact box_set f1 N1 _
    replace fM : m5.boxes[M]? = some [.v (.string x), .v (.int .i64 x1), .v (.int .i64 x2), .v (.int .i64 x3), .v (.int .i64 x4), .v (.int .i64 x5), .v (.int .i64 x6)] := by rw [hm5]; exact box_set fM NM _
    replace fN : m5.boxes[N]? = some [.v (.string x), .v (.int .i64 y1), .v (.int .i64 y2), .v (.int .i64 y3), .v (.int .i64 y4), .v (.int .i64 y5), .v (.int .i64 y6)] := by rw [hm5]; exact box_put fN _
    rw [← hm5]
    have k0 := fun x => box_put f0 x
    have k1 := fun x => box_set f1 (j := 0) (by decide) x
    have k2 := fun x y => box_put (k1 x) y
    have k3 := fun x y => box_set (k0 x) (j := 1) (by decide) y
    have kM := fun x => box_set fM (j := 0) (Ne.symm M0) x
    have kN := fun x => box_set fN (j := 0) (Ne.symm N0) x
    have kM2 := fun x y => box_set (kM x) (j := 1) (Ne.symm M1) y
    have kN2 := fun x y => box_set (kN x) (j := 1) (Ne.symm N1) y
    refine adraw_i [0, 1] [2, 3] [] (fun mm => mm.boxes[M]? = some [.v (.string x), .v (.int .i64 x1), .v (.int .i64 x2), .v (.int .i64 x3), .v (.int .i64 x4), .v (.int .i64 x5), .v (.int .i64 x6)] ∧ mm.boxes[N]? = some [.v (.string x), .v (.int .i64 y1), .v (.int .i64 y2), .v (.int .i64 y3), .v (.int .i64 y4), .v (.int .i64 y5), .v (.int .i64 y6)]) [.agg [.v (.string x), .v (.int .i64 x1), .v (.int .i64 x2), .v (.int .i64 x3), .v (.int .i64 x4), .v (.int .i64 x5), .v (.int .i64 x6)], .agg [.v (.string x), .v (.int .i64 y1), .v (.int .i64 y2), .v (.int .i64 y3), .v (.int .i64 y4), .v (.int .i64 y5), .v (.int .i64 y6)]] (by decide +kernel) ⟨fM, fN⟩ ?_
    simp +contextual [yieldsTo]
    simp [f0, f1, fM, fN, k1, k0, kM, kN, kM2, kN2, hz]
    refine kice_x ?_
    simp [k2, k3]
    exact ⟨⟨⟨x, ⟨x1, x2, x3⟩, ⟨x4, x5, x6⟩⟩, rfl, rfl, rfl, rfl, rfl, rfl, rfl⟩, ⟨x, ⟨y1, y2, y3⟩, ⟨y4, y5, y6⟩⟩, rfl, rfl, rfl, rfl, rfl, rfl, rfl⟩

end Go.Proofs.YtokhnmchnfkiiaaDoor.Am
