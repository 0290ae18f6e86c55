import Derived.Test.YtokhnmchnfkiiaaAmCg20
/- Draws: names, versions, terms. No conditions. -/
namespace Go.Proofs.Ytokhnmchnfkiiaa.Am
open Go Go.RowKit Go.Proofs
set_option linter.unusedSimpArgs false
set_option linter.unusedVariables false

theorem someAt {α : Type} [Inhabited α] {q : List α} {n : Int} (h0 : 0 ≤ n) (h1 : n < q.length) : ∃ x, x ∈ q ∧ q[n.toNat]? = some x := by
  have hlt : n.toNat < q.length := by omega
  exact ⟨q[n.toNat], List.getElem_mem hlt, List.getElem?_eq_getElem hlt⟩
/-- Results of draws. -/
def IsVer (r : AV) : Prop := ∃ v : Ver, r = v.av
def IsTrm (r : AV) : Prop := ∃ t : Trm, r = t.av ∧ t.n.size ≤ 13
theorem isVer (x y z : Int) : IsVer (.agg [.v (.int .i64 x), .v (.int .i64 y), .v (.int .i64 z)]) := ⟨⟨x, y, z⟩, rfl⟩
theorem isTrm {x : ByteArray} (h : x.size ≤ 13) (a b c d e f : Int) : IsTrm (.agg [.v (.string x), .v (.int .i64 a), .v (.int .i64 b), .v (.int .i64 c), .v (.int .i64 d), .v (.int .i64 e), .v (.int .i64 f)]) := ⟨⟨x, ⟨a, b, c⟩, ⟨d, e, f⟩⟩, rfl, h⟩
theorem p_anyTerm0 (x : ByteArray) : Pure Try.prog 126 [.v (.string x)] (.agg [.v (.string x), .v (.int .i64 0), .v (.int .i64 0), .v (.int .i64 0), .v (.int .i64 1000), .v (.int .i64 0), .v (.int .i64 0)]) := by
  refine pure_of_code (G := (G0)) vers0 mixed0 Try.func126 rfl (by decide) (by simp [Try.f126]) (by simp) fun ver => ?_
  simp only [Try.f126, G0]
  simp
  refine call_p p_top (by simp) ?_
  simp

section
variable (l : List Int) (hb : Byt l) (m : Mem) (k : Nat) (a : Int) (hk : m.boxes[k]? = some (srcB l a)) (h0 : 0 ≤ a)
include hb hk h0

set_option maxHeartbeats 4000000 in
set_option maxRecDepth 10000 in
theorem i_name (h1 : a + 1 ≤ 1000000) : ICall Try.prog m 124 [.box k 0] (fun r m' => (∃ x : ByteArray, r = .v (.string x) ∧ x.size ≤ 13) ∧ Drew l k a 1 m m') := by
  have r6 : List.range 6 = [0, 1, 2, 3, 4, 5] := rfl
  refine icode (md := 3) (o := fun _ => false) (by decide) (by decide) Try.func124 rfl (by decide) (by simp [Try.f124]) ?_
  simp only [Try.f124, Gd]
  simp [r6, sealRows, sealCells]
  refine call_ic (i_next l hb m k a hk h0 (by omega) 6 (by decide) (by decide)) rfl (by simp) (icok (by decide) (by decide)) ?_
  rintro r m' ⟨⟨v, rfl, r1, r2⟩, hD⟩
  obtain ⟨x, hx, hg⟩ := someAt (q := [(⟨#[97]⟩ : ByteArray), ⟨#[98]⟩, ⟨#[99]⟩, ⟨#[100]⟩, ⟨#[108, 105, 98]⟩, ⟨#[119, 101, 98]⟩]) r1 r2
  have hxs : x.size ≤ 13 := by
    simp only [List.mem_cons, List.not_mem_nil, or_false] at hx
    rcases hx with rfl | rfl | rfl | rfl | rfl | rfl <;> decide
  have hg2 : (List.map strCells [(⟨#[97]⟩ : ByteArray), ⟨#[98]⟩, ⟨#[99]⟩, ⟨#[100]⟩, ⟨#[108, 105, 98]⟩, ⟨#[119, 101, 98]⟩])[v.toNat]? = some [.v (.string x)] := by
    rw [List.getElem?_map, hg]
    rfl
  simp only [List.map, strCells] at hg2
  simp [r1, hg2]
  refine kice_x ?_
  simp
  exact ⟨hxs, hD⟩

set_option maxHeartbeats 4000000 in
set_option maxRecDepth 10000 in
theorem i_bentName (h1 : a + 2 ≤ 1000000) : ICall Try.prog m 92 [.box k 0] (fun r m' => (∃ x : ByteArray, r = .v (.string x) ∧ x.size ≤ 13) ∧ Drew l k a 2 m m') := by
  have r9 : List.range 9 = [0, 1, 2, 3, 4, 5, 6, 7, 8] := rfl
  refine icode (md := 3) (o := fun _ => false) (by decide) (by decide) Try.func92 rfl (by decide) (by simp [Try.f92]) ?_
  simp only [Try.f92, Gd]
  simp
  refine call_ic (i_chance l hb m k a hk h0 (by omega) 14 (by decide) (by decide)) rfl (by simp) (icok (by decide) (by decide)) ?_
  rintro r m1 ⟨⟨b, rfl⟩, a1, ⟨g1, g2⟩, A1, e1⟩
  cases b with
  | true =>
    simp [r9, sealRows, sealCells]
    refine call_ic (i_next l hb m1 k a1 A1.src (by omega) (by omega) 9 (by decide) (by decide)) rfl (by simp) (icok (by decide) (by decide)) ?_
    rintro r m2 ⟨⟨v, rfl, r1, r2⟩, a2, ⟨g3, g4⟩, A2, e2⟩
    obtain ⟨x, hx, hg⟩ := someAt (q := [(⟨#[]⟩ : ByteArray), ⟨#[49, 97]⟩, ⟨#[65]⟩, ⟨#[97, 98, 99, 100, 101, 102, 103, 104, 105, 106, 107, 108, 109]⟩, ⟨#[97, 98, 99, 100, 101, 102, 103, 104, 105, 106, 107, 108]⟩, ⟨#[97, 32, 98]⟩, ⟨#[97, 45]⟩, ⟨#[95, 97]⟩, ⟨#[97, 95, 49]⟩]) r1 r2
    have hxs : x.size ≤ 13 := by
      simp only [List.mem_cons, List.not_mem_nil, or_false] at hx
      rcases hx with rfl | rfl | rfl | rfl | rfl | rfl | rfl | rfl | rfl <;> decide
    have hg2 : (List.map strCells [(⟨#[]⟩ : ByteArray), ⟨#[49, 97]⟩, ⟨#[65]⟩, ⟨#[97, 98, 99, 100, 101, 102, 103, 104, 105, 106, 107, 108, 109]⟩, ⟨#[97, 98, 99, 100, 101, 102, 103, 104, 105, 106, 107, 108]⟩, ⟨#[97, 32, 98]⟩, ⟨#[97, 45]⟩, ⟨#[95, 97]⟩, ⟨#[97, 95, 49]⟩])[v.toNat]? = some [.v (.string x)] := by
      rw [List.getElem?_map, hg]
      rfl
    simp only [List.map, strCells] at hg2
    simp [r1, hg2]
    refine kice_x ?_
    simp
    exact ⟨hxs, a2, ⟨by omega, by omega⟩, A1.trans A2, e2.trans e1⟩
  | false =>
    simp
    refine call_ic (i_name l hb m1 k a1 A1.src (by omega) (by omega)) rfl (by simp) (icok (by decide) (by decide)) ?_
    rintro r m2 ⟨⟨x, rfl, hxs⟩, a2, ⟨g3, g4⟩, A2, e2⟩
    simp
    refine kice_x ?_
    simp
    exact ⟨hxs, a2, ⟨by omega, by omega⟩, A1.trans A2, e2.trans e1⟩

set_option maxHeartbeats 4000000 in
set_option maxRecDepth 10000 in
theorem i_version (h1 : a + 5 ≤ 1000000) : ICall Try.prog m 127 [.box k 0] (fun r m' => IsVer r ∧ Drew l k a 5 m m') := by
  have r3 : List.range 3 = [0, 1, 2] := rfl
  have r4 : List.range 4 = [0, 1, 2, 3] := rfl
  have kl := isBox hk
  obtain ⟨z, hz⟩ : ∃ z : List AV, z = [.v (.int .i64 0), .v (.int .i64 0), .v (.int .i64 0)] := ⟨_, rfl⟩
  obtain ⟨N, hN⟩ : ∃ N, N = m.boxes.length := ⟨_, rfl⟩
  have kN : N ≠ k := by omega
  have A0 := (At.refl hk).app z m.arrs
  refine icode (md := 3) (o := fun _ => false) (by decide) (by decide) Try.func127 rfl (by decide) (by simp [Try.f127]) ?_
  simp only [Try.f127, Gd]
  simp [← hz, ← hN]
  refine call_ic (i_next l hb ⟨m.boxes ++ [z], m.arrs⟩ k a A0.src h0 (by omega) 4 (by decide) (by decide)) rfl (by simp) (icok (by decide) (by decide)) ?_
  rintro r m1 ⟨⟨v1, rfl, _, _⟩, a1, ⟨g1, g2⟩, A1, e1⟩
  have b1 : m1.boxes[N]? = some z := by rw [hN]; exact A1.new (by omega)
  simp
  refine call_ic (i_next l hb m1 k a1 A1.src (by omega) (by omega) 3 (by decide) (by decide)) rfl (by simp) (icok (by decide) (by decide)) ?_
  rintro r m2 ⟨⟨v2, rfl, _, _⟩, a2, ⟨g3, g4⟩, A2, e2⟩
  have b2 := A2.box b1 kN
  simp [r3, sealRows, sealCells]
  refine call_ic (i_pick l hb m2 k a2 A2.src (by omega) (by omega) false [0, 0, v2] (by simp) (by simp)) rfl (by simp) (icok (by decide) (by decide)) ?_
  rintro r m3 ⟨⟨v3, rfl, _⟩, a3, ⟨g5, g6⟩, A3, e3⟩
  have b3 := A3.box b2 kN
  simp
  refine call_ic (i_next l hb m3 k a3 A3.src (by omega) (by omega) 3 (by decide) (by decide)) rfl (by simp) (icok (by decide) (by decide)) ?_
  rintro r m4 ⟨⟨v4, rfl, _, _⟩, a4, ⟨g7, g8⟩, A4, e4⟩
  have b4 := A4.box b3 kN
  simp [r4, sealRows, sealCells]
  refine call_ic (i_pick l hb m4 k a4 A4.src (by omega) (by omega) false [0, 0, 0, v4] (by simp) (by simp)) rfl (by simp) (icok (by decide) (by decide)) ?_
  rintro r m5 ⟨⟨v5, rfl, _⟩, a5, ⟨g9, g10⟩, A5, e5⟩
  have b5 := A5.box b4 kN
  have lN := isBox b5
  simp [b5, hz]
  refine kice_x ?_
  simp [lN]
  exact ⟨isVer _ _ _, a5, ⟨by omega, by omega⟩, ((((A0.trans A1).trans A2).trans A3).trans (A4.trans A5)).put (by omega) kN _ _, by rw [e5, e4, e3, e2, e1]⟩

set_option maxHeartbeats 8000000 in
set_option maxRecDepth 10000 in
theorem i_bentVersion (h1 : a + 7 ≤ 1000000) : ICall Try.prog m 93 [.box k 0] (fun r m' => IsVer r ∧ Drew l k a 7 m m') := by
  have r3 : List.range 3 = [0, 1, 2] := rfl
  have r4 : List.range 4 = [0, 1, 2, 3] := rfl
  have kl := isBox hk
  obtain ⟨z, hz⟩ : ∃ z : List AV, z = [.v (.int .i64 0), .v (.int .i64 0), .v (.int .i64 0)] := ⟨_, rfl⟩
  obtain ⟨N, hN⟩ : ∃ N, N = m.boxes.length := ⟨_, rfl⟩
  have kN : N ≠ k := by omega
  have A0 := (At.refl hk).app z m.arrs
  refine icode (md := 3) (o := fun _ => false) (by decide) (by decide) Try.func93 rfl (by decide) (by simp [Try.f93]) ?_
  simp only [Try.f93, Gd]
  simp [← hz, ← hN]
  refine call_ic (i_version l hb ⟨m.boxes ++ [z], m.arrs⟩ k a A0.src h0 (by omega)) rfl (by simp) (icok (by decide) (by decide)) ?_
  rintro r m1 ⟨⟨⟨x1, x2, x3⟩, rfl⟩, a1, ⟨g1, g2⟩, A1, e1⟩
  have b1 : m1.boxes[N]? = some z := by rw [hN]; exact A1.new (by omega)
  have lN1 := isBox b1
  obtain ⟨M, hM⟩ : ∃ M, M = m1.boxes.length := ⟨_, rfl⟩
  have kM : M ≠ k := by have := isBox A1.src; omega
  have NM : M ≠ N := by omega
  have A1' := (A0.trans A1).app [.v (.int .i64 x1), .v (.int .i64 x2), .v (.int .i64 x3)] m1.arrs
  simp [← hM]
  refine call_ic (i_next l hb ⟨m1.boxes ++ [[.v (.int .i64 x1), .v (.int .i64 x2), .v (.int .i64 x3)]], m1.arrs⟩ k a1 A1'.src (by omega) (by omega) 14 (by decide) (by decide)) rfl (by simp) (icok (by decide) (by decide)) ?_
  rintro r m2 ⟨⟨v, rfl, _, _⟩, a2, ⟨g3, g4⟩, A2, e2⟩
  have p2 : m2.boxes[M]? = some [.v (.int .i64 x1), .v (.int .i64 x2), .v (.int .i64 x3)] := by rw [hM]; exact A2.new (by omega)
  have b2 : m2.boxes[N]? = some z := A2.box (box_app b1 _) kN
  have W2 : At l k a2 m m2 := A1'.trans A2
  have e2' : m2.arrs = m.arrs := e2.trans e1
  have lN2 := isBox b2
  have lM2 := isBox p2
  by_cases c0 : v = 0
  · subst c0
    simp [r3, sealRows, sealCells]
    refine call_ic (i_pick l hb m2 k a2 A2.src (by omega) (by omega) false [-1, 999, 1000] (by simp) (by simp)) rfl (by simp) (icok (by decide) (by decide)) ?_
    rintro r m3 ⟨⟨w, rfl, _⟩, a3, ⟨g5, g6⟩, A3, e3⟩
    have p3 := A3.box p2 kM
    have b3 := A3.box b2 kN
    have b3' := fun x => box_set b3 NM x
    have q3 := fun x y => box_put (b3' x) y
    have pp3 := fun x => box_put p3 x
    simp [p3, pp3, b3', hz]
    refine kice_x ?_
    simp [q3]
    exact ⟨isVer _ _ _, a3, ⟨by omega, by omega⟩, ((W2.trans A3).put (by omega) kM _ m3.arrs).put (by omega) kN _ _, e3.trans e2'⟩
  by_cases c1 : v = 1
  · subst c1
    simp [r3, sealRows, sealCells]
    refine call_ic (i_pick l hb m2 k a2 A2.src (by omega) (by omega) false [-1, 999, 1000] (by simp) (by simp)) rfl (by simp) (icok (by decide) (by decide)) ?_
    rintro r m3 ⟨⟨w, rfl, _⟩, a3, ⟨g5, g6⟩, A3, e3⟩
    have p3 := A3.box p2 kM
    have b3 := A3.box b2 kN
    have b3' := fun x => box_set b3 NM x
    have q3 := fun x y => box_put (b3' x) y
    have pp3 := fun x => box_put p3 x
    simp [p3, pp3, b3', hz]
    refine kice_x ?_
    simp [q3]
    exact ⟨isVer _ _ _, a3, ⟨by omega, by omega⟩, ((W2.trans A3).put (by omega) kM _ m3.arrs).put (by omega) kN _ _, e3.trans e2'⟩
  by_cases c2 : v = 2
  · subst c2
    simp [r4, sealRows, sealCells]
    refine call_ic (i_pick l hb m2 k a2 A2.src (by omega) (by omega) false [-1, 999, 1000, 4611686018427387904] (by simp) (by simp)) rfl (by simp) (icok (by decide) (by decide)) ?_
    rintro r m3 ⟨⟨w, rfl, _⟩, a3, ⟨g5, g6⟩, A3, e3⟩
    have p3 := A3.box p2 kM
    have b3 := A3.box b2 kN
    have b3' := fun x => box_set b3 NM x
    have q3 := fun x y => box_put (b3' x) y
    have pp3 := fun x => box_put p3 x
    simp [p3, pp3, b3', hz]
    refine kice_x ?_
    simp [q3]
    exact ⟨isVer _ _ _, a3, ⟨by omega, by omega⟩, ((W2.trans A3).put (by omega) kM _ m3.arrs).put (by omega) kN _ _, e3.trans e2'⟩
  · simp [c0, c1, c2, p2, b2, hz]
    refine kice_x ?_
    simp [lN2]
    exact ⟨isVer _ _ _, a2, ⟨by omega, by omega⟩, W2.put (by omega) kN _ _, e2'⟩

set_option maxHeartbeats 8000000 in
set_option maxRecDepth 10000 in
theorem i_term (h1 : a + 9 ≤ 1000000) : ICall Try.prog m 91 [.box k 0] (fun r m' => IsTrm r ∧ Drew l k a 9 m m') := by
  have kl := isBox hk
  obtain ⟨z, hz⟩ : ∃ z : List AV, z = [.v (.string ByteArray.empty), .v (.int .i64 0), .v (.int .i64 0), .v (.int .i64 0), .v (.int .i64 0), .v (.int .i64 0), .v (.int .i64 0)] := ⟨_, rfl⟩
  obtain ⟨N, hN⟩ : ∃ N, N = m.boxes.length := ⟨_, rfl⟩
  have kN : N ≠ k := by omega
  have A0 := (At.refl hk).app z m.arrs
  refine icode (md := 3) (o := fun _ => false) (by decide) (by decide) Try.func91 rfl (by decide) (by simp [Try.f91]) ?_
  simp only [Try.f91, Gd]
  simp [← hz, ← hN]
  refine call_ic (i_name l hb ⟨m.boxes ++ [z], m.arrs⟩ k a A0.src h0 (by omega)) rfl (by simp) (icok (by decide) (by decide)) ?_
  rintro r m1 ⟨⟨x, rfl, hx⟩, a1, ⟨g1, g2⟩, A1, e1⟩
  have b1 : m1.boxes[N]? = some z := by rw [hN]; exact A1.new (by omega)
  have lN1 := isBox b1
  obtain ⟨M, hM⟩ : ∃ M, M = m1.boxes.length := ⟨_, rfl⟩
  have kM : M ≠ k := by have := isBox A1.src; omega
  have NM : M ≠ N := by omega
  have A1' := (A0.trans A1).app [.v (.string x), .v (.int .i64 0), .v (.int .i64 0), .v (.int .i64 0), .v (.int .i64 1000), .v (.int .i64 0), .v (.int .i64 0)] m1.arrs
  simp
  refine call_p (p_anyTerm0 x) (by simp) ?_
  simp [← hM]
  refine call_ic (i_chance l hb ⟨m1.boxes ++ [[.v (.string x), .v (.int .i64 0), .v (.int .i64 0), .v (.int .i64 0), .v (.int .i64 1000), .v (.int .i64 0), .v (.int .i64 0)]], m1.arrs⟩ k a1 A1'.src (by omega) (by omega) 2 (by decide) (by decide)) rfl (by simp) (icok (by decide) (by decide)) ?_
  rintro r m2 ⟨⟨b, rfl⟩, a2, ⟨g3, g4⟩, A2, e2⟩
  have p2 : m2.boxes[M]? = some [.v (.string x), .v (.int .i64 0), .v (.int .i64 0), .v (.int .i64 0), .v (.int .i64 1000), .v (.int .i64 0), .v (.int .i64 0)] := by rw [hM]; exact A2.new (by omega)
  have b2 : m2.boxes[N]? = some z := A2.box (box_app b1 _) kN
  have W2 : At l k a2 m m2 := A1'.trans A2
  have e2' : m2.arrs = m.arrs := e2.trans e1
  cases b with
  | true =>
    simp
    refine call_ic (i_version l hb m2 k a2 A2.src (by omega) (by omega)) rfl (by simp) (icok (by decide) (by decide)) ?_
    rintro r m3 ⟨⟨⟨u, v, w⟩, rfl⟩, a3, ⟨g5, g6⟩, A3, e3⟩
    have p3 := A3.box p2 kM
    have b3 := A3.box b2 kN
    have W3 : At l k a3 m ⟨m3.boxes.set M [.v (.string x), .v (.int .i64 u), .v (.int .i64 v), .v (.int .i64 w), .v (.int .i64 1000), .v (.int .i64 0), .v (.int .i64 0)], m3.arrs⟩ := (W2.trans A3).put (by omega) kM _ _
    have p3' : (⟨m3.boxes.set M [.v (.string x), .v (.int .i64 u), .v (.int .i64 v), .v (.int .i64 w), .v (.int .i64 1000), .v (.int .i64 0), .v (.int .i64 0)], m3.arrs⟩ : Mem).boxes[M]? = some [.v (.string x), .v (.int .i64 u), .v (.int .i64 v), .v (.int .i64 w), .v (.int .i64 1000), .v (.int .i64 0), .v (.int .i64 0)] := box_put p3 _
    have b3' : (⟨m3.boxes.set M [.v (.string x), .v (.int .i64 u), .v (.int .i64 v), .v (.int .i64 w), .v (.int .i64 1000), .v (.int .i64 0), .v (.int .i64 0)], m3.arrs⟩ : Mem).boxes[N]? = some z := box_set b3 NM _
    have e3' : (⟨m3.boxes.set M [.v (.string x), .v (.int .i64 u), .v (.int .i64 v), .v (.int .i64 w), .v (.int .i64 1000), .v (.int .i64 0), .v (.int .i64 0)], m3.arrs⟩ : Mem).arrs = m.arrs := e3.trans e2'
    obtain ⟨m4, hm4⟩ : ∃ m4 : Mem, m4 = ⟨m3.boxes.set M [.v (.string x), .v (.int .i64 u), .v (.int .i64 v), .v (.int .i64 w), .v (.int .i64 1000), .v (.int .i64 0), .v (.int .i64 0)], m3.arrs⟩ := ⟨_, rfl⟩
    simp [p3, ← hm4]
    rw [← hm4] at W3 p3' b3' e3'
    refine call_ic (i_chance l hb m4 k a3 W3.src (by omega) (by omega) 3 (by decide) (by decide)) rfl (by simp) (icok (by decide) (by decide)) ?_
    rintro r mc ⟨⟨bc, rfl⟩, ac, ⟨gc1, gc2⟩, Ac, ec⟩
    have pc := Ac.box p3' kM
    have bc1 := Ac.box b3' kN
    cases bc with
    | true =>
      have ppc := fun x => box_put pc x
      simp
      refine adraw_i [0, 1, 2, 3, 4] [5, 6, 7] [8, 9] (fun mm => mm.boxes[M]? = some [.v (.string x), .v (.int .i64 u), .v (.int .i64 v), .v (.int .i64 w), .v (.int .i64 1000), .v (.int .i64 0), .v (.int .i64 0)]) [.box M 1, .box M 1, .v (.int .i64 u), .v (.int .i64 (IntKind.i64.wrap (u + 1))), .box k 0] (by decide +kernel) pc ?_
      simp +contextual [yieldsTo, pc]
      refine call_ic (i_next l hb mc k ac Ac.src (by omega) (by omega) 2 (by decide) (by decide)) rfl (by simp) (icok (by decide) (by decide)) ?_
      rintro r md ⟨⟨vd, rfl, _, _⟩, ad, ⟨gd1, gd2⟩, Ad, ed⟩
      have pd := Ad.box pc kM
      have bd := Ad.box bc1 kN
      have bd' := fun x => box_set bd NM x
      have qd := fun x y => box_put (bd' x) y
      have ppd := fun x => box_put pd x
      simp [pd, ppd, bd', hz]
      refine kice_x ?_
      simp [qd]
      exact ⟨isTrm hx _ _ _ _ _ _, ad, ⟨by omega, by omega⟩, (((W3.trans Ac).trans Ad).put (by omega) kM _ md.arrs).put (by omega) kN _ _, ed.trans (ec.trans e3')⟩
    | false =>
      simp [pc, bc1, hz]
      have qc := fun y => box_put bc1 y
      refine kice_x ?_
      simp [qc]
      exact ⟨isTrm hx _ _ _ _ _ _, ac, ⟨by omega, by omega⟩, (W3.trans Ac).put (by omega) kN _ _, ec.trans e3'⟩
  | false =>
    simp
    refine call_ic (i_chance l hb m2 k a2 W2.src (by omega) (by omega) 3 (by decide) (by decide)) rfl (by simp) (icok (by decide) (by decide)) ?_
    rintro r mc ⟨⟨bc, rfl⟩, ac, ⟨gc1, gc2⟩, Ac, ec⟩
    have pc := Ac.box p2 kM
    have bc1 := Ac.box b2 kN
    cases bc with
    | true =>
      have ppc := fun x => box_put pc x
      simp
      refine adraw_i [0, 1, 2, 3, 4] [5, 6, 7] [8, 9] (fun mm => mm.boxes[M]? = some [.v (.string x), .v (.int .i64 0), .v (.int .i64 0), .v (.int .i64 0), .v (.int .i64 1000), .v (.int .i64 0), .v (.int .i64 0)]) [.box M 1, .box M 1, .v (.int .i64 0), .v (.int .i64 (IntKind.i64.wrap (0 + 1))), .box k 0] (by decide +kernel) pc ?_
      simp +contextual [yieldsTo, pc]
      refine call_ic (i_next l hb mc k ac Ac.src (by omega) (by omega) 2 (by decide) (by decide)) rfl (by simp) (icok (by decide) (by decide)) ?_
      rintro r md ⟨⟨vd, rfl, _, _⟩, ad, ⟨gd1, gd2⟩, Ad, ed⟩
      have pd := Ad.box pc kM
      have bd := Ad.box bc1 kN
      have bd' := fun x => box_set bd NM x
      have qd := fun x y => box_put (bd' x) y
      have ppd := fun x => box_put pd x
      simp [pd, ppd, bd', hz]
      refine kice_x ?_
      simp [qd]
      exact ⟨isTrm hx _ _ _ _ _ _, ad, ⟨by omega, by omega⟩, (((W2.trans Ac).trans Ad).put (by omega) kM _ md.arrs).put (by omega) kN _ _, ed.trans (ec.trans e2')⟩
    | false =>
      simp [pc, bc1, hz]
      have qc := fun y => box_put bc1 y
      refine kice_x ?_
      simp [qc]
      exact ⟨isTrm hx _ _ _ _ _ _, ac, ⟨by omega, by omega⟩, (W2.trans Ac).put (by omega) kN _ _, ec.trans e2'⟩

set_option maxHeartbeats 8000000 in
set_option maxRecDepth 10000 in
theorem i_bentTerm (h1 : a + 17 ≤ 1000000) : ICall Try.prog m 44 [.box k 0] (fun r m' => IsTrm r ∧ Drew l k a 17 m m') := by
  have kl := isBox hk
  obtain ⟨z, hz⟩ : ∃ z : List AV, z = [.v (.string ByteArray.empty), .v (.int .i64 0), .v (.int .i64 0), .v (.int .i64 0), .v (.int .i64 0), .v (.int .i64 0), .v (.int .i64 0)] := ⟨_, rfl⟩
  obtain ⟨N, hN⟩ : ∃ N, N = m.boxes.length := ⟨_, rfl⟩
  have kN : N ≠ k := by omega
  have A0 := (At.refl hk).app z m.arrs
  refine icode (md := 3) (o := fun _ => false) (by decide) (by decide) Try.func44 rfl (by decide) (by simp [Try.f44]) ?_
  simp only [Try.f44, Gd]
  simp [← hz, ← hN]
  refine call_ic (i_term l hb ⟨m.boxes ++ [z], m.arrs⟩ k a A0.src h0 (by omega)) rfl (by simp) (icok (by decide) (by decide)) ?_
  rintro r m1 ⟨⟨⟨x, ⟨ta, tb, tc⟩, ⟨td, te, tf⟩⟩, rfl, hx⟩, a1, ⟨g1, g2⟩, A1, e1⟩
  have hx : x.size ≤ 13 := hx
  have b1 : m1.boxes[N]? = some z := by rw [hN]; exact A1.new (by omega)
  have lN1 := isBox b1
  obtain ⟨M, hM⟩ : ∃ M, M = m1.boxes.length := ⟨_, rfl⟩
  have kM : M ≠ k := by have := isBox A1.src; omega
  have NM : M ≠ N := by omega
  have A1' := (A0.trans A1).app [.v (.string x), .v (.int .i64 ta), .v (.int .i64 tb), .v (.int .i64 tc), .v (.int .i64 td), .v (.int .i64 te), .v (.int .i64 tf)] m1.arrs
  simp [← hM]
  refine call_ic (i_next l hb ⟨m1.boxes ++ [[.v (.string x), .v (.int .i64 ta), .v (.int .i64 tb), .v (.int .i64 tc), .v (.int .i64 td), .v (.int .i64 te), .v (.int .i64 tf)]], m1.arrs⟩ k a1 A1'.src (by omega) (by omega) 14 (by decide) (by decide)) rfl (by simp) (icok (by decide) (by decide)) ?_
  rintro r m2 ⟨⟨n, rfl, _, _⟩, a2, ⟨g3, g4⟩, A2, e2⟩
  have p2 : m2.boxes[M]? = some [.v (.string x), .v (.int .i64 ta), .v (.int .i64 tb), .v (.int .i64 tc), .v (.int .i64 td), .v (.int .i64 te), .v (.int .i64 tf)] := by rw [hM]; exact A2.new (by omega)
  have b2 : m2.boxes[N]? = some z := A2.box (box_app b1 _) kN
  have W2 : At l k a2 m m2 := A1'.trans A2
  have e2' : m2.arrs = m.arrs := e2.trans e1
  by_cases c0 : n = 0
  · subst c0
    simp
    refine call_ic (i_bentName l hb m2 k a2 A2.src (by omega) (by omega)) rfl (by simp) (icok (by decide) (by decide)) ?_
    rintro r m3 ⟨⟨y, rfl, hy⟩, a3, ⟨g5, g6⟩, A3, e3⟩
    have p3 := A3.box p2 kM
    have b3 := A3.box b2 kN
    have b3' := fun x => box_set b3 NM x
    have q3 := fun x y => box_put (b3' x) y
    have pp3 := fun x => box_put p3 x
    simp [p3, pp3, b3', hz]
    refine kice_x ?_
    simp [q3]
    exact ⟨isTrm (by assumption) _ _ _ _ _ _, a3, ⟨by omega, by omega⟩, ((W2.trans A3).put (by omega) kM _ m3.arrs).put (by omega) kN _ _, e3.trans e2'⟩
  by_cases c1 : n = 1
  · subst c1
    simp
    refine call_ic (i_bentVersion l hb m2 k a2 A2.src (by omega) (by omega)) rfl (by simp) (icok (by decide) (by decide)) ?_
    rintro r m3 ⟨⟨⟨u, v, w⟩, rfl⟩, a3, ⟨g5, g6⟩, A3, e3⟩
    have p3 := A3.box p2 kM
    have b3 := A3.box b2 kN
    have b3' := fun x => box_set b3 NM x
    have q3 := fun x y => box_put (b3' x) y
    have pp3 := fun x => box_put p3 x
    simp [p3, pp3, b3', hz]
    refine kice_x ?_
    simp [q3]
    exact ⟨isTrm (by assumption) _ _ _ _ _ _, a3, ⟨by omega, by omega⟩, ((W2.trans A3).put (by omega) kM _ m3.arrs).put (by omega) kN _ _, e3.trans e2'⟩
  by_cases c2 : n = 2
  · subst c2
    simp
    refine call_ic (i_bentVersion l hb m2 k a2 A2.src (by omega) (by omega)) rfl (by simp) (icok (by decide) (by decide)) ?_
    rintro r m3 ⟨⟨⟨u, v, w⟩, rfl⟩, a3, ⟨g5, g6⟩, A3, e3⟩
    have p3 := A3.box p2 kM
    have b3 := A3.box b2 kN
    have b3' := fun x => box_set b3 NM x
    have q3 := fun x y => box_put (b3' x) y
    have pp3 := fun x => box_put p3 x
    simp [p3, pp3, b3', hz]
    refine kice_x ?_
    simp [q3]
    exact ⟨isTrm (by assumption) _ _ _ _ _ _, a3, ⟨by omega, by omega⟩, ((W2.trans A3).put (by omega) kM _ m3.arrs).put (by omega) kN _ _, e3.trans e2'⟩
  by_cases c3 : n = 3
  · subst c3
    have b2' := fun x => box_set b2 NM x
    have q2 := fun x y => box_put (b2' x) y
    have pp2 := fun x => box_put p2 x
    simp [p2, pp2, b2', hz]
    refine kice_x ?_
    simp [q2]
    exact ⟨isTrm hx _ _ _ _ _ _, a2, ⟨by omega, by omega⟩, (W2.put (by omega) kM _ m2.arrs).put (by omega) kN _ _, e2'⟩
  · have q2 := fun y => box_put b2 y
    simp [c0, c1, c2, c3, p2, b2, hz]
    refine kice_x ?_
    simp [q2]
    exact ⟨isTrm hx _ _ _ _ _ _, a2, ⟨by omega, by omega⟩, W2.put (by omega) kN _ _, e2'⟩
end

end Go.Proofs.Ytokhnmchnfkiiaa.Am

/- Draws: a package; three slices of it are arrays of the call's own. No conditions. -/
namespace Go.Proofs.Ytokhnmchnfkiiaa.Am
open Go Go.RowKit Go.Proofs
set_option linter.unusedSimpArgs false
set_option linter.unusedVariables false

/-- The array at a place, as a slice is held that was made by appending to nil: what is in it. -/
def SlM (m : Mem) (pl : Nat) (e : TypeId) (x : AV) (rows : List (List AV)) : Prop := (x = .nil ∧ rows = []) ∨ ∃ v, x = .arr pl v 0 rows.length ∧ m.arrs pl = ⟨v, true, e, rows⟩
theorem SlM.same {m m' : Mem} {pl : Nat} {e : TypeId} {x : AV} {rows : List (List AV)} (h : SlM m pl e x rows) (g : m'.arrs pl = m.arrs pl) : SlM m' pl e x rows := by
  rcases h with h | ⟨v, h1, h2⟩
  · exact .inl h
  · exact .inr ⟨v, h1, g.trans h2⟩
theorem SlM.one {m : Mem} {pl : Nat} {e : TypeId} {x : AV} {rows : List (List AV)} (h : SlM m pl e x rows) : x.one = true := by
  rcases h with ⟨rfl, _⟩ | ⟨v, rfl, _⟩ <;> rfl
theorem less_all {st : St} {l : List (Nat × AV)} (h : allSo st.env l) : Less st ⟨envOf l, st.mem⟩ := less_envOf h rfl fun _ => rfl
@[simp] theorem one_arrD (i n o len : Nat) : (AV.arr i n o len).one = true := rfl
/-- What is known of a drawn package. -/
structure DPn (n : Nat) (p : Pk) : Prop where
  pr : p.pr.length ≤ n
  ne : p.ne.length ≤ n
  cl : ∀ c ∈ p.ne, c.length ≤ n
  ba : p.ba.length ≤ n
abbrev DPk (p : Pk) : Prop := DPn 6 p
theorem DPn.mono {n k : Nat} {p : Pk} (h : DPn n p) (hk : n ≤ k) : DPn k p := ⟨Nat.le_trans h.pr hk, Nat.le_trans h.ne hk, fun c hc => Nat.le_trans (h.cl c hc) hk, Nat.le_trans h.ba hk⟩

section
variable (l : List Int) (hb : Byt l) (m : Mem) (k : Nat) (a : Int) (hk : m.boxes[k]? = some (srcB l a)) (h0 : 0 ≤ a)
include hb hk h0

set_option maxHeartbeats 32000000 in
set_option maxRecDepth 20000 in
theorem i_pack (h1 : a + 90 ≤ 1000000) : ICall Try.prog m 88 [.box k 0] (fun r m' => (∃ (p : Pk) (X Y Z : AV), r = .agg [.v (.string p.n), .v (.int .i64 p.v.a), .v (.int .i64 p.v.b), .v (.int .i64 p.v.c), .v (.int .i64 p.s), X, Y, Z] ∧ DPn 2 p ∧
    SlM m' 1023 9 X (p.pr.map strCells) ∧ SlM m' 1051 36 Y (p.ne.map (clauseCells false)) ∧ SlM m' 1060 28 Z (p.ba.map Trm.cells)) ∧ ∃ a', (a ≤ a' ∧ a' ≤ a + 90) ∧ At l k a' m m' ∧ ∀ j, j < 1000 ∨ 2000 ≤ j → m'.arrs j = m.arrs j) := by
  have kl := isBox hk
  have r2 : List.range 2 = [0, 1] := rfl
  have r5 : List.range 5 = [0, 1, 2, 3, 4] := rfl
  obtain ⟨z, hz⟩ : ∃ z : List AV, z = [.v (.string ByteArray.empty), .v (.int .i64 0), .v (.int .i64 0), .v (.int .i64 0), .v (.int .i64 0), .nil, .nil, .nil] := ⟨_, rfl⟩
  obtain ⟨N, hN⟩ : ∃ N, N = m.boxes.length := ⟨_, rfl⟩
  have kN : N ≠ k := by omega
  have A0 := (At.refl hk).app z m.arrs
  refine icode (md := 1000) (o := fun t => (t == 23).or (t == 34)) (by decide) (by decide) Try.func88 rfl (by decide) (by simp [Try.f88]) ?_
  simp only [Try.f88, Gd]
  simp [← hz, ← hN]
  refine call_ic (i_name l hb ⟨m.boxes ++ [z], m.arrs⟩ k a A0.src h0 (by omega)) rfl (by simp) (icok (by decide) (by decide)) ?_
  rintro r m1 ⟨⟨x, rfl, hx⟩, a1, ⟨g1, g2⟩, A1, e1⟩
  have b1 : m1.boxes[N]? = some z := by rw [hN]; exact A1.new (by omega)
  simp
  refine call_ic (i_next l hb m1 k a1 A1.src (by omega) (by omega) 3 (by decide) (by decide)) rfl (by simp) (icok (by decide) (by decide)) ?_
  rintro r m2 ⟨⟨v1, rfl, _, _⟩, a2, ⟨g3, g4⟩, A2, e2⟩
  have b2 := A2.box b1 kN
  obtain ⟨A, hA⟩ : ∃ A, A = IntKind.i64.wrap (1 + v1) := ⟨_, rfl⟩
  simp [← hA]
  refine call_ic (i_next l hb m2 k a2 A2.src (by omega) (by omega) 9 (by decide) (by decide)) rfl (by simp) (icok (by decide) (by decide)) ?_
  rintro r m3 ⟨⟨v2, rfl, _, _⟩, a3, ⟨g5, g6⟩, A3, e3⟩
  have b3 := A3.box b2 kN
  have lN3 := isBox b3
  obtain ⟨S, hS⟩ : ∃ S, S = IntKind.i64.wrap (1 + v2) := ⟨_, rfl⟩
  obtain ⟨M, hM⟩ : ∃ M, M = m3.boxes.length := ⟨_, rfl⟩
  have kM : M ≠ k := by have := isBox A3.src; omega
  have NM : M ≠ N := by omega
  have A3' : At l k a3 m ⟨m3.boxes ++ [[.v (.string x), .v (.int .i64 A), .v (.int .i64 0), .v (.int .i64 0), .v (.int .i64 S), .nil, .nil, .nil]], m3.arrs⟩ := (((A0.trans A1).trans A2).trans A3).app _ _
  simp [← hS, ← hM]
  refine call_ic (i_chance l hb ⟨m3.boxes ++ [[.v (.string x), .v (.int .i64 A), .v (.int .i64 0), .v (.int .i64 0), .v (.int .i64 S), .nil, .nil, .nil]], m3.arrs⟩ k a3 A3'.src (by omega) (by omega) 5 (by decide) (by decide)) rfl (by simp) (icok (by decide) (by decide)) ?_
  rintro r m4 ⟨⟨b, rfl⟩, a4, ⟨g7, g8⟩, A4, e4⟩
  have p4 : m4.boxes[M]? = some [.v (.string x), .v (.int .i64 A), .v (.int .i64 0), .v (.int .i64 0), .v (.int .i64 S), .nil, .nil, .nil] := by rw [hM]; exact A4.new (by omega)
  have b4 : m4.boxes[N]? = some z := A4.box (box_app b3 _) kN
  have W4 : At l k a4 m m4 := A3'.trans A4
  have e4' : m4.arrs = m.arrs := by rw [e4]; exact (e3.trans e2).trans e1
  have hadd : a4 ≤ a + 4 := by omega
  have hadl : a ≤ a4 := by omega
  clear A1 A2 A3 A4 A3' e1 e2 e3 e4 g1 g2 g3 g4 g5 g6 g7 g8 b1 b2 b3
  cases b with
  | true =>
    simp [r2, sealRows, sealCells]
    refine call_ic (i_next l hb m4 k a4 W4.src (by have := W4.len; omega) (by omega) 2 (by decide) (by decide)) rfl (by simp) (icok (by decide) (by decide)) ?_
    rintro r m5 ⟨⟨v5, rfl, w1, w2⟩, a5, ⟨g9, g10⟩, A5, e5⟩
    have p5 := A5.box p4 kM
    have b5 := A5.box b4 kN
    obtain ⟨y, hy, hg⟩ := someAt (q := [(⟨#[109, 97, 105, 108]⟩ : ByteArray), ⟨#[100, 98]⟩]) w1 w2
    have hg2 : (List.map strCells [(⟨#[109, 97, 105, 108]⟩ : ByteArray), ⟨#[100, 98]⟩])[v5.toNat]? = some [.v (.string y)] := by
      rw [List.getElem?_map, hg]
      rfl
    simp only [List.map, strCells] at hg2
    have r1 : List.range 1 = [0] := rfl
    simp [w1, hg2, p5, r1, r5, sealRows, sealCells, Mem.made]
    have b6 := box_set b5 NM [.v (.string x), .v (.int .i64 A), .v (.int .i64 0), .v (.int .i64 0), .v (.int .i64 S), (.arr 1023 ((m5.arrs 1023).ver + 1) 0 1), .nil, .nil]
    have p6 := box_put p5 [.v (.string x), .v (.int .i64 A), .v (.int .i64 0), .v (.int .i64 0), .v (.int .i64 S), (.arr 1023 ((m5.arrs 1023).ver + 1) 0 1), .nil, .nil]
    have W6 : At l k a5 m ⟨m5.boxes.set M [.v (.string x), .v (.int .i64 A), .v (.int .i64 0), .v (.int .i64 0), .v (.int .i64 S), (.arr 1023 ((m5.arrs 1023).ver + 1) 0 1), .nil, .nil], fun j => if j = 1023 then ⟨(m5.arrs 1023).ver + 1, true, 9, [[.v (.string y)]]⟩ else m5.arrs j⟩ := (W4.trans A5).put (by omega) kM _ _
    have e6 : ∀ j, j < 1000 ∨ 2000 ≤ j → (fun j => if j = 1023 then (⟨(m5.arrs 1023).ver + 1, true, 9, [[.v (.string y)]]⟩ : ArrSt) else m5.arrs j) j = m.arrs j := fun j hj => by simp only; rw [if_neg (by omega), e5, e4']
    have X6 : SlM ⟨m5.boxes.set M [.v (.string x), .v (.int .i64 A), .v (.int .i64 0), .v (.int .i64 0), .v (.int .i64 S), (.arr 1023 ((m5.arrs 1023).ver + 1) 0 1), .nil, .nil], fun j => if j = 1023 then ⟨(m5.arrs 1023).ver + 1, true, 9, [[.v (.string y)]]⟩ else m5.arrs j⟩ 1023 9 (.arr 1023 ((m5.arrs 1023).ver + 1) 0 1) ([y].map strCells) := .inr ⟨_, rfl, by simp⟩
    refine call_ic (i_pick l hb ⟨m5.boxes.set M [.v (.string x), .v (.int .i64 A), .v (.int .i64 0), .v (.int .i64 0), .v (.int .i64 S), (.arr 1023 ((m5.arrs 1023).ver + 1) 0 1), .nil, .nil], fun j => if j = 1023 then ⟨(m5.arrs 1023).ver + 1, true, 9, [[.v (.string y)]]⟩ else m5.arrs j⟩ k a5 W6.src (by omega) (by omega) false [0, 0, 1, 1, 2] (by simp) (by simp)) rfl (by simp) (icok (by decide) (by decide)) ?_
    rintro r m7 ⟨⟨c0, rfl, hc0⟩, a7, ⟨g11, g12⟩, A7, e7⟩
    have hc : 0 ≤ c0 ∧ c0 ≤ 2 := by simp at hc0; omega
    have W7 := W6.trans A7
    have p7 := A7.box p6 kM
    have b7 := A7.box b6 kN
    have X7 : SlM m7 1023 9 (.arr 1023 ((m5.arrs 1023).ver + 1) 0 1) ([y].map strCells) := X6.same (by rw [e7])
    have e7' : ∀ j, j < 1000 ∨ 2000 ≤ j → m7.arrs j = m.arrs j := fun j hj => by rw [e7]; exact e6 j hj
    have r1 : List.range 1 = [0] := rfl
    simp
    refine aloop (α := Int × Int × List (List Trm) × AV × Mem) (fun d => ⟨envOf [(0, .box k 0), (2, .box N 0), (3, .box M 0), (4, .v (.int .i64 d.1))], d.2.2.2.2⟩)
      (fun d => (0 ≤ d.1 ∧ d.1 + d.2.2.1.length ≤ 2) ∧ (a7 ≤ d.2.1 ∧ d.2.1 + 20 * d.1 ≤ a7 + 40) ∧ (∀ c ∈ d.2.2.1, c.length ≤ 2) ∧ At l k d.2.1 m d.2.2.2.2 ∧ d.2.2.2.2.boxes[N]? = some z ∧ d.2.2.2.2.boxes[M]? = some [.v (.string x), .v (.int .i64 A), .v (.int .i64 0), .v (.int .i64 0), .v (.int .i64 S), (.arr 1023 ((m5.arrs 1023).ver + 1) 0 1), d.2.2.2.1, .nil] ∧
        SlM d.2.2.2.2 1023 9 (.arr 1023 ((m5.arrs 1023).ver + 1) 0 1) ([y].map strCells) ∧ SlM d.2.2.2.2 1051 36 d.2.2.2.1 (d.2.2.1.map (clauseCells false)) ∧ ∀ j, j < 1000 ∨ 2000 ≤ j → d.2.2.2.2.arrs j = m.arrs j)
      (fun d => d.1.toNat) (c0, a7, [], .nil, m7) (less_envOf (by simp) rfl fun _ => rfl) ⟨by simp; omega, by simp; omega, by simp, W7, b7, p7, X7, .inl ⟨rfl, rfl⟩, e7'⟩ ?_
    rintro ⟨cn, av, ne, Y, mm⟩ ⟨⟨h2, h3⟩, ⟨h4, h5⟩, hcl, WW, bN, pM, XX, YY, ee⟩
    simp only at h2 h3 h4 h5 hcl WW bN pM XX YY ee ⊢
    by_cases hlt : 0 < cn
    · simp [hlt]
      refine call_ic (i_term l hb mm k av WW.src (by omega) (by omega)) rfl (by simp) (icok (by decide) (by decide)) ?_
      rintro r n1 ⟨⟨t1, rfl, ht1⟩, b1, ⟨x1, x2⟩, B1, f1⟩
      have p1 := B1.box pM kM
      have N1 := B1.box bN kN
      have W1 := WW.trans B1
      simp [sealRows, sealCells, Mem.made, r1]
      refine call_ic (i_chance l hb ⟨n1.boxes, fun j => if j = 1034 then ⟨(n1.arrs 1034).ver + 1, true, 28, [[.v (.string t1.n), .v (.int .i64 t1.lo.a), .v (.int .i64 t1.lo.b), .v (.int .i64 t1.lo.c), .v (.int .i64 t1.hi.a), .v (.int .i64 t1.hi.b), .v (.int .i64 t1.hi.c)]]⟩ else n1.arrs j⟩ k b1 B1.src (by omega) (by omega) 3 (by decide) (by decide)) rfl (by simp) (icok (by decide) (by decide)) ?_
      rintro r n2 ⟨⟨q, rfl⟩, b2, ⟨x3, x4⟩, B2, f2⟩
      have c2 : n2.arrs 1034 = ⟨(n1.arrs 1034).ver + 1, true, 28, [[.v (.string t1.n), .v (.int .i64 t1.lo.a), .v (.int .i64 t1.lo.b), .v (.int .i64 t1.lo.c), .v (.int .i64 t1.hi.a), .v (.int .i64 t1.hi.b), .v (.int .i64 t1.hi.c)]]⟩ := by rw [f2]; simp
      have p2 := B2.box (m0 := ⟨n1.boxes, fun j => if j = 1034 then ⟨(n1.arrs 1034).ver + 1, true, 28, [[.v (.string t1.n), .v (.int .i64 t1.lo.a), .v (.int .i64 t1.lo.b), .v (.int .i64 t1.lo.c), .v (.int .i64 t1.hi.a), .v (.int .i64 t1.hi.b), .v (.int .i64 t1.hi.c)]]⟩ else n1.arrs j⟩) p1 kM
      have N2 := B2.box (m0 := ⟨n1.boxes, fun j => if j = 1034 then ⟨(n1.arrs 1034).ver + 1, true, 28, [[.v (.string t1.n), .v (.int .i64 t1.lo.a), .v (.int .i64 t1.lo.b), .v (.int .i64 t1.lo.c), .v (.int .i64 t1.hi.a), .v (.int .i64 t1.hi.b), .v (.int .i64 t1.hi.c)]]⟩ else n1.arrs j⟩) N1 kN
      have W2 := (W1.arr (fun j => if j = 1034 then ⟨(n1.arrs 1034).ver + 1, true, 28, [[.v (.string t1.n), .v (.int .i64 t1.lo.a), .v (.int .i64 t1.lo.b), .v (.int .i64 t1.lo.c), .v (.int .i64 t1.hi.a), .v (.int .i64 t1.hi.b), .v (.int .i64 t1.hi.c)]]⟩ else n1.arrs j)).trans B2
      have g2 : ∀ j, j ≠ 1034 → n2.arrs j = mm.arrs j := fun j hj => by rw [f2]; simp only; rw [if_neg hj, f1]
      cases q with
      | true =>
        simp
        refine call_ic (i_term l hb n2 k b2 W2.src (by omega) (by omega)) rfl (by simp) (icok (by decide) (by decide)) ?_
        rintro r n3 ⟨⟨t2, rfl, ht2⟩, b3, ⟨x5, x6⟩, B3, f3⟩
        have c3 : n3.arrs 1034 = ⟨(n1.arrs 1034).ver + 1, true, 28, [[.v (.string t1.n), .v (.int .i64 t1.lo.a), .v (.int .i64 t1.lo.b), .v (.int .i64 t1.lo.c), .v (.int .i64 t1.hi.a), .v (.int .i64 t1.hi.b), .v (.int .i64 t1.hi.c)]]⟩ := by rw [f3, c2]
        have p3 := B3.box p2 kM
        have N3 := B3.box N2 kN
        have W3 := W2.trans B3
        simp [c3, r1, aappend, sealRows, sealCells]
        refine call_ic (i_chance l hb ⟨n3.boxes, fun j => if j = 1034 then ⟨(n1.arrs 1034).ver + 1 + 1, true, 28, [[.v (.string t1.n), .v (.int .i64 t1.lo.a), .v (.int .i64 t1.lo.b), .v (.int .i64 t1.lo.c), .v (.int .i64 t1.hi.a), .v (.int .i64 t1.hi.b), .v (.int .i64 t1.hi.c)], [.v (.string t2.n), .v (.int .i64 t2.lo.a), .v (.int .i64 t2.lo.b), .v (.int .i64 t2.lo.c), .v (.int .i64 t2.hi.a), .v (.int .i64 t2.hi.b), .v (.int .i64 t2.hi.c)]]⟩ else n3.arrs j⟩ k b3 B3.src (by omega) (by omega) 8 (by decide) (by decide)) rfl (by simp) (icok (by decide) (by decide)) ?_
        rintro r n9 ⟨⟨q, rfl⟩, b9, ⟨y1, y2⟩, B9, f9⟩
        have c9 : n9.arrs 1034 = ⟨(n1.arrs 1034).ver + 1 + 1, true, 28, [[.v (.string t1.n), .v (.int .i64 t1.lo.a), .v (.int .i64 t1.lo.b), .v (.int .i64 t1.lo.c), .v (.int .i64 t1.hi.a), .v (.int .i64 t1.hi.b), .v (.int .i64 t1.hi.c)], [.v (.string t2.n), .v (.int .i64 t2.lo.a), .v (.int .i64 t2.lo.b), .v (.int .i64 t2.lo.c), .v (.int .i64 t2.hi.a), .v (.int .i64 t2.hi.b), .v (.int .i64 t2.hi.c)]]⟩ := by rw [f9]; simp
        have p9 := B9.box (show (⟨n3.boxes, fun j => if j = 1034 then ⟨(n1.arrs 1034).ver + 1 + 1, true, 28, [[.v (.string t1.n), .v (.int .i64 t1.lo.a), .v (.int .i64 t1.lo.b), .v (.int .i64 t1.lo.c), .v (.int .i64 t1.hi.a), .v (.int .i64 t1.hi.b), .v (.int .i64 t1.hi.c)], [.v (.string t2.n), .v (.int .i64 t2.lo.a), .v (.int .i64 t2.lo.b), .v (.int .i64 t2.lo.c), .v (.int .i64 t2.hi.a), .v (.int .i64 t2.hi.b), .v (.int .i64 t2.hi.c)]]⟩ else n3.arrs j⟩ : Mem).boxes[M]? = some [.v (.string x), .v (.int .i64 A), .v (.int .i64 0), .v (.int .i64 0), .v (.int .i64 S), (.arr 1023 ((m5.arrs 1023).ver + 1) 0 1), Y, .nil] from p3) kM
        have N9 := B9.box (show (⟨n3.boxes, fun j => if j = 1034 then ⟨(n1.arrs 1034).ver + 1 + 1, true, 28, [[.v (.string t1.n), .v (.int .i64 t1.lo.a), .v (.int .i64 t1.lo.b), .v (.int .i64 t1.lo.c), .v (.int .i64 t1.hi.a), .v (.int .i64 t1.hi.b), .v (.int .i64 t1.hi.c)], [.v (.string t2.n), .v (.int .i64 t2.lo.a), .v (.int .i64 t2.lo.b), .v (.int .i64 t2.lo.c), .v (.int .i64 t2.hi.a), .v (.int .i64 t2.hi.b), .v (.int .i64 t2.hi.c)]]⟩ else n3.arrs j⟩ : Mem).boxes[N]? = some z from N3) kN
        have W9 := (W3.arr (fun j => if j = 1034 then ⟨(n1.arrs 1034).ver + 1 + 1, true, 28, [[.v (.string t1.n), .v (.int .i64 t1.lo.a), .v (.int .i64 t1.lo.b), .v (.int .i64 t1.lo.c), .v (.int .i64 t1.hi.a), .v (.int .i64 t1.hi.b), .v (.int .i64 t1.hi.c)], [.v (.string t2.n), .v (.int .i64 t2.lo.a), .v (.int .i64 t2.lo.b), .v (.int .i64 t2.lo.c), .v (.int .i64 t2.hi.a), .v (.int .i64 t2.hi.b), .v (.int .i64 t2.hi.c)]]⟩ else n3.arrs j)).trans B9
        have g9 : ∀ j, j ≠ 1034 → n9.arrs j = mm.arrs j := fun j hj => by rw [f9]; simp only; rw [if_neg hj, f3]; exact g2 j hj
        cases q with
        | true =>
          simp
          refine call_p (p_anyTerm0 ⟨#[109, 97, 105, 108]⟩) (by simp) ?_
          simp [c9]
          obtain ⟨nM, hnM⟩ : ∃ nM : Mem, nM = ⟨n9.boxes, fun j => if j = 1034 then ⟨(n1.arrs 1034).ver + 1 + 1, true, 28, [[.v (.string ⟨#[109, 97, 105, 108]⟩), .v (.int .i64 0), .v (.int .i64 0), .v (.int .i64 0), .v (.int .i64 1000), .v (.int .i64 0), .v (.int .i64 0)], [.v (.string t2.n), .v (.int .i64 t2.lo.a), .v (.int .i64 t2.lo.b), .v (.int .i64 t2.lo.c), .v (.int .i64 t2.hi.a), .v (.int .i64 t2.hi.b), .v (.int .i64 t2.hi.c)]]⟩ else n9.arrs j⟩ := ⟨_, rfl⟩
          rw [← hnM]
          have cM : nM.arrs 1034 = ⟨(n1.arrs 1034).ver + 1 + 1, true, 28, [[.v (.string ⟨#[109, 97, 105, 108]⟩), .v (.int .i64 0), .v (.int .i64 0), .v (.int .i64 0), .v (.int .i64 1000), .v (.int .i64 0), .v (.int .i64 0)], [.v (.string t2.n), .v (.int .i64 t2.lo.a), .v (.int .i64 t2.lo.b), .v (.int .i64 t2.lo.c), .v (.int .i64 t2.hi.a), .v (.int .i64 t2.hi.b), .v (.int .i64 t2.hi.c)]]⟩ := by rw [hnM]; simp
          have pMM : nM.boxes[M]? = some [.v (.string x), .v (.int .i64 A), .v (.int .i64 0), .v (.int .i64 0), .v (.int .i64 S), (.arr 1023 ((m5.arrs 1023).ver + 1) 0 1), Y, .nil] := by rw [hnM]; exact p9
          have bMM : nM.boxes[N]? = some z := by rw [hnM]; exact N9
          have WM : At l k b9 m nM := by rw [hnM]; exact W9.arr _
          have gM : ∀ j, j ≠ 1034 → nM.arrs j = mm.arrs j := fun j hj => by rw [hnM]; simp only; rw [if_neg hj]; exact g9 j hj
          have cc := cM
          have hw : IntKind.i64.wrap (cn - 1) = cn - 1 := IntWalk.i64_in _ (by omega)
          have pE := pMM
          have pE2 := p9
          have bE := bMM
          have WE : At l k b9 m nM := WM
          have fE : ∀ j, j ≠ 1034 → nM.arrs j = mm.arrs j := gM
          rcases YY with ⟨hY, hne⟩ | ⟨v, hY, hv⟩
          · have hne' : ne = [] := by simpa using hne
            subst hne'
            rw [hY] at pE pE2
            simp [pE, pE2, cc, r1, aappend, sealRows, sealCells, Mem.made]
            refine ⟨cn - 1, b9, [[(⟨⟨#[109, 97, 105, 108]⟩, ⟨0, 0, 0⟩, ⟨1000, 0, 0⟩⟩ : Trm), t2]], .arr 1051 ((nM.arrs 1051).ver + 1) 0 1, _, less_all (by simp [hw]), ⟨⟨by omega, by simp; omega⟩, ⟨by omega, by omega⟩, by simp, WE.put (by omega) kM _ _, box_set bE NM _, box_put pE _, (XX.same (fE 1023 (by decide))).same (by simp), .inr ⟨_, rfl, by simp⟩, fun j hj => ?_⟩, by omega⟩
            have j1 : j ≠ 1051 := by omega
            have j2 : j ≠ 1034 := by omega

            simp [j1, j2]
            rw [fE j j2]
            exact ee j hj
          · have hv' : nM.arrs 1051 = ⟨v, true, 36, ne.map (clauseCells false)⟩ := (fE 1051 (by decide)).trans hv
            have hlen : (ne.map (clauseCells false)).length = ne.length := List.length_map _
            rw [hlen] at hY
            have hb24 : (ne.length + 1) * 24 ≤ 140737488355328 := by omega
            rw [hY] at pE pE2
            simp [pE, pE2, cc, hv', hb24, r1, aappend, sealRows, sealCells, Mem.made]
            refine ⟨cn - 1, b9, ne ++ [[(⟨⟨#[109, 97, 105, 108]⟩, ⟨0, 0, 0⟩, ⟨1000, 0, 0⟩⟩ : Trm), t2]], .arr 1051 (v + 1) 0 (ne.length + 1), _, less_all (by simp [hw]), ⟨⟨by omega, by simp; omega⟩, ⟨by omega, by omega⟩, ?_, WE.put (by omega) kM _ _, box_set bE NM _, box_put pE _, (XX.same (fE 1023 (by decide))).same (by simp), .inr ⟨v + 1, by simp, by simp⟩, fun j hj => ?_⟩, by omega⟩
            · intro c hc
              rcases List.mem_append.1 hc with hc | hc
              · exact hcl c hc
              · simp only [List.mem_singleton] at hc
                subst hc
                simp
            have j1 : j ≠ 1051 := by omega
            have j2 : j ≠ 1034 := by omega

            simp [j1, j2]
            rw [fE j j2]
            exact ee j hj

        | false =>
          simp
          have cc := c9
          have hw : IntKind.i64.wrap (cn - 1) = cn - 1 := IntWalk.i64_in _ (by omega)
          have pE := p9
          have pE2 := p9
          have bE := N9
          have WE : At l k b9 m n9 := W9
          have fE : ∀ j, j ≠ 1034 → n9.arrs j = mm.arrs j := g9
          rcases YY with ⟨hY, hne⟩ | ⟨v, hY, hv⟩
          · have hne' : ne = [] := by simpa using hne
            subst hne'
            rw [hY] at pE pE2
            simp [pE, pE2, cc, r1, aappend, sealRows, sealCells, Mem.made]
            refine ⟨cn - 1, b9, [[t1, t2]], .arr 1051 ((n9.arrs 1051).ver + 1) 0 1, _, less_all (by simp [hw]), ⟨⟨by omega, by simp; omega⟩, ⟨by omega, by omega⟩, by simp, WE.put (by omega) kM _ _, box_set bE NM _, box_put pE _, (XX.same (fE 1023 (by decide))).same (by simp), .inr ⟨_, rfl, by simp⟩, fun j hj => ?_⟩, by omega⟩
            have j1 : j ≠ 1051 := by omega
            have j2 : j ≠ 1034 := by omega

            simp [j1, j2]
            rw [fE j j2]
            exact ee j hj
          · have hv' : n9.arrs 1051 = ⟨v, true, 36, ne.map (clauseCells false)⟩ := (fE 1051 (by decide)).trans hv
            have hlen : (ne.map (clauseCells false)).length = ne.length := List.length_map _
            rw [hlen] at hY
            have hb24 : (ne.length + 1) * 24 ≤ 140737488355328 := by omega
            rw [hY] at pE pE2
            simp [pE, pE2, cc, hv', hb24, r1, aappend, sealRows, sealCells, Mem.made]
            refine ⟨cn - 1, b9, ne ++ [[t1, t2]], .arr 1051 (v + 1) 0 (ne.length + 1), _, less_all (by simp [hw]), ⟨⟨by omega, by simp; omega⟩, ⟨by omega, by omega⟩, ?_, WE.put (by omega) kM _ _, box_set bE NM _, box_put pE _, (XX.same (fE 1023 (by decide))).same (by simp), .inr ⟨v + 1, by simp, by simp⟩, fun j hj => ?_⟩, by omega⟩
            · intro c hc
              rcases List.mem_append.1 hc with hc | hc
              · exact hcl c hc
              · simp only [List.mem_singleton] at hc
                subst hc
                simp
            have j1 : j ≠ 1051 := by omega
            have j2 : j ≠ 1034 := by omega

            simp [j1, j2]
            rw [fE j j2]
            exact ee j hj

      | false =>
        simp
        refine call_ic (i_chance l hb n2 k b2 B2.src (by omega) (by omega) 8 (by decide) (by decide)) rfl (by simp) (icok (by decide) (by decide)) ?_
        rintro r n9 ⟨⟨q, rfl⟩, b9, ⟨y1, y2⟩, B9, f9⟩
        have c9 : n9.arrs 1034 = ⟨(n1.arrs 1034).ver + 1, true, 28, [[.v (.string t1.n), .v (.int .i64 t1.lo.a), .v (.int .i64 t1.lo.b), .v (.int .i64 t1.lo.c), .v (.int .i64 t1.hi.a), .v (.int .i64 t1.hi.b), .v (.int .i64 t1.hi.c)]]⟩ := by rw [f9]; exact c2
        have p9 := B9.box p2 kM
        have N9 := B9.box N2 kN
        have W9 := (W2).trans B9
        have g9 : ∀ j, j ≠ 1034 → n9.arrs j = mm.arrs j := fun j hj => by rw [f9]; exact g2 j hj
        cases q with
        | true =>
          simp
          refine call_p (p_anyTerm0 ⟨#[109, 97, 105, 108]⟩) (by simp) ?_
          simp [c9]
          obtain ⟨nM, hnM⟩ : ∃ nM : Mem, nM = ⟨n9.boxes, fun j => if j = 1034 then ⟨(n1.arrs 1034).ver + 1, true, 28, [[.v (.string ⟨#[109, 97, 105, 108]⟩), .v (.int .i64 0), .v (.int .i64 0), .v (.int .i64 0), .v (.int .i64 1000), .v (.int .i64 0), .v (.int .i64 0)]]⟩ else n9.arrs j⟩ := ⟨_, rfl⟩
          rw [← hnM]
          have cM : nM.arrs 1034 = ⟨(n1.arrs 1034).ver + 1, true, 28, [[.v (.string ⟨#[109, 97, 105, 108]⟩), .v (.int .i64 0), .v (.int .i64 0), .v (.int .i64 0), .v (.int .i64 1000), .v (.int .i64 0), .v (.int .i64 0)]]⟩ := by rw [hnM]; simp
          have pMM : nM.boxes[M]? = some [.v (.string x), .v (.int .i64 A), .v (.int .i64 0), .v (.int .i64 0), .v (.int .i64 S), (.arr 1023 ((m5.arrs 1023).ver + 1) 0 1), Y, .nil] := by rw [hnM]; exact p9
          have bMM : nM.boxes[N]? = some z := by rw [hnM]; exact N9
          have WM : At l k b9 m nM := by rw [hnM]; exact W9.arr _
          have gM : ∀ j, j ≠ 1034 → nM.arrs j = mm.arrs j := fun j hj => by rw [hnM]; simp only; rw [if_neg hj]; exact g9 j hj
          have cc := cM
          have hw : IntKind.i64.wrap (cn - 1) = cn - 1 := IntWalk.i64_in _ (by omega)
          have pE := pMM
          have pE2 := p9
          have bE := bMM
          have WE : At l k b9 m nM := WM
          have fE : ∀ j, j ≠ 1034 → nM.arrs j = mm.arrs j := gM
          rcases YY with ⟨hY, hne⟩ | ⟨v, hY, hv⟩
          · have hne' : ne = [] := by simpa using hne
            subst hne'
            rw [hY] at pE pE2
            simp [pE, pE2, cc, r1, aappend, sealRows, sealCells, Mem.made]
            refine ⟨cn - 1, b9, [[(⟨⟨#[109, 97, 105, 108]⟩, ⟨0, 0, 0⟩, ⟨1000, 0, 0⟩⟩ : Trm)]], .arr 1051 ((nM.arrs 1051).ver + 1) 0 1, _, less_all (by simp [hw]), ⟨⟨by omega, by simp; omega⟩, ⟨by omega, by omega⟩, by simp, WE.put (by omega) kM _ _, box_set bE NM _, box_put pE _, (XX.same (fE 1023 (by decide))).same (by simp), .inr ⟨_, rfl, by simp⟩, fun j hj => ?_⟩, by omega⟩
            have j1 : j ≠ 1051 := by omega
            have j2 : j ≠ 1034 := by omega

            simp [j1, j2]
            rw [fE j j2]
            exact ee j hj
          · have hv' : nM.arrs 1051 = ⟨v, true, 36, ne.map (clauseCells false)⟩ := (fE 1051 (by decide)).trans hv
            have hlen : (ne.map (clauseCells false)).length = ne.length := List.length_map _
            rw [hlen] at hY
            have hb24 : (ne.length + 1) * 24 ≤ 140737488355328 := by omega
            rw [hY] at pE pE2
            simp [pE, pE2, cc, hv', hb24, r1, aappend, sealRows, sealCells, Mem.made]
            refine ⟨cn - 1, b9, ne ++ [[(⟨⟨#[109, 97, 105, 108]⟩, ⟨0, 0, 0⟩, ⟨1000, 0, 0⟩⟩ : Trm)]], .arr 1051 (v + 1) 0 (ne.length + 1), _, less_all (by simp [hw]), ⟨⟨by omega, by simp; omega⟩, ⟨by omega, by omega⟩, ?_, WE.put (by omega) kM _ _, box_set bE NM _, box_put pE _, (XX.same (fE 1023 (by decide))).same (by simp), .inr ⟨v + 1, by simp, by simp⟩, fun j hj => ?_⟩, by omega⟩
            · intro c hc
              rcases List.mem_append.1 hc with hc | hc
              · exact hcl c hc
              · simp only [List.mem_singleton] at hc
                subst hc
                simp
            have j1 : j ≠ 1051 := by omega
            have j2 : j ≠ 1034 := by omega

            simp [j1, j2]
            rw [fE j j2]
            exact ee j hj

        | false =>
          simp
          have cc := c9
          have hw : IntKind.i64.wrap (cn - 1) = cn - 1 := IntWalk.i64_in _ (by omega)
          have pE := p9
          have pE2 := p9
          have bE := N9
          have WE : At l k b9 m n9 := W9
          have fE : ∀ j, j ≠ 1034 → n9.arrs j = mm.arrs j := g9
          rcases YY with ⟨hY, hne⟩ | ⟨v, hY, hv⟩
          · have hne' : ne = [] := by simpa using hne
            subst hne'
            rw [hY] at pE pE2
            simp [pE, pE2, cc, r1, aappend, sealRows, sealCells, Mem.made]
            refine ⟨cn - 1, b9, [[t1]], .arr 1051 ((n9.arrs 1051).ver + 1) 0 1, _, less_all (by simp [hw]), ⟨⟨by omega, by simp; omega⟩, ⟨by omega, by omega⟩, by simp, WE.put (by omega) kM _ _, box_set bE NM _, box_put pE _, (XX.same (fE 1023 (by decide))).same (by simp), .inr ⟨_, rfl, by simp⟩, fun j hj => ?_⟩, by omega⟩
            have j1 : j ≠ 1051 := by omega
            have j2 : j ≠ 1034 := by omega

            simp [j1, j2]
            rw [fE j j2]
            exact ee j hj
          · have hv' : n9.arrs 1051 = ⟨v, true, 36, ne.map (clauseCells false)⟩ := (fE 1051 (by decide)).trans hv
            have hlen : (ne.map (clauseCells false)).length = ne.length := List.length_map _
            rw [hlen] at hY
            have hb24 : (ne.length + 1) * 24 ≤ 140737488355328 := by omega
            rw [hY] at pE pE2
            simp [pE, pE2, cc, hv', hb24, r1, aappend, sealRows, sealCells, Mem.made]
            refine ⟨cn - 1, b9, ne ++ [[t1]], .arr 1051 (v + 1) 0 (ne.length + 1), _, less_all (by simp [hw]), ⟨⟨by omega, by simp; omega⟩, ⟨by omega, by omega⟩, ?_, WE.put (by omega) kM _ _, box_set bE NM _, box_put pE _, (XX.same (fE 1023 (by decide))).same (by simp), .inr ⟨v + 1, by simp, by simp⟩, fun j hj => ?_⟩, by omega⟩
            · intro c hc
              rcases List.mem_append.1 hc with hc | hc
              · exact hcl c hc
              · simp only [List.mem_singleton] at hc
                subst hc
                simp
            have j1 : j ≠ 1051 := by omega
            have j2 : j ≠ 1034 := by omega

            simp [j1, j2]
            rw [fE j j2]
            exact ee j hj

    · simp [hlt]
      refine call_ic (i_chance l hb mm k av WW.src (by omega) (by omega) 6 (by decide) (by decide)) rfl (by simp) (icok (by decide) (by decide)) ?_
      rintro r n1 ⟨⟨q, rfl⟩, b1, ⟨x1, x2⟩, B1, f1⟩
      have p1 := B1.box pM kM
      have N1 := B1.box bN kN
      have W1 := WW.trans B1
      have X1 := XX.same (m' := n1) (by rw [f1])
      have Y1 := YY.same (m' := n1) (by rw [f1])
      have e1 : ∀ j, j < 1000 ∨ 2000 ≤ j → n1.arrs j = m.arrs j := fun j hj => by rw [f1]; exact ee j hj
      have Yo := Y1.one
      have hDP : ∀ ba : List Trm, ba.length ≤ 2 → DPn 2 { n := x, v := ⟨A, 0, 0⟩, s := S, pr := [y], ne := ne, ba := ba } := fun ba hba => ⟨by simp, by simp only; omega, hcl, hba⟩
      cases q with
      | true =>
        simp
        refine adraw_i [0, 1, 2] [3, 4] [5, 6, 7] (fun mm => mm.boxes[M]? = some [.v (.string x), .v (.int .i64 A), .v (.int .i64 0), .v (.int .i64 0), .v (.int .i64 S), (.arr 1023 ((m5.arrs 1023).ver + 1) 0 1), Y, .nil]) [.box M 7, .nil, .box k 0] (by decide +kernel) p1 ?_
        simp +contextual [yieldsTo, p1]
        refine call_ic (i_term l hb n1 k b1 B1.src (by omega) (by omega)) rfl (by simp) (icok (by decide) (by decide)) ?_
        rintro r n2 ⟨⟨t, rfl, ht⟩, b2, ⟨x3, x4⟩, B2, f2⟩
        have p2 := B2.box p1 kM
        have N2 := B2.box N1 kN
        have N2' := fun x => box_set N2 NM x
        have q2 := fun x y => box_put (N2' x) y
        have pp2 := fun x => box_put p2 x
        simp [p2, r1, sealRows, sealCells, aappend, Mem.made, pp2, N2', hz, Yo]
        refine kice_x ?_
        simp [q2]
        refine ⟨⟨{ n := x, v := ⟨A, 0, 0⟩, s := S, pr := [y], ne := ne, ba := [t] }, _, _, _, ⟨rfl, rfl, rfl, rfl, rfl, rfl, rfl, rfl⟩, hDP [t] (by simp), (X1.same (m' := n2) (by rw [f2])).same (by simp), (Y1.same (m' := n2) (by rw [f2])).same (by simp), .inr ⟨_, rfl, by simp⟩⟩, b2, ⟨by omega, by omega⟩, ((W1.trans B2).put (by omega) kM _ n2.arrs).put (by omega) kN _ _, fun j hj => ?_⟩
        have j1 : j ≠ 1060 := by omega
        simp [j1]
        rw [f2]
        exact e1 j hj
      | false =>
        have q1 := fun y => box_put N1 y
        simp [p1, N1, hz, Yo]
        refine kice_x ?_
        simp [q1]
        exact ⟨⟨{ n := x, v := ⟨A, 0, 0⟩, s := S, pr := [y], ne := ne, ba := [] }, _, _, _, ⟨rfl, rfl, rfl, rfl, rfl, rfl, rfl, rfl⟩, hDP [] (by simp), X1.same rfl, Y1.same rfl, .inl ⟨rfl, rfl⟩⟩, b1, ⟨by omega, by omega⟩, W1.put (by omega) kN _ _, e1⟩
  | false =>
    simp [r5, sealRows, sealCells]
    have X4 : SlM m4 1023 9 .nil (([] : List ByteArray).map strCells) := .inl ⟨rfl, rfl⟩

    refine call_ic (i_pick l hb m4 k a4 W4.src (by omega) (by omega) false [0, 0, 1, 1, 2] (by simp) (by simp)) rfl (by simp) (icok (by decide) (by decide)) ?_
    rintro r m7 ⟨⟨c0, rfl, hc0⟩, a7, ⟨g11, g12⟩, A7, e7⟩
    have hc : 0 ≤ c0 ∧ c0 ≤ 2 := by simp at hc0; omega
    have W7 := W4.trans A7
    have p7 := A7.box p4 kM
    have b7 := A7.box b4 kN
    have X7 : SlM m7 1023 9 .nil (([] : List ByteArray).map strCells) := X4.same (by rw [e7])
    have e7' : ∀ j, j < 1000 ∨ 2000 ≤ j → m7.arrs j = m.arrs j := fun j hj => by rw [e7]; rw [e4']
    have r1 : List.range 1 = [0] := rfl
    simp
    refine aloop (α := Int × Int × List (List Trm) × AV × Mem) (fun d => ⟨envOf [(0, .box k 0), (2, .box N 0), (3, .box M 0), (4, .v (.int .i64 d.1))], d.2.2.2.2⟩)
      (fun d => (0 ≤ d.1 ∧ d.1 + d.2.2.1.length ≤ 2) ∧ (a7 ≤ d.2.1 ∧ d.2.1 + 20 * d.1 ≤ a7 + 40) ∧ (∀ c ∈ d.2.2.1, c.length ≤ 2) ∧ At l k d.2.1 m d.2.2.2.2 ∧ d.2.2.2.2.boxes[N]? = some z ∧ d.2.2.2.2.boxes[M]? = some [.v (.string x), .v (.int .i64 A), .v (.int .i64 0), .v (.int .i64 0), .v (.int .i64 S), .nil, d.2.2.2.1, .nil] ∧
        SlM d.2.2.2.2 1023 9 .nil (([] : List ByteArray).map strCells) ∧ SlM d.2.2.2.2 1051 36 d.2.2.2.1 (d.2.2.1.map (clauseCells false)) ∧ ∀ j, j < 1000 ∨ 2000 ≤ j → d.2.2.2.2.arrs j = m.arrs j)
      (fun d => d.1.toNat) (c0, a7, [], .nil, m7) (less_envOf (by simp) rfl fun _ => rfl) ⟨by simp; omega, by simp; omega, by simp, W7, b7, p7, X7, .inl ⟨rfl, rfl⟩, e7'⟩ ?_
    rintro ⟨cn, av, ne, Y, mm⟩ ⟨⟨h2, h3⟩, ⟨h4, h5⟩, hcl, WW, bN, pM, XX, YY, ee⟩
    simp only at h2 h3 h4 h5 hcl WW bN pM XX YY ee ⊢
    by_cases hlt : 0 < cn
    · simp [hlt]
      refine call_ic (i_term l hb mm k av WW.src (by omega) (by omega)) rfl (by simp) (icok (by decide) (by decide)) ?_
      rintro r n1 ⟨⟨t1, rfl, ht1⟩, b1, ⟨x1, x2⟩, B1, f1⟩
      have p1 := B1.box pM kM
      have N1 := B1.box bN kN
      have W1 := WW.trans B1
      simp [sealRows, sealCells, Mem.made, r1]
      refine call_ic (i_chance l hb ⟨n1.boxes, fun j => if j = 1034 then ⟨(n1.arrs 1034).ver + 1, true, 28, [[.v (.string t1.n), .v (.int .i64 t1.lo.a), .v (.int .i64 t1.lo.b), .v (.int .i64 t1.lo.c), .v (.int .i64 t1.hi.a), .v (.int .i64 t1.hi.b), .v (.int .i64 t1.hi.c)]]⟩ else n1.arrs j⟩ k b1 B1.src (by omega) (by omega) 3 (by decide) (by decide)) rfl (by simp) (icok (by decide) (by decide)) ?_
      rintro r n2 ⟨⟨q, rfl⟩, b2, ⟨x3, x4⟩, B2, f2⟩
      have c2 : n2.arrs 1034 = ⟨(n1.arrs 1034).ver + 1, true, 28, [[.v (.string t1.n), .v (.int .i64 t1.lo.a), .v (.int .i64 t1.lo.b), .v (.int .i64 t1.lo.c), .v (.int .i64 t1.hi.a), .v (.int .i64 t1.hi.b), .v (.int .i64 t1.hi.c)]]⟩ := by rw [f2]; simp
      have p2 := B2.box (m0 := ⟨n1.boxes, fun j => if j = 1034 then ⟨(n1.arrs 1034).ver + 1, true, 28, [[.v (.string t1.n), .v (.int .i64 t1.lo.a), .v (.int .i64 t1.lo.b), .v (.int .i64 t1.lo.c), .v (.int .i64 t1.hi.a), .v (.int .i64 t1.hi.b), .v (.int .i64 t1.hi.c)]]⟩ else n1.arrs j⟩) p1 kM
      have N2 := B2.box (m0 := ⟨n1.boxes, fun j => if j = 1034 then ⟨(n1.arrs 1034).ver + 1, true, 28, [[.v (.string t1.n), .v (.int .i64 t1.lo.a), .v (.int .i64 t1.lo.b), .v (.int .i64 t1.lo.c), .v (.int .i64 t1.hi.a), .v (.int .i64 t1.hi.b), .v (.int .i64 t1.hi.c)]]⟩ else n1.arrs j⟩) N1 kN
      have W2 := (W1.arr (fun j => if j = 1034 then ⟨(n1.arrs 1034).ver + 1, true, 28, [[.v (.string t1.n), .v (.int .i64 t1.lo.a), .v (.int .i64 t1.lo.b), .v (.int .i64 t1.lo.c), .v (.int .i64 t1.hi.a), .v (.int .i64 t1.hi.b), .v (.int .i64 t1.hi.c)]]⟩ else n1.arrs j)).trans B2
      have g2 : ∀ j, j ≠ 1034 → n2.arrs j = mm.arrs j := fun j hj => by rw [f2]; simp only; rw [if_neg hj, f1]
      cases q with
      | true =>
        simp
        refine call_ic (i_term l hb n2 k b2 W2.src (by omega) (by omega)) rfl (by simp) (icok (by decide) (by decide)) ?_
        rintro r n3 ⟨⟨t2, rfl, ht2⟩, b3, ⟨x5, x6⟩, B3, f3⟩
        have c3 : n3.arrs 1034 = ⟨(n1.arrs 1034).ver + 1, true, 28, [[.v (.string t1.n), .v (.int .i64 t1.lo.a), .v (.int .i64 t1.lo.b), .v (.int .i64 t1.lo.c), .v (.int .i64 t1.hi.a), .v (.int .i64 t1.hi.b), .v (.int .i64 t1.hi.c)]]⟩ := by rw [f3, c2]
        have p3 := B3.box p2 kM
        have N3 := B3.box N2 kN
        have W3 := W2.trans B3
        simp [c3, r1, aappend, sealRows, sealCells]
        refine call_ic (i_chance l hb ⟨n3.boxes, fun j => if j = 1034 then ⟨(n1.arrs 1034).ver + 1 + 1, true, 28, [[.v (.string t1.n), .v (.int .i64 t1.lo.a), .v (.int .i64 t1.lo.b), .v (.int .i64 t1.lo.c), .v (.int .i64 t1.hi.a), .v (.int .i64 t1.hi.b), .v (.int .i64 t1.hi.c)], [.v (.string t2.n), .v (.int .i64 t2.lo.a), .v (.int .i64 t2.lo.b), .v (.int .i64 t2.lo.c), .v (.int .i64 t2.hi.a), .v (.int .i64 t2.hi.b), .v (.int .i64 t2.hi.c)]]⟩ else n3.arrs j⟩ k b3 B3.src (by omega) (by omega) 8 (by decide) (by decide)) rfl (by simp) (icok (by decide) (by decide)) ?_
        rintro r n9 ⟨⟨q, rfl⟩, b9, ⟨y1, y2⟩, B9, f9⟩
        have c9 : n9.arrs 1034 = ⟨(n1.arrs 1034).ver + 1 + 1, true, 28, [[.v (.string t1.n), .v (.int .i64 t1.lo.a), .v (.int .i64 t1.lo.b), .v (.int .i64 t1.lo.c), .v (.int .i64 t1.hi.a), .v (.int .i64 t1.hi.b), .v (.int .i64 t1.hi.c)], [.v (.string t2.n), .v (.int .i64 t2.lo.a), .v (.int .i64 t2.lo.b), .v (.int .i64 t2.lo.c), .v (.int .i64 t2.hi.a), .v (.int .i64 t2.hi.b), .v (.int .i64 t2.hi.c)]]⟩ := by rw [f9]; simp
        have p9 := B9.box (show (⟨n3.boxes, fun j => if j = 1034 then ⟨(n1.arrs 1034).ver + 1 + 1, true, 28, [[.v (.string t1.n), .v (.int .i64 t1.lo.a), .v (.int .i64 t1.lo.b), .v (.int .i64 t1.lo.c), .v (.int .i64 t1.hi.a), .v (.int .i64 t1.hi.b), .v (.int .i64 t1.hi.c)], [.v (.string t2.n), .v (.int .i64 t2.lo.a), .v (.int .i64 t2.lo.b), .v (.int .i64 t2.lo.c), .v (.int .i64 t2.hi.a), .v (.int .i64 t2.hi.b), .v (.int .i64 t2.hi.c)]]⟩ else n3.arrs j⟩ : Mem).boxes[M]? = some [.v (.string x), .v (.int .i64 A), .v (.int .i64 0), .v (.int .i64 0), .v (.int .i64 S), .nil, Y, .nil] from p3) kM
        have N9 := B9.box (show (⟨n3.boxes, fun j => if j = 1034 then ⟨(n1.arrs 1034).ver + 1 + 1, true, 28, [[.v (.string t1.n), .v (.int .i64 t1.lo.a), .v (.int .i64 t1.lo.b), .v (.int .i64 t1.lo.c), .v (.int .i64 t1.hi.a), .v (.int .i64 t1.hi.b), .v (.int .i64 t1.hi.c)], [.v (.string t2.n), .v (.int .i64 t2.lo.a), .v (.int .i64 t2.lo.b), .v (.int .i64 t2.lo.c), .v (.int .i64 t2.hi.a), .v (.int .i64 t2.hi.b), .v (.int .i64 t2.hi.c)]]⟩ else n3.arrs j⟩ : Mem).boxes[N]? = some z from N3) kN
        have W9 := (W3.arr (fun j => if j = 1034 then ⟨(n1.arrs 1034).ver + 1 + 1, true, 28, [[.v (.string t1.n), .v (.int .i64 t1.lo.a), .v (.int .i64 t1.lo.b), .v (.int .i64 t1.lo.c), .v (.int .i64 t1.hi.a), .v (.int .i64 t1.hi.b), .v (.int .i64 t1.hi.c)], [.v (.string t2.n), .v (.int .i64 t2.lo.a), .v (.int .i64 t2.lo.b), .v (.int .i64 t2.lo.c), .v (.int .i64 t2.hi.a), .v (.int .i64 t2.hi.b), .v (.int .i64 t2.hi.c)]]⟩ else n3.arrs j)).trans B9
        have g9 : ∀ j, j ≠ 1034 → n9.arrs j = mm.arrs j := fun j hj => by rw [f9]; simp only; rw [if_neg hj, f3]; exact g2 j hj
        cases q with
        | true =>
          simp
          refine call_p (p_anyTerm0 ⟨#[109, 97, 105, 108]⟩) (by simp) ?_
          simp [c9]
          obtain ⟨nM, hnM⟩ : ∃ nM : Mem, nM = ⟨n9.boxes, fun j => if j = 1034 then ⟨(n1.arrs 1034).ver + 1 + 1, true, 28, [[.v (.string ⟨#[109, 97, 105, 108]⟩), .v (.int .i64 0), .v (.int .i64 0), .v (.int .i64 0), .v (.int .i64 1000), .v (.int .i64 0), .v (.int .i64 0)], [.v (.string t2.n), .v (.int .i64 t2.lo.a), .v (.int .i64 t2.lo.b), .v (.int .i64 t2.lo.c), .v (.int .i64 t2.hi.a), .v (.int .i64 t2.hi.b), .v (.int .i64 t2.hi.c)]]⟩ else n9.arrs j⟩ := ⟨_, rfl⟩
          rw [← hnM]
          have cM : nM.arrs 1034 = ⟨(n1.arrs 1034).ver + 1 + 1, true, 28, [[.v (.string ⟨#[109, 97, 105, 108]⟩), .v (.int .i64 0), .v (.int .i64 0), .v (.int .i64 0), .v (.int .i64 1000), .v (.int .i64 0), .v (.int .i64 0)], [.v (.string t2.n), .v (.int .i64 t2.lo.a), .v (.int .i64 t2.lo.b), .v (.int .i64 t2.lo.c), .v (.int .i64 t2.hi.a), .v (.int .i64 t2.hi.b), .v (.int .i64 t2.hi.c)]]⟩ := by rw [hnM]; simp
          have pMM : nM.boxes[M]? = some [.v (.string x), .v (.int .i64 A), .v (.int .i64 0), .v (.int .i64 0), .v (.int .i64 S), .nil, Y, .nil] := by rw [hnM]; exact p9
          have bMM : nM.boxes[N]? = some z := by rw [hnM]; exact N9
          have WM : At l k b9 m nM := by rw [hnM]; exact W9.arr _
          have gM : ∀ j, j ≠ 1034 → nM.arrs j = mm.arrs j := fun j hj => by rw [hnM]; simp only; rw [if_neg hj]; exact g9 j hj
          have cc := cM
          have hw : IntKind.i64.wrap (cn - 1) = cn - 1 := IntWalk.i64_in _ (by omega)
          have pE := pMM
          have pE2 := p9
          have bE := bMM
          have WE : At l k b9 m nM := WM
          have fE : ∀ j, j ≠ 1034 → nM.arrs j = mm.arrs j := gM
          rcases YY with ⟨hY, hne⟩ | ⟨v, hY, hv⟩
          · have hne' : ne = [] := by simpa using hne
            subst hne'
            rw [hY] at pE pE2
            simp [pE, pE2, cc, r1, aappend, sealRows, sealCells, Mem.made]
            refine ⟨cn - 1, b9, [[(⟨⟨#[109, 97, 105, 108]⟩, ⟨0, 0, 0⟩, ⟨1000, 0, 0⟩⟩ : Trm), t2]], .arr 1051 ((nM.arrs 1051).ver + 1) 0 1, _, less_all (by simp [hw]), ⟨⟨by omega, by simp; omega⟩, ⟨by omega, by omega⟩, by simp, WE.put (by omega) kM _ _, box_set bE NM _, box_put pE _, (XX.same (fE 1023 (by decide))).same (by simp), .inr ⟨_, rfl, by simp⟩, fun j hj => ?_⟩, by omega⟩
            have j1 : j ≠ 1051 := by omega
            have j2 : j ≠ 1034 := by omega

            simp [j1, j2]
            rw [fE j j2]
            exact ee j hj
          · have hv' : nM.arrs 1051 = ⟨v, true, 36, ne.map (clauseCells false)⟩ := (fE 1051 (by decide)).trans hv
            have hlen : (ne.map (clauseCells false)).length = ne.length := List.length_map _
            rw [hlen] at hY
            have hb24 : (ne.length + 1) * 24 ≤ 140737488355328 := by omega
            rw [hY] at pE pE2
            simp [pE, pE2, cc, hv', hb24, r1, aappend, sealRows, sealCells, Mem.made]
            refine ⟨cn - 1, b9, ne ++ [[(⟨⟨#[109, 97, 105, 108]⟩, ⟨0, 0, 0⟩, ⟨1000, 0, 0⟩⟩ : Trm), t2]], .arr 1051 (v + 1) 0 (ne.length + 1), _, less_all (by simp [hw]), ⟨⟨by omega, by simp; omega⟩, ⟨by omega, by omega⟩, ?_, WE.put (by omega) kM _ _, box_set bE NM _, box_put pE _, (XX.same (fE 1023 (by decide))).same (by simp), .inr ⟨v + 1, by simp, by simp⟩, fun j hj => ?_⟩, by omega⟩
            · intro c hc
              rcases List.mem_append.1 hc with hc | hc
              · exact hcl c hc
              · simp only [List.mem_singleton] at hc
                subst hc
                simp
            have j1 : j ≠ 1051 := by omega
            have j2 : j ≠ 1034 := by omega

            simp [j1, j2]
            rw [fE j j2]
            exact ee j hj

        | false =>
          simp
          have cc := c9
          have hw : IntKind.i64.wrap (cn - 1) = cn - 1 := IntWalk.i64_in _ (by omega)
          have pE := p9
          have pE2 := p9
          have bE := N9
          have WE : At l k b9 m n9 := W9
          have fE : ∀ j, j ≠ 1034 → n9.arrs j = mm.arrs j := g9
          rcases YY with ⟨hY, hne⟩ | ⟨v, hY, hv⟩
          · have hne' : ne = [] := by simpa using hne
            subst hne'
            rw [hY] at pE pE2
            simp [pE, pE2, cc, r1, aappend, sealRows, sealCells, Mem.made]
            refine ⟨cn - 1, b9, [[t1, t2]], .arr 1051 ((n9.arrs 1051).ver + 1) 0 1, _, less_all (by simp [hw]), ⟨⟨by omega, by simp; omega⟩, ⟨by omega, by omega⟩, by simp, WE.put (by omega) kM _ _, box_set bE NM _, box_put pE _, (XX.same (fE 1023 (by decide))).same (by simp), .inr ⟨_, rfl, by simp⟩, fun j hj => ?_⟩, by omega⟩
            have j1 : j ≠ 1051 := by omega
            have j2 : j ≠ 1034 := by omega

            simp [j1, j2]
            rw [fE j j2]
            exact ee j hj
          · have hv' : n9.arrs 1051 = ⟨v, true, 36, ne.map (clauseCells false)⟩ := (fE 1051 (by decide)).trans hv
            have hlen : (ne.map (clauseCells false)).length = ne.length := List.length_map _
            rw [hlen] at hY
            have hb24 : (ne.length + 1) * 24 ≤ 140737488355328 := by omega
            rw [hY] at pE pE2
            simp [pE, pE2, cc, hv', hb24, r1, aappend, sealRows, sealCells, Mem.made]
            refine ⟨cn - 1, b9, ne ++ [[t1, t2]], .arr 1051 (v + 1) 0 (ne.length + 1), _, less_all (by simp [hw]), ⟨⟨by omega, by simp; omega⟩, ⟨by omega, by omega⟩, ?_, WE.put (by omega) kM _ _, box_set bE NM _, box_put pE _, (XX.same (fE 1023 (by decide))).same (by simp), .inr ⟨v + 1, by simp, by simp⟩, fun j hj => ?_⟩, by omega⟩
            · intro c hc
              rcases List.mem_append.1 hc with hc | hc
              · exact hcl c hc
              · simp only [List.mem_singleton] at hc
                subst hc
                simp
            have j1 : j ≠ 1051 := by omega
            have j2 : j ≠ 1034 := by omega

            simp [j1, j2]
            rw [fE j j2]
            exact ee j hj

      | false =>
        simp
        refine call_ic (i_chance l hb n2 k b2 B2.src (by omega) (by omega) 8 (by decide) (by decide)) rfl (by simp) (icok (by decide) (by decide)) ?_
        rintro r n9 ⟨⟨q, rfl⟩, b9, ⟨y1, y2⟩, B9, f9⟩
        have c9 : n9.arrs 1034 = ⟨(n1.arrs 1034).ver + 1, true, 28, [[.v (.string t1.n), .v (.int .i64 t1.lo.a), .v (.int .i64 t1.lo.b), .v (.int .i64 t1.lo.c), .v (.int .i64 t1.hi.a), .v (.int .i64 t1.hi.b), .v (.int .i64 t1.hi.c)]]⟩ := by rw [f9]; exact c2
        have p9 := B9.box p2 kM
        have N9 := B9.box N2 kN
        have W9 := (W2).trans B9
        have g9 : ∀ j, j ≠ 1034 → n9.arrs j = mm.arrs j := fun j hj => by rw [f9]; exact g2 j hj
        cases q with
        | true =>
          simp
          refine call_p (p_anyTerm0 ⟨#[109, 97, 105, 108]⟩) (by simp) ?_
          simp [c9]
          obtain ⟨nM, hnM⟩ : ∃ nM : Mem, nM = ⟨n9.boxes, fun j => if j = 1034 then ⟨(n1.arrs 1034).ver + 1, true, 28, [[.v (.string ⟨#[109, 97, 105, 108]⟩), .v (.int .i64 0), .v (.int .i64 0), .v (.int .i64 0), .v (.int .i64 1000), .v (.int .i64 0), .v (.int .i64 0)]]⟩ else n9.arrs j⟩ := ⟨_, rfl⟩
          rw [← hnM]
          have cM : nM.arrs 1034 = ⟨(n1.arrs 1034).ver + 1, true, 28, [[.v (.string ⟨#[109, 97, 105, 108]⟩), .v (.int .i64 0), .v (.int .i64 0), .v (.int .i64 0), .v (.int .i64 1000), .v (.int .i64 0), .v (.int .i64 0)]]⟩ := by rw [hnM]; simp
          have pMM : nM.boxes[M]? = some [.v (.string x), .v (.int .i64 A), .v (.int .i64 0), .v (.int .i64 0), .v (.int .i64 S), .nil, Y, .nil] := by rw [hnM]; exact p9
          have bMM : nM.boxes[N]? = some z := by rw [hnM]; exact N9
          have WM : At l k b9 m nM := by rw [hnM]; exact W9.arr _
          have gM : ∀ j, j ≠ 1034 → nM.arrs j = mm.arrs j := fun j hj => by rw [hnM]; simp only; rw [if_neg hj]; exact g9 j hj
          have cc := cM
          have hw : IntKind.i64.wrap (cn - 1) = cn - 1 := IntWalk.i64_in _ (by omega)
          have pE := pMM
          have pE2 := p9
          have bE := bMM
          have WE : At l k b9 m nM := WM
          have fE : ∀ j, j ≠ 1034 → nM.arrs j = mm.arrs j := gM
          rcases YY with ⟨hY, hne⟩ | ⟨v, hY, hv⟩
          · have hne' : ne = [] := by simpa using hne
            subst hne'
            rw [hY] at pE pE2
            simp [pE, pE2, cc, r1, aappend, sealRows, sealCells, Mem.made]
            refine ⟨cn - 1, b9, [[(⟨⟨#[109, 97, 105, 108]⟩, ⟨0, 0, 0⟩, ⟨1000, 0, 0⟩⟩ : Trm)]], .arr 1051 ((nM.arrs 1051).ver + 1) 0 1, _, less_all (by simp [hw]), ⟨⟨by omega, by simp; omega⟩, ⟨by omega, by omega⟩, by simp, WE.put (by omega) kM _ _, box_set bE NM _, box_put pE _, (XX.same (fE 1023 (by decide))).same (by simp), .inr ⟨_, rfl, by simp⟩, fun j hj => ?_⟩, by omega⟩
            have j1 : j ≠ 1051 := by omega
            have j2 : j ≠ 1034 := by omega

            simp [j1, j2]
            rw [fE j j2]
            exact ee j hj
          · have hv' : nM.arrs 1051 = ⟨v, true, 36, ne.map (clauseCells false)⟩ := (fE 1051 (by decide)).trans hv
            have hlen : (ne.map (clauseCells false)).length = ne.length := List.length_map _
            rw [hlen] at hY
            have hb24 : (ne.length + 1) * 24 ≤ 140737488355328 := by omega
            rw [hY] at pE pE2
            simp [pE, pE2, cc, hv', hb24, r1, aappend, sealRows, sealCells, Mem.made]
            refine ⟨cn - 1, b9, ne ++ [[(⟨⟨#[109, 97, 105, 108]⟩, ⟨0, 0, 0⟩, ⟨1000, 0, 0⟩⟩ : Trm)]], .arr 1051 (v + 1) 0 (ne.length + 1), _, less_all (by simp [hw]), ⟨⟨by omega, by simp; omega⟩, ⟨by omega, by omega⟩, ?_, WE.put (by omega) kM _ _, box_set bE NM _, box_put pE _, (XX.same (fE 1023 (by decide))).same (by simp), .inr ⟨v + 1, by simp, by simp⟩, fun j hj => ?_⟩, by omega⟩
            · intro c hc
              rcases List.mem_append.1 hc with hc | hc
              · exact hcl c hc
              · simp only [List.mem_singleton] at hc
                subst hc
                simp
            have j1 : j ≠ 1051 := by omega
            have j2 : j ≠ 1034 := by omega

            simp [j1, j2]
            rw [fE j j2]
            exact ee j hj

        | false =>
          simp
          have cc := c9
          have hw : IntKind.i64.wrap (cn - 1) = cn - 1 := IntWalk.i64_in _ (by omega)
          have pE := p9
          have pE2 := p9
          have bE := N9
          have WE : At l k b9 m n9 := W9
          have fE : ∀ j, j ≠ 1034 → n9.arrs j = mm.arrs j := g9
          rcases YY with ⟨hY, hne⟩ | ⟨v, hY, hv⟩
          · have hne' : ne = [] := by simpa using hne
            subst hne'
            rw [hY] at pE pE2
            simp [pE, pE2, cc, r1, aappend, sealRows, sealCells, Mem.made]
            refine ⟨cn - 1, b9, [[t1]], .arr 1051 ((n9.arrs 1051).ver + 1) 0 1, _, less_all (by simp [hw]), ⟨⟨by omega, by simp; omega⟩, ⟨by omega, by omega⟩, by simp, WE.put (by omega) kM _ _, box_set bE NM _, box_put pE _, (XX.same (fE 1023 (by decide))).same (by simp), .inr ⟨_, rfl, by simp⟩, fun j hj => ?_⟩, by omega⟩
            have j1 : j ≠ 1051 := by omega
            have j2 : j ≠ 1034 := by omega

            simp [j1, j2]
            rw [fE j j2]
            exact ee j hj
          · have hv' : n9.arrs 1051 = ⟨v, true, 36, ne.map (clauseCells false)⟩ := (fE 1051 (by decide)).trans hv
            have hlen : (ne.map (clauseCells false)).length = ne.length := List.length_map _
            rw [hlen] at hY
            have hb24 : (ne.length + 1) * 24 ≤ 140737488355328 := by omega
            rw [hY] at pE pE2
            simp [pE, pE2, cc, hv', hb24, r1, aappend, sealRows, sealCells, Mem.made]
            refine ⟨cn - 1, b9, ne ++ [[t1]], .arr 1051 (v + 1) 0 (ne.length + 1), _, less_all (by simp [hw]), ⟨⟨by omega, by simp; omega⟩, ⟨by omega, by omega⟩, ?_, WE.put (by omega) kM _ _, box_set bE NM _, box_put pE _, (XX.same (fE 1023 (by decide))).same (by simp), .inr ⟨v + 1, by simp, by simp⟩, fun j hj => ?_⟩, by omega⟩
            · intro c hc
              rcases List.mem_append.1 hc with hc | hc
              · exact hcl c hc
              · simp only [List.mem_singleton] at hc
                subst hc
                simp
            have j1 : j ≠ 1051 := by omega
            have j2 : j ≠ 1034 := by omega

            simp [j1, j2]
            rw [fE j j2]
            exact ee j hj

    · simp [hlt]
      refine call_ic (i_chance l hb mm k av WW.src (by omega) (by omega) 6 (by decide) (by decide)) rfl (by simp) (icok (by decide) (by decide)) ?_
      rintro r n1 ⟨⟨q, rfl⟩, b1, ⟨x1, x2⟩, B1, f1⟩
      have p1 := B1.box pM kM
      have N1 := B1.box bN kN
      have W1 := WW.trans B1
      have X1 := XX.same (m' := n1) (by rw [f1])
      have Y1 := YY.same (m' := n1) (by rw [f1])
      have e1 : ∀ j, j < 1000 ∨ 2000 ≤ j → n1.arrs j = m.arrs j := fun j hj => by rw [f1]; exact ee j hj
      have Yo := Y1.one
      have hDP : ∀ ba : List Trm, ba.length ≤ 2 → DPn 2 { n := x, v := ⟨A, 0, 0⟩, s := S, pr := ([] : List ByteArray), ne := ne, ba := ba } := fun ba hba => ⟨by simp, by simp only; omega, hcl, hba⟩
      cases q with
      | true =>
        simp
        refine adraw_i [0, 1, 2] [3, 4] [5, 6, 7] (fun mm => mm.boxes[M]? = some [.v (.string x), .v (.int .i64 A), .v (.int .i64 0), .v (.int .i64 0), .v (.int .i64 S), .nil, Y, .nil]) [.box M 7, .nil, .box k 0] (by decide +kernel) p1 ?_
        simp +contextual [yieldsTo, p1]
        refine call_ic (i_term l hb n1 k b1 B1.src (by omega) (by omega)) rfl (by simp) (icok (by decide) (by decide)) ?_
        rintro r n2 ⟨⟨t, rfl, ht⟩, b2, ⟨x3, x4⟩, B2, f2⟩
        have p2 := B2.box p1 kM
        have N2 := B2.box N1 kN
        have N2' := fun x => box_set N2 NM x
        have q2 := fun x y => box_put (N2' x) y
        have pp2 := fun x => box_put p2 x
        simp [p2, r1, sealRows, sealCells, aappend, Mem.made, pp2, N2', hz, Yo]
        refine kice_x ?_
        simp [q2]
        refine ⟨⟨{ n := x, v := ⟨A, 0, 0⟩, s := S, pr := ([] : List ByteArray), ne := ne, ba := [t] }, _, _, _, ⟨rfl, rfl, rfl, rfl, rfl, rfl, rfl, rfl⟩, hDP [t] (by simp), (X1.same (m' := n2) (by rw [f2])).same (by simp), (Y1.same (m' := n2) (by rw [f2])).same (by simp), .inr ⟨_, rfl, by simp⟩⟩, b2, ⟨by omega, by omega⟩, ((W1.trans B2).put (by omega) kM _ n2.arrs).put (by omega) kN _ _, fun j hj => ?_⟩
        have j1 : j ≠ 1060 := by omega
        simp [j1]
        rw [f2]
        exact e1 j hj
      | false =>
        have q1 := fun y => box_put N1 y
        simp [p1, N1, hz, Yo]
        refine kice_x ?_
        simp [q1]
        exact ⟨⟨{ n := x, v := ⟨A, 0, 0⟩, s := S, pr := ([] : List ByteArray), ne := ne, ba := [] }, _, _, _, ⟨rfl, rfl, rfl, rfl, rfl, rfl, rfl, rfl⟩, hDP [] (by simp), X1.same rfl, Y1.same rfl, .inl ⟨rfl, rfl⟩⟩, b1, ⟨by omega, by omega⟩, W1.put (by omega) kN _ _, e1⟩
end

end Go.Proofs.Ytokhnmchnfkiiaa.Am

/- Arrays that are let go at a call's end; what is known less well. A drawn package, let go. No conditions. -/
namespace Go.Proofs.Ytokhnmchnfkiiaa.Am
open Go Go.RowKit Go.Proofs
set_option linter.unusedSimpArgs false
set_option linter.unusedVariables false

/-- Whatever is the one is the other. -/
def Imp (a b : AV) : Prop := ∀ C v, RV C a v → RV C b v
theorem imp_refl (a : AV) : Imp a a := fun _ _ h => h
theorem imp_nil (c : Bool) : Imp .nil (.sl c []) := fun C v h => by cases h with | nil a => exact .sl0 c a 0
/-- Rows, cell by cell. -/
structure ImpR (es fs : List (List AV)) : Prop where
  len : fs.length = es.length
  row : ∀ (i : Nat) (e f : List AV), es[i]? = some e → fs[i]? = some f → f.length = e.length ∧ ∀ (j : Nat) (c d : AV), e[j]? = some c → f[j]? = some d → Imp c d
theorem impR_refl (es : List (List AV)) : ImpR es es := ⟨rfl, fun i e f h1 h2 => by rw [h1] at h2; cases h2; exact ⟨rfl, fun j c d h3 h4 => by rw [h3] at h4; cases h4; exact imp_refl c⟩⟩
theorem impR_app {es fs es' fs' : List (List AV)} (h : ImpR es fs) (h' : ImpR es' fs') : ImpR (es ++ es') (fs ++ fs') := by
  refine ⟨by simp [h.len, h'.len], fun i e f h1 h2 => ?_⟩
  by_cases hi : i < es.length
  · rw [List.getElem?_append_left hi] at h1
    rw [List.getElem?_append_left (by rw [h.len]; exact hi)] at h2
    exact h.row i e f h1 h2
  · rw [List.getElem?_append_right (by omega)] at h1
    rw [List.getElem?_append_right (by rw [h.len]; omega), h.len] at h2
    exact h'.row _ e f h1 h2
theorem impR_one {e f : List AV} (hl : f.length = e.length) (h : ∀ (j : Nat) (c d : AV), e[j]? = some c → f[j]? = some d → Imp c d) : ImpR [e] [f] := by
  refine ⟨rfl, fun i x y h1 h2 => ?_⟩
  cases i with
  | zero => cases h1; cases h2; exact ⟨hl, h⟩
  | succ i => simp at h1
theorem impR_rep {e f : List AV} (n : Nat) (hl : f.length = e.length) (h : ∀ (j : Nat) (c d : AV), e[j]? = some c → f[j]? = some d → Imp c d) : ImpR (List.replicate n e) (List.replicate n f) := by
  refine ⟨by simp, fun i x y h1 h2 => ?_⟩
  have hx := List.eq_of_mem_replicate (List.mem_of_getElem? h1)
  have hy := List.eq_of_mem_replicate (List.mem_of_getElem? h2)
  subst hx hy
  exact ⟨hl, h⟩
theorem imp_sl {c : Bool} {es fs : List (List AV)} (h : ImpR es fs) : Imp (.sl c es) (.sl c fs) := by
  intro C v hv
  have both : ∀ (i j : Nat) (f : List AV) (d : AV), fs[i]? = some f → f[j]? = some d → ∃ e c, es[i]? = some e ∧ e[j]? = some c ∧ Imp c d := by
    intro i j f d h1 h2
    have hi : i < es.length := by rw [← h.len]; exact (List.getElem?_eq_some_iff.1 h1).1
    obtain ⟨hl, hc⟩ := h.row i _ f (List.getElem?_eq_getElem hi) h1
    have hj : j < (es[i]).length := by rw [← hl]; exact (List.getElem?_eq_some_iff.1 h2).1
    exact ⟨es[i], (es[i])[j], List.getElem?_eq_getElem hi, List.getElem?_eq_getElem hj, hc j _ d (List.getElem?_eq_getElem hj) h2⟩
  cases hv with
  | sl0 =>
    have : fs = [] := List.eq_nil_of_length_eq_zero (by rw [h.len]; rfl)
    subst this
    exact .sl0 _ _ _
  | sl _ _ b off size cap f hne hs hN hz hb hcap hc hr =>
    rw [← h.len] at hcap ⊢
    refine .sl c fs b off size cap f ?_ ?_ hN hz hb hcap ?_ ?_
    · intro e
      apply hne
      apply List.eq_nil_of_length_eq_zero
      rw [← h.len, e]
      rfl
    · intro r hr'
      obtain ⟨i, hi, rfl⟩ := List.getElem_of_mem hr'
      have hi2 : i < es.length := by rw [← h.len]; exact hi
      obtain ⟨hl, _⟩ := h.row i _ _ (List.getElem?_eq_getElem hi2) (List.getElem?_eq_getElem hi)
      rw [hl]
      exact hs _ (List.getElem_mem hi2)
    · intro i j r d h1 h2
      obtain ⟨e, c', h3, h4, _⟩ := both i j r d h1 h2
      exact hc i j e c' h3 h4
    · intro i j r d h1 h2
      obtain ⟨e, c', h3, h4, hi⟩ := both i j r d h1 h2
      exact hi _ _ (hr i j e c' h3 h4)

/-- The arrays in a result's cells are let go, what is told of them is told less well. -/
theorem icall_seal {P : Program} {m : Mem} {f : FuncId} {args : List AV} {Q R : AV → Mem → Prop} (h : ICall P m f args Q)
    (k : ∀ r m', Q r m' → ∃ cs ds, r = .agg cs ∧ ImpR [(sealCells cs m').1] [ds] ∧ R (.agg ds) (sealCells cs m').2) : ICall P m f args R := by
  refine ⟨h.1, fun base bx0 C vs M hv => (h.2 base bx0 C vs M hv).mono ?_⟩
  rintro e w' ⟨v, r, m', h1, h2, D, hw, hn, K, M', W, hrv⟩
  obtain ⟨cs, ds, rfl, himp, hR⟩ := k r m' h2
  cases hrv with
  | agg _ us hl hh =>
    obtain ⟨E, hw2, hn2, K2, M2, W2, hr2⟩ := seal_cells (G := Gi P) (base := base) (bx0 := bx0) cs us.toList M' ⟨by simpa using hl, fun j c x a b => hh j c x a (by rw [← Array.getElem?_toList]; exact b)⟩
    rw [hw] at hw2 W2
    refine ⟨.agg us, .agg ds, (sealCells cs m').2, h1, hR, E, hw2, hn2.trans hn, K.trans K2, M2, W.trans W2, ?_⟩
    obtain ⟨hlen, hcell⟩ := himp.row 0 _ _ rfl rfl
    have hl2 := hr2.1
    refine .agg ds us (by rw [hlen, hl2]; simp) ?_
    intro j d x h3 h4
    have hj : j < (sealCells cs m').1.length := by rw [← hlen]; exact (List.getElem?_eq_some_iff.1 h3).1
    exact hcell j _ d (List.getElem?_eq_getElem hj) h3 _ _ (hr2.2 j _ x (List.getElem?_eq_getElem hj) (by rw [Array.getElem?_toList]; exact h4))
theorem icall_seal1 {P : Program} {m : Mem} {f : FuncId} {args : List AV} {Q R : AV → Mem → Prop} (h : ICall P m f args Q)
    (k : ∀ r m', Q r m' → ∃ c d, (sealCells [r] m').1 = [c] ∧ Imp c d ∧ R d (sealCells [r] m').2) : ICall P m f args R := by
  refine ⟨h.1, fun base bx0 C vs M hv => (h.2 base bx0 C vs M hv).mono ?_⟩
  rintro e w' ⟨v, r, m', h1, h2, D, hw, hn, K, M', W, hrv⟩
  obtain ⟨c, d, hc, himp, hR⟩ := k r m' h2
  obtain ⟨E, hw2, hn2, K2, M2, W2, hr2⟩ := seal_cells (G := Gi P) (base := base) (bx0 := bx0) [r] [v] M' (RVs.cons hrv (RVs.nil D))
  rw [hw] at hw2 W2
  refine ⟨v, d, (sealCells [r] m').2, h1, hR, E, hw2, hn2.trans hn, K.trans K2, M2, W.trans W2, ?_⟩
  rw [hc] at hr2
  exact himp _ _ (hr2.2 0 c v rfl rfl)

/-- A slice that was made by appending to nil, told less well. -/
def SlW (m : Mem) (pl : Nat) (x : AV) (rows : List (List AV)) : Prop := (x = .nil ∧ rows = []) ∨ (∃ es, x = .sl false es ∧ ImpR es rows) ∨ ∃ v e es, x = .arr pl v 0 es.length ∧ m.arrs pl = ⟨v, true, e, es⟩ ∧ ImpR es rows
theorem SlM.toW {m : Mem} {pl : Nat} {e : TypeId} {x : AV} {rows : List (List AV)} (h : SlM m pl e x rows) : SlW m pl x rows := by
  rcases h with h | ⟨v, h1, h2⟩
  · exact .inl h
  · exact .inr (.inr ⟨v, e, rows, h1, h2, impR_refl _⟩)
theorem SlW.same {m m' : Mem} {pl : Nat} {x : AV} {rows : List (List AV)} (h : SlW m pl x rows) (g : m'.arrs pl = m.arrs pl) : SlW m' pl x rows := by
  rcases h with h | h | ⟨v, e, es, h1, h2, h3⟩
  · exact .inl h
  · exact .inr (.inl h)
  · exact .inr (.inr ⟨v, e, es, h1, g.trans h2, h3⟩)
/-- One such cell let go. -/
theorem sealW {m : Mem} {pl : Nat} {x : AV} {rows : List (List AV)} (h : SlW m pl x rows) (cs : List AV) :
    ∃ y m', sealCells (x :: cs) m = (y :: (sealCells cs m').1, (sealCells cs m').2) ∧ Imp y (.sl false rows) ∧ m'.boxes = m.boxes ∧ ∀ j, j ≠ pl → m'.arrs j = m.arrs j := by
  rcases h with ⟨rfl, rfl⟩ | ⟨es, rfl, h3⟩ | ⟨v, e, es, rfl, h2, h3⟩
  · exact ⟨.nil, m, rfl, imp_nil false, rfl, fun _ _ => rfl⟩
  · exact ⟨.sl false es, m, rfl, imp_sl h3, rfl, fun _ _ => rfl⟩
  · refine ⟨.sl false es, { m with arrs := fun j => if j = pl then { m.arrs pl with live := false } else m.arrs j }, ?_, imp_sl h3, rfl, fun j hj => if_neg hj⟩
    have hok : m.ok pl v = true := by simp [Mem.ok, h2]
    rw [sealCells, if_pos hok, h2]
    simp
theorem seal_v (x : Value) (cs : List AV) (m : Mem) : sealCells (.v x :: cs) m = (.v x :: (sealCells cs m).1, (sealCells cs m).2) := rfl
/-- A package's cells let go. -/
theorem seal_pk {m : Mem} {p q r : Nat} {X Y Z : AV} {P : Pk} (hX : SlW m p X (P.pr.map strCells)) (hY : SlW m q Y (P.ne.map (clauseCells false))) (hZ : SlW m r Z (P.ba.map Trm.cells)) (h1 : p ≠ q) (h2 : p ≠ r) (h3 : q ≠ r) :
    ∃ cs m', sealCells [.v (.string P.n), .v (.int .i64 P.v.a), .v (.int .i64 P.v.b), .v (.int .i64 P.v.c), .v (.int .i64 P.s), X, Y, Z] m = (cs, m') ∧ ImpR [cs] [P.cells false] ∧ m'.boxes = m.boxes ∧ ∀ j, j ≠ p → j ≠ q → j ≠ r → m'.arrs j = m.arrs j := by
  obtain ⟨x, m1, e1, i1, b1, a1⟩ := sealW hX [Y, Z]
  obtain ⟨y, m2, e2, i2, b2, a2⟩ := sealW (hY.same (a1 q (Ne.symm h1))) [Z]
  obtain ⟨z, m3, e3, i3, b3, a3⟩ := sealW ((hZ.same (a1 r (Ne.symm h2))).same (a2 r (Ne.symm h3))) []
  rw [e3] at e2
  rw [e2] at e1
  refine ⟨[.v (.string P.n), .v (.int .i64 P.v.a), .v (.int .i64 P.v.b), .v (.int .i64 P.v.c), .v (.int .i64 P.s), x, y, z], m3, ?_, ?_, by rw [b3, b2, b1], fun j j1 j2 j3 => by rw [a3 j j3, a2 j j2, a1 j j1]⟩
  · simp only [seal_v]
    rw [e1]
    rfl
  · refine impR_one rfl ?_
    intro j c d h4 h5
    match j with
    | 0 => cases h4; cases h5; exact imp_refl _
    | 1 => cases h4; cases h5; exact imp_refl _
    | 2 => cases h4; cases h5; exact imp_refl _
    | 3 => cases h4; cases h5; exact imp_refl _
    | 4 => cases h4; cases h5; exact imp_refl _
    | 5 => cases h4; cases h5; exact i1
    | 6 => cases h4; cases h5; exact i2
    | 7 => cases h4; cases h5; exact i3
    | j + 8 => simp at h4

theorem At.boxes {l : List Int} {k : Nat} {a : Int} {m0 m1 m2 : Mem} (h : At l k a m0 m1) (g : m2.boxes = m1.boxes) : At l k a m0 m2 := ⟨by rw [g]; exact h.src, by rw [g]; exact h.len, fun j hj hk => by rw [g]; exact h.same j hj hk⟩
section
variable (l : List Int) (hb : Byt l) (m : Mem) (k : Nat) (a : Int) (hk : m.boxes[k]? = some (srcB l a)) (h0 : 0 ≤ a)
include hb hk h0
/-- A drawn package, its slices let go. -/
theorem i_packS (h1 : a + 90 ≤ 1000000) : ICall Try.prog m 88 [.box k 0] (fun r m' => (∃ p : Pk, r = .agg (p.cells false) ∧ DPk p) ∧ ∃ a', (a ≤ a' ∧ a' ≤ a + 90) ∧ At l k a' m m' ∧ ∀ j, j < 1000 ∨ 2000 ≤ j → m'.arrs j = m.arrs j) := by
  refine icall_seal (i_pack l hb m k a hk h0 h1) ?_
  rintro r m' ⟨⟨p, X, Y, Z, rfl, hp, hX, hY, hZ⟩, a', ha, hA, he⟩
  obtain ⟨cs, m2, e1, e2, e3, e4⟩ := seal_pk hX.toW hY.toW hZ.toW (by decide) (by decide) (by decide)
  refine ⟨_, p.cells false, rfl, by rw [e1]; exact e2, ⟨p, rfl, hp.mono (by decide)⟩, a', ha, ?_, ?_⟩
  · rw [e1]
    exact hA.boxes e3
  · intro j hj
    rw [e1]
    exact (e4 j (by omega) (by omega) (by omega)).trans (he j hj)
end

end Go.Proofs.Ytokhnmchnfkiiaa.Am

/- Draws: a package that is bent now and then. No conditions. -/
namespace Go.Proofs.Ytokhnmchnfkiiaa.Am
open Go Go.RowKit Go.Proofs
set_option linter.unusedSimpArgs false
set_option linter.unusedVariables false

theorem SlW.one {m : Mem} {pl : Nat} {x : AV} {rows : List (List AV)} (h : SlW m pl x rows) : x.one = true := by
  rcases h with ⟨rfl, _⟩ | ⟨es, rfl, _⟩ | ⟨v, e, es, rfl, _⟩ <;> rfl
/-- What a bent package's result is, ahead of its letting go. -/
def BPk (m' : Mem) (r : AV) : Prop := ∃ (p : Pk) (X Y Z : AV) (q1 q2 q3 : Nat), r = .agg [.v (.string p.n), .v (.int .i64 p.v.a), .v (.int .i64 p.v.b), .v (.int .i64 p.v.c), .v (.int .i64 p.s), X, Y, Z] ∧ DPk p ∧
    SlW m' q1 X (p.pr.map strCells) ∧ SlW m' q2 Y (p.ne.map (clauseCells false)) ∧ SlW m' q3 Z (p.ba.map Trm.cells) ∧ (q1 ≠ q2 ∧ q1 ≠ q3 ∧ q2 ≠ q3) ∧ (1000 ≤ q1 ∧ q1 < 3000) ∧ (1000 ≤ q2 ∧ q2 < 3000) ∧ (1000 ≤ q3 ∧ q3 < 3000)

theorem bpk {m' : Mem} {x : ByteArray} {A B D S : Int} {X Y Z : AV} {pr : List ByteArray} {ne : List (List Trm)} {ba : List Trm} (q1 q2 q3 : Nat) (h1 : pr.length ≤ 6) (h2 : ne.length ≤ 6) (h3 : ∀ c ∈ ne, c.length ≤ 6) (h4 : ba.length ≤ 6)
    (hX : SlW m' q1 X (pr.map strCells)) (hY : SlW m' q2 Y (ne.map (clauseCells false))) (hZ : SlW m' q3 Z (ba.map Trm.cells)) (hq : (q1 ≠ q2 ∧ q1 ≠ q3 ∧ q2 ≠ q3) ∧ (1000 ≤ q1 ∧ q1 < 3000) ∧ (1000 ≤ q2 ∧ q2 < 3000) ∧ (1000 ≤ q3 ∧ q3 < 3000)) :
    BPk m' (.agg [.v (.string x), .v (.int .i64 A), .v (.int .i64 B), .v (.int .i64 D), .v (.int .i64 S), X, Y, Z]) := ⟨⟨x, ⟨A, B, D⟩, S, pr, ne, ba⟩, X, Y, Z, q1, q2, q3, rfl, ⟨h1, h2, h3, h4⟩, hX, hY, hZ, hq⟩

section
variable (l : List Int) (hb : Byt l) (m : Mem) (k : Nat) (a : Int) (hk : m.boxes[k]? = some (srcB l a)) (h0 : 0 ≤ a)
include hb hk h0

set_option maxHeartbeats 32000000 in
set_option maxRecDepth 20000 in
theorem i_bentPack0 (h1 : a + 140 ≤ 1000000) : ICall Try.prog m 90 [.box k 0] (fun r m' => BPk m' r ∧ ∃ a', (a ≤ a' ∧ a' ≤ a + 140) ∧ At l k a' m m' ∧ ∀ j, j < 1000 ∨ 3000 ≤ j → m'.arrs j = m.arrs j) := by
  have kl := isBox hk
  have r1 : List.range 1 = [0] := rfl
  have r2 : List.range 2 = [0, 1] := rfl
  have r3 : List.range 3 = [0, 1, 2] := rfl
  obtain ⟨z, hz⟩ : ∃ z : List AV, z = [.v (.string ByteArray.empty), .v (.int .i64 0), .v (.int .i64 0), .v (.int .i64 0), .v (.int .i64 0), .nil, .nil, .nil] := ⟨_, rfl⟩
  obtain ⟨N, hN⟩ : ∃ N, N = m.boxes.length := ⟨_, rfl⟩
  have kN : N ≠ k := by omega
  have A0 := (At.refl hk).app z m.arrs
  refine icode (md := 2000) (o := fun _ => false) (by decide) (by decide) Try.func90 rfl (by decide) (by simp [Try.f90]) ?_
  simp only [Try.f90, Gd]
  simp [← hz, ← hN]
  refine call_ic (i_pack l hb ⟨m.boxes ++ [z], m.arrs⟩ k a A0.src h0 (by omega)) rfl (by simp) (icok (by decide) (by decide)) ?_
  rintro r m1 ⟨⟨⟨x, ⟨A, B, D⟩, S, pr, ne, ba⟩, X, Y, Z, rfl, ⟨hpr, hne, hcl, hba⟩, hX, hY, hZ⟩, a1, ⟨g1, g2⟩, A1, e1⟩
  simp only at hpr hne hcl hba hX hY hZ
  have oX := hX.one
  have oY := hY.one
  have oZ := hZ.one
  have b1 : m1.boxes[N]? = some z := by rw [hN]; exact A1.new (by omega)
  have lN1 := isBox b1
  obtain ⟨M, hM⟩ : ∃ M, M = m1.boxes.length := ⟨_, rfl⟩
  have kM : M ≠ k := by have := isBox A1.src; omega
  have NM : M ≠ N := by omega
  have A1' := (A0.trans A1).app [.v (.string x), .v (.int .i64 A), .v (.int .i64 B), .v (.int .i64 D), .v (.int .i64 S), X, Y, Z] m1.arrs
  simp [← hM, oX, oY, oZ]
  refine call_ic (i_next l hb ⟨m1.boxes ++ [[.v (.string x), .v (.int .i64 A), .v (.int .i64 B), .v (.int .i64 D), .v (.int .i64 S), X, Y, Z]], m1.arrs⟩ k a1 A1'.src (by omega) (by omega) 24 (by decide) (by decide)) rfl (by simp) (icok (by decide) (by decide)) ?_
  rintro r m2 ⟨⟨n, rfl, _, _⟩, a2, ⟨g3, g4⟩, A2, e2⟩
  have p2 : m2.boxes[M]? = some [.v (.string x), .v (.int .i64 A), .v (.int .i64 B), .v (.int .i64 D), .v (.int .i64 S), X, Y, Z] := by rw [hM]; exact A2.new (by omega)
  have b2 : m2.boxes[N]? = some z := A2.box (box_app b1 _) kN
  have W2 : At l k a2 m m2 := A1'.trans A2
  have e2' : ∀ j, j < 1000 ∨ 2000 ≤ j → m2.arrs j = m.arrs j := fun j hj => by rw [e2]; exact e1 j hj
  have X2 := hX.same (m' := m2) (by rw [e2])
  have Y2 := hY.same (m' := m2) (by rw [e2])
  have Z2 := hZ.same (m' := m2) (by rw [e2])
  have hcl6 : ∀ c ∈ ne, c.length ≤ 6 := fun c hc => Nat.le_trans (hcl c hc) (by decide)
  have hlo : a ≤ a2 := by omega
  have hhi : a2 ≤ a + 91 := by omega
  clear A1 A2 A1' e1 e2 g1 g2 g3 g4 b1 hX hY hZ A0
  by_cases c0 : n = 0
  · subst c0
    simp
    refine call_ic (i_bentName l hb m2 k a2 W2.src (by omega) (by omega)) rfl (by simp) (icok (by decide) (by decide)) ?_
    rintro r m3 ⟨⟨y, rfl, hy⟩, a3, ⟨g5, g6⟩, A3, e3⟩
    have p3 := A3.box p2 kM
    have b3 := A3.box b2 kN
    have b3' := fun x => box_set b3 NM x
    have q3 := fun x y => box_put (b3' x) y
    have pp3 := fun x => box_put p3 x
    simp [p3, pp3, b3', hz, oX, oY, oZ]
    refine kice_x ?_
    simp [q3]
    exact ⟨bpk 1023 1051 1060 (by omega) (by omega) hcl6 (by omega) (X2.same (m' := m3) (by rw [e3])).toW (Y2.same (m' := m3) (by rw [e3])).toW (Z2.same (m' := m3) (by rw [e3])).toW (by decide), a3, ⟨by omega, by omega⟩, ((W2.trans A3).put (by omega) kM _ m3.arrs).put (by omega) kN _ _, fun j hj => by show m3.arrs j = _; rw [e3]; exact e2' j (by omega)⟩
  by_cases c1 : n = 1
  · subst c1
    simp
    refine call_ic (i_bentVersion l hb m2 k a2 W2.src (by omega) (by omega)) rfl (by simp) (icok (by decide) (by decide)) ?_
    rintro r m3 ⟨⟨⟨u, v, w⟩, rfl⟩, a3, ⟨g5, g6⟩, A3, e3⟩
    have p3 := A3.box p2 kM
    have b3 := A3.box b2 kN
    have b3' := fun x => box_set b3 NM x
    have q3 := fun x y => box_put (b3' x) y
    have pp3 := fun x => box_put p3 x
    simp [p3, pp3, b3', hz, oX, oY, oZ]
    refine kice_x ?_
    simp [q3]
    exact ⟨bpk 1023 1051 1060 (by omega) (by omega) hcl6 (by omega) (X2.same (m' := m3) (by rw [e3])).toW (Y2.same (m' := m3) (by rw [e3])).toW (Z2.same (m' := m3) (by rw [e3])).toW (by decide), a3, ⟨by omega, by omega⟩, ((W2.trans A3).put (by omega) kM _ m3.arrs).put (by omega) kN _ _, fun j hj => by show m3.arrs j = _; rw [e3]; exact e2' j (by omega)⟩
  by_cases c2 : n = 2
  · subst c2
    simp [r3, sealRows, sealCells]
    refine call_ic (i_pick l hb m2 k a2 W2.src (by omega) (by omega) false [0, 200, 201] (by simp) (by simp)) rfl (by simp) (icok (by decide) (by decide)) ?_
    rintro r m3 ⟨⟨w, rfl, _⟩, a3, ⟨g5, g6⟩, A3, e3⟩
    have p3 := A3.box p2 kM
    have b3 := A3.box b2 kN
    have b3' := fun x => box_set b3 NM x
    have q3 := fun x y => box_put (b3' x) y
    have pp3 := fun x => box_put p3 x
    simp [p3, pp3, b3', hz, oX, oY, oZ]
    refine kice_x ?_
    simp [q3]
    exact ⟨bpk 1023 1051 1060 (by omega) (by omega) hcl6 (by omega) (X2.same (m' := m3) (by rw [e3])).toW (Y2.same (m' := m3) (by rw [e3])).toW (Z2.same (m' := m3) (by rw [e3])).toW (by decide), a3, ⟨by omega, by omega⟩, ((W2.trans A3).put (by omega) kM _ m3.arrs).put (by omega) kN _ _, fun j hj => by show m3.arrs j = _; rw [e3]; exact e2' j (by omega)⟩
  by_cases c3 : n = 3
  · subst c3
    simp
    refine adraw_i [0, 1, 2, 4, 5] [3, 6] [7, 8, 9] (fun mm => mm.boxes[M]? = some [.v (.string x), .v (.int .i64 A), .v (.int .i64 B), .v (.int .i64 D), .v (.int .i64 S), X, Y, Z]) [.box M 5, X, .box k 0, .box M 0, .v (.string x)] (by decide +kernel) p2 ?_
    simp +contextual [yieldsTo, p2]
    refine call_ic (i_bentName l hb m2 k a2 W2.src (by omega) (by omega)) rfl (by simp) (icok (by decide) (by decide)) ?_
    rintro r m3 ⟨⟨y, rfl, hy⟩, a3, ⟨g5, g6⟩, A3, e3⟩
    have p3 := A3.box p2 kM
    have b3 := A3.box b2 kN
    have b3' := fun x => box_set b3 NM x
    have q3 := fun x y => box_put (b3' x) y
    have pp3 := fun x => box_put p3 x
    have X3 := X2.same (m' := m3) (by rw [e3])
    have Y3 := (Y2.same (m' := m3) (by rw [e3])).toW
    have Z3 := (Z2.same (m' := m3) (by rw [e3])).toW
    have e3' : ∀ j, j < 1000 ∨ 2000 ≤ j → m3.arrs j = m.arrs j := fun j hj => by rw [e3]; exact e2' j hj
    rcases X3 with ⟨hX, hpn⟩ | ⟨v, hX, hv⟩
    · have hpr' : pr = [] := by simpa using hpn
      subst hX hpr'
      simp [p3, pp3, b3', hz, oY, oZ, r2, sealRows, sealCells, aappend, Mem.made]
      refine kice_x ?_
      simp [q3]
      refine ⟨bpk (pr := [y, x]) 2033 1051 1060 (by simp) (by omega) hcl6 (by omega) (.inr (.inr ⟨_, 9, _, rfl, by simp, impR_refl _⟩)) (Y3.same (by simp)) (Z3.same (by simp)) (by decide), a3, ⟨by omega, by omega⟩, ((W2.trans A3).put (by omega) kM _ m3.arrs).put (by omega) kN _ _, fun j hj => ?_⟩
      have j1 : j ≠ 2033 := by omega
      simp [j1]
      exact e3' j (by omega)
    · rw [List.length_map] at hX
      have hb24 : (pr.length + 2) * 16 ≤ 140737488355328 := by omega
      subst hX
      simp [p3, pp3, b3', hz, oY, oZ, r2, sealRows, sealCells, aappend, hv, hb24]
      refine kice_x ?_
      simp [q3]
      refine ⟨bpk (pr := pr ++ [y, x]) 1023 1051 1060 (by simp; omega) (by omega) hcl6 (by omega) (.inr (.inr ⟨v + 1, 9, _, by simp, by simp, impR_refl _⟩)) (Y3.same (by simp)) (Z3.same (by simp)) (by decide), a3, ⟨by omega, by omega⟩, ((W2.trans A3).put (by omega) kM _ m3.arrs).put (by omega) kN _ _, fun j hj => ?_⟩
      have j1 : j ≠ 1023 := by omega
      simp [j1]
      exact e3' j (by omega)
  by_cases c4 : n = 4
  · subst c4
    have Yv := Y2
    have Xv := X2.toW
    have Zv := Z2.toW
    have Wv := W2
    have b2' := fun x => box_set b2 NM x
    have q2 := fun x y => box_put (b2' x) y
    have pp2 := fun x => box_put p2 x
    rcases Yv with ⟨hY, hnn⟩ | ⟨v, hY, hv⟩
    · have hne' : ne = [] := by simpa using hnn
      subst hY hne'
      simp [p2, pp2, b2', hz, oX, oZ, r1, r2, sealRows, sealCells, aappend, Mem.made]
      refine kice_x ?_
      simp [q2]
      refine ⟨bpk (ne := [([] : List Trm)]) 1023 2040 1060 (by omega) (by simp) (by intro c hc; simp only [List.mem_singleton] at hc; subst hc; simp) (by omega) (Xv.same (by simp)) (.inr (.inr ⟨_, 36, [[.nil]], rfl, by simp, impR_one rfl (by intro j c d h3 h4; cases j with | zero => cases h3; cases h4; exact imp_nil false | succ j => simp at h3)⟩)) (Zv.same (by simp)) (by decide), a2, ⟨by omega, by omega⟩, (Wv.put (by omega) kM _ m2.arrs).put (by omega) kN _ _, fun j hj => ?_⟩
      have j1 : j ≠ 2040 := by omega
      simp [j1]; exact e2' j (by omega)
    · rw [List.length_map] at hY
      have hb24 : (ne.length + 1) * 24 ≤ 140737488355328 := by omega
      subst hY
      simp [p2, pp2, b2', hz, oX, oZ, r1, r2, sealRows, sealCells, aappend, hv, hb24]
      refine kice_x ?_
      simp [q2]
      refine ⟨bpk (ne := ne ++ [([] : List Trm)]) 1023 1051 1060 (by omega) (by simp; omega) (by intro c hc; rcases List.mem_append.1 hc with hc | hc; exact hcl6 c hc; simp only [List.mem_singleton] at hc; subst hc; simp) (by omega) (Xv.same (by simp)) (.inr (.inr ⟨v + 1, 36, ne.map (clauseCells false) ++ [[.nil]], by simp, by simp, by rw [List.map_append]; exact impR_app (impR_refl _) (impR_one rfl (by intro j c d h3 h4; cases j with | zero => cases h3; cases h4; exact imp_nil false | succ j => simp at h3))⟩)) (Zv.same (by simp)) (by decide), a2, ⟨by omega, by omega⟩, (Wv.put (by omega) kM _ m2.arrs).put (by omega) kN _ _, fun j hj => ?_⟩
      have j1 : j ≠ 1051 := by omega
      simp [j1]; exact e2' j (by omega)
  by_cases c5 : n = 5
  · subst c5
    simp
    refine adraw_i [0, 1, 2, 4] [3, 5, 6, 7] [8, 9, 10] (fun mm => mm.boxes[M]? = some [.v (.string x), .v (.int .i64 A), .v (.int .i64 B), .v (.int .i64 D), .v (.int .i64 S), X, Y, Z]) [.box M 6, Y, .box k 0, .box k 0] (by decide +kernel) p2 ?_
    simp +contextual [yieldsTo, p2]
    refine call_ic (i_bentTerm l hb m2 k a2 W2.src (by omega) (by omega)) rfl (by simp) (icok (by decide) (by decide)) ?_
    rintro r m3 ⟨⟨t1, rfl, _⟩, a3, ⟨g5, g6⟩, A3, e3⟩
    have p3 := A3.box p2 kM
    have b3 := A3.box b2 kN
    simp [p3]
    refine call_ic (i_bentTerm l hb m3 k a3 A3.src (by omega) (by omega)) rfl (by simp) (icok (by decide) (by decide)) ?_
    rintro r m4 ⟨⟨t2, rfl, _⟩, a4, ⟨g7, g8⟩, A4, e4⟩
    have p4 := A4.box p3 kM
    have b4 := A4.box b3 kN
    have e4' : m4.arrs = m2.arrs := e4.trans e3
    have Yv := Y2.same (m' := m4) (by rw [e4'])
    have Xv := (X2.same (m' := m4) (by rw [e4'])).toW
    have Zv := (Z2.same (m' := m4) (by rw [e4'])).toW
    have Wv := (W2.trans A3).trans A4
    have b4' := fun x => box_set b4 NM x
    have q4 := fun x y => box_put (b4' x) y
    have pp4 := fun x => box_put p4 x
    rcases Yv with ⟨hY, hnn⟩ | ⟨v, hY, hv⟩
    · have hne' : ne = [] := by simpa using hnn
      subst hY hne'
      simp [p4, pp4, b4', hz, oX, oZ, r1, r2, sealRows, sealCells, aappend, Mem.made]
      refine kice_x ?_
      simp [q4]
      refine ⟨bpk (ne := [[t1, t2]]) 1023 2052 1060 (by omega) (by simp) (by intro c hc; simp only [List.mem_singleton] at hc; subst hc; simp) (by omega) (Xv.same (by simp)) (.inr (.inr ⟨_, 36, [[.sl false [[.v (.string t1.n), .v (.int .i64 t1.lo.a), .v (.int .i64 t1.lo.b), .v (.int .i64 t1.lo.c), .v (.int .i64 t1.hi.a), .v (.int .i64 t1.hi.b), .v (.int .i64 t1.hi.c)], [.v (.string t2.n), .v (.int .i64 t2.lo.a), .v (.int .i64 t2.lo.b), .v (.int .i64 t2.lo.c), .v (.int .i64 t2.hi.a), .v (.int .i64 t2.hi.b), .v (.int .i64 t2.hi.c)]]]], rfl, by simp, impR_refl _⟩)) (Zv.same (by simp)) (by decide), a4, ⟨by omega, by omega⟩, (Wv.put (by omega) kM _ m4.arrs).put (by omega) kN _ _, fun j hj => ?_⟩
      have j1 : j ≠ 2052 := by omega
      simp [j1]; rw [e4']; exact e2' j (by omega)
    · rw [List.length_map] at hY
      have hb24 : (ne.length + 1) * 24 ≤ 140737488355328 := by omega
      subst hY
      simp [p4, pp4, b4', hz, oX, oZ, r1, r2, sealRows, sealCells, aappend, hv, hb24]
      refine kice_x ?_
      simp [q4]
      refine ⟨bpk (ne := ne ++ [[t1, t2]]) 1023 1051 1060 (by omega) (by simp; omega) (by intro c hc; rcases List.mem_append.1 hc with hc | hc; exact hcl6 c hc; simp only [List.mem_singleton] at hc; subst hc; simp) (by omega) (Xv.same (by simp)) (.inr (.inr ⟨v + 1, 36, ne.map (clauseCells false) ++ [[.sl false [[.v (.string t1.n), .v (.int .i64 t1.lo.a), .v (.int .i64 t1.lo.b), .v (.int .i64 t1.lo.c), .v (.int .i64 t1.hi.a), .v (.int .i64 t1.hi.b), .v (.int .i64 t1.hi.c)], [.v (.string t2.n), .v (.int .i64 t2.lo.a), .v (.int .i64 t2.lo.b), .v (.int .i64 t2.lo.c), .v (.int .i64 t2.hi.a), .v (.int .i64 t2.hi.b), .v (.int .i64 t2.hi.c)]]]], by simp, by simp, by rw [List.map_append]; exact impR_app (impR_refl _) (impR_refl _)⟩)) (Zv.same (by simp)) (by decide), a4, ⟨by omega, by omega⟩, (Wv.put (by omega) kM _ m4.arrs).put (by omega) kN _ _, fun j hj => ?_⟩
      have j1 : j ≠ 1051 := by omega
      simp [j1]; rw [e4']; exact e2' j (by omega)
  by_cases c6 : n = 6
  · subst c6
    simp
    refine adraw_i [0, 1, 2] [3, 4] [5, 6, 7] (fun mm => mm.boxes[M]? = some [.v (.string x), .v (.int .i64 A), .v (.int .i64 B), .v (.int .i64 D), .v (.int .i64 S), X, Y, Z]) [.box M 7, Z, .box k 0] (by decide +kernel) p2 ?_
    simp +contextual [yieldsTo, p2]
    refine call_ic (i_bentTerm l hb m2 k a2 W2.src (by omega) (by omega)) rfl (by simp) (icok (by decide) (by decide)) ?_
    rintro r m3 ⟨⟨t1, rfl, _⟩, a3, ⟨g5, g6⟩, A3, e3⟩
    have p3 := A3.box p2 kM
    have b3 := A3.box b2 kN
    have b3' := fun x => box_set b3 NM x
    have q3 := fun x y => box_put (b3' x) y
    have pp3 := fun x => box_put p3 x
    have Z3 := Z2.same (m' := m3) (by rw [e3])
    have Y3 := (Y2.same (m' := m3) (by rw [e3])).toW
    have X3 := (X2.same (m' := m3) (by rw [e3])).toW
    have e3' : ∀ j, j < 1000 ∨ 2000 ≤ j → m3.arrs j = m.arrs j := fun j hj => by rw [e3]; exact e2' j hj
    rcases Z3 with ⟨hX, hpn⟩ | ⟨v, hX, hv⟩
    · have hba' : ba = [] := by simpa using hpn
      subst hX hba'
      simp [p3, pp3, b3', hz, oX, oY, r1, sealRows, sealCells, aappend, Mem.made]
      refine kice_x ?_
      simp [q3]
      refine ⟨bpk (ba := [t1]) 1023 1051 2061 (by omega) (by omega) hcl6 (by simp) (X3.same (by simp)) (Y3.same (by simp)) (.inr (.inr ⟨_, 28, [t1.cells], rfl, by simp, impR_refl _⟩)) (by decide), a3, ⟨by omega, by omega⟩, ((W2.trans A3).put (by omega) kM _ m3.arrs).put (by omega) kN _ _, fun j hj => ?_⟩
      have j1 : j ≠ 2061 := by omega
      simp [j1]
      exact e3' j (by omega)
    · rw [List.length_map] at hX
      have hb24 : (ba.length + 1) * 64 ≤ 140737488355328 := by omega
      subst hX
      simp [p3, pp3, b3', hz, oX, oY, r1, sealRows, sealCells, aappend, hv, hb24]
      refine kice_x ?_
      simp [q3]
      refine ⟨bpk (ba := ba ++ [t1]) 1023 1051 1060 (by omega) (by omega) hcl6 (by simp; omega) (X3.same (by simp)) (Y3.same (by simp)) (.inr (.inr ⟨v + 1, 28, ba.map Trm.cells ++ [t1.cells], by simp, by simp, by rw [List.map_append]; exact impR_refl _⟩)) (by decide), a3, ⟨by omega, by omega⟩, ((W2.trans A3).put (by omega) kM _ m3.arrs).put (by omega) kN _ _, fun j hj => ?_⟩
      have j1 : j ≠ 1060 := by omega
      simp [j1]
      exact e3' j (by omega)
  by_cases c7 : n = 7
  · subst c7
    have b2' := fun x => box_set b2 NM x
    have q2 := fun x y => box_put (b2' x) y
    have pp2 := fun x => box_put p2 x
    simp [p2, pp2, b2', hz, oX, oY, Mem.made]
    refine kice_x ?_
    simp [q2]
    refine ⟨bpk (ba := List.replicate 5 (⟨ByteArray.empty, ⟨0, 0, 0⟩, ⟨0, 0, 0⟩⟩ : Trm)) 1023 1051 2065 (by omega) (by omega) hcl6 (by simp) (X2.toW.same (by simp)) (Y2.toW.same (by simp)) (.inr (.inr ⟨_, 28, List.replicate 5 (⟨ByteArray.empty, ⟨0, 0, 0⟩, ⟨0, 0, 0⟩⟩ : Trm).cells, rfl, by simp, by rw [List.map_replicate]; exact impR_refl _⟩)) (by decide), a2, ⟨by omega, by omega⟩, (W2.put (by omega) kM _ m2.arrs).put (by omega) kN _ _, fun j hj => ?_⟩
    have j1 : j ≠ 2065 := by omega
    simp [j1]
    exact e2' j (by omega)
  by_cases c8 : n = 8
  · subst c8
    simp
    refine adraw_i [0, 1] [2, 3] [4, 5, 6] (fun mm => mm.boxes[M]? = some [.v (.string x), .v (.int .i64 A), .v (.int .i64 B), .v (.int .i64 D), .v (.int .i64 S), X, Y, Z]) [.box M 6, Y] (by decide +kernel) p2 ?_
    simp +contextual [yieldsTo, p2, Mem.made, r1, sealRows, sealCells]
    have Yv := Y2
    have Xv := X2.toW
    have Zv := Z2.toW
    have Wv := W2
    have b2' := fun x => box_set b2 NM x
    have q2 := fun x y => box_put (b2' x) y
    have pp2 := fun x => box_put p2 x
    rcases Yv with ⟨hY, hnn⟩ | ⟨v, hY, hv⟩
    · have hne' : ne = [] := by simpa using hnn
      subst hY hne'
      simp [p2, pp2, b2', hz, oX, oZ, r1, r2, sealRows, sealCells, aappend, Mem.made]
      refine kice_x ?_
      simp [q2]
      refine ⟨bpk (ne := [List.replicate 5 (⟨ByteArray.empty, ⟨0, 0, 0⟩, ⟨0, 0, 0⟩⟩ : Trm)]) 1023 2073 1060 (by omega) (by simp) (by intro c hc; simp only [List.mem_singleton] at hc; subst hc; simp) (by omega) (Xv.same (by simp)) (.inr (.inr ⟨_, 36, [[.sl false (List.replicate 5 [.v (.string ByteArray.empty), .v (.int .i64 0), .v (.int .i64 0), .v (.int .i64 0), .v (.int .i64 0), .v (.int .i64 0), .v (.int .i64 0)])]], rfl, by simp, impR_one rfl (by intro j c d h3 h4; cases j with | zero => cases h3; cases h4; exact imp_refl _ | succ j => simp at h3)⟩)) (Zv.same (by simp)) (by decide), a2, ⟨by omega, by omega⟩, (Wv.put (by omega) kM _ m2.arrs).put (by omega) kN _ _, fun j hj => ?_⟩
      have j1 : j ≠ 2073 := by omega
      have j2 : j ≠ 2071 := by omega
      simp [j1, j2]; exact e2' j (by omega)
    · rw [List.length_map] at hY
      have hb24 : (ne.length + 1) * 24 ≤ 140737488355328 := by omega
      subst hY
      simp [p2, pp2, b2', hz, oX, oZ, r1, r2, sealRows, sealCells, aappend, hv, hb24]
      refine kice_x ?_
      simp [q2]
      refine ⟨bpk (ne := ne ++ [List.replicate 5 (⟨ByteArray.empty, ⟨0, 0, 0⟩, ⟨0, 0, 0⟩⟩ : Trm)]) 1023 1051 1060 (by omega) (by simp; omega) (by intro c hc; rcases List.mem_append.1 hc with hc | hc; exact hcl6 c hc; simp only [List.mem_singleton] at hc; subst hc; simp) (by omega) (Xv.same (by simp)) (.inr (.inr ⟨v + 1, 36, ne.map (clauseCells false) ++ [[.sl false (List.replicate 5 [.v (.string ByteArray.empty), .v (.int .i64 0), .v (.int .i64 0), .v (.int .i64 0), .v (.int .i64 0), .v (.int .i64 0), .v (.int .i64 0)])]], by simp, by simp, by rw [List.map_append]; exact impR_app (impR_refl _) (impR_one rfl (by intro j c d h3 h4; cases j with | zero => cases h3; cases h4; exact imp_refl _ | succ j => simp at h3))⟩)) (Zv.same (by simp)) (by decide), a2, ⟨by omega, by omega⟩, (Wv.put (by omega) kM _ m2.arrs).put (by omega) kN _ _, fun j hj => ?_⟩
      have j1 : j ≠ 1051 := by omega
      have j2 : j ≠ 2071 := by omega
      simp [j1, j2]; exact e2' j (by omega)
  · have q2 := fun y => box_put b2 y
    simp [c0, c1, c2, c3, c4, c5, c6, c7, c8, p2, b2, hz, oX, oY, oZ]
    refine kice_x ?_
    simp [q2]
    exact ⟨bpk 1023 1051 1060 (by omega) (by omega) hcl6 (by omega) X2.toW Y2.toW Z2.toW (by decide), a2, ⟨by omega, by omega⟩, W2.put (by omega) kN _ _, fun j hj => e2' j (by omega)⟩
end

end Go.Proofs.Ytokhnmchnfkiiaa.Am
