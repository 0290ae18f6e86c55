import Derived.Test.YtokhnmchnfkiiaaDoorAmCg20
import Derived.Test.YtokhnmchnfkiiaaDoorAmCg3
/- Draws: names, versions, terms. No conditions. -/
namespace Go.Proofs.YtokhnmchnfkiiaaDoor.Am
open Go Go.RowKit Go.Proofs
set_option linter.unusedSimpArgs false
set_option linter.unusedVariables false

/-- A call whose result has no part in the caller's memory, and that is told from empty memory: it leaves the caller's memory as it was. -/
theorem icall_closed {P : Program} {f : FuncId} {args : List AV} {Q : AV → Prop} (h : ∀ ver, ICall P ⟨[], noArrs ver⟩ f args (fun r _ => Q r ∧ r.Free (· = false))) (hfree : ∀ a ∈ args, a.Free (fun _ => True)) (m : Mem) : ICall P m f args (fun r m' => Q r ∧ m' = m) := by
  refine ⟨(h fun _ => 0).1, ?_⟩
  intro base bx0 C vs M hv
  have Mb : MemOK (Gi P) C.w.heap.size [] C.bare ⟨[], noArrs C.ver⟩ := by
    refine ⟨rfl, List.nodup_nil, fun k b h => ?_, Nat.le_refl _, fun b h => ⟨M.nlt h.2, fun i I hI => (by cases hI)⟩, fun k b cs h => ?_, fun _ => rfl, fun _ _ => rfl, fun i hl => (by cases hl), fun i I g hI => (by cases hI), fun i I g hI => (by cases hI), ⟨fun b h => h.elim, fun b h => h.elim, fun b i I h => h.elim, fun _ b h => h.elim⟩, fun e => (by cases e), (bare_boxes C M.glob).glob⟩
    · have h' : ([] : List Nat)[k]? = some b := h
      simp at h'
    · have h' : ([] : List Nat)[k]? = some b := h
      simp at h'
  have hv' : RVs C.bare args vs.toList := ⟨hv.1, fun j c x h1 h2 => rv_move (hv.2 j c x h1 h2) (hfree c (List.mem_of_getElem? h1)) rfl fun _ _ _ _ h => bare_N h⟩
  refine ((h C.ver).2 C.w.heap.size [] C.bare vs Mb hv').mono ?_
  rintro e w' ⟨v, r, m', h1, ⟨hq, hf⟩, D, hw, hn, K, MD, W, hr⟩
  refine ⟨v, r, m, h1, ⟨hq, rfl⟩, back_bare M W ?_⟩
  intro E d1 d2 d3 d4 d5 d6
  refine rv_back hr hf (d1.trans hw.symm) ?_
  intro b _ hN h
  have h2 : C.N false b := by
    simp only [Ctx.N, d5, d2, d4, d6] at h
    exact h
  exact hN (.inl (.inl (by rw [hn]; exact ⟨rfl, h2⟩)))

theorem fr_bytes (l : List Int) : (AV.sl true (l.map bytCells)).Free (fun _ => True) := by
  rw [free_sl]
  refine ⟨trivial, fun e he c hc => ?_⟩
  obtain ⟨x, _, rfl⟩ := List.mem_map.1 he
  simp at hc
  subst hc
  simp

set_option maxRecDepth 100000 in
theorem ty_bytes {n : Nat} {cs : List AV} (h : Typed Tryd.prog (n + 2) 41 cs) : ∃ l : List Int, cs = [.sl true (l.map bytCells)] ∧ ∀ a ∈ l, 0 ≤ a ∧ a < 256 := by
  rw [Typed] at h
  simp only [Tryd.underlying41] at h
  obtain ⟨es, rfl, hb, hc⟩ := h
  obtain ⟨l, rfl, hl⟩ := rows_of bytCells (fun a => 0 ≤ a ∧ a < 256) (es := es) fun c hcm => by
    have h1 := hc c hcm
    rw [Typed] at h1
    simp only [Tryd.underlying5] at h1
    obtain ⟨x, rfl, hx⟩ := h1
    refine ⟨x, rfl, ?_⟩
    have h2 : 0 ≤ x ∧ x ≤ 255 := by simpa [Lit.wf, IntKind.min, IntKind.max, IntKind.signed, IntKind.bits] using hx
    omega
  exact ⟨l, rfl, hl⟩

theorem someAt {α : Type} [Inhabited α] {q : List α} {n : Int} (h0 : 0 ≤ n) (h1 : n < q.length) : ∃ x, x ∈ q ∧ q[n.toNat]? = some x := by
  have hlt : n.toNat < q.length := by omega
  exact ⟨q[n.toNat], List.getElem_mem hlt, List.getElem?_eq_getElem hlt⟩
/-- Results of draws. -/
def IsVer (r : AV) : Prop := ∃ v : Ver, r = v.av
def IsTrm (r : AV) : Prop := ∃ t : Trm, r = t.av ∧ t.n.size ≤ 13
theorem isVer (x y z : Int) : IsVer (.agg [.v (.int .i64 x), .v (.int .i64 y), .v (.int .i64 z)]) := ⟨⟨x, y, z⟩, rfl⟩
theorem isTrm {x : ByteArray} (h : x.size ≤ 13) (a b c d e f : Int) : IsTrm (.agg [.v (.string x), .v (.int .i64 a), .v (.int .i64 b), .v (.int .i64 c), .v (.int .i64 d), .v (.int .i64 e), .v (.int .i64 f)]) := ⟨⟨x, ⟨a, b, c⟩, ⟨d, e, f⟩⟩, rfl, h⟩
theorem p_anyTerm0 (x : ByteArray) : Pure Tryd.prog 60 [.v (.string x)] (.agg [.v (.string x), .v (.int .i64 0), .v (.int .i64 0), .v (.int .i64 0), .v (.int .i64 1000), .v (.int .i64 0), .v (.int .i64 0)]) := by
  refine pure_of_code (G := (G0)) vers0 mixed0 Tryd.func60 rfl (by decide) (by simp [Tryd.f60]) (by simp) fun ver => ?_
  simp only [Tryd.f60, G0]
  simp
  refine call_p p_top (by simp) ?_
  simp

section
variable (l : List Int) (hb : Byt l) (m : Mem) (k : Nat) (a : Int) (hk : m.boxes[k]? = some (srcB l a)) (h0 : 0 ≤ a)
include hb hk h0

set_option maxHeartbeats 4000000 in
set_option maxRecDepth 10000 in
theorem i_name (h1 : a + 1 ≤ 1000000) : ICall Tryd.prog m 122 [.box k 0] (fun r m' => (∃ x : ByteArray, r = .v (.string x) ∧ x.size ≤ 13) ∧ Drew l k a 1 m m') := by
  have r6 : List.range 6 = [0, 1, 2, 3, 4, 5] := rfl
  refine icode (md := 3) (o := fun _ => false) (by decide) (by decide) Tryd.func122 rfl (by decide) (by simp [Tryd.f122]) ?_
  simp only [Tryd.f122, Gd]
  simp [r6, sealRows, sealCells]
  refine call_ic (i_next l hb m k a hk h0 (by omega) 6 (by decide) (by decide)) rfl (by simp) (icok (by decide) (by decide)) ?_
  rintro r m' ⟨⟨v, rfl, r1, r2⟩, hD⟩
  obtain ⟨x, hx, hg⟩ := someAt (q := [(⟨#[97]⟩ : ByteArray), ⟨#[98]⟩, ⟨#[99]⟩, ⟨#[100]⟩, ⟨#[108, 105, 98]⟩, ⟨#[119, 101, 98]⟩]) r1 r2
  have hxs : x.size ≤ 13 := by
    simp only [List.mem_cons, List.not_mem_nil, or_false] at hx
    rcases hx with rfl | rfl | rfl | rfl | rfl | rfl <;> decide
  have hg2 : (List.map strCells [(⟨#[97]⟩ : ByteArray), ⟨#[98]⟩, ⟨#[99]⟩, ⟨#[100]⟩, ⟨#[108, 105, 98]⟩, ⟨#[119, 101, 98]⟩])[v.toNat]? = some [.v (.string x)] := by
    rw [List.getElem?_map, hg]
    rfl
  simp only [List.map, strCells] at hg2
  simp [r1, hg2]
  refine kice_x ?_
  simp
  exact ⟨hxs, hD⟩

set_option maxHeartbeats 4000000 in
set_option maxRecDepth 10000 in
theorem i_bentName (h1 : a + 2 ≤ 1000000) : ICall Tryd.prog m 98 [.box k 0] (fun r m' => (∃ x : ByteArray, r = .v (.string x) ∧ x.size ≤ 13) ∧ Drew l k a 2 m m') := by
  have r9 : List.range 9 = [0, 1, 2, 3, 4, 5, 6, 7, 8] := rfl
  refine icode (md := 3) (o := fun _ => false) (by decide) (by decide) Tryd.func98 rfl (by decide) (by simp [Tryd.f98]) ?_
  simp only [Tryd.f98, Gd]
  simp
  refine call_ic (i_chance l hb m k a hk h0 (by omega) 14 (by decide) (by decide)) rfl (by simp) (icok (by decide) (by decide)) ?_
  rintro r m1 ⟨⟨b, rfl⟩, a1, ⟨g1, g2⟩, A1, e1⟩
  cases b with
  | true =>
    simp [r9, sealRows, sealCells]
    refine call_ic (i_next l hb m1 k a1 A1.src (by omega) (by omega) 9 (by decide) (by decide)) rfl (by simp) (icok (by decide) (by decide)) ?_
    rintro r m2 ⟨⟨v, rfl, r1, r2⟩, a2, ⟨g3, g4⟩, A2, e2⟩
    obtain ⟨x, hx, hg⟩ := someAt (q := [(⟨#[]⟩ : ByteArray), ⟨#[49, 97]⟩, ⟨#[65]⟩, ⟨#[97, 98, 99, 100, 101, 102, 103, 104, 105, 106, 107, 108, 109]⟩, ⟨#[97, 98, 99, 100, 101, 102, 103, 104, 105, 106, 107, 108]⟩, ⟨#[97, 32, 98]⟩, ⟨#[97, 45]⟩, ⟨#[95, 97]⟩, ⟨#[97, 95, 49]⟩]) r1 r2
    have hxs : x.size ≤ 13 := by
      simp only [List.mem_cons, List.not_mem_nil, or_false] at hx
      rcases hx with rfl | rfl | rfl | rfl | rfl | rfl | rfl | rfl | rfl <;> decide
    have hg2 : (List.map strCells [(⟨#[]⟩ : ByteArray), ⟨#[49, 97]⟩, ⟨#[65]⟩, ⟨#[97, 98, 99, 100, 101, 102, 103, 104, 105, 106, 107, 108, 109]⟩, ⟨#[97, 98, 99, 100, 101, 102, 103, 104, 105, 106, 107, 108]⟩, ⟨#[97, 32, 98]⟩, ⟨#[97, 45]⟩, ⟨#[95, 97]⟩, ⟨#[97, 95, 49]⟩])[v.toNat]? = some [.v (.string x)] := by
      rw [List.getElem?_map, hg]
      rfl
    simp only [List.map, strCells] at hg2
    simp [r1, hg2]
    refine kice_x ?_
    simp
    exact ⟨hxs, a2, ⟨by omega, by omega⟩, A1.trans A2, e2.trans e1⟩
  | false =>
    simp
    refine call_ic (i_name l hb m1 k a1 A1.src (by omega) (by omega)) rfl (by simp) (icok (by decide) (by decide)) ?_
    rintro r m2 ⟨⟨x, rfl, hxs⟩, a2, ⟨g3, g4⟩, A2, e2⟩
    simp
    refine kice_x ?_
    simp
    exact ⟨hxs, a2, ⟨by omega, by omega⟩, A1.trans A2, e2.trans e1⟩

set_option maxHeartbeats 4000000 in
set_option maxRecDepth 10000 in
theorem i_version (h1 : a + 5 ≤ 1000000) : ICall Tryd.prog m 89 [.box k 0] (fun r m' => IsVer r ∧ Drew l k a 5 m m') := by
  have r3 : List.range 3 = [0, 1, 2] := rfl
  have r4 : List.range 4 = [0, 1, 2, 3] := rfl
  have kl := isBox hk
  obtain ⟨z, hz⟩ : ∃ z : List AV, z = [.v (.int .i64 0), .v (.int .i64 0), .v (.int .i64 0)] := ⟨_, rfl⟩
  obtain ⟨N, hN⟩ : ∃ N, N = m.boxes.length := ⟨_, rfl⟩
  have kN : N ≠ k := by omega
  have A0 := (At.refl hk).app z m.arrs
  refine icode (md := 3) (o := fun _ => false) (by decide) (by decide) Tryd.func89 rfl (by decide) (by simp [Tryd.f89]) ?_
  simp only [Tryd.f89, Gd]
  simp [← hz, ← hN]
  refine call_ic (i_next l hb ⟨m.boxes ++ [z], m.arrs⟩ k a A0.src h0 (by omega) 4 (by decide) (by decide)) rfl (by simp) (icok (by decide) (by decide)) ?_
  rintro r m1 ⟨⟨v1, rfl, _, _⟩, a1, ⟨g1, g2⟩, A1, e1⟩
  have b1 : m1.boxes[N]? = some z := by rw [hN]; exact A1.new (by omega)
  simp
  refine call_ic (i_next l hb m1 k a1 A1.src (by omega) (by omega) 3 (by decide) (by decide)) rfl (by simp) (icok (by decide) (by decide)) ?_
  rintro r m2 ⟨⟨v2, rfl, _, _⟩, a2, ⟨g3, g4⟩, A2, e2⟩
  have b2 := A2.box b1 kN
  simp [r3, sealRows, sealCells]
  refine call_ic (i_pick l hb m2 k a2 A2.src (by omega) (by omega) false [0, 0, v2] (by simp) (by simp)) rfl (by simp) (icok (by decide) (by decide)) ?_
  rintro r m3 ⟨⟨v3, rfl, _⟩, a3, ⟨g5, g6⟩, A3, e3⟩
  have b3 := A3.box b2 kN
  simp
  refine call_ic (i_next l hb m3 k a3 A3.src (by omega) (by omega) 3 (by decide) (by decide)) rfl (by simp) (icok (by decide) (by decide)) ?_
  rintro r m4 ⟨⟨v4, rfl, _, _⟩, a4, ⟨g7, g8⟩, A4, e4⟩
  have b4 := A4.box b3 kN
  simp [r4, sealRows, sealCells]
  refine call_ic (i_pick l hb m4 k a4 A4.src (by omega) (by omega) false [0, 0, 0, v4] (by simp) (by simp)) rfl (by simp) (icok (by decide) (by decide)) ?_
  rintro r m5 ⟨⟨v5, rfl, _⟩, a5, ⟨g9, g10⟩, A5, e5⟩
  have b5 := A5.box b4 kN
  have lN := isBox b5
  simp [b5, hz]
  refine kice_x ?_
  simp [lN]
  exact ⟨isVer _ _ _, a5, ⟨by omega, by omega⟩, ((((A0.trans A1).trans A2).trans A3).trans (A4.trans A5)).put (by omega) kN _ _, by rw [e5, e4, e3, e2, e1]⟩

set_option maxHeartbeats 8000000 in
set_option maxRecDepth 10000 in
theorem i_bentVersion (h1 : a + 7 ≤ 1000000) : ICall Tryd.prog m 56 [.box k 0] (fun r m' => IsVer r ∧ Drew l k a 7 m m') := by
  have r3 : List.range 3 = [0, 1, 2] := rfl
  have r4 : List.range 4 = [0, 1, 2, 3] := rfl
  have kl := isBox hk
  obtain ⟨z, hz⟩ : ∃ z : List AV, z = [.v (.int .i64 0), .v (.int .i64 0), .v (.int .i64 0)] := ⟨_, rfl⟩
  obtain ⟨N, hN⟩ : ∃ N, N = m.boxes.length := ⟨_, rfl⟩
  have kN : N ≠ k := by omega
  have A0 := (At.refl hk).app z m.arrs
  refine icode (md := 3) (o := fun _ => false) (by decide) (by decide) Tryd.func56 rfl (by decide) (by simp [Tryd.f56]) ?_
  simp only [Tryd.f56, Gd]
  simp [← hz, ← hN]
  refine call_ic (i_version l hb ⟨m.boxes ++ [z], m.arrs⟩ k a A0.src h0 (by omega)) rfl (by simp) (icok (by decide) (by decide)) ?_
  rintro r m1 ⟨⟨⟨x1, x2, x3⟩, rfl⟩, a1, ⟨g1, g2⟩, A1, e1⟩
  have b1 : m1.boxes[N]? = some z := by rw [hN]; exact A1.new (by omega)
  have lN1 := isBox b1
  obtain ⟨M, hM⟩ : ∃ M, M = m1.boxes.length := ⟨_, rfl⟩
  have kM : M ≠ k := by have := isBox A1.src; omega
  have NM : M ≠ N := by omega
  have A1' := (A0.trans A1).app [.v (.int .i64 x1), .v (.int .i64 x2), .v (.int .i64 x3)] m1.arrs
  simp [← hM]
  refine call_ic (i_next l hb ⟨m1.boxes ++ [[.v (.int .i64 x1), .v (.int .i64 x2), .v (.int .i64 x3)]], m1.arrs⟩ k a1 A1'.src (by omega) (by omega) 14 (by decide) (by decide)) rfl (by simp) (icok (by decide) (by decide)) ?_
  rintro r m2 ⟨⟨v, rfl, _, _⟩, a2, ⟨g3, g4⟩, A2, e2⟩
  have p2 : m2.boxes[M]? = some [.v (.int .i64 x1), .v (.int .i64 x2), .v (.int .i64 x3)] := by rw [hM]; exact A2.new (by omega)
  have b2 : m2.boxes[N]? = some z := A2.box (box_app b1 _) kN
  have W2 : At l k a2 m m2 := A1'.trans A2
  have e2' : m2.arrs = m.arrs := e2.trans e1
  have lN2 := isBox b2
  have lM2 := isBox p2
  by_cases c0 : v = 0
  · subst c0
    simp [r3, sealRows, sealCells]
    refine call_ic (i_pick l hb m2 k a2 A2.src (by omega) (by omega) false [-1, 999, 1000] (by simp) (by simp)) rfl (by simp) (icok (by decide) (by decide)) ?_
    rintro r m3 ⟨⟨w, rfl, _⟩, a3, ⟨g5, g6⟩, A3, e3⟩
    have p3 := A3.box p2 kM
    have b3 := A3.box b2 kN
    have b3' := fun x => box_set b3 NM x
    have q3 := fun x y => box_put (b3' x) y
    have pp3 := fun x => box_put p3 x
    simp [p3, pp3, b3', hz]
    refine kice_x ?_
    simp [q3]
    exact ⟨isVer _ _ _, a3, ⟨by omega, by omega⟩, ((W2.trans A3).put (by omega) kM _ m3.arrs).put (by omega) kN _ _, e3.trans e2'⟩
  by_cases c1 : v = 1
  · subst c1
    simp [r3, sealRows, sealCells]
    refine call_ic (i_pick l hb m2 k a2 A2.src (by omega) (by omega) false [-1, 999, 1000] (by simp) (by simp)) rfl (by simp) (icok (by decide) (by decide)) ?_
    rintro r m3 ⟨⟨w, rfl, _⟩, a3, ⟨g5, g6⟩, A3, e3⟩
    have p3 := A3.box p2 kM
    have b3 := A3.box b2 kN
    have b3' := fun x => box_set b3 NM x
    have q3 := fun x y => box_put (b3' x) y
    have pp3 := fun x => box_put p3 x
    simp [p3, pp3, b3', hz]
    refine kice_x ?_
    simp [q3]
    exact ⟨isVer _ _ _, a3, ⟨by omega, by omega⟩, ((W2.trans A3).put (by omega) kM _ m3.arrs).put (by omega) kN _ _, e3.trans e2'⟩
  by_cases c2 : v = 2
  · subst c2
    simp [r4, sealRows, sealCells]
    refine call_ic (i_pick l hb m2 k a2 A2.src (by omega) (by omega) false [-1, 999, 1000, 4611686018427387904] (by simp) (by simp)) rfl (by simp) (icok (by decide) (by decide)) ?_
    rintro r m3 ⟨⟨w, rfl, _⟩, a3, ⟨g5, g6⟩, A3, e3⟩
    have p3 := A3.box p2 kM
    have b3 := A3.box b2 kN
    have b3' := fun x => box_set b3 NM x
    have q3 := fun x y => box_put (b3' x) y
    have pp3 := fun x => box_put p3 x
    simp [p3, pp3, b3', hz]
    refine kice_x ?_
    simp [q3]
    exact ⟨isVer _ _ _, a3, ⟨by omega, by omega⟩, ((W2.trans A3).put (by omega) kM _ m3.arrs).put (by omega) kN _ _, e3.trans e2'⟩
  · simp [c0, c1, c2, p2, b2, hz]
    refine kice_x ?_
    simp [lN2]
    exact ⟨isVer _ _ _, a2, ⟨by omega, by omega⟩, W2.put (by omega) kN _ _, e2'⟩

set_option maxHeartbeats 8000000 in
set_option maxRecDepth 10000 in
theorem i_term (h1 : a + 9 ≤ 1000000) : ICall Tryd.prog m 97 [.box k 0] (fun r m' => IsTrm r ∧ Drew l k a 9 m m') := by
  have kl := isBox hk
  obtain ⟨z, hz⟩ : ∃ z : List AV, z = [.v (.string ByteArray.empty), .v (.int .i64 0), .v (.int .i64 0), .v (.int .i64 0), .v (.int .i64 0), .v (.int .i64 0), .v (.int .i64 0)] := ⟨_, rfl⟩
  obtain ⟨N, hN⟩ : ∃ N, N = m.boxes.length := ⟨_, rfl⟩
  have kN : N ≠ k := by omega
  have A0 := (At.refl hk).app z m.arrs
  refine icode (md := 3) (o := fun _ => false) (by decide) (by decide) Tryd.func97 rfl (by decide) (by simp [Tryd.f97]) ?_
  simp only [Tryd.f97, Gd]
  simp [← hz, ← hN]
  refine call_ic (i_name l hb ⟨m.boxes ++ [z], m.arrs⟩ k a A0.src h0 (by omega)) rfl (by simp) (icok (by decide) (by decide)) ?_
  rintro r m1 ⟨⟨x, rfl, hx⟩, a1, ⟨g1, g2⟩, A1, e1⟩
  have b1 : m1.boxes[N]? = some z := by rw [hN]; exact A1.new (by omega)
  have lN1 := isBox b1
  obtain ⟨M, hM⟩ : ∃ M, M = m1.boxes.length := ⟨_, rfl⟩
  have kM : M ≠ k := by have := isBox A1.src; omega
  have NM : M ≠ N := by omega
  have A1' := (A0.trans A1).app [.v (.string x), .v (.int .i64 0), .v (.int .i64 0), .v (.int .i64 0), .v (.int .i64 1000), .v (.int .i64 0), .v (.int .i64 0)] m1.arrs
  simp
  refine call_p (p_anyTerm0 x) (by simp) ?_
  simp [← hM]
  refine call_ic (i_chance l hb ⟨m1.boxes ++ [[.v (.string x), .v (.int .i64 0), .v (.int .i64 0), .v (.int .i64 0), .v (.int .i64 1000), .v (.int .i64 0), .v (.int .i64 0)]], m1.arrs⟩ k a1 A1'.src (by omega) (by omega) 2 (by decide) (by decide)) rfl (by simp) (icok (by decide) (by decide)) ?_
  rintro r m2 ⟨⟨b, rfl⟩, a2, ⟨g3, g4⟩, A2, e2⟩
  have p2 : m2.boxes[M]? = some [.v (.string x), .v (.int .i64 0), .v (.int .i64 0), .v (.int .i64 0), .v (.int .i64 1000), .v (.int .i64 0), .v (.int .i64 0)] := by rw [hM]; exact A2.new (by omega)
  have b2 : m2.boxes[N]? = some z := A2.box (box_app b1 _) kN
  have W2 : At l k a2 m m2 := A1'.trans A2
  have e2' : m2.arrs = m.arrs := e2.trans e1
  cases b with
  | true =>
    simp
    refine call_ic (i_version l hb m2 k a2 A2.src (by omega) (by omega)) rfl (by simp) (icok (by decide) (by decide)) ?_
    rintro r m3 ⟨⟨⟨u, v, w⟩, rfl⟩, a3, ⟨g5, g6⟩, A3, e3⟩
    have p3 := A3.box p2 kM
    have b3 := A3.box b2 kN
    have W3 : At l k a3 m ⟨m3.boxes.set M [.v (.string x), .v (.int .i64 u), .v (.int .i64 v), .v (.int .i64 w), .v (.int .i64 1000), .v (.int .i64 0), .v (.int .i64 0)], m3.arrs⟩ := (W2.trans A3).put (by omega) kM _ _
    have p3' : (⟨m3.boxes.set M [.v (.string x), .v (.int .i64 u), .v (.int .i64 v), .v (.int .i64 w), .v (.int .i64 1000), .v (.int .i64 0), .v (.int .i64 0)], m3.arrs⟩ : Mem).boxes[M]? = some [.v (.string x), .v (.int .i64 u), .v (.int .i64 v), .v (.int .i64 w), .v (.int .i64 1000), .v (.int .i64 0), .v (.int .i64 0)] := box_put p3 _
    have b3' : (⟨m3.boxes.set M [.v (.string x), .v (.int .i64 u), .v (.int .i64 v), .v (.int .i64 w), .v (.int .i64 1000), .v (.int .i64 0), .v (.int .i64 0)], m3.arrs⟩ : Mem).boxes[N]? = some z := box_set b3 NM _
    have e3' : (⟨m3.boxes.set M [.v (.string x), .v (.int .i64 u), .v (.int .i64 v), .v (.int .i64 w), .v (.int .i64 1000), .v (.int .i64 0), .v (.int .i64 0)], m3.arrs⟩ : Mem).arrs = m.arrs := e3.trans e2'
    obtain ⟨m4, hm4⟩ : ∃ m4 : Mem, m4 = ⟨m3.boxes.set M [.v (.string x), .v (.int .i64 u), .v (.int .i64 v), .v (.int .i64 w), .v (.int .i64 1000), .v (.int .i64 0), .v (.int .i64 0)], m3.arrs⟩ := ⟨_, rfl⟩
    simp [p3, ← hm4]
    rw [← hm4] at W3 p3' b3' e3'
    refine call_ic (i_chance l hb m4 k a3 W3.src (by omega) (by omega) 3 (by decide) (by decide)) rfl (by simp) (icok (by decide) (by decide)) ?_
    rintro r mc ⟨⟨bc, rfl⟩, ac, ⟨gc1, gc2⟩, Ac, ec⟩
    have pc := Ac.box p3' kM
    have bc1 := Ac.box b3' kN
    cases bc with
    | true =>
      have ppc := fun x => box_put pc x
      simp
      refine adraw_i [0, 1, 2, 3, 4] [5, 6, 7] [8, 9] (fun mm => mm.boxes[M]? = some [.v (.string x), .v (.int .i64 u), .v (.int .i64 v), .v (.int .i64 w), .v (.int .i64 1000), .v (.int .i64 0), .v (.int .i64 0)]) [.box M 1, .box M 1, .v (.int .i64 u), .v (.int .i64 (IntKind.i64.wrap (u + 1))), .box k 0] (by decide +kernel) pc ?_
      simp +contextual [yieldsTo, pc]
      refine call_ic (i_next l hb mc k ac Ac.src (by omega) (by omega) 2 (by decide) (by decide)) rfl (by simp) (icok (by decide) (by decide)) ?_
      rintro r md ⟨⟨vd, rfl, _, _⟩, ad, ⟨gd1, gd2⟩, Ad, ed⟩
      have pd := Ad.box pc kM
      have bd := Ad.box bc1 kN
      have bd' := fun x => box_set bd NM x
      have qd := fun x y => box_put (bd' x) y
      have ppd := fun x => box_put pd x
      simp [pd, ppd, bd', hz]
      refine kice_x ?_
      simp [qd]
      exact ⟨isTrm hx _ _ _ _ _ _, ad, ⟨by omega, by omega⟩, (((W3.trans Ac).trans Ad).put (by omega) kM _ md.arrs).put (by omega) kN _ _, ed.trans (ec.trans e3')⟩
    | false =>
      simp [pc, bc1, hz]
      have qc := fun y => box_put bc1 y
      refine kice_x ?_
      simp [qc]
      exact ⟨isTrm hx _ _ _ _ _ _, ac, ⟨by omega, by omega⟩, (W3.trans Ac).put (by omega) kN _ _, ec.trans e3'⟩
  | false =>
    simp
    refine call_ic (i_chance l hb m2 k a2 W2.src (by omega) (by omega) 3 (by decide) (by decide)) rfl (by simp) (icok (by decide) (by decide)) ?_
    rintro r mc ⟨⟨bc, rfl⟩, ac, ⟨gc1, gc2⟩, Ac, ec⟩
    have pc := Ac.box p2 kM
    have bc1 := Ac.box b2 kN
    cases bc with
    | true =>
      have ppc := fun x => box_put pc x
      simp
      refine adraw_i [0, 1, 2, 3, 4] [5, 6, 7] [8, 9] (fun mm => mm.boxes[M]? = some [.v (.string x), .v (.int .i64 0), .v (.int .i64 0), .v (.int .i64 0), .v (.int .i64 1000), .v (.int .i64 0), .v (.int .i64 0)]) [.box M 1, .box M 1, .v (.int .i64 0), .v (.int .i64 (IntKind.i64.wrap (0 + 1))), .box k 0] (by decide +kernel) pc ?_
      simp +contextual [yieldsTo, pc]
      refine call_ic (i_next l hb mc k ac Ac.src (by omega) (by omega) 2 (by decide) (by decide)) rfl (by simp) (icok (by decide) (by decide)) ?_
      rintro r md ⟨⟨vd, rfl, _, _⟩, ad, ⟨gd1, gd2⟩, Ad, ed⟩
      have pd := Ad.box pc kM
      have bd := Ad.box bc1 kN
      have bd' := fun x => box_set bd NM x
      have qd := fun x y => box_put (bd' x) y
      have ppd := fun x => box_put pd x
      simp [pd, ppd, bd', hz]
      refine kice_x ?_
      simp [qd]
      exact ⟨isTrm hx _ _ _ _ _ _, ad, ⟨by omega, by omega⟩, (((W2.trans Ac).trans Ad).put (by omega) kM _ md.arrs).put (by omega) kN _ _, ed.trans (ec.trans e2')⟩
    | false =>
      simp [pc, bc1, hz]
      have qc := fun y => box_put bc1 y
      refine kice_x ?_
      simp [qc]
      exact ⟨isTrm hx _ _ _ _ _ _, ac, ⟨by omega, by omega⟩, (W2.trans Ac).put (by omega) kN _ _, ec.trans e2'⟩

set_option maxHeartbeats 8000000 in
set_option maxRecDepth 10000 in
theorem i_bentTerm (h1 : a + 17 ≤ 1000000) : ICall Tryd.prog m 68 [.box k 0] (fun r m' => IsTrm r ∧ Drew l k a 17 m m') := by
  have kl := isBox hk
  obtain ⟨z, hz⟩ : ∃ z : List AV, z = [.v (.string ByteArray.empty), .v (.int .i64 0), .v (.int .i64 0), .v (.int .i64 0), .v (.int .i64 0), .v (.int .i64 0), .v (.int .i64 0)] := ⟨_, rfl⟩
  obtain ⟨N, hN⟩ : ∃ N, N = m.boxes.length := ⟨_, rfl⟩
  have kN : N ≠ k := by omega
  have A0 := (At.refl hk).app z m.arrs
  refine icode (md := 3) (o := fun _ => false) (by decide) (by decide) Tryd.func68 rfl (by decide) (by simp [Tryd.f68]) ?_
  simp only [Tryd.f68, Gd]
  simp [← hz, ← hN]
  refine call_ic (i_term l hb ⟨m.boxes ++ [z], m.arrs⟩ k a A0.src h0 (by omega)) rfl (by simp) (icok (by decide) (by decide)) ?_
  rintro r m1 ⟨⟨⟨x, ⟨ta, tb, tc⟩, ⟨td, te, tf⟩⟩, rfl, hx⟩, a1, ⟨g1, g2⟩, A1, e1⟩
  have hx : x.size ≤ 13 := hx
  have b1 : m1.boxes[N]? = some z := by rw [hN]; exact A1.new (by omega)
  have lN1 := isBox b1
  obtain ⟨M, hM⟩ : ∃ M, M = m1.boxes.length := ⟨_, rfl⟩
  have kM : M ≠ k := by have := isBox A1.src; omega
  have NM : M ≠ N := by omega
  have A1' := (A0.trans A1).app [.v (.string x), .v (.int .i64 ta), .v (.int .i64 tb), .v (.int .i64 tc), .v (.int .i64 td), .v (.int .i64 te), .v (.int .i64 tf)] m1.arrs
  simp [← hM]
  refine call_ic (i_next l hb ⟨m1.boxes ++ [[.v (.string x), .v (.int .i64 ta), .v (.int .i64 tb), .v (.int .i64 tc), .v (.int .i64 td), .v (.int .i64 te), .v (.int .i64 tf)]], m1.arrs⟩ k a1 A1'.src (by omega) (by omega) 14 (by decide) (by decide)) rfl (by simp) (icok (by decide) (by decide)) ?_
  rintro r m2 ⟨⟨n, rfl, _, _⟩, a2, ⟨g3, g4⟩, A2, e2⟩
  have p2 : m2.boxes[M]? = some [.v (.string x), .v (.int .i64 ta), .v (.int .i64 tb), .v (.int .i64 tc), .v (.int .i64 td), .v (.int .i64 te), .v (.int .i64 tf)] := by rw [hM]; exact A2.new (by omega)
  have b2 : m2.boxes[N]? = some z := A2.box (box_app b1 _) kN
  have W2 : At l k a2 m m2 := A1'.trans A2
  have e2' : m2.arrs = m.arrs := e2.trans e1
  by_cases c0 : n = 0
  · subst c0
    simp
    refine call_ic (i_bentName l hb m2 k a2 A2.src (by omega) (by omega)) rfl (by simp) (icok (by decide) (by decide)) ?_
    rintro r m3 ⟨⟨y, rfl, hy⟩, a3, ⟨g5, g6⟩, A3, e3⟩
    have p3 := A3.box p2 kM
    have b3 := A3.box b2 kN
    have b3' := fun x => box_set b3 NM x
    have q3 := fun x y => box_put (b3' x) y
    have pp3 := fun x => box_put p3 x
    simp [p3, pp3, b3', hz]
    refine kice_x ?_
    simp [q3]
    exact ⟨isTrm (by assumption) _ _ _ _ _ _, a3, ⟨by omega, by omega⟩, ((W2.trans A3).put (by omega) kM _ m3.arrs).put (by omega) kN _ _, e3.trans e2'⟩
  by_cases c1 : n = 1
  · subst c1
    simp
    refine call_ic (i_bentVersion l hb m2 k a2 A2.src (by omega) (by omega)) rfl (by simp) (icok (by decide) (by decide)) ?_
    rintro r m3 ⟨⟨⟨u, v, w⟩, rfl⟩, a3, ⟨g5, g6⟩, A3, e3⟩
    have p3 := A3.box p2 kM
    have b3 := A3.box b2 kN
    have b3' := fun x => box_set b3 NM x
    have q3 := fun x y => box_put (b3' x) y
    have pp3 := fun x => box_put p3 x
    simp [p3, pp3, b3', hz]
    refine kice_x ?_
    simp [q3]
    exact ⟨isTrm (by assumption) _ _ _ _ _ _, a3, ⟨by omega, by omega⟩, ((W2.trans A3).put (by omega) kM _ m3.arrs).put (by omega) kN _ _, e3.trans e2'⟩
  by_cases c2 : n = 2
  · subst c2
    simp
    refine call_ic (i_bentVersion l hb m2 k a2 A2.src (by omega) (by omega)) rfl (by simp) (icok (by decide) (by decide)) ?_
    rintro r m3 ⟨⟨⟨u, v, w⟩, rfl⟩, a3, ⟨g5, g6⟩, A3, e3⟩
    have p3 := A3.box p2 kM
    have b3 := A3.box b2 kN
    have b3' := fun x => box_set b3 NM x
    have q3 := fun x y => box_put (b3' x) y
    have pp3 := fun x => box_put p3 x
    simp [p3, pp3, b3', hz]
    refine kice_x ?_
    simp [q3]
    exact ⟨isTrm (by assumption) _ _ _ _ _ _, a3, ⟨by omega, by omega⟩, ((W2.trans A3).put (by omega) kM _ m3.arrs).put (by omega) kN _ _, e3.trans e2'⟩
  by_cases c3 : n = 3
  · subst c3
    have b2' := fun x => box_set b2 NM x
    have q2 := fun x y => box_put (b2' x) y
    have pp2 := fun x => box_put p2 x
    simp [p2, pp2, b2', hz]
    refine kice_x ?_
    simp [q2]
    exact ⟨isTrm hx _ _ _ _ _ _, a2, ⟨by omega, by omega⟩, (W2.put (by omega) kM _ m2.arrs).put (by omega) kN _ _, e2'⟩
  · have q2 := fun y => box_put b2 y
    simp [c0, c1, c2, c3, p2, b2, hz]
    refine kice_x ?_
    simp [q2]
    exact ⟨isTrm hx _ _ _ _ _ _, a2, ⟨by omega, by omega⟩, W2.put (by omega) kN _ _, e2'⟩
end

end Go.Proofs.YtokhnmchnfkiiaaDoor.Am
