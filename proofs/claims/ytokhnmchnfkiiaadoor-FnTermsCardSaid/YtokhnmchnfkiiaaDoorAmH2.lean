/- Draws of two versions. No conditions. -/
import Derived.Test.YtokhnmchnfkiiaaDoorAmCg21
import Derived.Test.YtokhnmchnfkiiaaDoorAmH1
namespace Go.Proofs.YtokhnmchnfkiiaaDoor.Am
open Go Go.RowKit Go.Proofs
set_option linter.unusedSimpArgs false
set_option linter.unusedVariables false

theorem p_big (l : List Int) : Pure Tryd.prog 21 [.sl true (l.map bytCells)] (.v (.bool (decide (1048576 < l.length)))) := by
  refine pure_of_code (G := (G0)) vers0 mixed0 Tryd.func21 rfl (by decide) (by simp [Tryd.f21]) (by simp) fun ver => ?_
  simp only [Tryd.f21, G0]
  simp
  by_cases h : 1048576 < l.length
  · have hi : (1048576 : Int) < l.length := by omega
    simp [h, hi]
  · have hi : ¬ (1048576 : Int) < l.length := by omega
    simp [h, hi]

set_option maxHeartbeats 4000000 in
set_option maxRecDepth 20000 in
/-- Two versions, as they are drawn. -/
theorem i_drawCompare (l : List Int) (hb : Byt l) (m : Mem) : ICall Tryd.prog m 22 [.sl true (l.map bytCells)] (fun r m' => (∃ v w : Ver, r = .tup [v.av, w.av]) ∧ m' = m) := by
  refine icall_mono (icall_closed (Q := fun r => ∃ v w : Ver, r = .tup [v.av, w.av]) (fun ver => ?_) (by simp [fr_bytes]) m) fun r m' h => h
  obtain ⟨z, hz⟩ : ∃ z : List AV, z = [.v (.int .i64 0), .v (.int .i64 0), .v (.int .i64 0)] := ⟨_, rfl⟩
  refine icode (md := 4000) (o := fun _ => false) (by decide) (by decide) Tryd.func22 rfl (by decide) (by simp [Tryd.f22]) ?_
  simp only [Tryd.f22, Gd]
  simp [← hz]
  refine call_ic (i_source l ⟨[z, z], noArrs ver⟩) rfl (by simp) (icok (by decide) (by decide)) ?_
  rintro r m1 ⟨rfl, rfl⟩
  have hs : ([z, z] ++ [srcB l 0])[2]? = some (srcB l 0) := rfl
  simp
  refine call_ic (i_bentVersion l hb ⟨[z, z, srcB l 0], noArrs ver⟩ 2 0 rfl (by decide) (by decide)) rfl (by simp) (icok (by decide) (by decide)) ?_
  rintro r m2 ⟨⟨⟨x1, x2, x3⟩, rfl⟩, a2, ⟨g1, g2⟩, A2, e2⟩
  have b0 := A2.box (j := 0) (z := z) rfl (by decide)
  have b1 := A2.box (j := 1) (z := z) rfl (by decide)
  obtain ⟨M, hM⟩ : ∃ M, M = m2.boxes.length := ⟨_, rfl⟩
  have hl2 : 3 ≤ m2.boxes.length := A2.len
  have M0 : M ≠ 0 := by omega
  have M1 : M ≠ 1 := by omega
  have M2 : M ≠ 2 := by omega
  have A2' := A2.app [.v (.int .i64 x1), .v (.int .i64 x2), .v (.int .i64 x3)] m2.arrs
  have b0' := box_app b0 [.v (.int .i64 x1), .v (.int .i64 x2), .v (.int .i64 x3)]
  have b1' := box_app b1 [.v (.int .i64 x1), .v (.int .i64 x2), .v (.int .i64 x3)]
  have bM' : (m2.boxes ++ [[.v (.int .i64 x1), .v (.int .i64 x2), .v (.int .i64 x3)]])[M]? = some [.v (.int .i64 x1), .v (.int .i64 x2), .v (.int .i64 x3)] := by rw [hM]; simp
  simp [← hM]
  refine adraw_i [0, 1] [2, 3, 4] [] (fun mm => mm.boxes[M]? = some [.v (.int .i64 x1), .v (.int .i64 x2), .v (.int .i64 x3)]) [.agg [.v (.int .i64 x1), .v (.int .i64 x2), .v (.int .i64 x3)], .box 2 0] (by decide +kernel) bM' ?_
  simp +contextual [yieldsTo]
  refine call_ic (i_bentVersion l hb ⟨m2.boxes ++ [[.v (.int .i64 x1), .v (.int .i64 x2), .v (.int .i64 x3)]], m2.arrs⟩ 2 a2 A2'.src (by omega) (by omega)) rfl (by simp) (icok (by decide) (by decide)) ?_
  rintro r m3 ⟨⟨⟨y1, y2, y3⟩, rfl⟩, a3, ⟨g3, g4⟩, A3, e3⟩
  have c0 := A3.box b0' (by decide)
  have c1 := A3.box b1' (by decide)
  have cM := A3.box bM' M2
  have d0 := fun x => box_put c0 x
  have d1 := fun x y => box_put (box_set c1 (j := 0) (by decide) x) y
  have d2 := fun x y => box_set (box_put c0 x) (j := 1) (by decide) y
  have d3 := fun x => box_set cM (j := 0) (Ne.symm M0) x
  have d4 := fun x y => box_set (d3 x) (j := 1) (Ne.symm M1) y
  have d5 := fun x => box_set c1 (j := 0) (by decide) x
  simp [c0, c1, cM, d3, d4, d5, hz]
  refine kice_x ?_
  simp [d1, d2]
  exact ⟨⟨⟨x1, x2, x3⟩, rfl, rfl, rfl⟩, ⟨y1, y2, y3⟩, rfl, rfl, rfl⟩

end Go.Proofs.YtokhnmchnfkiiaaDoor.Am
