/- The texts of sets, by both sides; the law FnExactFormatSet. No conditions. -/
import Derived.Test.YtokhnmchnfkiiaaDoorAmE4
import Derived.Test.YtokhnmchnfkiiaaDoorAmCg3
namespace Go.Proofs.YtokhnmchnfkiiaaDoor.Am
open Go Go.RowKit Go.Proofs
set_option linter.unusedSimpArgs false
set_option linter.unusedVariables false

theorem packF_txt {p : Pk} (h : packF p = 0) : p.n.size ≤ 12 ∧ versionFault p.v.a p.v.b p.v.c = 0 := by
  unfold packF at h
  split at h
  · rename_i h1; exact (h1 h).elim
  rename_i h1
  split at h
  · rename_i h2; exact (h2 h).elim
  rename_i h2
  refine ⟨?_, by simpa [verF] using h2⟩
  simp only [nameFault, ne_eq, Decidable.not_not] at h1
  split at h1
  · cases h1
  · omega

def lineS (p : Pk) : ByteArray := p.n ++ ⟨#[32]⟩ ++ verS p.v.a p.v.b p.v.c ++ ⟨#[10]⟩
/-- The text of a set: a line a package. -/
def setS (c : List Pk) : List Int → ByteArray → ByteArray
  | [], x => x
  | k :: s, x => setS c s (x ++ lineS (pkAt c k))
theorem lit10 : (⟨#[10]⟩ : ByteArray).size = 1 := rfl
theorem lit32 : (⟨#[32]⟩ : ByteArray).size = 1 := rfl
theorem lineS_size {p : Pk} (h : packF p = 0) : (lineS p).size ≤ 4000 := by
  obtain ⟨h1, h2⟩ := packF_txt h
  have h3 := verS_size h2
  simp only [lineS, ByteArray.size_append, lit10, lit32]
  omega

set_option maxHeartbeats 4000000 in
theorem p_l3text (a b k : Bool) (c : List Pk) (hc : catF c = 0) (s : List Int) (hs : s.length ≤ 1048576) (hp : Places c.length s) : Pure Tryd.prog 73 [pksAV a b c, intsAV k s] (.v (.string (setS c s ⟨#[]⟩))) := by
  obtain ⟨hcl, hcp⟩ := catF_ok hc
  refine pure_of_code (G := (G0)) vers0 mixed0 Tryd.func73 rfl (by decide) (by simp [Tryd.f73]) (by simp) fun ver => ?_
  simp only [Tryd.f73, G0]
  simp
  refine aloop (α := Nat × ByteArray) (fun i => ⟨envOf [(0, pksAV a b c), (1, intsAV k s), (5, .v (.string i.2)), (6, .v (.int .i64 i.1))], ⟨[], noArrs ver⟩⟩)
    (fun i => i.1 ≤ s.length ∧ i.2.size ≤ i.1 * 4000 ∧ setS c (s.drop i.1) i.2 = setS c s ⟨#[]⟩) (fun i => s.length - i.1) (0, ⟨#[]⟩) (less_envOf (by simp) rfl fun _ => rfl) (by simp; rfl) ?_
  rintro ⟨i, x⟩ ⟨g1, g2, g3⟩
  simp only at g1 g2 g3 ⊢
  by_cases hlt : i < s.length
  · have hw := wrapS hlt (by omega : s.length ≤ 4611686018427387904)
    rw [drop_get hlt, setS] at g3
    obtain ⟨q1, q2⟩ := hp _ (List.getElem_mem hlt)
    have hg := pkAt_get q2
    have hpk := hcp _ (pkAt_mem q2)
    obtain ⟨h1, h2⟩ := packF_txt hpk
    have h3 := verS_size h2
    have h4 := lineS_size hpk
    obtain ⟨P, hP⟩ : ∃ P, P = pkAt c s[i] := ⟨_, rfl⟩
    rw [← hP] at g3 hg hpk h1 h2 h3 h4
    have hfv := p_formatVersion P.v.a P.v.b P.v.c
    rw [fmtV, if_pos h2] at hfv
    have y1 : x.size + P.n.size ≤ 140737488355328 := by omega
    have y2 : x.size + P.n.size + 1 ≤ 140737488355328 := by omega
    have y3 : x.size + P.n.size + 1 + (verS P.v.a P.v.b P.v.c).size ≤ 140737488355328 := by omega
    have y4 : x.size + P.n.size + 1 + (verS P.v.a P.v.b P.v.c).size + 1 ≤ 140737488355328 := by omega
    simp [hlt]
    refine adraw_all (by kernel_rfl) ?_
    simp [hlt, q1, hg, lit32, y1, y2]
    refine call_p hfv (by simp) ?_
    simp [lit10, lit32, y3, y4]
    refine ⟨i + 1, x ++ lineS P, less_envOf (by simp [hw, lineS, ByteArray.append_assoc]) rfl fun _ => rfl, ⟨by omega, ?_, g3⟩, by omega⟩
    rw [ByteArray.size_append]
    omega
  · rw [List.drop_eq_nil_of_le (by omega), setS] at g3
    simp [hlt, g3]

set_option maxHeartbeats 4000000 in
theorem q_setText (a b k : Bool) (c : List Pk) (hc : catF c = 0) (s : List Int) (hs : s.length ≤ 1048576) (hp : Places c.length s) : Pure Tryd.prog 76 [pksAV a b c, intsAV k s] (.v (.string (setS c s ⟨#[]⟩))) := by
  obtain ⟨hcl, hcp⟩ := catF_ok hc
  refine pure_of_code (G := (G0)) vers0 mixed0 Tryd.func76 rfl (by decide) (by simp [Tryd.f76]) (by simp) fun ver => ?_
  simp only [Tryd.f76, G0]
  simp
  refine aloop (α := Nat × ByteArray) (fun i => ⟨envOf [(0, pksAV a b c), (5, .v (.string i.2)), (8, intsAV k s), (9, .v (.int .i64 s.length)), (10, .v (.int .i64 i.1))], ⟨[], noArrs ver⟩⟩)
    (fun i => i.1 ≤ s.length ∧ i.2.size ≤ i.1 * 4000 ∧ setS c (s.drop i.1) i.2 = setS c s ⟨#[]⟩) (fun i => s.length - i.1) (0, ⟨#[]⟩) (less_envOf (by simp) rfl fun _ => rfl) (by simp; rfl) ?_
  rintro ⟨i, x⟩ ⟨g1, g2, g3⟩
  simp only at g1 g2 g3 ⊢
  by_cases hlt : i < s.length
  · have hw := wrapS hlt (by omega : s.length ≤ 4611686018427387904)
    rw [drop_get hlt, setS] at g3
    obtain ⟨q1, q2⟩ := hp _ (List.getElem_mem hlt)
    have hg := pkAt_get q2
    have hpk := hcp _ (pkAt_mem q2)
    obtain ⟨h1, h2⟩ := packF_txt hpk
    have h3 := verS_size h2
    have h4 := lineS_size hpk
    obtain ⟨P, hP⟩ : ∃ P, P = pkAt c s[i] := ⟨_, rfl⟩
    rw [← hP] at g3 hg hpk h1 h2 h3 h4
    have hj : (joinS [P.n, verS P.v.a P.v.b P.v.c]).size + 1 ≤ 4000 := by
      rw [joinS_two]
      simp only [ByteArray.size_append, lit32]
      omega
    have hq := q_joined false [P.n, verS P.v.a P.v.b P.v.c] (by simp) (by simp) (by omega)
    have y1 : (joinS [P.n, verS P.v.a P.v.b P.v.c]).size + 1 ≤ 140737488355328 := by omega
    have y2 : x.size + ((joinS [P.n, verS P.v.a P.v.b P.v.c]).size + 1) ≤ 140737488355328 := by omega
    simp [hlt]
    refine adraw_all (by kernel_rfl) ?_
    simp [hlt, q1, hg]
    refine call_p (q_verTextI h2) (by simp) ?_
    simp [List.range_succ, sealRows, sealCells]
    refine call_p hq (by simp) ?_
    simp [lit10, y1, y2]
    refine ⟨i + 1, x ++ lineS P, less_envOf (by simp [hw, lineS, joinS_two, ByteArray.append_assoc]) rfl fun _ => rfl, ⟨by omega, ?_, g3⟩, by omega⟩
    rw [ByteArray.size_append]
    omega
  · rw [List.drop_eq_nil_of_le (by omega), setS] at g3
    simp [hlt, g3]

noncomputable def setTx (c : List Pk) (s : List Int) : ByteArray := if setF c s = 0 then setS c s ⟨#[]⟩ else ⟨#[]⟩
theorem p_formatSet (a b k : Bool) (c : List Pk) (hc : c.length ≤ 4611686018427387904) (hb : ∀ p ∈ c, p.Len) (s : List Int) (hs : s.length ≤ 1048576) : Pure Tryd.prog 35 [pksAV a b c, intsAV k s] (.v (.string (setTx c s))) := by
  by_cases h : setF c s = 0
  · rw [setTx, if_pos h]
    obtain ⟨h1, h2⟩ := setF_ok h
    refine pure_of_code (G := (G0)) vers0 mixed0 Tryd.func35 rfl (by decide) (by simp [Tryd.f35]) (by simp) fun ver => ?_
    simp only [Tryd.f35, G0]
    simp
    refine call_p (p_setFault a b k c hc hb s (by omega)) (by simp) ?_
    simp [h]
    refine call_p (p_l3text a b k c h1 s hs h2.places) (by simp) ?_
    simp
  · rw [setTx, if_neg h]
    refine pure_of_code (G := (G0)) vers0 mixed0 Tryd.func35 rfl (by decide) (by simp [Tryd.f35]) (by simp) fun ver => ?_
    simp only [Tryd.f35, G0]
    simp
    refine call_p (p_setFault a b k c hc hb s (by omega)) (by simp) ?_
    simp [h]
theorem q_formatSet (a b k : Bool) (c : List Pk) (hc : c.length ≤ 4611686018427387904) (hb : ∀ p ∈ c, p.Len) (s : List Int) (hs : s.length ≤ 1048576) : Pure Tryd.prog 38 [pksAV a b c, intsAV k s] (.v (.string (setTx c s))) := by
  by_cases h : setF c s = 0
  · rw [setTx, if_pos h]
    obtain ⟨h1, h2⟩ := setF_ok h
    refine pure_of_code (G := (G0)) vers0 mixed0 Tryd.func38 rfl (by decide) (by simp [Tryd.f38]) (by simp) fun ver => ?_
    simp only [Tryd.f38, G0]
    simp
    refine call_p (q_setFault a b k c hc hb s (by omega)) (by simp) ?_
    simp [h]
    refine call_p (q_setText a b k c h1 s hs h2.places) (by simp) ?_
    simp
  · rw [setTx, if_neg h]
    refine pure_of_code (G := (G0)) vers0 mixed0 Tryd.func38 rfl (by decide) (by simp [Tryd.f38]) (by simp) fun ver => ?_
    simp only [Tryd.f38, G0]
    simp
    refine call_p (q_setFault a b k c hc hb s (by omega)) (by simp) ?_
    simp [h]

set_option maxHeartbeats 4000000 in
set_option maxRecDepth 10000 in
theorem l_formatSet (l : List Pk) (hp : BigP l) (s : List Int) (hs : BigI s) : Pure Tryd.prog 9 [pksAV true true l, intsAV true s] (.v (.bool true)) := by
  have h1 : l.length ≤ 4611686018427387904 := by have := hp.1; omega
  have h2 : ∀ p ∈ l, p.Len := fun p h => (hp.2 p h).len
  have h3 : s.length ≤ 4611686018427387904 := by unfold BigI at hs; omega
  by_cases g0 : (1048576 : Int) < s.length
  · have g1 : 1048576 < s.length := by omega
    refine pure_of_code (G := (G0)) vers0 mixed0 Tryd.func9 rfl (by decide) (by simp [Tryd.f9]) (by simp) fun ver => ?_
    simp only [Tryd.f9, G0]
    simp [g0, g1]
  have g1 : ¬ 1048576 < s.length := by omega
  have h4 : s.length ≤ 1048576 := by omega
  refine pure_of_code (G := (G0)) vers0 mixed0 Tryd.func9 rfl (by decide) (by simp [Tryd.f9]) (by simp) fun ver => ?_
  simp only [Tryd.f9, G0]
  simp [g0, g1]
  refine call_p (z_pks true l hp _) (by simp) ?_
  by_cases g2 : sz_pks l 1048576 < 0
  · simp [g2]
  simp [g2]
  refine call_p (t_pks true l hp) (by simp) ?_
  simp
  refine call_p (t_ints true s hs) (by simp) ?_
  simp
  refine call_p (p_formatSet false false false l h1 h2 s h4) (by simp) ?_
  simp
  refine call_p (t_pks true l hp) (by simp) ?_
  simp
  refine call_p (t_ints true s hs) (by simp) ?_
  simp
  refine call_p (q_formatSet false false false l h1 h2 s h4) (by simp) ?_
  simp
  refine call_p (t_pks true l hp) (by simp) ?_
  simp
  refine call_p (e_pks false false l h1 h2) (by simp) ?_
  simp
  refine call_p (t_ints true s hs) (by simp) ?_
  simp
  refine call_p (e_ints false false s h3) (by simp) ?_
  simp

end Go.Proofs.YtokhnmchnfkiiaaDoor.Am
