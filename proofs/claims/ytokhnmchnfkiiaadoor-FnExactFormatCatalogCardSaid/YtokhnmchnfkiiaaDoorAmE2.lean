/- The texts of versions, by both sides. No conditions. -/
import Derived.Test.YtokhnmchnfkiiaaDoorAmE1
namespace Go.Proofs.YtokhnmchnfkiiaaDoor.Am
open Go Go.RowKit Go.Proofs
set_option linter.unusedSimpArgs false
set_option linter.unusedVariables false

/-- The text of a right version. -/
def verS (a b c : Int) : ByteArray := decS a.toNat ++ ⟨#[46]⟩ ++ decS b.toNat ++ ⟨#[46]⟩ ++ decS c.toNat
def fmtV (a b c : Int) : ByteArray := if versionFault a b c = 0 then verS a b c else ⟨#[]⟩
theorem vf_zero {a b c : Int} (h : versionFault a b c = 0) : (∃ x : Nat, a = x ∧ x ≤ 999) ∧ (∃ x : Nat, b = x ∧ x ≤ 999) ∧ ∃ x : Nat, c = x ∧ x ≤ 999 := by
  unfold versionFault inF at h
  split at h
  · rename_i h1
    simp at h1
    exact ⟨⟨a.toNat, by omega, by omega⟩, ⟨b.toNat, by omega, by omega⟩, ⟨c.toNat, by omega, by omega⟩⟩
  · cases h

theorem verS_sz {x y z : Nat} (hx : x ≤ 999) (hy : y ≤ 999) (hz : z ≤ 999) : (decS x).size + (⟨#[46]⟩ : ByteArray).size ≤ 140737488355328 ∧ (decS x).size + (⟨#[46]⟩ : ByteArray).size + (decS y).size ≤ 140737488355328 ∧ (decS x).size + (⟨#[46]⟩ : ByteArray).size + (decS y).size + (⟨#[46]⟩ : ByteArray).size ≤ 140737488355328 ∧
    (decS x).size + (⟨#[46]⟩ : ByteArray).size + (decS y).size + (⟨#[46]⟩ : ByteArray).size + (decS z).size ≤ 140737488355328 := by
  have h1 := decS_size x
  have h2 := decS_size y
  have h3 := decS_size z
  have h4 : (⟨#[46]⟩ : ByteArray).size = 1 := rfl
  rw [h4]
  omega

theorem q_dec (n : Nat) (hn : n ≤ 1000000) : Pure Tryd.prog 83 [.v (.int .i64 n)] (.v (.string (decS n))) := by
  refine pure_of_code (G := (G0)) vers0 mixed0 Tryd.func83 rfl (by decide) (by simp [Tryd.f83]) (by simp) fun ver => ?_
  simp only [Tryd.f83, G0]
  simp
  refine call_p (q_formatInt n hn) (by simp) ?_
  simp

set_option maxHeartbeats 2000000 in
theorem p_formatVersion (a b c : Int) : Pure Tryd.prog 11 [.agg [.v (.int .i64 a), .v (.int .i64 b), .v (.int .i64 c)]] (.v (.string (fmtV a b c))) := by
  by_cases h : versionFault a b c = 0
  · obtain ⟨⟨x, rfl, hx⟩, ⟨y, rfl, hy⟩, ⟨z, rfl, hz⟩⟩ := vf_zero h
    obtain ⟨s1, s2, s3, s4⟩ := verS_sz hx hy hz
    rw [fmtV, if_pos h]
    refine pure_of_code (G := (G0)) vers0 mixed0 Tryd.func11 rfl (by decide) (by simp [Tryd.f11]) (by simp) fun ver => ?_
    simp only [Tryd.f11, G0]
    simp
    refine call_p (p_versionFault _ _ _) (by simp) ?_
    simp [h]
    refine adraw_all (by kernel_rfl) ?_
    simp
    refine call_p (p_decimal x (by omega)) (by simp) ?_
    simp [s1]
    refine call_p (p_decimal y (by omega)) (by simp) ?_
    simp [s1, s2, s3]
    refine call_p (p_decimal z (by omega)) (by simp) ?_
    simp [verS, s1, s2, s3, s4]
  · rw [fmtV, if_neg h]
    refine pure_of_code (G := (G0)) vers0 mixed0 Tryd.func11 rfl (by decide) (by simp [Tryd.f11]) (by simp) fun ver => ?_
    simp only [Tryd.f11, G0]
    simp
    refine call_p (p_versionFault _ _ _) (by simp) ?_
    simp [h]

set_option maxHeartbeats 2000000 in
theorem q_verText (x y z : Nat) (hx : x ≤ 999) (hy : y ≤ 999) (hz : z ≤ 999) : Pure Tryd.prog 45 [.agg [.v (.int .i64 x), .v (.int .i64 y), .v (.int .i64 z)]] (.v (.string (verS x y z))) := by
  obtain ⟨s1, s2, s3, s4⟩ := verS_sz hx hy hz
  refine pure_of_code (G := (G0)) vers0 mixed0 Tryd.func45 rfl (by decide) (by simp [Tryd.f45]) (by simp) fun ver => ?_
  simp only [Tryd.f45, G0]
  simp
  refine adraw_all (by kernel_rfl) ?_
  simp
  refine call_p (q_dec x (by omega)) (by simp) ?_
  simp [s1]
  refine call_p (q_dec y (by omega)) (by simp) ?_
  simp [s1, s2, s3]
  refine call_p (q_dec z (by omega)) (by simp) ?_
  simp [verS, s1, s2, s3, s4]

theorem q_formatVersion (a b c : Int) : Pure Tryd.prog 13 [.agg [.v (.int .i64 a), .v (.int .i64 b), .v (.int .i64 c)]] (.v (.string (fmtV a b c))) := by
  by_cases h : versionFault a b c = 0
  · obtain ⟨⟨x, rfl, hx⟩, ⟨y, rfl, hy⟩, ⟨z, rfl, hz⟩⟩ := vf_zero h
    rw [fmtV, if_pos h]
    refine pure_of_code (G := (G0)) vers0 mixed0 Tryd.func13 rfl (by decide) (by simp [Tryd.f13]) (by simp) fun ver => ?_
    simp only [Tryd.f13, G0]
    simp
    refine call_p (q_versionFault _ _ _) (by simp) ?_
    simp [h]
    refine call_p (q_verText x y z hx hy hz) (by simp) ?_
    simp
  · rw [fmtV, if_neg h]
    refine pure_of_code (G := (G0)) vers0 mixed0 Tryd.func13 rfl (by decide) (by simp [Tryd.f13]) (by simp) fun ver => ?_
    simp only [Tryd.f13, G0]
    simp
    refine call_p (q_versionFault _ _ _) (by simp) ?_
    simp [h]

theorem l_formatVersion (v : Ver) : Pure Tryd.prog 3 [v.av] (.v (.bool true)) := by
  obtain ⟨a, b, c⟩ := v
  refine pure_of_code (G := (G0)) vers0 mixed0 Tryd.func3 rfl (by decide) (by simp [Tryd.f3]) (by simp) fun ver => ?_
  simp only [Tryd.f3, G0]
  simp
  refine call_p (p_toVersion a b c) (by simp) ?_
  simp
  refine call_p (p_formatVersion a b c) (by simp) ?_
  simp
  refine call_p (p_toVersion a b c) (by simp) ?_
  simp
  refine call_p (q_formatVersion a b c) (by simp) ?_
  simp

end Go.Proofs.YtokhnmchnfkiiaaDoor.Am
