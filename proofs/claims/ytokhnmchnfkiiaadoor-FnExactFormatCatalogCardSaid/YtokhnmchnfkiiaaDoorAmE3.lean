/- The texts of terms, by both sides. No conditions. -/
import Derived.Test.YtokhnmchnfkiiaaDoorAmE2
import Derived.Test.YtokhnmchnfkiiaaDoorAmCg1
namespace Go.Proofs.YtokhnmchnfkiiaaDoor.Am
open Go Go.RowKit Go.Proofs
set_option linter.unusedSimpArgs false
set_option linter.unusedVariables false

theorem cmp_zero (a b c : Int) : cmpF a b c 0 0 0 = 0 ↔ (a = 0 ∧ b = 0 ∧ c = 0) := by
  unfold cmpF signF
  constructor
  · intro h
    repeat' split at h
    all_goals omega
  · rintro ⟨rfl, rfl, rfl⟩
    simp
theorem trm_zero {x : ByteArray} {a b c d e f : Int} (h : termFault x a b c d e f = 0) : x.size ≤ 12 ∧ versionFault a b c = 0 ∧ ((d = 1000 ∧ e = 0 ∧ f = 0) ∨ versionFault d e f = 0) := by
  unfold termFault at h
  split at h
  · rename_i h1; exact (h1 h).elim
  rename_i h1
  split at h
  · rename_i h2; exact (h2 h).elim
  rename_i h2
  split at h
  · cases h
  rename_i h3
  refine ⟨?_, by simpa using h2, ?_⟩
  · simp only [ne_eq, Decidable.not_not, nameFault] at h1
    split at h1
    · cases h1
    · rename_i h4; omega
  · by_cases h4 : d = 1000 ∧ e = 0 ∧ f = 0
    · exact .inl h4
    · refine .inr (Classical.not_not.1 fun h5 => h3 ⟨h4, h5⟩)
theorem verS_size {a b c : Int} (h : versionFault a b c = 0) : (verS a b c).size ≤ 3002 := by
  obtain ⟨⟨x, rfl, hx⟩, ⟨y, rfl, hy⟩, ⟨z, rfl, hz⟩⟩ := vf_zero h
  have h1 := decS_size x
  have h2 := decS_size y
  have h3 := decS_size z
  have h4 : (⟨#[46]⟩ : ByteArray).size = 1 := rfl
  simp only [verS, ByteArray.size_append, h4, Int.toNat_natCast]
  omega
/-- The text of a right term. -/
def loS (x : ByteArray) (a b c : Int) : ByteArray := if a = 0 ∧ b = 0 ∧ c = 0 then x else x ++ ⟨#[62, 61]⟩ ++ verS a b c
def trmS (x : ByteArray) (a b c d e f : Int) : ByteArray := if d = 1000 ∧ e = 0 ∧ f = 0 then loS x a b c else loS x a b c ++ ⟨#[60]⟩ ++ verS d e f
def fmtT (x : ByteArray) (a b c d e f : Int) : ByteArray := if termFault x a b c d e f = 0 then trmS x a b c d e f else ⟨#[]⟩
theorem q_verTextI {a b c : Int} (h : versionFault a b c = 0) : Pure Tryd.prog 45 [.agg [.v (.int .i64 a), .v (.int .i64 b), .v (.int .i64 c)]] (.v (.string (verS a b c))) := by
  obtain ⟨⟨x, rfl, hx⟩, ⟨y, rfl, hy⟩, ⟨z, rfl, hz⟩⟩ := vf_zero h
  exact q_verText x y z hx hy hz
theorem p_verTextI {a b c : Int} (h : versionFault a b c = 0) : Pure Tryd.prog 11 [.agg [.v (.int .i64 a), .v (.int .i64 b), .v (.int .i64 c)]] (.v (.string (verS a b c))) := by
  have := p_formatVersion a b c
  rwa [fmtV, if_pos h] at this
theorem lit2 : (⟨#[62, 61]⟩ : ByteArray).size = 2 := rfl
theorem lit1 : (⟨#[60]⟩ : ByteArray).size = 1 := rfl

set_option maxHeartbeats 4000000 in
theorem p_formatTerm (x : ByteArray) (a b c d e f : Int) : Pure Tryd.prog 18 [.agg [.v (.string x), .v (.int .i64 a), .v (.int .i64 b), .v (.int .i64 c), .v (.int .i64 d), .v (.int .i64 e), .v (.int .i64 f)]] (.v (.string (fmtT x a b c d e f))) := by
  by_cases h : termFault x a b c d e f = 0
  case neg =>
    rw [fmtT, if_neg h]
    refine pure_of_code (G := (G0)) vers0 mixed0 Tryd.func18 rfl (by decide) (by simp [Tryd.f18]) (by simp) fun ver => ?_
    simp only [Tryd.f18, G0]
    simp
    refine call_p (p_termFault x a b c d e f) (by simp) ?_
    simp [h]
  obtain ⟨hx, hlo, hhi⟩ := trm_zero h
  have s1 := verS_size hlo
  obtain ⟨K, hK⟩ : ∃ K, K = cmpF a b c 0 0 0 := ⟨_, rfl⟩
  have hKz : K = 0 ↔ (a = 0 ∧ b = 0 ∧ c = 0) := by rw [hK]; exact cmp_zero a b c
  have hcmp : Pure Tryd.prog 52 [.agg [.v (.int .i64 a), .v (.int .i64 b), .v (.int .i64 c)], .agg [.v (.int .i64 0), .v (.int .i64 0), .v (.int .i64 0)]] (.v (.int .i64 K)) := by rw [hK]; exact p_compareVersions _ _ _ _ _ _
  have y1 : x.size + 2 ≤ 140737488355328 := by omega
  have y2 : x.size + 2 + (verS a b c).size ≤ 140737488355328 := by omega
  have y3 : x.size + 1 ≤ 140737488355328 := by omega
  have y4 : x.size + 2 + (verS a b c).size + 1 ≤ 140737488355328 := by omega
  rw [fmtT, if_pos h, trmS, loS]
  by_cases h1 : a = 0 ∧ b = 0 ∧ c = 0
  · have hK0 := hKz.2 h1
    by_cases h2 : d = 1000 ∧ e = 0 ∧ f = 0
    · refine pure_of_code (G := (G0)) vers0 mixed0 Tryd.func18 rfl (by decide) (by simp [Tryd.f18]) (by simp) fun ver => ?_
      simp only [Tryd.f18, G0]
      simp
      refine call_p (p_termFault x a b c d e f) (by simp) ?_
      simp [h]
      refine call_p hcmp (by simp) ?_
      simp [hK0]
      refine adraw_all (by kernel_rfl) ?_
      simp
      refine call_p p_top (by simp) ?_
      simp [h1, h2]
    · have hv := hhi.resolve_left h2
      have s2 := verS_size hv
      have y5 : x.size + 1 + (verS d e f).size ≤ 140737488355328 := by omega
      refine pure_of_code (G := (G0)) vers0 mixed0 Tryd.func18 rfl (by decide) (by simp [Tryd.f18]) (by simp) fun ver => ?_
      simp only [Tryd.f18, G0]
      simp
      refine call_p (p_termFault x a b c d e f) (by simp) ?_
      simp [h]
      refine call_p hcmp (by simp) ?_
      simp [hK0]
      refine adraw_all (by kernel_rfl) ?_
      simp
      refine call_p p_top (by simp) ?_
      simp [h2, lit1, y3]
      refine call_p (p_verTextI hv) (by simp) ?_
      simp [h1, lit1, y5]
  · have hK0 : ¬ K = 0 := fun h => h1 (hKz.1 h)
    by_cases h2 : d = 1000 ∧ e = 0 ∧ f = 0
    · refine pure_of_code (G := (G0)) vers0 mixed0 Tryd.func18 rfl (by decide) (by simp [Tryd.f18]) (by simp) fun ver => ?_
      simp only [Tryd.f18, G0]
      simp
      refine call_p (p_termFault x a b c d e f) (by simp) ?_
      simp [h]
      refine call_p hcmp (by simp) ?_
      simp [hK0, lit2, y1]
      refine call_p (p_verTextI hlo) (by simp) ?_
      simp [lit2, y2]
      refine adraw_all (by kernel_rfl) ?_
      simp
      refine call_p p_top (by simp) ?_
      simp [h1, h2]
    · have hv := hhi.resolve_left h2
      have s2 := verS_size hv
      have y5 : x.size + 2 + (verS a b c).size + 1 + (verS d e f).size ≤ 140737488355328 := by omega
      refine pure_of_code (G := (G0)) vers0 mixed0 Tryd.func18 rfl (by decide) (by simp [Tryd.f18]) (by simp) fun ver => ?_
      simp only [Tryd.f18, G0]
      simp
      refine call_p (p_termFault x a b c d e f) (by simp) ?_
      simp [h]
      refine call_p hcmp (by simp) ?_
      simp [hK0, lit2, y1]
      refine call_p (p_verTextI hlo) (by simp) ?_
      simp [lit2, y2]
      refine adraw_all (by kernel_rfl) ?_
      simp
      refine call_p p_top (by simp) ?_
      simp [h2, lit1, lit2, y4]
      refine call_p (p_verTextI hv) (by simp) ?_
      simp [h1, lit1, lit2, y5]

set_option maxHeartbeats 4000000 in
theorem q_formatTerm (x : ByteArray) (a b c d e f : Int) : Pure Tryd.prog 20 [.agg [.v (.string x), .v (.int .i64 a), .v (.int .i64 b), .v (.int .i64 c), .v (.int .i64 d), .v (.int .i64 e), .v (.int .i64 f)]] (.v (.string (fmtT x a b c d e f))) := by
  by_cases h : termFault x a b c d e f = 0
  case neg =>
    rw [fmtT, if_neg h]
    refine pure_of_code (G := (G0)) vers0 mixed0 Tryd.func20 rfl (by decide) (by simp [Tryd.f20]) (by simp) fun ver => ?_
    simp only [Tryd.f20, G0]
    simp
    refine call_p (q_termFault x a b c d e f) (by simp) ?_
    simp [h]
  obtain ⟨hx, hlo, hhi⟩ := trm_zero h
  have s1 := verS_size hlo
  have y1 : 2 + (verS a b c).size ≤ 140737488355328 := by omega
  have y2 : x.size + (2 + (verS a b c).size) ≤ 140737488355328 := by omega
  rw [fmtT, if_pos h, trmS, loS]
  by_cases h1 : a = 0 ∧ b = 0 ∧ c = 0
  · obtain ⟨rfl, rfl, rfl⟩ := h1
    by_cases h2 : d = 1000 ∧ e = 0 ∧ f = 0
    · refine pure_of_code (G := (G0)) vers0 mixed0 Tryd.func20 rfl (by decide) (by simp [Tryd.f20]) (by simp) fun ver => ?_
      simp only [Tryd.f20, G0]
      simp
      refine call_p (q_termFault x 0 0 0 d e f) (by simp) ?_
      simp [h]
      refine adraw_all (by kernel_rfl) ?_
      simp
      refine call_p q_top (by simp) ?_
      simp [h2]
    · have hv := hhi.resolve_left h2
      have s2 := verS_size hv
      have y4 : 1 + (verS d e f).size ≤ 140737488355328 := by omega
      have y5 : x.size + (1 + (verS d e f).size) ≤ 140737488355328 := by omega
      refine pure_of_code (G := (G0)) vers0 mixed0 Tryd.func20 rfl (by decide) (by simp [Tryd.f20]) (by simp) fun ver => ?_
      simp only [Tryd.f20, G0]
      simp
      refine call_p (q_termFault x 0 0 0 d e f) (by simp) ?_
      simp [h]
      refine adraw_all (by kernel_rfl) ?_
      simp
      refine call_p q_top (by simp) ?_
      simp [h2]
      refine call_p (q_verTextI hv) (by simp) ?_
      simp [lit1, y4, y5, ByteArray.append_assoc]
  · by_cases h2 : d = 1000 ∧ e = 0 ∧ f = 0
    · refine pure_of_code (G := (G0)) vers0 mixed0 Tryd.func20 rfl (by decide) (by simp [Tryd.f20]) (by simp) fun ver => ?_
      simp only [Tryd.f20, G0]
      simp
      refine call_p (q_termFault x a b c d e f) (by simp) ?_
      simp [h, h1]
      refine call_p (q_verTextI hlo) (by simp) ?_
      simp [lit2, y1, y2]
      refine adraw_all (by kernel_rfl) ?_
      simp
      refine call_p q_top (by simp) ?_
      simp [h2, ByteArray.append_assoc]
    · have hv := hhi.resolve_left h2
      have s2 := verS_size hv
      have y4 : 1 + (verS d e f).size ≤ 140737488355328 := by omega
      have y5 : x.size + (2 + (verS a b c).size) + (1 + (verS d e f).size) ≤ 140737488355328 := by omega
      refine pure_of_code (G := (G0)) vers0 mixed0 Tryd.func20 rfl (by decide) (by simp [Tryd.f20]) (by simp) fun ver => ?_
      simp only [Tryd.f20, G0]
      simp
      refine call_p (q_termFault x a b c d e f) (by simp) ?_
      simp [h, h1]
      refine call_p (q_verTextI hlo) (by simp) ?_
      simp [lit2, y1, y2]
      refine adraw_all (by kernel_rfl) ?_
      simp
      refine call_p q_top (by simp) ?_
      simp [h2]
      refine call_p (q_verTextI hv) (by simp) ?_
      simp [lit1, lit2, y4, y5, ByteArray.append_assoc]

theorem l_formatTerm (t : Trm) : Pure Tryd.prog 5 [t.av] (.v (.bool true)) := by
  obtain ⟨x, ⟨a, b, c⟩, ⟨d, e, f⟩⟩ := t
  refine pure_of_code (G := (G0)) vers0 mixed0 Tryd.func5 rfl (by decide) (by simp [Tryd.f5]) (by simp) fun ver => ?_
  simp only [Tryd.f5, G0]
  simp
  refine call_p (p_szTerm x a b c d e f _) (by simp) ?_
  by_cases h : szTermF x 1048576 < 0
  · simp [h]
  · simp [h]
    refine call_p (p_toTerm x a b c d e f) (by simp) ?_
    simp
    refine call_p (p_formatTerm x a b c d e f) (by simp) ?_
    simp
    refine call_p (p_toTerm x a b c d e f) (by simp) ?_
    simp
    refine call_p (q_formatTerm x a b c d e f) (by simp) ?_
    simp

end Go.Proofs.YtokhnmchnfkiiaaDoor.Am
