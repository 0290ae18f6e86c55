/- What is handed in from outside, as data, with the lengths of its texts; how many cells it has. No conditions. -/
import Derived.Test.YtokhnmchnfkiiaaAmC9
namespace Go.Proofs.Ytokhnmchnfkiiaa.Am
open Go Go.RowKit Go.Proofs
set_option linter.unusedSimpArgs false
set_option linter.unusedVariables false
set_option maxRecDepth 100000

@[reducible] def StrS (l : List ByteArray) : Prop := ∀ s ∈ l, s.size ≤ 140737488355328
@[reducible] def StrT (l : List Trm) : Prop := ∀ t ∈ l, t.n.size ≤ 140737488355328
@[reducible] def StrTT (l : List (List Trm)) : Prop := ∀ c ∈ l, StrT c
structure Pk.Str (p : Pk) : Prop where
  n : p.n.size ≤ 140737488355328
  pr : StrS p.pr
  ne : StrTT p.ne
  ba : StrT p.ba
@[reducible] def StrP (l : List Pk) : Prop := ∀ p ∈ l, p.Str

theorem ty_trm2 {n : Nat} {cs : List AV} (h : Typed Try.prog (n + 3) 103 cs) : ∃ t : Trm, cs = t.cells ∧ t.n.size ≤ 140737488355328 := by
  rw [Typed] at h
  simp only [Try.underlying103, TypedFs] at h
  obtain ⟨_, _, rfl, _, hs, _, _, rfl, _, h1, _, _, rfl, _, h2, rfl⟩ := h
  obtain ⟨v, rfl⟩ := ty_ver h1
  obtain ⟨w, rfl⟩ := ty_ver h2
  simp [Typed, Try.underlying9] at hs
  obtain ⟨x, rfl, hx⟩ := hs
  exact ⟨⟨x, v, w⟩, rfl, Nat.le_trans hx reach_le⟩

theorem ty_str2 {n : Nat} {a : AV} (h : Typed Try.prog (n + 1) 9 [a]) : ∃ x, a = .v (.string x) ∧ x.size ≤ 140737488355328 := by
  simp [Typed, Try.underlying9] at h
  obtain ⟨x, rfl, hx⟩ := h
  exact ⟨x, rfl, Nat.le_trans hx reach_le⟩

theorem ty_strs2 {n : Nat} {cs : List AV} (h : Typed Try.prog (n + 2) 34 cs) : ∃ l, cs = [strsAV true l] ∧ BigS l ∧ StrS l := by
  rw [Typed] at h
  simp only [Try.underlying34] at h
  obtain ⟨es, rfl, hb, hc⟩ := h
  obtain ⟨l, rfl, hl⟩ := rows_of strCells (fun s => s.size ≤ 140737488355328) (es := es) fun c hcm => by
    have := hc c hcm
    simp [Typed, Try.underlying9] at this
    obtain ⟨x, rfl, hx⟩ := this
    exact ⟨x, rfl, Nat.le_trans hx reach_le⟩
  refine ⟨l, rfl, ?_, hl⟩
  have hb' : l.length * 16 ≤ reachBytes := by simpa [show Try.prog.bytesOf 9 = 16 by kernel_rfl] using hb
  exact Nat.le_trans hb' reach_le

theorem ty_trms2 {n : Nat} {cs : List AV} (h : Typed Try.prog (n + 4) 47 cs) : ∃ l, cs = [trmsAV true l] ∧ BigT l ∧ StrT l := by
  rw [Typed] at h
  simp only [Try.underlying47] at h
  obtain ⟨es, rfl, hb, hc⟩ := h
  obtain ⟨l, rfl, hl⟩ := rows_of Trm.cells (fun t => t.n.size ≤ 140737488355328) (es := es) fun c hcm => by
    obtain ⟨t, rfl, ht⟩ := ty_trm2 (hc c hcm)
    exact ⟨t, rfl, ht⟩
  refine ⟨l, rfl, ?_, hl⟩
  have hb' : l.length * 64 ≤ reachBytes := by simpa [show Try.prog.bytesOf 103 = 64 by kernel_rfl] using hb
  exact Nat.le_trans hb' reach_le

theorem ty_cls2 {n : Nat} {cs : List AV} (h : Typed Try.prog (n + 5) 46 cs) : ∃ l, cs = [clausesAV true l] ∧ BigTT l ∧ StrTT l := by
  rw [Typed] at h
  simp only [Try.underlying46] at h
  obtain ⟨es, rfl, hb, hc⟩ := h
  obtain ⟨l, rfl, hl⟩ := rows_of (clauseCells true) (fun c => BigT c ∧ StrT c) (es := es) fun c hcm => by
    obtain ⟨t, rfl, ht⟩ := ty_trms2 (hc c hcm)
    exact ⟨t, rfl, ht⟩
  refine ⟨l, rfl, ⟨?_, fun c hc => (hl c hc).1⟩, fun c hc => (hl c hc).2⟩
  have hb' : l.length * 24 ≤ reachBytes := by simpa [show Try.prog.bytesOf 47 = 24 by kernel_rfl] using hb
  exact Nat.le_trans hb' reach_le

theorem ty_pk2 {n : Nat} {cs : List AV} (h : Typed Try.prog (n + 6) 49 cs) : ∃ p : Pk, cs = p.cells true ∧ p.Big ∧ p.Str := by
  rw [Typed] at h
  simp only [Try.underlying49, TypedFs] at h
  obtain ⟨_, _, rfl, _, hs, _, _, rfl, _, h1, _, _, rfl, _, h2, _, _, rfl, _, h3, _, _, rfl, _, h4, _, _, rfl, _, h5, rfl⟩ := h
  obtain ⟨v, rfl⟩ := ty_ver h1
  obtain ⟨pr, rfl, b1, s1⟩ := ty_strs2 h3
  obtain ⟨ne, rfl, b2, s2⟩ := ty_cls2 h4
  obtain ⟨ba, rfl, b3, s3⟩ := ty_trms2 h5
  simp [Typed, Try.underlying9] at hs
  obtain ⟨x, rfl, hx⟩ := hs
  simp [Typed, Try.underlying2] at h2
  obtain ⟨s, rfl, _⟩ := h2
  exact ⟨⟨x, v, s, pr, ne, ba⟩, rfl, ⟨b1, b2, b3⟩, ⟨Nat.le_trans hx reach_le, s1, s2, s3⟩⟩

theorem ty_pks2 {n : Nat} {cs : List AV} (h : Typed Try.prog (n + 7) 57 cs) : ∃ l, cs = [pksAV true true l] ∧ BigP l ∧ StrP l := by
  rw [Typed] at h
  simp only [Try.underlying57] at h
  obtain ⟨es, rfl, hb, hc⟩ := h
  obtain ⟨l, rfl, hl⟩ := rows_of (Pk.cells true) (fun p => p.Big ∧ p.Str) (es := es) fun c hcm => by
    obtain ⟨t, rfl, ht⟩ := ty_pk2 (hc c hcm)
    exact ⟨t, rfl, ht⟩
  refine ⟨l, rfl, ⟨?_, fun p hp => (hl p hp).1⟩, fun p hp => (hl p hp).2⟩
  have hb' : l.length * 120 ≤ reachBytes := by simpa [show Try.prog.bytesOf 49 = 120 by kernel_rfl] using hb
  exact Nat.le_trans hb' reach_le

/-! ### How many cells are marked -/

def mkT (l : List Trm) : Nat := 7 * l.length
def mkC : List (List Trm) → Nat
  | [] => 0
  | c :: l => mkT c + mkC l
def mkP (p : Pk) : Nat := p.pr.length + mkC p.ne + mkT p.ba
def mkPs : List Pk → Nat
  | [] => 0
  | p :: l => 5 + mkP p + mkPs l

theorem wrap_sub {n : Int} {k : Nat} (h0 : 0 ≤ n) (h1 : n ≤ 1048576) (hk : k ≤ 140737488355328) : IntKind.i64.wrap (n - k) = n - k := IntWalk.i64_in _ (by omega)

theorem szr_strs_le : ∀ (l : List ByteArray), StrS l → ∀ n : Int, 0 ≤ n → n ≤ 1048576 → 0 ≤ szr_strs l n → szr_strs l n ≤ n
  | [], _, n, _, _, _ => Int.le_refl _
  | a :: l, hs, n, h0, h1, h => by
    have hw := wrap_sub h0 h1 (hs a (by simp))
    rw [szr_strs, hw] at h ⊢
    split at h
    · omega
    · rename_i h2
      rw [if_neg h2]
      have := szr_strs_le l (fun s hm => hs s (by simp [hm])) (n - a.size) (by omega) (by omega) h
      omega
theorem sz_strs_le {l : List ByteArray} (hb : BigS l) (hs : StrS l) {n : Int} (h0 : 0 ≤ n) (h1 : n ≤ 1048576) (h : ¬ sz_strs l n < 0) : sz_strs l n + l.length ≤ n ∧ 0 ≤ sz_strs l n := by
  have hw := wrap_sub (k := l.length) h0 h1 (by unfold BigS at hb; omega)
  unfold sz_strs at h ⊢
  rw [hw] at h ⊢
  split at h
  · omega
  · rename_i h2
    rw [if_neg h2]
    have := szr_strs_le l hs (n - l.length) (by omega) (by omega) (by omega)
    omega

theorem szr_trms_le : ∀ (l : List Trm), StrT l → ∀ n : Int, 0 ≤ n → n ≤ 1048576 → 0 ≤ szr_trms l n → szr_trms l n ≤ n
  | [], _, n, _, _, _ => Int.le_refl _
  | a :: l, hs, n, h0, h1, h => by
    have hw := wrap_sub h0 h1 (hs a (by simp))
    have e : szT a n = if n - a.n.size < 0 then -1 else n - a.n.size := by rw [szT, szTermF, hw]
    have e2 : szr_trms (a :: l) n = if n - a.n.size < 0 then -1 else szr_trms l (n - a.n.size) := by
      rw [szr_trms, e]
      by_cases q : n - (a.n.size : Int) < 0 <;> simp [q]
    rw [e2] at h ⊢
    split at h
    · omega
    · rename_i h2
      rw [if_neg h2]
      have := szr_trms_le l (fun s hm => hs s (by simp [hm])) (n - a.n.size) (by omega) (by omega) h
      omega
theorem sz_trms_le {l : List Trm} (hb : BigT l) (hs : StrT l) {n : Int} (h0 : 0 ≤ n) (h1 : n ≤ 1048576) (h : ¬ sz_trms l n < 0) : sz_trms l n + l.length ≤ n ∧ 0 ≤ sz_trms l n := by
  have hw := wrap_sub (k := l.length) h0 h1 (by unfold BigT at hb; omega)
  unfold sz_trms at h ⊢
  rw [hw] at h ⊢
  split at h
  · omega
  · rename_i h2
    rw [if_neg h2]
    have := szr_trms_le l hs (n - l.length) (by omega) (by omega) (by omega)
    omega

theorem szr_cls_le : ∀ (l : List (List Trm)), (∀ c ∈ l, BigT c) → StrTT l → ∀ n : Int, 0 ≤ n → n ≤ 1048576 → 0 ≤ szr_cls l n → 7 * szr_cls l n + mkC l ≤ 7 * n
  | [], _, _, n, _, _, _ => by simp [szr_cls, mkC]
  | a :: l, hb, hs, n, h0, h1, h => by
    rw [szr_cls] at h ⊢
    split at h
    · omega
    · rename_i h2
      rw [if_neg h2]
      obtain ⟨q1, q2⟩ := sz_trms_le (hb a (by simp)) (hs a (by simp)) h0 h1 h2
      have := szr_cls_le l (fun s hm => hb s (by simp [hm])) (fun s hm => hs s (by simp [hm])) _ q2 (by omega) h
      simp only [mkC, mkT]
      omega
theorem sz_cls_le {l : List (List Trm)} (hb : BigTT l) (hs : StrTT l) {n : Int} (h0 : 0 ≤ n) (h1 : n ≤ 1048576) (h : ¬ sz_cls l n < 0) : 7 * sz_cls l n + mkC l ≤ 7 * n ∧ 0 ≤ sz_cls l n := by
  have hw := wrap_sub (k := l.length) h0 h1 (by have := hb.1; omega)
  unfold sz_cls at h ⊢
  rw [hw] at h ⊢
  split at h
  · omega
  · rename_i h2
    rw [if_neg h2]
    have := szr_cls_le l hb.2 hs (n - l.length) (by omega) (by omega) (by omega)
    omega

theorem szPk_le {p : Pk} (hb : p.Big) (hs : p.Str) {n : Int} (h0 : 0 ≤ n) (h1 : n ≤ 1048576) (h : ¬ szPk p n < 0) : 7 * szPk p n + mkP p ≤ 7 * n ∧ 0 ≤ szPk p n := by
  obtain ⟨b1, b2, b3⟩ := hb
  have hw := wrap_sub h0 h1 hs.n
  unfold szPk at h ⊢
  rw [hw] at h ⊢
  split at h
  · omega
  rename_i k1
  rw [if_neg k1]
  split at h
  · omega
  rename_i k2
  rw [if_neg k2]
  obtain ⟨q1, q2⟩ := sz_strs_le b1 hs.pr (by omega) (by omega) k2
  split at h
  · omega
  rename_i k3
  rw [if_neg k3]
  obtain ⟨q3, q4⟩ := sz_cls_le b2 hs.ne q2 (by omega) k3
  split at h
  · omega
  rename_i k4
  rw [if_neg k4]
  obtain ⟨q5, q6⟩ := sz_trms_le b3 hs.ba q4 (by omega) k4
  unfold mkP mkT
  omega

theorem szr_pks_le : ∀ (l : List Pk), (∀ c ∈ l, c.Big) → StrP l → ∀ n : Int, 0 ≤ n → n ≤ 1048576 → 0 ≤ szr_pks l n → 7 * szr_pks l n + mkPs l ≤ 7 * n + 5 * l.length
  | [], _, _, n, _, _, _ => by simp [szr_pks, mkPs]
  | a :: l, hb, hs, n, h0, h1, h => by
    rw [szr_pks] at h ⊢
    split at h
    · omega
    · rename_i h2
      rw [if_neg h2]
      obtain ⟨q1, q2⟩ := szPk_le (hb a (by simp)) (hs a (by simp)) h0 h1 h2
      have := szr_pks_le l (fun s hm => hb s (by simp [hm])) (fun s hm => hs s (by simp [hm])) _ q2 (by omega) h
      simp only [mkPs, List.length_cons]
      omega
theorem sz_pks_le {l : List Pk} (hb : BigP l) (hs : StrP l) {n : Int} (h0 : 0 ≤ n) (h1 : n ≤ 1048576) (h : ¬ sz_pks l n < 0) : 7 * sz_pks l n + mkPs l ≤ 7 * n ∧ 0 ≤ sz_pks l n := by
  have hw := wrap_sub (k := l.length) h0 h1 (by have := hb.1; omega)
  unfold sz_pks at h ⊢
  rw [hw] at h ⊢
  split at h
  · omega
  · rename_i h2
    rw [if_neg h2]
    have := szr_pks_le l hb.2 hs (n - l.length) (by omega) (by omega) (by omega)
    omega

end Go.Proofs.Ytokhnmchnfkiiaa.Am
