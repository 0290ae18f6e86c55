import Derived.Test.YtokhnmchnfkiiaaAmCg3
/- The faults of a set, as the reference finds them. No conditions. -/
namespace Go.Proofs.Ytokhnmchnfkiiaa.Am
open Go Go.RowKit Go.Proofs
set_option linter.unusedSimpArgs false
set_option linter.unusedVariables false

@[simp, reducible] def fltCells (f : Int × Int × Int) : List AV := [.v (.int .i64 f.1), .v (.int .i64 f.2.1), .v (.int .i64 f.2.2)]
@[simp] theorem len_flt (l : List (Int × Int × Int)) : (l.map fltCells).all (fun e => e.length == 3) = true := all_map_eq l fun _ => rfl
@[simp] theorem one_flt (l : List (Int × Int × Int)) : (l.map fltCells).all (fun e => e.all AV.one) = true := all_map_eq l fun _ => rfl
theorem fr_flt {p : Bool → Prop} (l : List (Int × Int × Int)) : ∀ e ∈ l.map fltCells, ∀ c ∈ e, c.Free p := rows_free l fun a c hc => by simp at hc; rcases hc with rfl | rfl | rfl <;> exact .v _
@[simp high] theorem free_flts {p : Bool → Prop} (k : Bool) (l : List (Int × Int × Int)) : (AV.sl k (l.map fltCells)).Free p = p k := propext ⟨fun h => by cases h with | sl _ _ h => exact h, fun h => .sl _ _ h (fr_flt l)⟩
@[simp, reducible] def fltsAV (k : Bool) (l : List (Int × Int × Int)) : AV := .sl k (l.map fltCells)


def needsR (c : List Pk) (s : List Int) (k : Int) : List (List Trm) → Nat → List (Int × Int × Int)
  | [], _ => []
  | l :: r, j => (if metF c s l = true then [] else [(2, k, (j : Int))]) ++ needsR c s k r (j + 1)
def barsR (c : List Pk) (s : List Int) (k : Int) : List Trm → Nat → List (Int × Int × Int)
  | [], _ => []
  | t :: r, j => (if givenF c s t k = true then [(3, k, (j : Int))] else []) ++ barsR c s k r (j + 1)
def faultsR (c : List Pk) (s : List Int) : List Int → List Int → List (Int × Int × Int)
  | _, [] => []
  | seen, k :: r => (if 0 ≤ oneF c (pkAt c k).n seen then [(1, k, 0)] else []) ++ (needsR c s k (pkAt c k).ne 0 ++ (barsR c s k (pkAt c k).ba 0 ++ faultsR c s (seen ++ [k]) r))
theorem faultsR_app {c : List Pk} {s : List Int} {i : Nat} (h : i < s.length) : faultsR c s (s.take i) (s.drop i) = (if 0 ≤ oneF c (pkAt c s[i]).n (s.take i) then [(1, s[i], 0)] else []) ++ (needsR c s s[i] (pkAt c s[i]).ne 0 ++ (barsR c s s[i] (pkAt c s[i]).ba 0 ++ faultsR c s (s.take (i + 1)) (s.drop (i + 1)))) := by
  rw [drop_get h, faultsR, List.take_add_one, List.getElem?_eq_getElem h]
  rfl

theorem room {out rest tot : List (Int × Int × Int)} {x : Int × Int × Int} (h : out ++ (x :: rest) = tot) (hb : tot.length * 24 ≤ 140737488355328) : (out.length + 1) * 24 ≤ 140737488355328 := by
  have := congrArg List.length h
  simp at this
  omega

theorem oneF_take {c : List Pk} {n : ByteArray} {s : List Int} {j : Nat} (hp : ∀ k ∈ s, 0 ≤ k) (hj : j < s.length) (h : ¬ 0 ≤ oneF c n (s.take j)) : (0 ≤ oneF c n (s.take (j + 1)) ↔ (pkAt c s[j]).n = n) := by
  rw [List.take_add_one, List.getElem?_eq_getElem hj, Option.toList_some, oneF_app _ _ _ _ (fun k hk => hp k (List.mem_of_mem_take hk)), if_neg h]
  have := hp _ (List.getElem_mem hj)
  simp only [oneF]
  split
  · rename_i e; exact ⟨fun _ => e, fun _ => this⟩
  · rename_i e; exact ⟨fun h => by simp at h, fun h => (e h).elim⟩
theorem oneF_take_mono {c : List Pk} {n : ByteArray} {s : List Int} {j : Nat} (hp : ∀ k ∈ s, 0 ≤ k) (h : 0 ≤ oneF c n (s.take j)) {i : Nat} (hij : j ≤ i) : 0 ≤ oneF c n (s.take i) := by
  have e : s.take i = s.take j ++ (s.take i).drop j := by
    have := List.take_append_drop j (s.take i)
    rw [List.take_take, Nat.min_eq_left hij] at this
    exact this.symm
  rw [e, oneF_app _ _ _ _ (fun k hk => hp k (List.mem_of_mem_take hk)), if_pos h]
  exact h

end Go.Proofs.Ytokhnmchnfkiiaa.Am

/- The faults of a set, as the program finds them. No conditions. -/
namespace Go.Proofs.Ytokhnmchnfkiiaa.Am
open Go Go.RowKit Go.Proofs
set_option linter.unusedSimpArgs false
set_option linter.unusedVariables false

theorem getA {α : Type} {l : List α} {k : Nat} {x : α} (h : l[k]? = some x) (z : List α) : (l ++ z)[k]? = some x := by
  rw [List.getElem?_append_left (List.getElem?_eq_some_iff.1 h).1]
  exact h
@[reducible] def StabL (B : List (List AV)) : Prop := ∀ b ∈ B, ∀ c ∈ b, StabC c
theorem stabL_app {B : List (List AV)} (h : StabL B) {r : List AV} (hr : ∀ c ∈ r, StabC c) : StabL (B ++ [r]) := by
  intro b hb
  rcases List.mem_append.1 hb with hb | hb
  · exact h b hb
  · simp only [List.mem_singleton] at hb
    subst hb
    exact hr
theorem stabL_cons {B : List (List AV)} (h : StabL B) {r : List AV} (hr : ∀ c ∈ r, StabC c) : StabL (r :: B) := by
  intro b hb
  rcases List.mem_cons.1 hb with rfl | hb
  · exact hr
  · exact h b hb
theorem stab_pk (d : Bool) (p : Pk) : ∀ c ∈ p.cells d, StabC c := by
  intro c hc
  simp at hc
  rcases hc with rfl | rfl | rfl | rfl | rfl | rfl | rfl | rfl <;> exact fun _ => rfl
theorem stab_trm (t : Trm) : ∀ c ∈ t.cells, StabC c := by
  intro c hc
  simp at hc
  rcases hc with rfl | rfl | rfl | rfl | rfl | rfl | rfl <;> exact fun _ => rfl
theorem stab_one {x : AV} (h : StabC x) : ∀ c ∈ [x], StabC c := by
  intro c hc
  simp only [List.mem_singleton] at hc
  subst hc
  exact h

end Go.Proofs.Ytokhnmchnfkiiaa.Am

/- Consistent sets; terms that hold. No conditions. -/
namespace Go.Proofs.Ytokhnmchnfkiiaa.Am
open Go Go.RowKit Go.Proofs
set_option linter.unusedSimpArgs false
set_option linter.unusedVariables false

theorem needs_len (c : List Pk) (s : List Int) (k : Int) : ∀ (l : List (List Trm)) (j : Nat), (needsR c s k l j).length ≤ l.length
  | [], _ => by simp [needsR]
  | q :: r, j => by
    have := needs_len c s k r (j + 1)
    unfold needsR
    split <;> simp <;> omega
theorem bars_len (c : List Pk) (s : List Int) (k : Int) : ∀ (l : List Trm) (j : Nat), (barsR c s k l j).length ≤ l.length
  | [], _ => by simp [barsR]
  | q :: r, j => by
    have := bars_len c s k r (j + 1)
    unfold barsR
    split <;> simp <;> omega
theorem faults_len {c : List Pk} (hb : CatOk c) (s : List Int) : ∀ (r seen : List Int), (∀ k ∈ r, 0 ≤ k ∧ k.toNat < c.length) → (faultsR c s seen r).length ≤ 9 * r.length
  | [], _, _ => by simp [faultsR]
  | k :: r, seen, h => by
    have h1 := faults_len hb s r (seen ++ [k]) fun x hx => h x (List.mem_cons_of_mem _ hx)
    have h2 := hb _ (pkAt_mem (h k (List.mem_cons_self ..)).2)
    have h3 := needs_len c s k (pkAt c k).ne 0
    have h4 := bars_len c s k (pkAt c k).ba 0
    have h5 := h2.2.1
    have h6 := h2.2.2.1
    unfold faultsR
    split <;> simp <;> omega
theorem SetOK.len {n : Nat} {s : List Int} (h : SetOK n s) : s.length ≤ n := by
  have up : ∀ i, (hi : i < s.length) → (i : Int) ≤ s[i] := by
    intro i
    induction i with
    | zero =>
      intro hi
      have := (h 0 hi).1
      rw [getD_at hi] at this
      simp [inF] at this
      omega
    | succ i ih =>
      intro hi
      have h1 := ih (by omega)
      have h2 : s[i] < s[i + 1] := h.lt (Nat.lt_succ_self i) hi
      omega
  by_cases e : s.length = 0
  · omega
  · have h1 := up (s.length - 1) (by omega)
    have h2 := (h (s.length - 1) (by omega)).1
    rw [getD_at (by omega)] at h2
    simp [inF] at h2
    omega
theorem setF_facts {c : List Pk} {s : List Int} (h : setF c s = 0) : CatOk c ∧ Places c.length s ∧ s.length ≤ 4611686018427387904 ∧ (faultsR c s [] s).length * 24 ≤ 140737488355328 := by
  obtain ⟨h1, h2⟩ := setF_ok h
  obtain ⟨h3, h4⟩ := catF_ok h1
  have h5 : CatOk c := fun p hp => packF_ok (h4 p hp)
  have h6 := h2.len
  have h7 := faults_len h5 s s [] h2.places
  exact ⟨h5, h2.places, by omega, by omega⟩

/-- The set has no fault of its own. -/
def goodB (c : List Pk) (s : List Int) : Bool := decide (faultsR c s [] s = [])
noncomputable def consF (c : List Pk) (s : List Int) : Bool := decide (setF c s = 0) && goodB c s

/-- All the terms hold in the set. -/
def holdsB (c : List Pk) (s : List Int) (l : List Trm) : Bool := l.all fun t => decide (trmF t = 0) && givenF c s t (-1)

theorem given_any {c : List Pk} {s : List Int} (hp : ∀ k ∈ s, 0 ≤ k) (t : Trm) : (s.any fun x => givesF (pkAt c x) t) = givenF c s t (-1) := by
  rw [Bool.eq_iff_iff]
  simp only [givenF, List.any_eq_true, Bool.and_eq_true, decide_eq_true_eq]
  constructor
  · rintro ⟨k, hk, h⟩
    exact ⟨k, hk, by have := hp k hk; omega, h⟩
  · rintro ⟨k, hk, _, h⟩
    exact ⟨k, hk, h⟩

end Go.Proofs.Ytokhnmchnfkiiaa.Am

/- What is handed in from outside, as data, with the lengths of its texts; how many cells it has. No conditions. -/
namespace Go.Proofs.Ytokhnmchnfkiiaa.Am
open Go Go.RowKit Go.Proofs
set_option linter.unusedSimpArgs false
set_option linter.unusedVariables false
set_option maxRecDepth 100000

@[reducible] def StrS (l : List ByteArray) : Prop := ∀ s ∈ l, s.size ≤ 140737488355328
@[reducible] def StrT (l : List Trm) : Prop := ∀ t ∈ l, t.n.size ≤ 140737488355328
@[reducible] def StrTT (l : List (List Trm)) : Prop := ∀ c ∈ l, StrT c
structure Pk.Str (p : Pk) : Prop where
  n : p.n.size ≤ 140737488355328
  pr : StrS p.pr
  ne : StrTT p.ne
  ba : StrT p.ba
@[reducible] def StrP (l : List Pk) : Prop := ∀ p ∈ l, p.Str

theorem ty_trm2 {n : Nat} {cs : List AV} (h : Typed Try.prog (n + 3) 103 cs) : ∃ t : Trm, cs = t.cells ∧ t.n.size ≤ 140737488355328 := by
  rw [Typed] at h
  simp only [Try.underlying103, TypedFs] at h
  obtain ⟨_, _, rfl, _, hs, _, _, rfl, _, h1, _, _, rfl, _, h2, rfl⟩ := h
  obtain ⟨v, rfl⟩ := ty_ver h1
  obtain ⟨w, rfl⟩ := ty_ver h2
  simp [Typed, Try.underlying9] at hs
  obtain ⟨x, rfl, hx⟩ := hs
  exact ⟨⟨x, v, w⟩, rfl, Nat.le_trans hx reach_le⟩

theorem ty_str2 {n : Nat} {a : AV} (h : Typed Try.prog (n + 1) 9 [a]) : ∃ x, a = .v (.string x) ∧ x.size ≤ 140737488355328 := by
  simp [Typed, Try.underlying9] at h
  obtain ⟨x, rfl, hx⟩ := h
  exact ⟨x, rfl, Nat.le_trans hx reach_le⟩

theorem ty_strs2 {n : Nat} {cs : List AV} (h : Typed Try.prog (n + 2) 34 cs) : ∃ l, cs = [strsAV true l] ∧ BigS l ∧ StrS l := by
  rw [Typed] at h
  simp only [Try.underlying34] at h
  obtain ⟨es, rfl, hb, hc⟩ := h
  obtain ⟨l, rfl, hl⟩ := rows_of strCells (fun s => s.size ≤ 140737488355328) (es := es) fun c hcm => by
    have := hc c hcm
    simp [Typed, Try.underlying9] at this
    obtain ⟨x, rfl, hx⟩ := this
    exact ⟨x, rfl, Nat.le_trans hx reach_le⟩
  refine ⟨l, rfl, ?_, hl⟩
  have hb' : l.length * 16 ≤ reachBytes := by simpa [show Try.prog.bytesOf 9 = 16 by kernel_rfl] using hb
  exact Nat.le_trans hb' reach_le

theorem ty_trms2 {n : Nat} {cs : List AV} (h : Typed Try.prog (n + 4) 47 cs) : ∃ l, cs = [trmsAV true l] ∧ BigT l ∧ StrT l := by
  rw [Typed] at h
  simp only [Try.underlying47] at h
  obtain ⟨es, rfl, hb, hc⟩ := h
  obtain ⟨l, rfl, hl⟩ := rows_of Trm.cells (fun t => t.n.size ≤ 140737488355328) (es := es) fun c hcm => by
    obtain ⟨t, rfl, ht⟩ := ty_trm2 (hc c hcm)
    exact ⟨t, rfl, ht⟩
  refine ⟨l, rfl, ?_, hl⟩
  have hb' : l.length * 64 ≤ reachBytes := by simpa [show Try.prog.bytesOf 103 = 64 by kernel_rfl] using hb
  exact Nat.le_trans hb' reach_le

theorem ty_cls2 {n : Nat} {cs : List AV} (h : Typed Try.prog (n + 5) 46 cs) : ∃ l, cs = [clausesAV true l] ∧ BigTT l ∧ StrTT l := by
  rw [Typed] at h
  simp only [Try.underlying46] at h
  obtain ⟨es, rfl, hb, hc⟩ := h
  obtain ⟨l, rfl, hl⟩ := rows_of (clauseCells true) (fun c => BigT c ∧ StrT c) (es := es) fun c hcm => by
    obtain ⟨t, rfl, ht⟩ := ty_trms2 (hc c hcm)
    exact ⟨t, rfl, ht⟩
  refine ⟨l, rfl, ⟨?_, fun c hc => (hl c hc).1⟩, fun c hc => (hl c hc).2⟩
  have hb' : l.length * 24 ≤ reachBytes := by simpa [show Try.prog.bytesOf 47 = 24 by kernel_rfl] using hb
  exact Nat.le_trans hb' reach_le

theorem ty_pk2 {n : Nat} {cs : List AV} (h : Typed Try.prog (n + 6) 49 cs) : ∃ p : Pk, cs = p.cells true ∧ p.Big ∧ p.Str := by
  rw [Typed] at h
  simp only [Try.underlying49, TypedFs] at h
  obtain ⟨_, _, rfl, _, hs, _, _, rfl, _, h1, _, _, rfl, _, h2, _, _, rfl, _, h3, _, _, rfl, _, h4, _, _, rfl, _, h5, rfl⟩ := h
  obtain ⟨v, rfl⟩ := ty_ver h1
  obtain ⟨pr, rfl, b1, s1⟩ := ty_strs2 h3
  obtain ⟨ne, rfl, b2, s2⟩ := ty_cls2 h4
  obtain ⟨ba, rfl, b3, s3⟩ := ty_trms2 h5
  simp [Typed, Try.underlying9] at hs
  obtain ⟨x, rfl, hx⟩ := hs
  simp [Typed, Try.underlying2] at h2
  obtain ⟨s, rfl, _⟩ := h2
  exact ⟨⟨x, v, s, pr, ne, ba⟩, rfl, ⟨b1, b2, b3⟩, ⟨Nat.le_trans hx reach_le, s1, s2, s3⟩⟩

theorem ty_pks2 {n : Nat} {cs : List AV} (h : Typed Try.prog (n + 7) 57 cs) : ∃ l, cs = [pksAV true true l] ∧ BigP l ∧ StrP l := by
  rw [Typed] at h
  simp only [Try.underlying57] at h
  obtain ⟨es, rfl, hb, hc⟩ := h
  obtain ⟨l, rfl, hl⟩ := rows_of (Pk.cells true) (fun p => p.Big ∧ p.Str) (es := es) fun c hcm => by
    obtain ⟨t, rfl, ht⟩ := ty_pk2 (hc c hcm)
    exact ⟨t, rfl, ht⟩
  refine ⟨l, rfl, ⟨?_, fun p hp => (hl p hp).1⟩, fun p hp => (hl p hp).2⟩
  have hb' : l.length * 120 ≤ reachBytes := by simpa [show Try.prog.bytesOf 49 = 120 by kernel_rfl] using hb
  exact Nat.le_trans hb' reach_le

/-! ### How many cells are marked -/

def mkT (l : List Trm) : Nat := 7 * l.length
def mkC : List (List Trm) → Nat
  | [] => 0
  | c :: l => mkT c + mkC l
def mkP (p : Pk) : Nat := p.pr.length + mkC p.ne + mkT p.ba
def mkPs : List Pk → Nat
  | [] => 0
  | p :: l => 5 + mkP p + mkPs l

theorem wrap_sub {n : Int} {k : Nat} (h0 : 0 ≤ n) (h1 : n ≤ 1048576) (hk : k ≤ 140737488355328) : IntKind.i64.wrap (n - k) = n - k := IntWalk.i64_in _ (by omega)

theorem szr_strs_le : ∀ (l : List ByteArray), StrS l → ∀ n : Int, 0 ≤ n → n ≤ 1048576 → 0 ≤ szr_strs l n → szr_strs l n ≤ n
  | [], _, n, _, _, _ => Int.le_refl _
  | a :: l, hs, n, h0, h1, h => by
    have hw := wrap_sub h0 h1 (hs a (by simp))
    rw [szr_strs, hw] at h ⊢
    split at h
    · omega
    · rename_i h2
      rw [if_neg h2]
      have := szr_strs_le l (fun s hm => hs s (by simp [hm])) (n - a.size) (by omega) (by omega) h
      omega
theorem sz_strs_le {l : List ByteArray} (hb : BigS l) (hs : StrS l) {n : Int} (h0 : 0 ≤ n) (h1 : n ≤ 1048576) (h : ¬ sz_strs l n < 0) : sz_strs l n + l.length ≤ n ∧ 0 ≤ sz_strs l n := by
  have hw := wrap_sub (k := l.length) h0 h1 (by unfold BigS at hb; omega)
  unfold sz_strs at h ⊢
  rw [hw] at h ⊢
  split at h
  · omega
  · rename_i h2
    rw [if_neg h2]
    have := szr_strs_le l hs (n - l.length) (by omega) (by omega) (by omega)
    omega

theorem szr_trms_le : ∀ (l : List Trm), StrT l → ∀ n : Int, 0 ≤ n → n ≤ 1048576 → 0 ≤ szr_trms l n → szr_trms l n ≤ n
  | [], _, n, _, _, _ => Int.le_refl _
  | a :: l, hs, n, h0, h1, h => by
    have hw := wrap_sub h0 h1 (hs a (by simp))
    have e : szT a n = if n - a.n.size < 0 then -1 else n - a.n.size := by rw [szT, szTermF, hw]
    have e2 : szr_trms (a :: l) n = if n - a.n.size < 0 then -1 else szr_trms l (n - a.n.size) := by
      rw [szr_trms, e]
      by_cases q : n - (a.n.size : Int) < 0 <;> simp [q]
    rw [e2] at h ⊢
    split at h
    · omega
    · rename_i h2
      rw [if_neg h2]
      have := szr_trms_le l (fun s hm => hs s (by simp [hm])) (n - a.n.size) (by omega) (by omega) h
      omega
theorem sz_trms_le {l : List Trm} (hb : BigT l) (hs : StrT l) {n : Int} (h0 : 0 ≤ n) (h1 : n ≤ 1048576) (h : ¬ sz_trms l n < 0) : sz_trms l n + l.length ≤ n ∧ 0 ≤ sz_trms l n := by
  have hw := wrap_sub (k := l.length) h0 h1 (by unfold BigT at hb; omega)
  unfold sz_trms at h ⊢
  rw [hw] at h ⊢
  split at h
  · omega
  · rename_i h2
    rw [if_neg h2]
    have := szr_trms_le l hs (n - l.length) (by omega) (by omega) (by omega)
    omega

theorem szr_cls_le : ∀ (l : List (List Trm)), (∀ c ∈ l, BigT c) → StrTT l → ∀ n : Int, 0 ≤ n → n ≤ 1048576 → 0 ≤ szr_cls l n → 7 * szr_cls l n + mkC l ≤ 7 * n
  | [], _, _, n, _, _, _ => by simp [szr_cls, mkC]
  | a :: l, hb, hs, n, h0, h1, h => by
    rw [szr_cls] at h ⊢
    split at h
    · omega
    · rename_i h2
      rw [if_neg h2]
      obtain ⟨q1, q2⟩ := sz_trms_le (hb a (by simp)) (hs a (by simp)) h0 h1 h2
      have := szr_cls_le l (fun s hm => hb s (by simp [hm])) (fun s hm => hs s (by simp [hm])) _ q2 (by omega) h
      simp only [mkC, mkT]
      omega
theorem sz_cls_le {l : List (List Trm)} (hb : BigTT l) (hs : StrTT l) {n : Int} (h0 : 0 ≤ n) (h1 : n ≤ 1048576) (h : ¬ sz_cls l n < 0) : 7 * sz_cls l n + mkC l ≤ 7 * n ∧ 0 ≤ sz_cls l n := by
  have hw := wrap_sub (k := l.length) h0 h1 (by have := hb.1; omega)
  unfold sz_cls at h ⊢
  rw [hw] at h ⊢
  split at h
  · omega
  · rename_i h2
    rw [if_neg h2]
    have := szr_cls_le l hb.2 hs (n - l.length) (by omega) (by omega) (by omega)
    omega

theorem szPk_le {p : Pk} (hb : p.Big) (hs : p.Str) {n : Int} (h0 : 0 ≤ n) (h1 : n ≤ 1048576) (h : ¬ szPk p n < 0) : 7 * szPk p n + mkP p ≤ 7 * n ∧ 0 ≤ szPk p n := by
  obtain ⟨b1, b2, b3⟩ := hb
  have hw := wrap_sub h0 h1 hs.n
  unfold szPk at h ⊢
  rw [hw] at h ⊢
  split at h
  · omega
  rename_i k1
  rw [if_neg k1]
  split at h
  · omega
  rename_i k2
  rw [if_neg k2]
  obtain ⟨q1, q2⟩ := sz_strs_le b1 hs.pr (by omega) (by omega) k2
  split at h
  · omega
  rename_i k3
  rw [if_neg k3]
  obtain ⟨q3, q4⟩ := sz_cls_le b2 hs.ne q2 (by omega) k3
  split at h
  · omega
  rename_i k4
  rw [if_neg k4]
  obtain ⟨q5, q6⟩ := sz_trms_le b3 hs.ba q4 (by omega) k4
  unfold mkP mkT
  omega

theorem szr_pks_le : ∀ (l : List Pk), (∀ c ∈ l, c.Big) → StrP l → ∀ n : Int, 0 ≤ n → n ≤ 1048576 → 0 ≤ szr_pks l n → 7 * szr_pks l n + mkPs l ≤ 7 * n + 5 * l.length
  | [], _, _, n, _, _, _ => by simp [szr_pks, mkPs]
  | a :: l, hb, hs, n, h0, h1, h => by
    rw [szr_pks] at h ⊢
    split at h
    · omega
    · rename_i h2
      rw [if_neg h2]
      obtain ⟨q1, q2⟩ := szPk_le (hb a (by simp)) (hs a (by simp)) h0 h1 h2
      have := szr_pks_le l (fun s hm => hb s (by simp [hm])) (fun s hm => hs s (by simp [hm])) _ q2 (by omega) h
      simp only [mkPs, List.length_cons]
      omega
theorem sz_pks_le {l : List Pk} (hb : BigP l) (hs : StrP l) {n : Int} (h0 : 0 ≤ n) (h1 : n ≤ 1048576) (h : ¬ sz_pks l n < 0) : 7 * sz_pks l n + mkPs l ≤ 7 * n ∧ 0 ≤ sz_pks l n := by
  have hw := wrap_sub (k := l.length) h0 h1 (by have := hb.1; omega)
  unfold sz_pks at h ⊢
  rw [hw] at h ⊢
  split at h
  · omega
  · rename_i h2
    rw [if_neg h2]
    have := szr_pks_le l hb.2 hs (n - l.length) (by omega) (by omega) (by omega)
    omega

end Go.Proofs.Ytokhnmchnfkiiaa.Am
