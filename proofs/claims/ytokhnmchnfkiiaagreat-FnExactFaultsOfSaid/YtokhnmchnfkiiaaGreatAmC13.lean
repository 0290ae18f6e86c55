/- The faults of a set, as the reference finds them. No conditions. -/
import Derived.Test.YtokhnmchnfkiiaaGreatAmC12
namespace Go.Proofs.YtokhnmchnfkiiaaGreat.Am
open Go Go.RowKit Go.Proofs
set_option linter.unusedSimpArgs false
set_option linter.unusedVariables false

@[simp, reducible] def fltCells (f : Int × Int × Int) : List AV := [.v (.int .i64 f.1), .v (.int .i64 f.2.1), .v (.int .i64 f.2.2)]
@[simp] theorem len_flt (l : List (Int × Int × Int)) : (l.map fltCells).all (fun e => e.length == 3) = true := all_map_eq l fun _ => rfl
@[simp] theorem one_flt (l : List (Int × Int × Int)) : (l.map fltCells).all (fun e => e.all AV.one) = true := all_map_eq l fun _ => rfl
theorem fr_flt {p : Bool → Prop} (l : List (Int × Int × Int)) : ∀ e ∈ l.map fltCells, ∀ c ∈ e, c.Free p := rows_free l fun a c hc => by simp at hc; rcases hc with rfl | rfl | rfl <;> exact .v _
@[simp high] theorem free_flts {p : Bool → Prop} (k : Bool) (l : List (Int × Int × Int)) : (AV.sl k (l.map fltCells)).Free p = p k := propext ⟨fun h => by cases h with | sl _ _ h => exact h, fun h => .sl _ _ h (fr_flt l)⟩
@[simp, reducible] def fltsAV (k : Bool) (l : List (Int × Int × Int)) : AV := .sl k (l.map fltCells)


def needsR (c : List Pk) (s : List Int) (k : Int) : List (List Trm) → Nat → List (Int × Int × Int)
  | [], _ => []
  | l :: r, j => (if metF c s l = true then [] else [(2, k, (j : Int))]) ++ needsR c s k r (j + 1)
def barsR (c : List Pk) (s : List Int) (k : Int) : List Trm → Nat → List (Int × Int × Int)
  | [], _ => []
  | t :: r, j => (if givenF c s t k = true then [(3, k, (j : Int))] else []) ++ barsR c s k r (j + 1)
def faultsR (c : List Pk) (s : List Int) : List Int → List Int → List (Int × Int × Int)
  | _, [] => []
  | seen, k :: r => (if 0 ≤ oneF c (pkAt c k).n seen then [(1, k, 0)] else []) ++ (needsR c s k (pkAt c k).ne 0 ++ (barsR c s k (pkAt c k).ba 0 ++ faultsR c s (seen ++ [k]) r))
theorem faultsR_app {c : List Pk} {s : List Int} {i : Nat} (h : i < s.length) : faultsR c s (s.take i) (s.drop i) = (if 0 ≤ oneF c (pkAt c s[i]).n (s.take i) then [(1, s[i], 0)] else []) ++ (needsR c s s[i] (pkAt c s[i]).ne 0 ++ (barsR c s s[i] (pkAt c s[i]).ba 0 ++ faultsR c s (s.take (i + 1)) (s.drop (i + 1)))) := by
  rw [drop_get h, faultsR, List.take_add_one, List.getElem?_eq_getElem h]
  rfl

def arrF (p : Nat) (ver : Nat → Nat) (v : Nat) (out : List (Int × Int × Int)) : Nat → ArrSt := fun j => if j = p then ⟨v, true, 159, out.map fltCells⟩ else ⟨ver j, false, 0, []⟩

theorem room {out rest tot : List (Int × Int × Int)} {x : Int × Int × Int} (h : out ++ (x :: rest) = tot) (hb : tot.length * 24 ≤ 140737488355328) : (out.length + 1) * 24 ≤ 140737488355328 := by
  have := congrArg List.length h
  simp at this
  omega

theorem oneF_take {c : List Pk} {n : ByteArray} {s : List Int} {j : Nat} (hp : ∀ k ∈ s, 0 ≤ k) (hj : j < s.length) (h : ¬ 0 ≤ oneF c n (s.take j)) : (0 ≤ oneF c n (s.take (j + 1)) ↔ (pkAt c s[j]).n = n) := by
  rw [List.take_add_one, List.getElem?_eq_getElem hj, Option.toList_some, oneF_app _ _ _ _ (fun k hk => hp k (List.mem_of_mem_take hk)), if_neg h]
  have := hp _ (List.getElem_mem hj)
  simp only [oneF]
  split
  · rename_i e; exact ⟨fun _ => e, fun _ => this⟩
  · rename_i e; exact ⟨fun h => by simp at h, fun h => (e h).elim⟩
theorem oneF_take_mono {c : List Pk} {n : ByteArray} {s : List Int} {j : Nat} (hp : ∀ k ∈ s, 0 ≤ k) (h : 0 ≤ oneF c n (s.take j)) {i : Nat} (hij : j ≤ i) : 0 ≤ oneF c n (s.take i) := by
  have e : s.take i = s.take j ++ (s.take i).drop j := by
    have := List.take_append_drop j (s.take i)
    rw [List.take_take, Nat.min_eq_left hij] at this
    exact this.symm
  rw [e, oneF_app _ _ _ _ (fun k hk => hp k (List.mem_of_mem_take hk)), if_pos h]
  exact h

set_option maxHeartbeats 4000000 in
set_option maxRecDepth 10000 in
theorem p_faults (a b k : Bool) (c : List Pk) (hb : CatOk c) (s : List Int) (hs : s.length ≤ 4611686018427387904) (hp : Places c.length s) (hbig : (faultsR c s [] s).length * 24 ≤ 140737488355328) : Pure Tryz.prog 84 [pksAV a b c, intsAV k s] (fltsAV false (faultsR c s [] s)) := by
  have hp0 : ∀ x ∈ s, 0 ≤ x := fun x hx => (hp x hx).1
  refine pure_of_code (G := (Go1 11)) (verso 11) mixed0 Tryz.func84 rfl (by decide) (by simp [Tryz.f84]) (by simp) fun ver => ?_
  simp only [Tryz.f84, Go1]
  simp [Mem.made, noArrs, sealRows]
  refine aloop (α := Nat × Nat × List (Int × Int × Int) × List (List AV)) (fun d => ⟨envOf [(0, pksAV a b c), (1, intsAV k s), (5, .arr 11 d.2.1 0 d.2.2.1.length), (6, .v (.int .i64 d.1))], ⟨d.2.2.2, arrF 11 ver d.2.1 d.2.2.1⟩⟩)
    (fun d => d.1 ≤ s.length ∧ d.2.2.1 ++ faultsR c s (s.take d.1) (s.drop d.1) = faultsR c s [] s) (fun d => s.length - d.1) (0, ver 11 + 1, [], []) (less_envOf (by simp) rfl (by intro j; simp [arrF])) (by simp) ?_
  rintro ⟨i, v, out, bs⟩ ⟨hk, hm⟩
  simp only at hk hm ⊢
  by_cases hlt : i < s.length
  · have hw := wrapS hlt hs
    rw [faultsR_app hlt] at hm
    obtain ⟨q1, q2⟩ := hp _ (List.getElem_mem hlt)
    have hg := pkAt_get q2
    have hok := hb _ (pkAt_mem q2)
    simp [hlt, q1, hg]
    refine aloop (α := Nat) (fun j => ⟨envOf [(0, pksAV a b c), (1, intsAV k s), (5, .arr 11 v 0 out.length), (6, .v (.int .i64 i)), (7, .box bs.length 0), (8, .v (.int .i64 j))], ⟨bs ++ [(pkAt c s[i]).cells b], arrF 11 ver v out⟩⟩)
      (fun j => j ≤ i ∧ ¬ 0 ≤ oneF c (pkAt c s[i]).n (s.take j)) (fun j => i - j) 0 (less_envOf (by simp) rfl fun _ => rfl) (by simp [oneF]) ?_
    rintro j ⟨hj, hno⟩
    by_cases hji : j < i
    · have hj2 : j < s.length := by omega
      have hwj := wrapS hj2 hs
      obtain ⟨r1, r2⟩ := hp _ (List.getElem_mem hj2)
      have hgj := pkAt_get r2
      have hit := oneF_take hp0 hj2 hno
      simp [hji]
      refine adraw_all (by kernel_rfl) ?_
      by_cases hn : (pkAt c s[j]).n = (pkAt c s[i]).n
      · have hon : 0 ≤ oneF c (pkAt c s[i]).n (s.take i) := oneF_take_mono hp0 (hit.2 hn) (by omega)
        rw [if_pos hon] at hm
        have hro := room (by simpa using hm) hbig
        simp [hj2, r1, hgj, hn, hlt, aappend, arrF, sealRows, sealCells, List.range_succ, hro]
        obtain ⟨v1, hv1⟩ : ∃ v1, v1 = v + 1 := ⟨_, rfl⟩
        obtain ⟨out1, hout1⟩ : ∃ out1, out1 = out ++ [((1 : Int), s[i], (0 : Int))] := ⟨_, rfl⟩
        have hm1 : out1 ++ (needsR c s s[i] (pkAt c s[i]).ne 0 ++ (barsR c s s[i] (pkAt c s[i]).ba 0 ++ faultsR c s (s.take (i + 1)) (s.drop (i + 1)))) = faultsR c s [] s := by rw [hout1, ← hm]; simp
        refine aloop (α := Nat × Nat × List (Int × Int × Int)) (fun d => ⟨envOf [(0, pksAV a b c), (1, intsAV k s), (5, .arr 11 d.2.1 0 d.2.2.length), (6, .v (.int .i64 i)), (7, .box bs.length 0), (9, .v (.int .i64 d.1))], ⟨bs ++ [(pkAt c s[i]).cells b], arrF 11 ver d.2.1 d.2.2⟩⟩)
          (fun d => d.1 ≤ (pkAt c s[i]).ne.length ∧ d.2.2 ++ (needsR c s s[i] ((pkAt c s[i]).ne.drop d.1) d.1 ++ (barsR c s s[i] (pkAt c s[i]).ba 0 ++ faultsR c s (s.take (i + 1)) (s.drop (i + 1)))) = faultsR c s [] s) (fun d => (pkAt c s[i]).ne.length - d.1) (0, v1, out1) (less_envOf (by simp [hv1, hout1]) rfl (by intro q; by_cases hq : q = 11 <;> simp [hq, arrF, hv1, hout1])) ⟨Nat.zero_le _, by simpa using hm1⟩ ?_
        rintro ⟨j2, v2, out2⟩ ⟨hj2, hm2⟩
        simp only at hj2 hm2 ⊢
        by_cases hl2 : j2 < (pkAt c s[i]).ne.length
        · have hw2 := wrapS hl2 (by have := hok.2.1; omega)
          rw [drop_get hl2, needsR] at hm2
          simp [hl2]
          refine call_p (p_met a b k b c hb s hs hp (pkAt c s[i]).ne[j2] (by have := hok.2.2.2 _ (List.getElem_mem hl2); omega)) (by simp) ?_
          cases hmet : metF c s (pkAt c s[i]).ne[j2] with
          | true =>
            simp
            exact ⟨j2 + 1, v2, out2, less_envOf (by simp [hw2]) rfl (by intro q; by_cases hq : q = 11 <;> simp [hq, arrF, hw2]), ⟨by omega, by simpa [hmet] using hm2⟩, by omega⟩
          | false =>
            have hro : (out2.length + 1) * 24 ≤ 140737488355328 := room (x := (2, s[i], (j2 : Int))) (by simpa [hmet] using hm2) hbig
            simp [hlt, aappend, arrF, sealRows, sealCells, List.range_succ, hro]
            exact ⟨j2 + 1, v2 + 1, out2 ++ [(2, s[i], (j2 : Int))], less_envOf (by simp [hw2]) rfl (by intro q; by_cases hq : q = 11 <;> simp [hq, arrF, hw2]), ⟨by omega, by simpa [hmet] using hm2⟩, by omega⟩
        · rw [List.drop_eq_nil_of_le (by omega), needsR, List.nil_append] at hm2
          simp [hl2]
          refine aloop (α := Nat × Nat × List (Int × Int × Int)) (fun d => ⟨envOf [(0, pksAV a b c), (1, intsAV k s), (5, .arr 11 d.2.1 0 d.2.2.length), (6, .v (.int .i64 i)), (7, .box bs.length 0), (10, .v (.int .i64 d.1))], ⟨bs ++ [(pkAt c s[i]).cells b], arrF 11 ver d.2.1 d.2.2⟩⟩)
            (fun d => d.1 ≤ (pkAt c s[i]).ba.length ∧ d.2.2 ++ (barsR c s s[i] ((pkAt c s[i]).ba.drop d.1) d.1 ++ faultsR c s (s.take (i + 1)) (s.drop (i + 1))) = faultsR c s [] s) (fun d => (pkAt c s[i]).ba.length - d.1) (0, v2, out2) (less_envOf (by simp) rfl fun _ => rfl) ⟨Nat.zero_le _, by simpa using hm2⟩ ?_
          rintro ⟨j3, v3, out3⟩ ⟨hj3, hm3⟩
          simp only at hj3 hm3 ⊢
          by_cases hl3 : j3 < (pkAt c s[i]).ba.length
          · have hw3 := wrapS hl3 (by have := hok.2.2.1; omega)
            rw [drop_get hl3, barsR] at hm3
            simp [hl3]
            refine adraw_all (by kernel_rfl) ?_
            simp [hl3, hlt]
            refine call_p (p_given a b k c hb s hs hp (pkAt c s[i]).ba[j3] s[i]) (by simp) ?_
            cases hmet : givenF c s (pkAt c s[i]).ba[j3] s[i] with
            | false =>
              simp
              exact ⟨j3 + 1, v3, out3, less_envOf (by simp [hw3]) rfl (by intro q; by_cases hq : q = 11 <;> simp [hq, arrF, hw3]), ⟨by omega, by simpa [hmet] using hm3⟩, by omega⟩
            | true =>
              have hro : (out3.length + 1) * 24 ≤ 140737488355328 := room (x := (3, s[i], (j3 : Int))) (by simpa [hmet] using hm3) hbig
              simp [hlt, aappend, arrF, sealRows, sealCells, List.range_succ, hro]
              exact ⟨j3 + 1, v3 + 1, out3 ++ [(3, s[i], (j3 : Int))], less_envOf (by simp [hw3]) rfl (by intro q; by_cases hq : q = 11 <;> simp [hq, arrF, hw3]), ⟨by omega, by simpa [hmet] using hm3⟩, by omega⟩
          · rw [List.drop_eq_nil_of_le (by omega), barsR, List.nil_append] at hm3
            simp [hl3]
            exact ⟨i + 1, v3, out3, ⟨_, less_envOf (by simp [hw]) rfl fun _ => rfl⟩, ⟨by omega, hm3⟩, by omega⟩
      · simp [hj2, r1, hgj, hn]
        exact ⟨j + 1, less_envOf (by simp [hwj]) rfl fun _ => rfl, ⟨by omega, by have := mt hit.1 hn; omega⟩, by omega⟩
    · have e : j = i := by omega
      subst e
      rw [if_neg hno, List.nil_append] at hm
      simp
      obtain ⟨v1, hv1⟩ : ∃ v1, v1 = v := ⟨_, rfl⟩
      obtain ⟨out1, hout1⟩ : ∃ out1, out1 = out := ⟨_, rfl⟩
      have hm1 : out1 ++ (needsR c s s[j] (pkAt c s[j]).ne 0 ++ (barsR c s s[j] (pkAt c s[j]).ba 0 ++ faultsR c s (s.take (j + 1)) (s.drop (j + 1)))) = faultsR c s [] s := by rw [hout1]; exact hm
      refine aloop (α := Nat × Nat × List (Int × Int × Int)) (fun d => ⟨envOf [(0, pksAV a b c), (1, intsAV k s), (5, .arr 11 d.2.1 0 d.2.2.length), (6, .v (.int .i64 j)), (7, .box bs.length 0), (9, .v (.int .i64 d.1))], ⟨bs ++ [(pkAt c s[j]).cells b], arrF 11 ver d.2.1 d.2.2⟩⟩)
        (fun d => d.1 ≤ (pkAt c s[j]).ne.length ∧ d.2.2 ++ (needsR c s s[j] ((pkAt c s[j]).ne.drop d.1) d.1 ++ (barsR c s s[j] (pkAt c s[j]).ba 0 ++ faultsR c s (s.take (j + 1)) (s.drop (j + 1)))) = faultsR c s [] s) (fun d => (pkAt c s[j]).ne.length - d.1) (0, v1, out1) (less_envOf (by simp [hv1, hout1]) rfl (by intro q; by_cases hq : q = 11 <;> simp [hq, arrF, hv1, hout1])) ⟨Nat.zero_le _, by simpa using hm1⟩ ?_
      rintro ⟨j2, v2, out2⟩ ⟨hj2, hm2⟩
      simp only at hj2 hm2 ⊢
      by_cases hl2 : j2 < (pkAt c s[j]).ne.length
      · have hw2 := wrapS hl2 (by have := hok.2.1; omega)
        rw [drop_get hl2, needsR] at hm2
        simp [hl2]
        refine call_p (p_met a b k b c hb s hs hp (pkAt c s[j]).ne[j2] (by have := hok.2.2.2 _ (List.getElem_mem hl2); omega)) (by simp) ?_
        cases hmet : metF c s (pkAt c s[j]).ne[j2] with
        | true =>
          simp
          exact ⟨j2 + 1, v2, out2, less_envOf (by simp [hw2]) rfl (by intro q; by_cases hq : q = 11 <;> simp [hq, arrF, hw2]), ⟨by omega, by simpa [hmet] using hm2⟩, by omega⟩
        | false =>
          have hro : (out2.length + 1) * 24 ≤ 140737488355328 := room (x := (2, s[j], (j2 : Int))) (by simpa [hmet] using hm2) hbig
          simp [hlt, aappend, arrF, sealRows, sealCells, List.range_succ, hro]
          exact ⟨j2 + 1, v2 + 1, out2 ++ [(2, s[j], (j2 : Int))], less_envOf (by simp [hw2]) rfl (by intro q; by_cases hq : q = 11 <;> simp [hq, arrF, hw2]), ⟨by omega, by simpa [hmet] using hm2⟩, by omega⟩
      · rw [List.drop_eq_nil_of_le (by omega), needsR, List.nil_append] at hm2
        simp [hl2]
        refine aloop (α := Nat × Nat × List (Int × Int × Int)) (fun d => ⟨envOf [(0, pksAV a b c), (1, intsAV k s), (5, .arr 11 d.2.1 0 d.2.2.length), (6, .v (.int .i64 j)), (7, .box bs.length 0), (10, .v (.int .i64 d.1))], ⟨bs ++ [(pkAt c s[j]).cells b], arrF 11 ver d.2.1 d.2.2⟩⟩)
          (fun d => d.1 ≤ (pkAt c s[j]).ba.length ∧ d.2.2 ++ (barsR c s s[j] ((pkAt c s[j]).ba.drop d.1) d.1 ++ faultsR c s (s.take (j + 1)) (s.drop (j + 1))) = faultsR c s [] s) (fun d => (pkAt c s[j]).ba.length - d.1) (0, v2, out2) (less_envOf (by simp) rfl fun _ => rfl) ⟨Nat.zero_le _, by simpa using hm2⟩ ?_
        rintro ⟨j3, v3, out3⟩ ⟨hj3, hm3⟩
        simp only at hj3 hm3 ⊢
        by_cases hl3 : j3 < (pkAt c s[j]).ba.length
        · have hw3 := wrapS hl3 (by have := hok.2.2.1; omega)
          rw [drop_get hl3, barsR] at hm3
          simp [hl3]
          refine adraw_all (by kernel_rfl) ?_
          simp [hl3, hlt]
          refine call_p (p_given a b k c hb s hs hp (pkAt c s[j]).ba[j3] s[j]) (by simp) ?_
          cases hmet : givenF c s (pkAt c s[j]).ba[j3] s[j] with
          | false =>
            simp
            exact ⟨j3 + 1, v3, out3, less_envOf (by simp [hw3]) rfl (by intro q; by_cases hq : q = 11 <;> simp [hq, arrF, hw3]), ⟨by omega, by simpa [hmet] using hm3⟩, by omega⟩
          | true =>
            have hro : (out3.length + 1) * 24 ≤ 140737488355328 := room (x := (3, s[j], (j3 : Int))) (by simpa [hmet] using hm3) hbig
            simp [hlt, aappend, arrF, sealRows, sealCells, List.range_succ, hro]
            exact ⟨j3 + 1, v3 + 1, out3 ++ [(3, s[j], (j3 : Int))], less_envOf (by simp [hw3]) rfl (by intro q; by_cases hq : q = 11 <;> simp [hq, arrF, hw3]), ⟨by omega, by simpa [hmet] using hm3⟩, by omega⟩
        · rw [List.drop_eq_nil_of_le (by omega), barsR, List.nil_append] at hm3
          simp [hl3]
          exact ⟨j + 1, v3, out3, ⟨_, less_envOf (by simp [hw]) rfl fun _ => rfl⟩, ⟨by omega, hm3⟩, by omega⟩
  · rw [List.drop_eq_nil_of_le (by omega), faultsR, List.append_nil] at hm
    rw [← hm]
    simp [hlt, arrF]

end Go.Proofs.YtokhnmchnfkiiaaGreat.Am
