/- The faults of a set, as the reference finds them. No conditions. -/
import Derived.Test.YtokhnmchnfkiiaaAmC12
namespace Go.Proofs.Ytokhnmchnfkiiaa.Am
open Go Go.RowKit Go.Proofs
set_option linter.unusedSimpArgs false
set_option linter.unusedVariables false

@[simp, reducible] def fltCells (f : Int × Int × Int) : List AV := [.v (.int .i64 f.1), .v (.int .i64 f.2.1), .v (.int .i64 f.2.2)]
@[simp] theorem len_flt (l : List (Int × Int × Int)) : (l.map fltCells).all (fun e => e.length == 3) = true := all_map_eq l fun _ => rfl
@[simp] theorem one_flt (l : List (Int × Int × Int)) : (l.map fltCells).all (fun e => e.all AV.one) = true := all_map_eq l fun _ => rfl
theorem fr_flt {p : Bool → Prop} (l : List (Int × Int × Int)) : ∀ e ∈ l.map fltCells, ∀ c ∈ e, c.Free p := rows_free l fun a c hc => by simp at hc; rcases hc with rfl | rfl | rfl <;> exact .v _
@[simp high] theorem free_flts {p : Bool → Prop} (k : Bool) (l : List (Int × Int × Int)) : (AV.sl k (l.map fltCells)).Free p = p k := propext ⟨fun h => by cases h with | sl _ _ h => exact h, fun h => .sl _ _ h (fr_flt l)⟩
@[simp, reducible] def fltsAV (k : Bool) (l : List (Int × Int × Int)) : AV := .sl k (l.map fltCells)


def needsR (c : List Pk) (s : List Int) (k : Int) : List (List Trm) → Nat → List (Int × Int × Int)
  | [], _ => []
  | l :: r, j => (if metF c s l = true then [] else [(2, k, (j : Int))]) ++ needsR c s k r (j + 1)
def barsR (c : List Pk) (s : List Int) (k : Int) : List Trm → Nat → List (Int × Int × Int)
  | [], _ => []
  | t :: r, j => (if givenF c s t k = true then [(3, k, (j : Int))] else []) ++ barsR c s k r (j + 1)
def faultsR (c : List Pk) (s : List Int) : List Int → List Int → List (Int × Int × Int)
  | _, [] => []
  | seen, k :: r => (if 0 ≤ oneF c (pkAt c k).n seen then [(1, k, 0)] else []) ++ (needsR c s k (pkAt c k).ne 0 ++ (barsR c s k (pkAt c k).ba 0 ++ faultsR c s (seen ++ [k]) r))
theorem faultsR_app {c : List Pk} {s : List Int} {i : Nat} (h : i < s.length) : faultsR c s (s.take i) (s.drop i) = (if 0 ≤ oneF c (pkAt c s[i]).n (s.take i) then [(1, s[i], 0)] else []) ++ (needsR c s s[i] (pkAt c s[i]).ne 0 ++ (barsR c s s[i] (pkAt c s[i]).ba 0 ++ faultsR c s (s.take (i + 1)) (s.drop (i + 1)))) := by
  rw [drop_get h, faultsR, List.take_add_one, List.getElem?_eq_getElem h]
  rfl

theorem room {out rest tot : List (Int × Int × Int)} {x : Int × Int × Int} (h : out ++ (x :: rest) = tot) (hb : tot.length * 24 ≤ 140737488355328) : (out.length + 1) * 24 ≤ 140737488355328 := by
  have := congrArg List.length h
  simp at this
  omega

theorem oneF_take {c : List Pk} {n : ByteArray} {s : List Int} {j : Nat} (hp : ∀ k ∈ s, 0 ≤ k) (hj : j < s.length) (h : ¬ 0 ≤ oneF c n (s.take j)) : (0 ≤ oneF c n (s.take (j + 1)) ↔ (pkAt c s[j]).n = n) := by
  rw [List.take_add_one, List.getElem?_eq_getElem hj, Option.toList_some, oneF_app _ _ _ _ (fun k hk => hp k (List.mem_of_mem_take hk)), if_neg h]
  have := hp _ (List.getElem_mem hj)
  simp only [oneF]
  split
  · rename_i e; exact ⟨fun _ => e, fun _ => this⟩
  · rename_i e; exact ⟨fun h => by simp at h, fun h => (e h).elim⟩
theorem oneF_take_mono {c : List Pk} {n : ByteArray} {s : List Int} {j : Nat} (hp : ∀ k ∈ s, 0 ≤ k) (h : 0 ≤ oneF c n (s.take j)) {i : Nat} (hij : j ≤ i) : 0 ≤ oneF c n (s.take i) := by
  have e : s.take i = s.take j ++ (s.take i).drop j := by
    have := List.take_append_drop j (s.take i)
    rw [List.take_take, Nat.min_eq_left hij] at this
    exact this.symm
  rw [e, oneF_app _ _ _ _ (fun k hk => hp k (List.mem_of_mem_take hk)), if_pos h]
  exact h

end Go.Proofs.Ytokhnmchnfkiiaa.Am
