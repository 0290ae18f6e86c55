import Derived.Test.YtokhnmchnfkiiaaGreatAmCg18
import Derived.Test.YtokhnmchnfkiiaaGreatAmCg13
import Derived.Test.YtokhnmchnfkiiaaGreatAmCg7
/- Solve: the way of the search as a function. No conditions. -/
namespace Go.Proofs.YtokhnmchnfkiiaaGreat.Am
open Go Go.RowKit Go.Proofs
set_option linter.unusedSimpArgs false
set_option linter.unusedVariables false

/-- The search: what is chosen with what was denied then, what is denied, how many choices there were. -/
noncomputable def solG (U : List Int → Option (List Trm)) (K : List Trm → List Int → List Int → List Int) (bud : Int) : Nat → List (Int × List Int) → List Int → Int → Int × Int × List Int
  | 0, _, _, _ => (0, 0, [])
  | k + 1, fr, dn, n => match U (fr.map Prod.fst) with
    | none => (0, n, fr.map Prod.fst)
    | some q => match K q (fr.map Prod.fst) dn with
      | x :: _ => if n = bud then (7, n, []) else solG U K bud k (fr ++ [(x, dn)]) dn (n + 1)
      | [] => match fr.getLast? with
        | none => (4, n, [])
        | some p => solG U K bud k fr.dropLast (p.2 ++ [p.1]) n
theorem solG_done {U : List Int → Option (List Trm)} {K : List Trm → List Int → List Int → List Int} {bud : Int} {k : Nat} {fr : List (Int × List Int)} {dn : List Int} {n : Int} (h : U (fr.map Prod.fst) = none) :
    solG U K bud (k + 1) fr dn n = (0, n, fr.map Prod.fst) := by
  simp [solG, h]
theorem solG_busy {U : List Int → Option (List Trm)} {K : List Trm → List Int → List Int → List Int} {bud : Int} {k : Nat} {fr : List (Int × List Int)} {dn : List Int} {n : Int} {q : List Trm} {x : Int} {r : List Int} (h : U (fr.map Prod.fst) = some q) (h2 : K q (fr.map Prod.fst) dn = x :: r) (hn : n = bud) :
    solG U K bud (k + 1) fr dn n = (7, n, []) := by
  simp [solG, h, h2, hn]
theorem solG_push {U : List Int → Option (List Trm)} {K : List Trm → List Int → List Int → List Int} {bud : Int} {k : Nat} {fr : List (Int × List Int)} {dn : List Int} {n : Int} {q : List Trm} {x : Int} {r : List Int} (h : U (fr.map Prod.fst) = some q) (h2 : K q (fr.map Prod.fst) dn = x :: r) (hn : ¬ n = bud) :
    solG U K bud (k + 1) fr dn n = solG U K bud k (fr ++ [(x, dn)]) dn (n + 1) := by
  simp [solG, h, h2, hn]
theorem solG_none {U : List Int → Option (List Trm)} {K : List Trm → List Int → List Int → List Int} {bud : Int} {k : Nat} {dn : List Int} {n : Int} {q : List Trm} (h : U [] = some q) (h2 : K q [] dn = []) :
    solG U K bud (k + 1) [] dn n = (4, n, []) := by
  simp [solG, h, h2]
theorem solG_pop {U : List Int → Option (List Trm)} {K : List Trm → List Int → List Int → List Int} {bud : Int} {k : Nat} {fr : List (Int × List Int)} {p : Int × List Int} {dn : List Int} {n : Int} {q : List Trm} (h : U ((fr ++ [p]).map Prod.fst) = some q) (h2 : K q ((fr ++ [p]).map Prod.fst) dn = []) :
    solG U K bud (k + 1) (fr ++ [p]) dn n = solG U K bud k fr (p.2 ++ [p.1]) n := by
  simp only [solG, h, h2]
  simp

/-- What holds at the head of the search's loop. -/
structure SolI (N : Nat) (bud : Int) (K0 k : Nat) (fr : List (Int × List Int)) (dn : List Int) (n : Int) : Prop where
  n0 : 0 ≤ n
  nb : n ≤ bud
  ms : 2 * (bud - n) + fr.length < k
  pl : ∀ p ∈ fr, 0 ≤ p.1 ∧ p.1.toNat < N
  dl : dn.length + k ≤ K0
  fl : fr.length + k ≤ K0
  ls : ∀ p ∈ fr, p.2.length + k ≤ K0
  ch : fr.Pairwise fun a b => a.2 <+: b.2
  pf : ∀ p ∈ fr, p.2 <+: dn
theorem SolI.start (N : Nat) {bud : Int} (h : 0 ≤ bud) : SolI N bud (2 * bud.toNat + 1) (2 * bud.toNat + 1) [] [] 0 where
  n0 := Int.le_refl _
  nb := h
  ms := by simp; omega
  pl := fun p h => by cases h
  dl := by simp
  fl := by simp
  ls := fun p h => by cases h
  ch := List.Pairwise.nil
  pf := fun p h => by cases h
theorem SolI.pos {N : Nat} {bud : Int} {K0 k : Nat} {fr : List (Int × List Int)} {dn : List Int} {n : Int} (h : SolI N bud K0 k fr dn n) : ∃ j, k = j + 1 := by
  have h1 := h.ms
  have h2 := h.nb
  exact ⟨k - 1, by omega⟩
theorem SolI.places {N : Nat} {bud : Int} {K0 k : Nat} {fr : List (Int × List Int)} {dn : List Int} {n : Int} (h : SolI N bud K0 k fr dn n) : Places N (fr.map Prod.fst) := by
  intro x hx
  obtain ⟨p, hp, rfl⟩ := List.mem_map.1 hx
  exact h.pl p hp
theorem SolI.push {N : Nat} {bud : Int} {K0 k : Nat} {fr : List (Int × List Int)} {dn : List Int} {n : Int} (h : SolI N bud K0 (k + 1) fr dn n) {x : Int} (hx : 0 ≤ x ∧ x.toNat < N) (hn : ¬ n = bud) : SolI N bud K0 k (fr ++ [(x, dn)]) dn (n + 1) where
  n0 := by have := h.n0; omega
  nb := by have := h.nb; omega
  ms := by
    have := h.ms
    simp
    omega
  pl := fun p hp => by
    rcases List.mem_append.1 hp with hp | hp
    · exact h.pl p hp
    · simp at hp
      subst hp
      exact hx
  dl := by have := h.dl; omega
  fl := by have := h.fl; simp; omega
  ls := fun p hp => by
    rcases List.mem_append.1 hp with hp | hp
    · have := h.ls p hp; omega
    · simp at hp
      subst hp
      have := h.dl
      show dn.length + k ≤ K0
      omega
  ch := by
    rw [List.pairwise_append]
    refine ⟨h.ch, by simp, fun p hp q hq => ?_⟩
    simp at hq
    subst hq
    exact h.pf p hp
  pf := fun p hp => by
    rcases List.mem_append.1 hp with hp | hp
    · exact h.pf p hp
    · simp at hp
      subst hp
      exact List.prefix_refl _
theorem SolI.pop {N : Nat} {bud : Int} {K0 k : Nat} {fr : List (Int × List Int)} {p : Int × List Int} {dn : List Int} {n : Int} (h : SolI N bud K0 (k + 1) (fr ++ [p]) dn n) : SolI N bud K0 k fr (p.2 ++ [p.1]) n where
  n0 := h.n0
  nb := h.nb
  ms := by
    have := h.ms
    simp at this
    omega
  pl := fun q hq => h.pl q (by simp [hq])
  dl := by have := h.ls p (by simp); simp; omega
  fl := by have := h.fl; simp at this; omega
  ls := fun q hq => by have := h.ls q (by simp [hq]); omega
  ch := (List.pairwise_append.1 h.ch).1
  pf := fun q hq => ((List.pairwise_append.1 h.ch).2.2 q hq p (by simp)).trans (List.prefix_append _ _)

/-- A list by its order. -/
theorem sortI_of {l m : List Int} (hm : m.Pairwise (· ≤ ·)) (hp : l.Perm m) : sortI l = m :=
  List.Perm.eq_of_pairwise (fun a b _ _ h1 h2 => Int.le_antisymm h1 h2) (sortI_le l) hm ((List.mergeSort_perm l _).trans hp)
def putI (v : Int) : List Int → List Int
  | [] => [v]
  | x :: l => if v < x then v :: x :: l else x :: putI v l
theorem putI_perm (v : Int) : ∀ l, (putI v l).Perm (v :: l)
  | [] => List.Perm.refl _
  | x :: l => by
    unfold putI
    split
    · exact List.Perm.refl _
    · exact ((putI_perm v l).cons x).trans (List.Perm.swap v x l)
theorem putI_le (v : Int) : ∀ l, l.Pairwise (· ≤ ·) → (putI v l).Pairwise (· ≤ ·)
  | [], _ => by simp [putI]
  | x :: l, h => by
    obtain ⟨h1, h2⟩ := List.pairwise_cons.1 h
    unfold putI
    split
    · rename_i hv
      refine List.pairwise_cons.2 ⟨fun y hy => ?_, h⟩
      rcases List.mem_cons.1 hy with rfl | hy
      · omega
      · have := h1 y hy
        omega
    · rename_i hv
      refine List.pairwise_cons.2 ⟨fun y hy => ?_, putI_le v l h2⟩
      rcases List.mem_cons.1 ((putI_perm v l).mem_iff.1 hy) with rfl | hy
      · omega
      · exact h1 y hy
theorem putI_length (v : Int) (l : List Int) : (putI v l).length = l.length + 1 := by
  have := (putI_perm v l).length_eq
  simpa using this
theorem putI_all (l : List Int) : ∀ out, out.Pairwise (· ≤ ·) → (l.foldl (fun o v => putI v o) out).Pairwise (· ≤ ·) ∧ (out ++ l).Perm (l.foldl (fun o v => putI v o) out) := by
  induction l with
  | nil => intro out h; exact ⟨h, by simp⟩
  | cons x l ih =>
    intro out h
    obtain ⟨g1, g2⟩ := ih (putI x out) (putI_le x out h)
    refine ⟨g1, List.Perm.trans ?_ g2⟩
    exact (List.perm_middle.trans ((putI_perm x out).symm.append_right l))
theorem putI_sort (l : List Int) : l.foldl (fun o v => putI v o) [] = sortI l := by
  obtain ⟨g1, g2⟩ := putI_all l [] List.Pairwise.nil
  exact (sortI_of g1 (by simpa using g2)).symm

/-! ### What the program's search looks at -/

noncomputable def solU (c : List Pk) (l : List Trm) (s : List Int) : Option (List Trm) := (clsOf c l s).find? fun q => !metF c s q
theorem unmL_eq (c : List Pk) (l : List Trm) (s : List Int) : unmL c l s = (solU c l s).getD [] := rfl
theorem clsF_ne : ∀ {l : List (List Trm)}, clsF l = 0 → ∀ q ∈ l, q ≠ []
  | [], _, q, hq => by cases hq
  | x :: l, h, q, hq => by
    unfold clsF at h
    split at h
    · cases h
    rename_i h0
    split at h
    · rename_i h1; exact (h1 h).elim
    rcases List.mem_cons.1 hq with rfl | hq
    · intro e; subst e; exact h0 rfl
    · exact clsF_ne h q hq
theorem packF_ne {p : Pk} (h : packF p = 0) : ∀ q ∈ p.ne, q ≠ [] := by
  unfold packF at h
  split at h
  · rename_i h1; exact (h1 h).elim
  split at h
  · rename_i h1; exact (h1 h).elim
  split at h
  · cases h
  split at h
  · cases h
  split at h
  · cases h
  split at h
  · rename_i h1; exact (h1 h).elim
  split at h
  · rename_i h1; exact (h1 h).elim
  · rename_i h1
    exact clsF_ne (by simpa using h1)
theorem solU_ne {c : List Pk} (hc : catF c = 0) {l : List Trm} {s : List Int} (hp : Places c.length s) {q : List Trm} (h : solU c l s = some q) : q ≠ [] := by
  have hm := List.mem_of_find?_eq_some h
  simp only [clsOf, List.mem_append, List.mem_map, List.mem_flatMap] at hm
  rcases hm with ⟨t, _, rfl⟩ | ⟨k, hk, hq⟩
  · simp
  · exact packF_ne ((catF_ok hc).2 _ (pkAt_mem (hp k hk).2)) q hq

/-- What Solve answers. -/
noncomputable def solS (c : List Pk) (l : List Trm) (like : List Int) (bud : Int) : Int × Int × List Int := solG (solU c l) (fun q ch dn => candF c q ch dn like) bud (2 * bud.toNat + 1) [] [] 0
noncomputable def solC (c : List Pk) (l : List Trm) (like : List Int) (bud : Int) : Int :=
  if setF c like ≠ 0 then setF c like else if 8 < l.length then 2 else if inF bud 0 1000 = false then 3 else trmsF l
theorem solC_ok {c : List Pk} {l : List Trm} {like : List Int} {bud : Int} (h : solC c l like bud = 0) : setF c like = 0 ∧ l.length ≤ 8 ∧ inF bud 0 1000 = true ∧ trmsF l = 0 := by
  unfold solC at h
  split at h
  · rename_i h1; exact (h1 h).elim
  split at h
  · cases h
  split at h
  · cases h
  rename_i h1 h2 h3
  exact ⟨by simpa using h1, by omega, by simpa using h3, h⟩
/-- Where the search's set is told, it is a list of places, not longer than the search. -/
theorem solG_set {N : Nat} {U : List Int → Option (List Trm)} {K : List Trm → List Int → List Int → List Int} (hK : ∀ q ch dn, ∀ x ∈ K q ch dn, 0 ≤ x ∧ x.toNat < N) {bud : Int} {K0 : Nat} : ∀ (k : Nat) (fr : List (Int × List Int)) (dn : List Int) (n : Int), SolI N bud K0 k fr dn n →
    (solG U K bud k fr dn n).2.2.length ≤ K0 ∧ ((solG U K bud k fr dn n).1 ≠ 0 → (solG U K bud k fr dn n).2.2 = [])
  | 0, fr, dn, n, h => by obtain ⟨j, hj⟩ := h.pos; omega
  | k + 1, fr, dn, n, h => by
    cases hU : U (fr.map Prod.fst) with
    | none =>
      rw [solG_done hU]
      have := h.fl
      exact ⟨by simp; omega, fun h => absurd rfl h⟩
    | some q =>
      cases hk : K q (fr.map Prod.fst) dn with
      | cons x r =>
        by_cases hn : n = bud
        · rw [solG_busy hU hk hn]
          exact ⟨Nat.zero_le _, fun _ => rfl⟩
        · rw [solG_push hU hk hn]
          exact solG_set hK k _ _ _ (h.push (hK q _ dn x (by rw [hk]; simp)) hn)
      | nil =>
        rcases List.eq_nil_or_concat fr with rfl | ⟨fr', p, rfl⟩
        · rw [solG_none hU hk]
          exact ⟨Nat.zero_le _, fun _ => rfl⟩
        · simp only [List.concat_eq_append] at *
          rw [solG_pop hU hk]
          exact solG_set hK k _ _ _ h.pop

end Go.Proofs.YtokhnmchnfkiiaaGreat.Am

/- The search's helpers in the reference: a list put in order, what is chosen. No conditions. -/
namespace Go.Proofs.YtokhnmchnfkiiaaGreat.Am
open Go Go.RowKit Go.Proofs
set_option linter.unusedSimpArgs false
set_option linter.unusedVariables false

set_option maxHeartbeats 4000000 in
theorem p_l3put (k : Bool) (l : List Int) (hl : l.length ≤ 1000000) (v : Int) : Pure Tryz.prog 193 [intsAV k l, .v (.int .i64 v)] (intsAV false (putI v l)) := by
  refine pure_of_code (G := (Go1 8)) (verso 8) mixed0 Tryz.func193 rfl (by decide) (by simp [Tryz.f193]) (by simp) fun ver => ?_
  simp only [Tryz.f193, Go1]
  simp [Mem.made, sealRows]
  refine aloop (α := Nat × Bool × Nat × List Int) (fun q => ⟨envOf [(0, intsAV k l), (1, .v (.int .i64 v)), (5, .arr 8 q.2.2.1 0 q.2.2.2.length), (6, .v (.bool q.2.1)), (7, .v (.int .i64 q.1))], ⟨[], arrW 8 q.2.2.1 2 (q.2.2.2.map intCells) ver⟩⟩)
    (fun q => q.1 ≤ l.length ∧ (if q.2.1 = true then q.2.2.2 ++ l.drop q.1 else q.2.2.2 ++ putI v (l.drop q.1)) = putI v l ∧ q.2.2.2.length ≤ q.1 + q.2.1.toNat) (fun q => l.length - q.1) (0, false, ver 8 + 1, []) (less_envOf (by simp) (by simp) (by intro j; simp [arrW, noArrs])) (by simp) ?_
  rintro ⟨i, b, w, out⟩ ⟨h1, h2, h3⟩
  simp only at h1 h2 h3 ⊢
  have h4 : out.length ≤ i + 1 := by cases b <;> simp at h3 <;> omega
  have hro : (out.length + 1) * 8 ≤ 140737488355328 := by omega
  have hro2 : (out.length + 1 + 1) * 8 ≤ 140737488355328 := by omega
  by_cases hlt : i < l.length
  · have hw := wrapS hlt (by omega)
    rw [drop_get hlt] at h2
    cases b with
    | true =>
      simp at h2 h3
      by_cases hv : v < l[i]
      · simp [hlt, hv, arrW, aappend, sealRows, sealCells, hro, -Bool.exists_bool]
        refine ⟨i + 1, true, w + 1, out ++ [l[i]], less_envOf (by simp [hw]) (by simp) (by intro j; by_cases hj : j = 8 <;> simp [hj, arrW]), ⟨by omega, by simpa using h2, by simp; omega⟩, by omega⟩
      · simp [hlt, hv, arrW, aappend, sealRows, sealCells, hro, -Bool.exists_bool]
        refine ⟨i + 1, true, w + 1, out ++ [l[i]], less_envOf (by simp [hw]) (by simp) (by intro j; by_cases hj : j = 8 <;> simp [hj, arrW]), ⟨by omega, by simpa using h2, by simp; omega⟩, by omega⟩
    | false =>
      simp only [putI] at h2
      simp at h3
      by_cases hv : v < l[i]
      · rw [if_pos hv] at h2
        simp at h2
        simp [hlt, hv, arrW, aappend, sealRows, sealCells, hro, hro2, -Bool.exists_bool]
        refine ⟨i + 1, true, w + 1 + 1, out ++ [v] ++ [l[i]], less_envOf (by simp [hw]) (by simp) (by intro j; by_cases hj : j = 8 <;> simp [hj, arrW]), ⟨by omega, by simpa using h2, ?_⟩, by omega⟩
        simp
        omega
      · rw [if_neg hv] at h2
        simp at h2
        simp [hlt, hv, arrW, aappend, sealRows, sealCells, hro, -Bool.exists_bool]
        refine ⟨i + 1, false, w + 1, out ++ [l[i]], less_envOf (by simp [hw]) (by simp) (by intro j; by_cases hj : j = 8 <;> simp [hj, arrW]), ⟨by omega, by simpa using h2, by simp; omega⟩, by omega⟩
  · rw [List.drop_eq_nil_of_le (by omega)] at h2
    cases b with
    | true =>
      simp at h2
      simp [hlt, h2, arrW]
    | false =>
      simp [putI] at h2
      simp [hlt, arrW, aappend, sealRows, sealCells, hro]
      rw [List.take_of_length_le (by simp), ← h2]
      simp

set_option maxHeartbeats 4000000 in
theorem p_l4sorted (k : Bool) (l : List Int) (hl : l.length ≤ 1000000) : Pure Tryz.prog 127 [intsAV k l] (intsAV false (sortI l)) := by
  refine pure_of_code (G := (Go1 5)) (verso 5) mixed0 Tryz.func127 rfl (by decide) (by simp [Tryz.f127]) (by simp) fun ver => ?_
  simp only [Tryz.f127, Go1]
  simp [Mem.made, sealRows]
  refine aloopS (α := Nat × List Int × (Nat → ArrSt)) (fun q => ⟨envOf [(0, intsAV k l), (3, intsAV false q.2.1), (4, .v (.int .i64 q.1))], ⟨[], q.2.2⟩⟩)
    (fun q => q.1 ≤ l.length ∧ q.2.1 = (l.take q.1).foldl (fun o v => putI v o) [] ∧ q.2.1.length = q.1) (fun q => l.length - q.1) (0, [], fun j => if j = 5 then ⟨ver 5 + 1, false, 2, []⟩ else noArrs ver j)
    (lessS_seal 3 (less_envOf (by simp [sealSlot, sealCells]) (by simp [sealSlot, sealCells]) (by intro j; by_cases h : j = 5 <;> simp [sealSlot, sealCells, h]))) (by simp) ?_
  rintro ⟨i, out, A⟩ ⟨h1, h2, h3⟩
  simp only at h1 h2 h3 ⊢
  by_cases hlt : i < l.length
  · have hw := wrapS hlt (by omega)
    simp [hlt]
    refine call_p (p_l3put false out (by omega) l[i]) (by simp) ?_
    simp
    refine ⟨i + 1, putI l[i] out, ⟨A, .inl (.inl (less_envOf (by simp [hw]) rfl fun _ => rfl))⟩, ⟨by omega, ?_, by rw [putI_length, h3]⟩, by omega⟩
    rw [List.take_succ_eq_append_getElem hlt, List.foldl_append, ← h2]
    rfl
  · rw [List.take_of_length_le (by omega), putI_sort] at h2
    simp [hlt, h2]

@[simp, reducible] def frCells (p : Int × List Int) : List AV := [.v (.int .i64 p.1), .sl false (p.2.map intCells)]

theorem fr_frs {p : Bool → Prop} (hp : p false) (l : List (Int × List Int)) : ∀ e ∈ l.map frCells, ∀ c ∈ e, c.Free p := by
  intro e he c hc
  obtain ⟨a, _, rfl⟩ := List.mem_map.1 he
  simp at hc
  rcases hc with rfl | rfl
  · exact .v _
  · exact .sl _ _ hp (fr_int _)
@[simp high] theorem free_frsT (k : Bool) (l : List (Int × List Int)) : (AV.sl k (l.map frCells)).Free (fun _ => True) = True := eq_true (.sl _ _ trivial (fr_frs trivial l))
@[simp high] theorem free_frsF (l : List (Int × List Int)) : (AV.sl false (l.map frCells)).Free (fun x => x = false) = True := eq_true (.sl _ _ rfl (fr_frs (p := fun x => x = false) rfl l))

set_option maxHeartbeats 4000000 in
theorem p_l4chosen (k : Bool) (fr : List (Int × List Int)) (hl : fr.length ≤ 1000000) : Pure Tryz.prog 125 [.sl k (fr.map frCells)] (intsAV false (fr.map Prod.fst)) := by
  obtain ⟨R, hR⟩ : ∃ R, R = fr.map Prod.fst := ⟨_, rfl⟩
  rw [← hR]
  refine pure_of_code (G := (Go1 5)) (verso 5) mixed0 Tryz.func125 rfl (by decide) (by simp [Tryz.f125]) (by simp) fun ver => ?_
  simp only [Tryz.f125, Go1]
  simp [Mem.made, sealRows]
  refine aloop (α := Nat × Nat × List Int) (fun q => ⟨envOf [(0, .sl k (fr.map frCells)), (3, .arr 5 q.2.1 0 q.2.2.length), (4, .v (.int .i64 q.1))], ⟨[], arrW 5 q.2.1 2 (q.2.2.map intCells) ver⟩⟩)
    (fun q => q.1 ≤ fr.length ∧ q.2.2 = (fr.take q.1).map Prod.fst) (fun q => fr.length - q.1) (0, ver 5 + 1, []) (less_envOf (by simp) (by simp) (by intro j; simp [arrW, noArrs])) (by simp) ?_
  rintro ⟨i, w, out⟩ ⟨h1, h2⟩
  simp only at h1 h2 ⊢
  by_cases hlt : i < fr.length
  · have hw := wrapS hlt (by omega)
    have hro : (out.length + 1) * 8 ≤ 140737488355328 := by rw [h2]; simp; omega
    simp [hlt, arrW, aappend, sealRows, sealCells, hro]
    refine ⟨i + 1, w + 1, out ++ [fr[i].1], less_envOf (by simp [hw]) (by simp) (by intro j; by_cases hj : j = 5 <;> simp [hj, arrW]), ⟨by omega, ?_⟩, by omega⟩
    rw [← List.map_take, List.take_succ_eq_append_getElem hlt, List.map_append, ← h2]
    rfl
  · rw [List.take_of_length_le (by omega), ← hR] at h2
    simp [hlt, h2, arrW]

end Go.Proofs.YtokhnmchnfkiiaaGreat.Am

/- The search, as the reference goes. No conditions. -/
namespace Go.Proofs.YtokhnmchnfkiiaaGreat.Am
open Go Go.RowKit Go.Proofs
set_option linter.unusedSimpArgs false
set_option linter.unusedVariables false

noncomputable def Go4 (a b c d : Nat) : Cfg := ⟨Tryz.prog, fun t => t == a || t == b || t == c || t == d, fun t => t == 64, fun _ => true, 0⟩
theorem verso4 (a b c d : Nat) : (Go4 a b c d).Vers := fun t h => vers0 t h
abbrev SolD : Type := Nat × List (Int × List Int) × List Int × Int × Nat × List (List AV) × (Nat → ArrSt)
def solMu (q : SolD) : Nat := q.1
/-- What holds at the head of the reference's loop. -/
structure SolQ (c : List Pk) (l : List Trm) (like : List Int) (bud : Int) (K0 : Nat) (R : Int × Int × List Int) (q : SolD) : Prop where
  i : SolI c.length bud K0 q.1 q.2.1 q.2.2.1 q.2.2.2.1
  r : solG (solU c l) (fun q ch dn => candF c q ch dn like) bud q.1 q.2.1 q.2.2.1 q.2.2.2.1 = R
theorem candF_pl (c : List Pk) (q : List Trm) (ch dn like : List Int) : ∀ x ∈ candF c q ch dn like, 0 ≤ x ∧ x.toNat < c.length := fun x hx => by
  have := (candF_ok c q ch dn like).2.mem_iff.1 hx
  exact allI_mem (List.mem_filter.1 this).1

@[simp] theorem sortI_nil : sortI [] = [] := by simp [sortI]

set_option maxHeartbeats 8000000 in
set_option maxRecDepth 10000 in
theorem p_l4solve (c : List Pk) (hcat : catF c = 0) (l : List Trm) (hl : l.length ≤ 4611686018427387904) (like : List Int) (hlk : like.length ≤ 4611686018427387904) (bud : Int) (hb0 : 0 ≤ bud) (hb1 : bud ≤ 1000) :
    Pure Tryz.prog 71 [pksAV false false c, trmsAV false l, intsAV false like, .v (.int .i64 bud)] (.agg [.v (.int .i64 (solS c l like bud).1), .v (.int .i64 (solS c l like bud).2.1), intsAV false (sortI (solS c l like bud).2.2)]) := by
  have hb : CatOk c := fun p hp => packF_ok ((catF_ok hcat).2 p hp)
  have hcl := (catF_ok hcat).1
  obtain ⟨R, hR⟩ : ∃ R, R = solS c l like bud := ⟨_, rfl⟩
  rw [← hR]
  unfold solS at hR
  obtain ⟨K0, hK0⟩ : ∃ K0, K0 = 2 * bud.toNat + 1 := ⟨_, rfl⟩
  rw [← hK0] at hR
  have hK1 : K0 ≤ 2001 := by omega
  refine pure_of_code (G := (Go4 16 17 70 71)) (verso4 16 17 70 71) mixed0 Tryz.func71 rfl (by decide) (by simp [Tryz.f71]) (by simp) fun ver => ?_
  simp only [Tryz.f71, Go4]
  simp [Mem.made, sealRows]
  refine aloopS (α := SolD) (fun q => ⟨envOf [(0, pksAV false false c), (1, trmsAV false l), (2, intsAV false like), (3, .v (.int .i64 bud)), (8, .box 0 0), (9, .arr 16 q.2.2.2.2.1 0 q.2.1.length), (10, intsAV false q.2.2.1), (11, .v (.int .i64 q.2.2.2.1))],
      ⟨[.v (.int .i64 0), .v (.int .i64 0), .nil] :: q.2.2.2.2.2.1, putA q.2.2.2.2.2.2 16 q.2.2.2.2.1 144 (q.2.1.map frCells)⟩⟩)
    (SolQ c l like bud K0 R) solMu (K0, [], [], 0, ver 16 + 1, [], fun j => if j = 17 then ⟨ver 17 + 1, false, 2, []⟩ else noArrs ver j)
    (lessS_seal 10 (less_envOf (by simp [sealSlot, sealCells]) (by simp [sealSlot, sealCells]) (by intro j; by_cases h : j = 17 <;> by_cases h2 : j = 16 <;> simp [sealSlot, sealCells, putA, h, h2]))) ⟨by rw [hK0]; exact SolI.start _ hb0, hR.symm⟩ ?_
  rintro ⟨k, fr, dn, n, vF, B, A⟩ ⟨hi, hr⟩
  simp only at hi hr ⊢
  obtain ⟨j, rfl⟩ := hi.pos
  have hp := hi.places
  have hfl := hi.fl
  have hdl := hi.dl
  obtain ⟨S, hS⟩ : ∃ S, S = fr.map Prod.fst := ⟨_, rfl⟩
  have hSl : S.length = fr.length := by rw [hS, List.length_map]
  have hch : Pure Tryz.prog 125 [.sl true (fr.map frCells)] (intsAV false S) := by rw [hS]; exact p_l4chosen true fr (by omega)
  rw [← hS] at hp
  simp [putA_at]
  refine call_p hch (by simp) ?_
  simp
  refine call_p (p_l4unmet c hb l hl S (by omega) hp) (by simp) ?_
  cases hU : solU c l S with
  | none =>
    have hu : unmL c l S = [] := by rw [unmL_eq, hU]; rfl
    rw [hS] at hU
    rw [solG_done hU, ← hS] at hr
    rw [hu]
    simp
    refine call_p (p_l4sorted false S (by omega)) (by simp) ?_
    simp [← hr]
  | some q =>
    have hq0 := solU_ne hcat hp hU
    have hql : q.length ≤ 4 := by
      have := unmL_len (l := l) hb hp
      rw [unmL_eq, hU] at this
      exact this
    have hq1 : ¬ q.length = 0 := by intro e; exact hq0 (List.eq_nil_of_length_eq_zero e)
    have hu : unmL c l S = q := by rw [unmL_eq, hU]; rfl
    rw [hu]
    simp [hq1, hq0]
    refine call_p (p_l4cand false false false false c hb (by omega) q (by omega) S dn like hp (by omega) (by omega) hlk) (by simp) ?_
    cases hk : candF c q S dn like with
    | cons x r =>
      by_cases hn : n = bud
      · rw [hS] at hU hk
        rw [solG_busy hU hk hn] at hr
        simp [hn, ← hr]
      · have hn0 := hi.n0
        have hnb := hi.nb
        have hwn : IntKind.i64.wrap (n + 1) = n + 1 := IntWalk.i64_in _ (by omega)
        have hx := candF_pl c q S dn like x (by rw [hk]; simp)
        rw [hS] at hU hk
        rw [solG_push hU hk hn] at hr
        have hro : (fr.length + 1) * 32 ≤ 140737488355328 := by omega
        simp [hn, hwn, putA_at, aappend, sealRows, sealCells, hro]
        refine ⟨j, fr ++ [(x, dn)], dn, n + 1, vF + 1, B, A, .inl (.inl (less_envOf (by simp) (by simp) ?_)), ⟨hi.push hx hn, hr⟩, Nat.lt_succ_self _⟩
        intro z
        by_cases hz : z = 16 <;> simp [putA, hz]
    | nil =>
      rcases List.eq_nil_or_concat fr with rfl | ⟨fr', p, rfl⟩
      · simp at hS
        subst hS
        rw [solG_none hU hk] at hr
        simp [← hr, putA_at]
      · simp only [List.concat_eq_append] at *
        rw [hS] at hU hk
        rw [solG_pop hU hk] at hr
        have hi2 := hi.pop
        have hlf : fr'.length + 1 ≤ K0 := by simp at hfl; omega
        have hwf : IntKind.i64.wrap (fr'.length : Int) = (fr'.length : Int) := IntWalk.i64_in _ (by omega)
        have hf0 : ¬ (fr'.length : Int) + 1 = 0 := by omega
        have hf1 : (fr'.length : Int) < (fr'.length : Int) + 1 := by omega
        have hf2 : (fr'.length : Int) ≤ (fr'.length : Int) + 1 := by omega
        have h1c : (Value.int IntKind.i64 p.1).oneCell' = true := rfl
        have htk : List.take fr'.length (fr'.map frCells ++ [[AV.v (.int .i64 p.1), .sl false (p.2.map intCells)]]) = fr'.map frCells := by
          rw [List.take_append_of_le_length (by simp), List.take_of_length_le (by simp)]
        simp [putA_at, hwf, hf0, hf1, hf2, AV.one, h1c, putA_put, htk]
        obtain ⟨A2, hA2⟩ : ∃ A2, A2 = putA A 16 (vF + 1) 144 (fr'.map frCells) := ⟨_, rfl⟩
        rw [← hA2]
        obtain ⟨v, hv⟩ : ∃ v, v = (A2 71).ver := ⟨_, rfl⟩
        have hpl := hi.ls p (by simp)
        have hro : p.2.length * 8 ≤ 140737488355328 := by omega
        have hro2 : (p.2.length + 1) * 8 ≤ 140737488355328 := by omega
        have htk2 : List.take (p.2.length + 1) (p.2.map intCells ++ [[AV.v (.int .i64 p.1)]]) = p.2.map intCells ++ [[AV.v (.int .i64 p.1)]] := List.take_of_length_le (by simp)
        have x0 : List.idxOf 0 [0, 3, 7] = 0 := by decide
        have x3 : List.idxOf 3 [0, 3, 7] = 1 := by decide
        have x7 : List.idxOf 7 [0, 3, 7] = 2 := by decide
        refine adraw_g [0, 1, 2, 3, 4, 5, 6, 7, 8] [0, 3, 7] [⟨[.v (.int .i64 0), .v (.int .i64 0), .nil] :: (B ++ [frCells p]), A2⟩, ⟨[.v (.int .i64 0), .v (.int .i64 0), .nil] :: (B ++ [frCells p]), putA A2 71 (v + 1) 2 []⟩, ⟨[.v (.int .i64 0), .v (.int .i64 0), .nil] :: (B ++ [frCells p]), putA A2 71 (v + 1 + 1) 2 (p.2.map intCells)⟩, ⟨[.v (.int .i64 0), .v (.int .i64 0), .nil] :: (B ++ [frCells p]), putA A2 71 (v + 1 + 1 + 1) 2 ((p.2 ++ [p.1]).map intCells)⟩]
          [.arr 71 (v + 1) 0 0, .box (B.length + 1) 1, intsAV false p.2, .arr 71 (v + 1 + 1) 0 p.2.length, .box (B.length + 1) 0, .v (.int .i64 p.1), .sl false [[.v (.int .i64 p.1)]], .arr 71 (v + 1 + 1 + 1) 0 (p.2.length + 1), .arr 71 (v + 1 + 1 + 1) 0 (p.2.length + 1)] (by decide +kernel) rfl rfl ?_
        simp [tellG_cons, tellG_nil, onTell, yieldsTo, x0, x3, x7, Mem.made, sealRows, sealCells, aappend, putA_at, putA_putA, putA_mk, ← hv, hro, hro2]
        refine ⟨j, fr', p.2 ++ [p.1], n, vF + 1, B ++ [frCells p], fun z => if z = 71 then ⟨v + 1 + 1 + 1, false, 2, (p.2 ++ [p.1]).map intCells⟩ else A z, lessS_seal 10 (less_envOf (by simp [sealSlot, sealCells, putA_at, htk2]) (by simp [sealSlot, sealCells, putA_at]) ?_), ⟨hi2, hr⟩, Nat.lt_succ_self _⟩
        intro z
        by_cases hz : z = 71
        · subst hz
          simp [sealSlot, sealCells, putA]
        · by_cases hz2 : z = 16 <;> simp [sealSlot, sealCells, putA, hA2, hz, hz2]

end Go.Proofs.YtokhnmchnfkiiaaGreat.Am

/- What is wrong with what is to be solved; Solve, as the reference goes. No conditions. -/
namespace Go.Proofs.YtokhnmchnfkiiaaGreat.Am
open Go Go.RowKit Go.Proofs
set_option linter.unusedSimpArgs false
set_option linter.unusedVariables false

theorem solC_1 {c : List Pk} {l : List Trm} {like : List Int} {bud : Int} (h : setF c like ≠ 0) : solC c l like bud = setF c like := by rw [solC, if_pos h]
theorem solC_2 {c : List Pk} {l : List Trm} {like : List Int} {bud : Int} (h : setF c like = 0) (h2 : 8 < l.length) : solC c l like bud = 2 := by rw [solC, if_neg (by simp [h]), if_pos h2]
theorem solC_3 {c : List Pk} {l : List Trm} {like : List Int} {bud : Int} (h : setF c like = 0) (h2 : ¬ 8 < l.length) (h3 : inF bud 0 1000 = false) : solC c l like bud = 3 := by rw [solC, if_neg (by simp [h]), if_neg h2, if_pos h3]
theorem solC_4 {c : List Pk} {l : List Trm} {like : List Int} {bud : Int} (h : setF c like = 0) (h2 : ¬ 8 < l.length) (h3 : inF bud 0 1000 = true) : solC c l like bud = trmsF l := by rw [solC, if_neg (by simp [h]), if_neg h2, if_neg (by simp [h3])]

theorem p_solveFault (c : List Pk) (hc : c.length ≤ 4611686018427387904) (hlen : ∀ p ∈ c, p.Len) (l : List Trm) (hl : l.length ≤ 4611686018427387904) (like : List Int) (hlk : like.length ≤ 4611686018427387904) (bud : Int) :
    Pure Tryz.prog 61 [pksAV false false c, trmsAV false l, intsAV false like, .v (.int .i64 bud)] (.v (.int .i64 (solC c l like bud))) := by
  obtain ⟨Q, hQ⟩ : ∃ Q, Q = solC c l like bud := ⟨_, rfl⟩
  rw [← hQ]
  refine pure_of_code (G := (G0)) vers0 mixed0 Tryz.func61 rfl (by decide) (by simp [Tryz.f61]) (by simp) fun ver => ?_
  simp only [Tryz.f61, G0]
  simp
  refine call_p (p_setFault false false false c hc hlen like hlk) (by simp) ?_
  by_cases h1 : setF c like = 0
  · simp [h1]
    by_cases h2 : 8 < l.length
    · rw [solC_2 h1 h2] at hQ
      have h2i : (8 : Int) < l.length := by omega
      have h2j : ¬ (l.length : Int) ≤ 8 := by omega
      simp [h2, h2i, h2j, hQ]
    · have h2i : ¬ (8 : Int) < l.length := by omega
      have h2j : (l.length : Int) ≤ 8 := by omega
      simp [h2, h2i, h2j]
      refine call_p (p_in bud 0 1000) (by simp) ?_
      cases h3 : inF bud 0 1000 with
      | false =>
        rw [solC_3 h1 h2 h3] at hQ
        simp [hQ]
      | true =>
        rw [solC_4 h1 h2 h3] at hQ
        simp
        refine call_p (p_trms false l hl) (by simp) ?_
        simp [hQ]
  · rw [solC_1 h1] at hQ
    simp [h1, hQ]

theorem q_solveFault (c : List Pk) (hc : c.length ≤ 4611686018427387904) (hlen : ∀ p ∈ c, p.Len) (l : List Trm) (hl : l.length ≤ 4611686018427387904) (like : List Int) (hlk : like.length ≤ 4611686018427387904) (bud : Int) :
    Pure Tryz.prog 74 [pksAV false false c, trmsAV false l, intsAV false like, .v (.int .i64 bud)] (.v (.int .i64 (solC c l like bud))) := by
  obtain ⟨Q, hQ⟩ : ∃ Q, Q = solC c l like bud := ⟨_, rfl⟩
  rw [← hQ]
  refine pure_of_code (G := (G0)) vers0 mixed0 Tryz.func74 rfl (by decide) (by simp [Tryz.f74]) (by simp) fun ver => ?_
  simp only [Tryz.f74, G0]
  simp
  refine call_p (q_setFault false false false c hc hlen like hlk) (by simp) ?_
  by_cases h1 : setF c like = 0
  · simp [h1]
    by_cases h2 : 8 < l.length
    · rw [solC_2 h1 h2] at hQ
      have h2i : (8 : Int) < l.length := by omega
      have h2j : ¬ (l.length : Int) ≤ 8 := by omega
      simp [h2, h2i, h2j, hQ]
    · have h2i : ¬ (8 : Int) < l.length := by omega
      have h2j : (l.length : Int) ≤ 8 := by omega
      simp [h2, h2i, h2j]
      refine call_p (p_within bud 0 1000) (by simp) ?_
      cases h3 : inF bud 0 1000 with
      | false =>
        rw [solC_3 h1 h2 h3] at hQ
        simp [hQ]
      | true =>
        rw [solC_4 h1 h2 h3] at hQ
        simp
        refine call_p (q_trms false l hl) (by simp) ?_
        simp [hQ]
  · rw [solC_1 h1] at hQ
    simp [h1, hQ]

/-- What Solve answers: a code, how many choices there were, a set. -/
noncomputable def solO (c : List Pk) (l : List Trm) (like : List Int) (bud : Int) : Int × Int × List Int :=
  if solC c l like bud ≠ 0 then (solC c l like bud, 0, []) else ((solS c l like bud).1, (solS c l like bud).2.1, sortI (solS c l like bud).2.2)
theorem sol_facts {c : List Pk} {l : List Trm} {like : List Int} {bud : Int} (h : solC c l like bud = 0) : catF c = 0 ∧ l.length ≤ 8 ∧ 0 ≤ bud ∧ bud ≤ 1000 ∧ SetOK c.length like := by
  obtain ⟨h1, h2, h3, h4⟩ := solC_ok h
  obtain ⟨g1, g2⟩ := setF_ok h1
  simp [inF] at h3
  exact ⟨g1, h2, h3.1, h3.2, g2⟩

theorem p_solve (c : List Pk) (hc : c.length ≤ 4611686018427387904) (hlen : ∀ p ∈ c, p.Len) (l : List Trm) (hl : l.length ≤ 4611686018427387904) (like : List Int) (hlk : like.length ≤ 4611686018427387904) (bud : Int) :
    Pure Tryz.prog 16 [pksAV false false c, trmsAV false l, intsAV false like, .v (.int .i64 bud)] (.agg [.v (.int .i64 (solO c l like bud).1), .v (.int .i64 (solO c l like bud).2.1), intsAV false (solO c l like bud).2.2]) := by
  obtain ⟨O, hO⟩ : ∃ O, O = solO c l like bud := ⟨_, rfl⟩
  rw [← hO]
  refine pure_of_code (G := (G0)) vers0 mixed0 Tryz.func16 rfl (by decide) (by simp [Tryz.f16]) (by simp) fun ver => ?_
  simp only [Tryz.f16, G0]
  simp
  refine call_p (p_solveFault c hc hlen l hl like hlk bud) (by simp) ?_
  by_cases h1 : solC c l like bud = 0
  · obtain ⟨g1, g2, g3, g4, g5⟩ := sol_facts h1
    rw [solO, if_neg (by simp [h1])] at hO
    simp [h1]
    refine call_p (p_l4solve c g1 l hl like hlk bud g3 g4) (by simp) ?_
    simp [hO]
  · rw [solO, if_pos h1] at hO
    simp [h1, hO]

end Go.Proofs.YtokhnmchnfkiiaaGreat.Am
