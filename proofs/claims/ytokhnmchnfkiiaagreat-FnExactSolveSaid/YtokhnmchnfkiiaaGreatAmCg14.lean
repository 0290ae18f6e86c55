import Derived.Test.YtokhnmchnfkiiaaGreatAmCg13
/- MovePacks, by both sides. No conditions. -/
namespace Go.Proofs.YtokhnmchnfkiiaaGreat.Am
open Go Go.RowKit Go.Proofs
set_option linter.unusedSimpArgs false
set_option linter.unusedVariables false

noncomputable def mvC (c : List Pk) (a b : List Int) (N : List ByteArray) : Int := if setF c a ≠ 0 then setF c a else if setF c b ≠ 0 then setF c b else if 24 < N.length then 2 else 0
noncomputable def mvR (c : List Pk) (a b : List Int) (N : List ByteArray) : List Int := if mvC c a b N = 0 then mvF c a b N else []
theorem mvC_ok {c : List Pk} {a b : List Int} {N : List ByteArray} (h : mvC c a b N = 0) : setF c a = 0 ∧ setF c b = 0 ∧ N.length ≤ 24 := by
  unfold mvC at h
  split at h
  · rename_i h1; exact (h1 h).elim
  split at h
  · rename_i h1; exact (h1 h).elim
  split at h
  · cases h
  · rename_i h1 h2 h3
    exact ⟨by simpa using h1, by simpa using h2, by omega⟩
theorem mv_facts {c : List Pk} {a b : List Int} {N : List ByteArray} (h : mvC c a b N = 0) : c.length ≤ 24 ∧ SetOK c.length a ∧ SetOK c.length b ∧ a.length ≤ 24 ∧ b.length ≤ 24 := by
  obtain ⟨h1, h2, h3⟩ := mvC_ok h
  obtain ⟨g1, g2⟩ := setF_ok h1
  obtain ⟨_, g3⟩ := setF_ok h2
  have g4 := (catF_ok g1).1
  have l1 := g2.len
  have l2 := g3.len
  exact ⟨g4, g2, g3, by omega, by omega⟩
theorem mvF_len (c : List Pk) (a b : List Int) (N : List ByteArray) : (mvF c a b N).length ≤ c.length := by
  have := List.length_filter_le (mvB c a b N) (allI c.length)
  simpa [mvF] using this

set_option maxHeartbeats 4000000 in
theorem p_movePacks (d f k e : Bool) (c : List Pk) (hc : c.length ≤ 4611686018427387904) (hcl : ∀ p ∈ c, p.Len) (a b : List Int) (hal : a.length ≤ 4611686018427387904) (hbl : b.length ≤ 4611686018427387904) (N : List ByteArray) (hN : N.length ≤ 4611686018427387904) :
    Pure Tryz.prog 43 [pksAV d f c, intsAV k a, intsAV k b, strsAV e N] (setRes (mvC c a b N) (intsAV false (mvR c a b N))) := by
  simp only [setRes]
  obtain ⟨Q, hQ⟩ : ∃ Q, Q = mvC c a b N := ⟨_, rfl⟩
  obtain ⟨R, hR⟩ : ∃ R, R = mvR c a b N := ⟨_, rfl⟩
  rw [← hQ, ← hR]
  refine pure_of_code (G := (G0)) vers0 mixed0 Tryz.func43 rfl (by decide) (by simp [Tryz.f43]) (by simp) fun ver => ?_
  simp only [Tryz.f43, G0]
  simp
  refine call_p (p_setFault d f k c hc hcl a hal) (by simp) ?_
  by_cases h1 : setF c a = 0
  · simp [h1]
    refine call_p (p_setFault d f k c hc hcl b hbl) (by simp) ?_
    by_cases h2 : setF c b = 0
    · by_cases h3 : 24 < N.length
      · have e1 : Q = 2 := by rw [hQ]; simp [mvC, h1, h2, h3]
        have e2 : R = [] := by rw [hR, mvR, ← hQ, e1]; rfl
        have h3i : (24 : Int) < N.length := by omega
        simp [h2, h3, h3i, e1, e2]
      · have e1 : mvC c a b N = 0 := by simp [mvC, h1, h2, h3]
        have e2 : R = mvF c a b N := by rw [hR, mvR, if_pos e1]
        have h3i : ¬ (24 : Int) < N.length := by omega
        have hcl := (mv_facts e1).1
        rw [e1] at hQ
        simp [h2, h3, h3i, hQ]
        refine call_p (p_l3move d f k e c (by omega) a b hal hbl N hN) (by simp) ?_
        simp [e2]
    · have e1 : Q = setF c b := by rw [hQ]; simp [mvC, h1, h2]
      have e2 : R = [] := by rw [hR, mvR, ← hQ, e1, if_neg h2]
      simp [h2, e1, e2]
  · have e1 : Q = setF c a := by rw [hQ]; simp [mvC, h1]
    have e2 : R = [] := by rw [hR, mvR, ← hQ, e1, if_neg h1]
    simp [h1, e1, e2]

set_option maxHeartbeats 4000000 in
theorem q_movePacksA (d f k e : Bool) (c : List Pk) (hc : c.length ≤ 4611686018427387904) (hcl : ∀ p ∈ c, p.Len) (a b : List Int) (hal : a.length ≤ 4611686018427387904) (hbl : b.length ≤ 4611686018427387904) (N : List ByteArray) (hN : N.length ≤ 4611686018427387904) (h : mvC c a b N ≠ 0 ∨ (a = [] ∧ b.filter (isN c N) = [])) :
    Pure Tryz.prog 42 [pksAV d f c, intsAV k a, intsAV k b, strsAV e N] (setRes (mvC c a b N) (.sl false [])) := by
  simp only [setRes]
  obtain ⟨Q, hQ⟩ : ∃ Q, Q = mvC c a b N := ⟨_, rfl⟩
  rw [← hQ]
  refine pure_of_code (G := (G0)) vers0 mixed0 Tryz.func42 rfl (by decide) (by simp [Tryz.f42]) (by simp) fun ver => ?_
  simp only [Tryz.f42, G0]
  simp
  refine call_p (q_setFault d f k c hc hcl a hal) (by simp) ?_
  simp
  refine call_p (q_setFault d f k c hc hcl b hbl) (by simp) ?_
  simp [sealRows, sealCells, List.range_succ]
  refine call_p (q_first false [setF c a, setF c b] (by simp)) (by simp) ?_
  rw [orF_two]
  by_cases h1 : setF c a = 0
  · by_cases h2 : setF c b = 0
    · by_cases h3 : 24 < N.length
      · have e1 : Q = 2 := by rw [hQ]; simp [mvC, h1, h2, h3]
        have h3i : (24 : Int) < N.length := by omega
        simp [h1, h2, h3, h3i, e1]
      · have e1 : mvC c a b N = 0 := by simp [mvC, h1, h2, h3]
        have h3i : ¬ (24 : Int) < N.length := by omega
        obtain ⟨f1, f2, f3, f4, f5⟩ := mv_facts e1
        rw [e1] at hQ
        rcases h with h | ⟨rfl, h⟩
        · exact absurd e1 h
        simp [h1, h2, h3, h3i, hQ]
        refine call_p (q_movedA d f k e c b f3.places (by omega) N hN h) (by simp) ?_
        simp
    · have e1 : Q = setF c b := by rw [hQ]; simp [mvC, h1, h2]
      simp [h1, h2, e1]
  · have e1 : Q = setF c a := by rw [hQ]; simp [mvC, h1]
    simp [h1, e1]

set_option maxHeartbeats 4000000 in
theorem q_movePacksB (d f k e : Bool) (c : List Pk) (hc : c.length ≤ 4611686018427387904) (hcl : ∀ p ∈ c, p.Len) (a b : List Int) (hal : a.length ≤ 4611686018427387904) (hbl : b.length ≤ 4611686018427387904) (N : List ByteArray) (hN : N.length ≤ 4611686018427387904) (h : mvC c a b N = 0) (h0 : ¬ (a = [] ∧ b.filter (isN c N) = [])) :
    OCall Tryz.prog 42 none [pksAV d f c, intsAV k a, intsAV k b, strsAV e N] (some (false, 2, (mvF c a b N).map intCells)) (setRes 0 (.arr 0 0 0 (mvF c a b N).length)) := by
  simp only [setRes]
  obtain ⟨h1, h2, h3⟩ := mvC_ok h
  obtain ⟨f1, f2, f3, f4, f5⟩ := mv_facts h
  have h3i : ¬ (24 : Int) < N.length := by omega
  have hq : OCall Tryz.prog 103 none [pksAV d f c, intsAV k a, intsAV k b, strsAV e N] (some (false, 2, (mvF c a b N).map intCells)) (.arr 0 0 0 (mvF c a b N).length) := by
    rw [← mv_eq f2 f3 N]
    by_cases ha : a = []
    · subst ha
      exact q_movedP d f k e c b f3.places (by omega) N hN fun h => h0 ⟨rfl, h⟩
    · exact q_movedO d f k e c a b f2.places f3.places (by omega) (by omega) N hN ha
  obtain ⟨R, hR⟩ : ∃ R, R = mvF c a b N := ⟨_, rfl⟩
  rw [← hR] at hq ⊢
  refine own_of_code (G := Go1 33) (verso 33) mixed0 Tryz.func42 rfl (by decide) (by simp [Tryz.f42]) 33 (by simp) (by intro s e es h; cases h; exact fr_int _) ?_
  simp only [Tryz.f42, Go1, inArrs]
  simp
  refine call_p (q_setFault d f k c hc hcl a hal) (by simp) ?_
  simp
  refine call_p (q_setFault d f k c hc hcl b hbl) (by simp) ?_
  simp [sealRows, sealCells, List.range_succ]
  refine call_p (q_first false [setF c a, setF c b] (by simp)) (by simp) ?_
  rw [orF_two]
  simp [h1, h2, h3i, Nat.not_lt.2 h3]
  refine call_n 33 hq (by simp) ?_
  simp

end Go.Proofs.YtokhnmchnfkiiaaGreat.Am

/- slices.SortStableFunc at numbers, first part: insertion. No conditions. -/
namespace Go.Proofs.YtokhnmchnfkiiaaGreat.Am
open Go Go.RowKit Go.Proofs
set_option linter.unusedSimpArgs false
set_option linter.unusedVariables false

section
variable {P : Program} {own : Nat → Bool} {verT : TypeId → Bool} {wr : Nat → Bool} {md : Nat} {dst : Option Tmp} {L : St → Prop} {st : St} {f : FuncId} {xs les : List AV}
/-- The array at place i is written in place by a function that reads the boxes. -/
theorem call_sb (i v : Nat) (e : TypeId) (es : List (List AV)) (he : st.mem.arrs i = ⟨v, true, e, es⟩) {las : List AV} {bs : List (List AV)} {es' : List (List AV)} {r : AV} (hp : OCallB P f bs (some (e, es)) las (some (true, e, es')) r) (hbs : lentBoxesO st.mem (some i) = bs) (ha : xs.map (lendO st.mem i) = las)
    (hfree : ∀ a ∈ las, (strip a).closed) (hcb : ∀ cs ∈ bs, ∀ c ∈ cs, c.closed) (hfe : ∀ q ∈ es, ∀ c ∈ q, AV.closed c)
    (h : L (St.put ⟨st.env, ⟨st.mem.boxes, fun j => if j = i then ⟨v, true, e, es'⟩ else st.mem.arrs j⟩⟩ dst (ren i v r))) : onCall ⟨P, own, verT, wr, md⟩ f xs les dst L st := by
  refine ⟨fun _ => ⟨_, _, CallStep.handedB i (some (true, e, es')) r (by rw [he]) (by rw [he, ha, hbs]; exact hp) ?_ (by rw [hbs]; exact hcb) (by rw [he]; exact hfe) (by intro a b c; cases c; rw [he]), ?_⟩⟩
  · intro a hm
    exact hfree _ (ha ▸ List.mem_map.2 ⟨a, hm, rfl⟩)
  · simpa [Mem.handed, Mem.handedVer, he] using h
end

def at0 (l : List Int) (i : Nat) : Int := l.getD i 0
theorem at0_get {l : List Int} {i : Nat} (h : i < l.length) : at0 l i = l[i] := by simp [at0, h]
def swapL (l : List Int) (i j : Nat) : List Int := (l.set i (at0 l j)).set j (at0 l i)
@[simp] theorem swapL_length (l : List Int) (i j : Nat) : (swapL l i j).length = l.length := by simp [swapL]
theorem swapL_perm {l : List Int} {i j : Nat} (hi : i < l.length) (hj : j < l.length) : (swapL l i j).Perm l := by
  rw [swapL, at0_get hi, at0_get hj]
  exact List.set_set_perm hi hj
def sinkL (B : Int → Int → Bool) (a : Nat) : Nat → List Int → List Int
  | 0, l => l
  | j + 1, l => if a < j + 1 ∧ B (at0 l (j + 1)) (at0 l j) = true then sinkL B a j (swapL l (j + 1) j) else l
def insL (B : Int → Int → Bool) (a : Nat) : Nat → Nat → List Int → List Int
  | 0, _, l => l
  | k + 1, i, l => insL B a k (i + 1) (sinkL B a i l)
theorem sinkL_pos (B : Int → Int → Bool) (a : Nat) {j : Nat} (h : 0 < j) (l : List Int) : sinkL B a j l = if a < j ∧ B (at0 l j) (at0 l (j - 1)) = true then sinkL B a (j - 1) (swapL l j (j - 1)) else l := by
  obtain ⟨k, rfl⟩ : ∃ k, j = k + 1 := ⟨j - 1, by omega⟩
  rfl
theorem sinkL_stop (B : Int → Int → Bool) (a : Nat) {j : Nat} (h : ¬ a < j) (l : List Int) : sinkL B a j l = l := by
  cases j with
  | zero => rfl
  | succ j => rw [sinkL, if_neg (by omega)]
theorem sinkL_perm (B : Int → Int → Bool) (a : Nat) : ∀ (j : Nat) (l : List Int), j < l.length → (sinkL B a j l).Perm l
  | 0, l, _ => List.Perm.refl l
  | j + 1, l, h => by
    unfold sinkL
    split
    · exact (sinkL_perm B a j _ (by simp; omega)).trans (swapL_perm h (by omega))
    · exact List.Perm.refl l
theorem insL_perm (B : Int → Int → Bool) (a : Nat) : ∀ (k i : Nat) (l : List Int), i + k ≤ l.length → (insL B a k i l).Perm l
  | 0, _, l, _ => List.Perm.refl l
  | k + 1, i, l, h => by
    have h1 := sinkL_perm B a i l (by omega)
    exact (insL_perm B a k (i + 1) _ (by rw [h1.length_eq]; omega)).trans h1

theorem cl_clo (f : FuncId) {post : List AV} (h : ∀ c ∈ post, c.closed) : (AV.clo f [] post).closed := .clo _ _ _ (by simp) h

/-- In a swap the two loads run ahead of the stores. -/
def swapRg : List (Nat × Nat) := [(0, 2), (0, 2), (0, 2), (0, 2), (0, 2), (0, 2), (0, 2), (0, 2), (0, 2), (0, 0), (0, 2), (0, 2), (0, 2), (0, 0), (0, 2), (0, 2), (0, 2), (0, 2)]

set_option maxHeartbeats 4000000 in
set_option maxRecDepth 10000 in
theorem s_insert (l : List Int) (hl : l.length ≤ 1000) (a b : Nat) (hab : a ≤ b) (hb : b ≤ l.length) (f : FuncId) (post : List AV) (bs : List (List AV)) (K : Int → Int → Int) (hst : Stab bs) (hs2 : StabA post)
    (h : ∀ x ∈ l, ∀ y ∈ l, BCall Tryz.prog f ([.v (.int .i64 x), .v (.int .i64 y)] ++ post) bs (.v (.int .i64 (K x y)))) :
    OCallB Tryz.prog 248 bs (some (2, l.map intCells)) [.arr 0 0 0 l.length, .v (.int .i64 a), .v (.int .i64 b), .clo f [] post]
      (some (true, 2, (insL (fun y x => decide (K y x < 0)) a (b - (a + 1)) (a + 1) l).map intCells)) (.tup []) := by
  obtain ⟨B, hB⟩ : ∃ B : Int → Int → Bool, B = fun y x => decide (K y x < 0) := ⟨_, rfl⟩
  rw [← hB]
  refine own_of_codeB (G := Gob bs.length 999) (versob _ _) mixed0 Tryz.func248 rfl (by decide) (by simp [Tryz.f248]) (fun k hk => by simpa [Gob] using hk) 0 (by simp) (by intro s e es h; cases h; exact fr_int _) ?_
  simp only [Tryz.f248, Gob, inArrs_some]
  have es := hs2
  unfold StabA at es
  have hwa : IntKind.i64.wrap ((a : Int) + 1) = ((a + 1 : Nat) : Int) := by rw [IntWalk.i64_in _ (by omega)]; omega
  obtain ⟨R, hR⟩ : ∃ R, R = insL B a (b - (a + 1)) (a + 1) l := ⟨_, rfl⟩
  rw [← hR]
  simp [hwa]
  refine aloop (α := Nat × List Int) (fun d => ⟨envOf [(0, .arr 0 0 0 l.length), (1, .v (.int .i64 a)), (2, .v (.int .i64 b)), (3, .clo f [] post), (8, .v (.int .i64 d.1))], ⟨bs, arr1 0 0 2 (d.2.map intCells)⟩⟩)
    (fun d => a < d.1 ∧ d.2.Perm l ∧ insL B a (b - d.1) d.1 d.2 = R) (fun d => b - d.1) (a + 1, l) (less_envOf (by simp) rfl fun _ => rfl) ⟨by simp, List.Perm.refl l, hR.symm⟩ ?_
  rintro ⟨i, m⟩ ⟨e1, e2, e3⟩
  simp only at e1 e2 e3 ⊢
  have e2l := e2.length_eq
  by_cases hlt : i < b
  · have hwi : IntKind.i64.wrap ((i : Int) + 1) = ((i + 1 : Nat) : Int) := by rw [IntWalk.i64_in _ (by omega)]; omega
    rw [show b - i = (b - (i + 1)) + 1 by omega, insL] at e3
    simp [hlt]
    refine aloop (α := Nat × List Int) (fun d => ⟨envOf [(0, .arr 0 0 0 l.length), (1, .v (.int .i64 a)), (2, .v (.int .i64 b)), (3, .clo f [] post), (8, .v (.int .i64 i)), (9, .v (.int .i64 d.1))], ⟨bs, arr1 0 0 2 (d.2.map intCells)⟩⟩)
      (fun d => d.1 ≤ i ∧ a ≤ d.1 ∧ d.2.Perm l ∧ sinkL B a d.1 d.2 = sinkL B a i m) (fun d => d.1) (i, m) (less_envOf (by simp) rfl fun _ => rfl) ⟨Nat.le_refl _, by simp only; omega, e2, rfl⟩ ?_
    rintro ⟨j, q⟩ ⟨g1, g2, g3, g4⟩
    simp only at g1 g2 g3 g4 ⊢
    have g3l := g3.length_eq
    by_cases hj : a < j
    · have hj1 : j < q.length := by omega
      have hj0 : j - 1 < q.length := by omega
      have hwj : IntKind.i64.wrap ((j : Int) - 1) = ((j - 1 : Nat) : Int) := by rw [IntWalk.i64_in _ (by omega)]; omega
      have hcall := h q[j] (g3.mem_iff.1 (List.getElem_mem hj1)) q[j - 1] (g3.mem_iff.1 (List.getElem_mem hj0))
      have hjl : j < l.length := by omega
      have hjl0 : j - 1 < l.length := by omega
      rw [sinkL_pos B a (by omega), at0_get hj1, at0_get hj0] at g4
      simp
      refine adraw_all (by kernel_rfl) ?_
      simp [hj, hwj, hjl, hjl0, hj1, hj0, g3l, arr1]
      try simp only [es]
      refine call_b hcall (hst _) ?_
      by_cases hk : K q[j] q[j - 1] < 0
      · rw [if_pos ⟨hj, by simp [hB, hk]⟩] at g4
        simp [hk]
        have hsw : swapL q j (j - 1) = (q.set j q[j - 1]).set (j - 1) q[j] := by rw [swapL, at0_get hj1, at0_get hj0]
        have hne : j - 1 ≠ j := by omega
        have hne2 : j ≠ j - 1 := by omega
        refine adraw_r [0, 1, 2, 3, 4, 5, 6, 7, 8, 9, 10, 11, 12, 13, 14, 15, 16, 17] [15, 17] swapRg [⟨bs, arr1 0 0 2 (q.map intCells)⟩, ⟨bs, arr1 0 0 2 ((q.set j q[j - 1]).map intCells)⟩, ⟨bs, arr1 0 0 2 ((swapL q j (j - 1)).map intCells)⟩]
          [.arr 0 0 0 l.length, .v (.int .i64 j), .arr 0 0 0 l.length, .v (.int .i64 j), .v (.int .i64 ((j - 1 : Nat) : Int)), .arr 0 0 0 l.length, .v (.int .i64 j), .v (.int .i64 ((j - 1 : Nat) : Int)), .ael 0 0 (j - 1) 0, .v (.int .i64 q[j - 1]), .arr 0 0 0 l.length, .v (.int .i64 j), .ael 0 0 j 0, .v (.int .i64 q[j]), .ael 0 0 j 0, .dead, .ael 0 0 (j - 1) 0, .dead] (by decide +kernel) rfl rfl ?_
        have x17 : List.idxOf 17 [15, 17] = 1 := by decide
        simp [tellG_cons, tellG_nil, onTell, yieldsTo, swapRg, hwj, hjl, hjl0, hj1, hj0, g3l, hsw, x17, arr1_put, hne, List.getElem_set_ne, hne2]
        exact ⟨j - 1, swapL q j (j - 1), less_envOf (by simp) rfl (by simp [hsw]), ⟨by omega, by omega, (swapL_perm hj1 hj0).trans g3, g4⟩, by omega⟩
      · rw [if_neg (by simp [hB, hk])] at g4
        simp [hk]
        exact ⟨i + 1, q, less_envOf (by simp [hwi]) rfl fun _ => rfl, ⟨by omega, g3, by rw [g4]; exact e3⟩, by omega⟩
    · rw [sinkL_stop B a hj] at g4
      simp
      refine adraw_all (by kernel_rfl) ?_
      simp [hj]
      exact ⟨i + 1, q, less_envOf (by simp [hwi]) rfl fun _ => rfl, ⟨by omega, g3, by rw [g4]; exact e3⟩, by omega⟩
  · have e : b - i = 0 := by omega
    rw [e, insL] at e3
    subst e3
    simp [hlt]

end Go.Proofs.YtokhnmchnfkiiaaGreat.Am

/- slices.SortStableFunc at numbers, second part: blocks that change places. No conditions. -/
namespace Go.Proofs.YtokhnmchnfkiiaaGreat.Am
open Go Go.RowKit Go.Proofs
set_option linter.unusedSimpArgs false
set_option linter.unusedVariables false

def swapRL (a b : Nat) : Nat → Nat → List Int → List Int
  | 0, _, l => l
  | k + 1, i, l => swapRL a b k (i + 1) (swapL l (a + i) (b + i))
/-- In a block's swap the two loads run ahead of the stores. -/
def swapRg2 : List (Nat × Nat) := [(0, 2), (0, 2), (0, 2), (0, 2), (0, 2), (0, 2), (0, 2), (0, 2), (0, 2), (0, 2), (0, 2), (0, 2), (0, 2), (0, 0), (0, 2), (0, 2), (0, 2), (0, 2), (0, 2), (0, 0), (0, 2), (0, 2), (0, 2), (0, 2)]

set_option maxHeartbeats 4000000 in
set_option maxRecDepth 10000 in
theorem s_swapR (l : List Int) (hl : l.length ≤ 1000) (a b n : Nat) (hab : a < b) (hb : b + n ≤ l.length) (f : FuncId) (post : List AV) (bs : List (List AV)) :
    OCallB Tryz.prog 273 bs (some (2, l.map intCells)) [.arr 0 0 0 l.length, .v (.int .i64 a), .v (.int .i64 b), .v (.int .i64 n), .clo f [] post]
      (some (true, 2, (swapRL a b n 0 l).map intCells)) (.tup []) := by
  refine own_of_codeB (G := Gob bs.length 999) (versob _ _) mixed0 Tryz.func273 rfl (by decide) (by simp [Tryz.f273]) (fun k hk => by simpa [Gob] using hk) 0 (by simp) (by intro s e es h; cases h; exact fr_int _) ?_
  simp only [Tryz.f273, Gob, inArrs_some]
  obtain ⟨R, hR⟩ : ∃ R, R = swapRL a b n 0 l := ⟨_, rfl⟩
  rw [← hR]
  simp
  refine aloop (α := Nat × List Int) (fun d => ⟨envOf [(0, .arr 0 0 0 l.length), (1, .v (.int .i64 a)), (2, .v (.int .i64 b)), (3, .v (.int .i64 n)), (10, .v (.int .i64 d.1))], ⟨bs, arr1 0 0 2 (d.2.map intCells)⟩⟩)
    (fun d => d.1 ≤ n ∧ d.2.length = l.length ∧ swapRL a b (n - d.1) d.1 d.2 = R) (fun d => n - d.1) (0, l) (less_envOf (by simp) rfl fun _ => rfl) ⟨by simp, rfl, hR.symm⟩ ?_
  rintro ⟨i, q⟩ ⟨e1, e2, e3⟩
  simp only at e1 e2 e3 ⊢
  by_cases hlt : i < n
  · have hwi : IntKind.i64.wrap ((i : Int) + 1) = ((i + 1 : Nat) : Int) := by rw [IntWalk.i64_in _ (by omega)]; omega
    have hwa : IntKind.i64.wrap ((a : Int) + (i : Int)) = ((a + i : Nat) : Int) := by rw [IntWalk.i64_in _ (by omega)]; omega
    have hwb : IntKind.i64.wrap ((b : Int) + (i : Int)) = ((b + i : Nat) : Int) := by rw [IntWalk.i64_in _ (by omega)]; omega
    obtain ⟨A, hA⟩ : ∃ A, A = a + i := ⟨_, rfl⟩
    obtain ⟨D, hD⟩ : ∃ D, D = b + i := ⟨_, rfl⟩
    rw [← hA] at hwa
    rw [← hD] at hwb
    have hAq : A < q.length := by omega
    have hDq : D < q.length := by omega
    have hAl : A < l.length := by omega
    have hDl : D < l.length := by omega
    have hne : A ≠ D := by omega
    rw [show n - i = (n - (i + 1)) + 1 by omega, swapRL, ← hA, ← hD] at e3
    have hsw : swapL q A D = (q.set A q[D]).set D q[A] := by rw [swapL, at0_get hAq, at0_get hDq]
    have x23 : List.idxOf 23 [21, 23] = 1 := by decide
    simp [hlt]
    refine adraw_r [0, 1, 2, 3, 4, 5, 6, 7, 8, 9, 10, 11, 12, 13, 14, 15, 16, 17, 18, 19, 20, 21, 22, 23] [21, 23] swapRg2 [⟨bs, arr1 0 0 2 (q.map intCells)⟩, ⟨bs, arr1 0 0 2 ((q.set A q[D]).map intCells)⟩, ⟨bs, arr1 0 0 2 ((swapL q A D).map intCells)⟩]
      [.arr 0 0 0 l.length, .v (.int .i64 a), .v (.int .i64 i), .v (.int .i64 A), .arr 0 0 0 l.length, .v (.int .i64 b), .v (.int .i64 i), .v (.int .i64 D), .arr 0 0 0 l.length, .v (.int .i64 b), .v (.int .i64 i), .v (.int .i64 D), .ael 0 0 D 0, .v (.int .i64 q[D]), .arr 0 0 0 l.length, .v (.int .i64 a), .v (.int .i64 i), .v (.int .i64 A), .ael 0 0 A 0, .v (.int .i64 q[A]), .ael 0 0 A 0, .dead, .ael 0 0 D 0, .dead] (by decide +kernel) rfl rfl ?_
    simp [tellG_cons, tellG_nil, onTell, yieldsTo, swapRg2, hwa, hwb, hAq, hDq, hAl, hDl, e2, hsw, x23, arr1_put, hne, List.getElem_set_ne]
    exact ⟨i + 1, swapL q A D, less_envOf (by simp [hwi]) rfl (by simp [hsw]), ⟨by omega, by simp [e2], e3⟩, by omega⟩
  · have e : n - i = 0 := by omega
    rw [e, swapRL] at e3
    subst e3
    simp [hlt]

/-! What is where behind a block's swap. -/
theorem at0_set {l : List Int} {i : Nat} (x : Int) (k : Nat) (h : i < l.length) : at0 (l.set i x) k = if k = i then x else at0 l k := by
  unfold at0
  by_cases e : k = i
  · subst e
    simp [h]
  · rw [if_neg e]
    simp [List.getElem?_set_ne (Ne.symm e)]
theorem at0_swap {l : List Int} {i j : Nat} (hi : i < l.length) (hj : j < l.length) (k : Nat) : at0 (swapL l i j) k = if k = j then at0 l i else if k = i then at0 l j else at0 l k := by
  rw [swapL, at0_set _ _ (by simpa using hj), at0_set _ _ hi]
@[simp] theorem swapRL_length (a b : Nat) : ∀ (n i : Nat) (l : List Int), (swapRL a b n i l).length = l.length
  | 0, _, _ => rfl
  | n + 1, i, l => by rw [swapRL, swapRL_length a b n]; simp
theorem swapRL_perm (a b : Nat) : ∀ (n i : Nat) (l : List Int), a + i + n ≤ l.length → b + i + n ≤ l.length → (swapRL a b n i l).Perm l
  | 0, _, l, _, _ => List.Perm.refl l
  | n + 1, i, l, h1, h2 => by
    rw [swapRL]
    exact (swapRL_perm a b n (i + 1) _ (by simp; omega) (by simp; omega)).trans (swapL_perm (by omega) (by omega))
theorem at0_swapR (a b : Nat) : ∀ (n i : Nat) (l : List Int) (k : Nat), a + i + n ≤ b → b + i + n ≤ l.length → at0 (swapRL a b n i l) k = if a + i ≤ k ∧ k < a + i + n then at0 l (k - a + b) else if b + i ≤ k ∧ k < b + i + n then at0 l (k - b + a) else at0 l k
  | 0, i, l, k, _, _ => by
    rw [swapRL, if_neg (by omega), if_neg (by omega)]
  | n + 1, i, l, k, h1, h2 => by
    rw [swapRL, at0_swapR a b n (i + 1) _ k (by omega) (by simp; omega)]
    simp only [at0_swap (show a + i < l.length by omega) (show b + i < l.length by omega)]
    repeat' split
    all_goals first
      | (exfalso; omega)
      | (congr 1; omega)
      | rfl

/-! Two neighbouring blocks change places. -/
def rotL (m : Nat) : Nat → Nat → Nat → List Int → List Int
  | 0, _, _, l => l
  | F + 1, i, j, l => if i = j then swapRL (m - i) m i 0 l else if j < i then rotL m F (i - j) j (swapRL (m - i) m j 0 l) else rotL m F i (j - i) (swapRL (m - i) (m + j - i) i 0 l)
theorem rotL_perm (m : Nat) : ∀ (F i j : Nat) (l : List Int), i ≤ m → m + j ≤ l.length → (rotL m F i j l).Perm l
  | 0, _, _, l, _, _ => List.Perm.refl l
  | F + 1, i, j, l, h1, h2 => by
    rw [rotL]
    split
    · exact swapRL_perm _ _ _ _ _ (by omega) (by omega)
    split
    · exact (rotL_perm m F (i - j) j _ (by omega) (by simp; omega)).trans (swapRL_perm _ _ _ _ _ (by omega) (by omega))
    · exact (rotL_perm m F i (j - i) _ (by omega) (by simp; omega)).trans (swapRL_perm _ _ _ _ _ (by omega) (by omega))
theorem at0_rot (m : Nat) : ∀ (F i j : Nat) (l : List Int) (k : Nat), 0 < i → 0 < j → i + j ≤ F → i ≤ m → m + j ≤ l.length →
    at0 (rotL m F i j l) k = if m - i ≤ k ∧ k < m - i + j then at0 l (k + i) else if m - i + j ≤ k ∧ k < m + j then at0 l (k - j) else at0 l k
  | 0, i, j, l, k, h1, h2, h3, h4, h5 => by omega
  | F + 1, i, j, l, k, h1, h2, h3, h4, h5 => by
    rw [rotL]
    split
    · rw [at0_swapR _ _ _ _ _ _ (by omega) (by omega)]
      repeat' split
      all_goals first
        | (exfalso; omega)
        | (congr 1; omega)
        | rfl
    split
    · rw [at0_rot m F (i - j) j _ k (by omega) h2 (by omega) (by omega) (by simp; omega)]
      simp only [at0_swapR (m - i) m j 0 l _ (show m - i + 0 + j ≤ m by omega) (show m + 0 + j ≤ l.length by omega)]
      repeat' split
      all_goals first
        | (exfalso; omega)
        | (congr 1; omega)
        | rfl
    · rw [at0_rot m F i (j - i) _ k h1 (by omega) (by omega) h4 (by simp; omega)]
      simp only [at0_swapR (m - i) (m + j - i) i 0 l _ (show m - i + 0 + i ≤ m + j - i by omega) (show m + j - i + 0 + i ≤ l.length by omega)]
      repeat' split
      all_goals first
        | (exfalso; omega)
        | (congr 1; omega)
        | rfl

theorem cl_args (n : Nat) (x y z : Int) (f : FuncId) {post : List AV} (h : ∀ c ∈ post, c.closed) : ∀ a ∈ [AV.arr 0 0 0 n, .v (.int .i64 x), .v (.int .i64 y), .v (.int .i64 z), .clo f [] post], (strip a).closed := by
  intro c hc
  simp at hc
  rcases hc with rfl | rfl | rfl | rfl | rfl
  · exact .dead
  · exact .v _
  · exact .v _
  · exact .v _
  · exact .clo _ _ _ (by simp) h
theorem cl_args2 (n : Nat) (x y : Int) (f : FuncId) {post : List AV} (h : ∀ c ∈ post, c.closed) : ∀ a ∈ [AV.arr 0 0 0 n, .v (.int .i64 x), .v (.int .i64 y), .clo f [] post], (strip a).closed := by
  intro c hc
  simp at hc
  rcases hc with rfl | rfl | rfl | rfl
  · exact .dead
  · exact .v _
  · exact .v _
  · exact .clo _ _ _ (by simp) h

set_option maxHeartbeats 4000000 in
set_option maxRecDepth 10000 in
theorem s_rotate (l : List Int) (hl : l.length ≤ 1000) (a m b : Nat) (ha : a < m) (hm : m < b) (hb : b ≤ l.length) (f : FuncId) (post : List AV) (bs : List (List AV)) (hst : Stab bs) (hs2 : StabA post) (hcl : ∀ cs ∈ bs, ∀ c ∈ cs, c.closed) (hcp : ∀ c ∈ post, c.closed) :
    OCallB Tryz.prog 262 bs (some (2, l.map intCells)) [.arr 0 0 0 l.length, .v (.int .i64 a), .v (.int .i64 m), .v (.int .i64 b), .clo f [] post]
      (some (true, 2, (rotL m (b - a) (m - a) (b - m) l).map intCells)) (.tup []) := by
  refine own_of_codeB (G := Gob bs.length 999) (versob _ _) mixed0 Tryz.func262 rfl (by decide) (by simp [Tryz.f262]) (fun k hk => by simpa [Gob] using hk) 0 (by simp) (by intro s e es h; cases h; exact fr_int _) ?_
  simp only [Tryz.f262, Gob, inArrs_some]
  obtain ⟨R, hR⟩ : ∃ R, R = rotL m (b - a) (m - a) (b - m) l := ⟨_, rfl⟩
  rw [← hR]
  have es := hs2
  unfold StabA at es
  have w1 : IntKind.i64.wrap ((m : Int) - (a : Int)) = ((m - a : Nat) : Int) := by rw [IntWalk.i64_in _ (by omega)]; omega
  have w2 : IntKind.i64.wrap ((b : Int) - (m : Int)) = ((b - m : Nat) : Int) := by rw [IntWalk.i64_in _ (by omega)]; omega
  simp [w1, w2]
  refine aloop (α := Nat × Nat × Nat × List Int) (fun d => ⟨envOf [(0, .arr 0 0 0 l.length), (2, .v (.int .i64 m)), (4, .clo f [] post), (10, .v (.int .i64 d.2.1)), (11, .v (.int .i64 d.2.2.1))], ⟨bs, arr1 0 0 2 (d.2.2.2.map intCells)⟩⟩)
    (fun d => 0 < d.2.1 ∧ 0 < d.2.2.1 ∧ d.2.1 ≤ m ∧ m + d.2.2.1 ≤ l.length ∧ d.2.1 + d.2.2.1 ≤ d.1 ∧ d.2.2.2.length = l.length ∧ rotL m d.1 d.2.1 d.2.2.1 d.2.2.2 = R) (fun d => d.1) (b - a, m - a, b - m, l) (less_envOf (by simp) rfl fun _ => rfl) ⟨by simp only; omega, by simp only; omega, by simp only; omega, by simp only; omega, by simp only; omega, rfl, hR.symm⟩ ?_
  rintro ⟨F, i, j, q⟩ ⟨e1, e2, e3, e4, e5, e6, e7⟩
  simp only at e1 e2 e3 e4 e5 e6 e7 ⊢
  obtain ⟨F, rfl⟩ : ∃ k, F = k + 1 := ⟨F - 1, by omega⟩
  rw [rotL] at e7
  have w3 : IntKind.i64.wrap ((m : Int) - (i : Int)) = ((m - i : Nat) : Int) := by rw [IntWalk.i64_in _ (by omega)]; omega
  by_cases hij : i = j
  · rw [if_pos hij] at e7
    subst hij
    have hc := s_swapR q (by omega) (m - i) m i (by omega) (by omega) f post bs
    rw [e7, e6] at hc
    simp [w3]
    refine call_sb 0 0 2 (q.map intCells) (by simp) hc (stab_O hst _ _) (by simp [e6]) (cl_args _ _ _ _ _ hcp) hcl (cl_int q) ?_
    simp
  rw [if_neg hij] at e7
  have hijc : ¬ (i : Int) = (j : Int) := by omega
  by_cases hlt : j < i
  · rw [if_pos hlt] at e7
    have hc := s_swapR q (by omega) (m - i) m j (by omega) (by omega) f post bs
    rw [e6] at hc
    have w4 : IntKind.i64.wrap ((i : Int) - (j : Int)) = ((i - j : Nat) : Int) := by rw [IntWalk.i64_in _ (by omega)]; omega
    simp [hijc, hlt, w3]
    refine call_sb 0 0 2 (q.map intCells) (by simp) hc (stab_O hst _ _) (by simp [e6]) (cl_args _ _ _ _ _ hcp) hcl (cl_int q) ?_
    simp
    exact ⟨F, i - j, j, swapRL (m - i) m j 0 q, less_envOf (by simp [w4]) rfl (by simp [arr1_put]), ⟨by omega, e2, by omega, e4, by omega, by simp [e6], e7⟩, by omega⟩
  · rw [if_neg hlt] at e7
    have hc := s_swapR q (by omega) (m - i) (m + j - i) i (by omega) (by omega) f post bs
    rw [e6] at hc
    have w4 : IntKind.i64.wrap ((j : Int) - (i : Int)) = ((j - i : Nat) : Int) := by rw [IntWalk.i64_in _ (by omega)]; omega
    have w5 : IntKind.i64.wrap ((m : Int) + (j : Int)) = ((m + j : Nat) : Int) := by rw [IntWalk.i64_in _ (by omega)]; omega
    have w6 : IntKind.i64.wrap ((m : Int) + (j : Int) - (i : Int)) = ((m + j - i : Nat) : Int) := by rw [IntWalk.i64_in _ (by omega)]; omega
    simp [hijc, hlt, w3, w5, w6]
    refine call_sb 0 0 2 (q.map intCells) (by simp) hc (stab_O hst _ _) (by simp [e6]) (cl_args _ _ _ _ _ hcp) hcl (cl_int q) ?_
    simp
    exact ⟨F, i, j - i, swapRL (m - i) (m + j - i) i 0 q, less_envOf (by simp [w4]) rfl (by simp [arr1_put]), ⟨e1, by omega, e3, by omega, by omega, by simp [e6], e7⟩, by omega⟩

end Go.Proofs.YtokhnmchnfkiiaaGreat.Am

/- slices.SortStableFunc at numbers, third part: the plain laws of symMerge. No conditions. -/
namespace Go.Proofs.YtokhnmchnfkiiaaGreat.Am
open Go Go.RowKit Go.Proofs
set_option linter.unusedSimpArgs false
set_option linter.unusedVariables false

/-- x comes before y: of two numbers the later one comes first if B says so. -/
def RB (B : Int → Int → Bool) (x y : Int) : Prop := if x < y then B y x = false else B x y = true
structure Mv (l l' : List Int) (a b : Nat) : Prop where
  perm : l'.Perm l
  out : ∀ k, ¬ (a ≤ k ∧ k < b) → at0 l' k = at0 l k
  inn : ∀ k, a ≤ k → k < b → ∃ k2, a ≤ k2 ∧ k2 < b ∧ at0 l' k = at0 l k2
theorem Mv.refl (l : List Int) (a b : Nat) : Mv l l a b := ⟨List.Perm.refl l, fun _ _ => rfl, fun k h1 h2 => ⟨k, h1, h2, rfl⟩⟩
theorem Mv.trans {l l1 l2 : List Int} {a b : Nat} (h : Mv l l1 a b) (g : Mv l1 l2 a b) : Mv l l2 a b := by
  refine ⟨g.perm.trans h.perm, fun k hk => (g.out k hk).trans (h.out k hk), fun k h1 h2 => ?_⟩
  obtain ⟨k2, q1, q2, q3⟩ := g.inn k h1 h2
  obtain ⟨k3, r1, r2, r3⟩ := h.inn k2 q1 q2
  exact ⟨k3, r1, r2, q3.trans r3⟩
theorem Mv.wide {l l1 : List Int} {a b a' b' : Nat} (h : Mv l l1 a b) (ha : a' ≤ a) (hb : b ≤ b') : Mv l l1 a' b' := by
  refine ⟨h.perm, fun k hk => h.out k (by omega), fun k h1 h2 => ?_⟩
  by_cases hk : a ≤ k ∧ k < b
  · obtain ⟨k2, q1, q2, q3⟩ := h.inn k hk.1 hk.2
    exact ⟨k2, by omega, by omega, q3⟩
  · exact ⟨k, h1, h2, h.out k hk⟩
def Srt (B : Int → Int → Bool) (l : List Int) (a b : Nat) : Prop := ∀ i j, a ≤ i → i < j → j < b → RB B (at0 l i) (at0 l j)
/-- Between a and m, m and b it is sorted; what lies ahead of m is less in number. -/
structure Two (B : Int → Int → Bool) (l : List Int) (a m b : Nat) : Prop where
  left : Srt B l a m
  right : Srt B l m b
  less : ∀ i j, a ≤ i → i < m → m ≤ j → j < b → at0 l i < at0 l j
theorem rb_false {B : Int → Int → Bool} {x y : Int} (h : x < y) : RB B x y ↔ B y x = false := by simp [RB, h]
theorem rb_true {B : Int → Int → Bool} {x y : Int} (h : x < y) : RB B y x ↔ B y x = true := by
  have : ¬ y < x := by omega
  simp [RB, this]
theorem rb_le {B : Int → Int → Bool} {l : List Int} {a b : Nat} (h : Srt B l a b) {i j : Nat} (h1 : a ≤ i) (h2 : i ≤ j) (h3 : j < b) : at0 l i = at0 l j ∨ RB B (at0 l i) (at0 l j) := by
  by_cases e : i = j
  · exact .inl (by rw [e])
  · exact .inr (h i j h1 (by omega) h3)
theorem at0_mem {l : List Int} {i : Nat} (h : i < l.length) : at0 l i ∈ l := by rw [at0_get h]; exact List.getElem_mem h

def Tr (B : Int → Int → Bool) (l : List Int) : Prop := ∀ x ∈ l, ∀ y ∈ l, ∀ z ∈ l, RB B x y → RB B y z → RB B x z
theorem Tr.perm {B : Int → Int → Bool} {l l' : List Int} (h : Tr B l) (p : l'.Perm l) : Tr B l' := fun x hx y hy z hz => h x (p.mem_iff.1 hx) y (p.mem_iff.1 hy) z (p.mem_iff.1 hz)
/-- x is y or comes before it, y before z, z is w or comes before it. -/
theorem Tr.chain {B : Int → Int → Bool} {l : List Int} (h : Tr B l) {x y z w : Int} (hx : x ∈ l) (hy : y ∈ l) (hz : z ∈ l) (hw : w ∈ l) (h1 : x = y ∨ RB B x y) (h2 : RB B y z) (h3 : z = w ∨ RB B z w) : RB B x w := by
  have e1 : RB B x z := by
    rcases h1 with rfl | h1
    · exact h2
    · exact h x hx y hy z hz h1 h2
  rcases h3 with rfl | h3
  · exact e1
  · exact h x hx z hz w hw e1 h3

def upL : Nat → Nat → List Int → List Int
  | 0, _, l => l
  | c + 1, k, l => upL c (k + 1) (swapL l k (k + 1))
def downL : Nat → Nat → List Int → List Int
  | 0, _, l => l
  | c + 1, k, l => downL c (k - 1) (swapL l k (k - 1))
@[simp] theorem upL_length : ∀ (c k : Nat) (l : List Int), (upL c k l).length = l.length
  | 0, _, _ => rfl
  | c + 1, k, l => by rw [upL, upL_length c]; simp
@[simp] theorem downL_length : ∀ (c k : Nat) (l : List Int), (downL c k l).length = l.length
  | 0, _, _ => rfl
  | c + 1, k, l => by rw [downL, downL_length c]; simp
theorem upL_perm : ∀ (c k : Nat) (l : List Int), k + c < l.length → (upL c k l).Perm l
  | 0, _, l, _ => List.Perm.refl l
  | c + 1, k, l, h => by
    rw [upL]
    exact (upL_perm c (k + 1) _ (by simp; omega)).trans (swapL_perm (by omega) (by omega))
theorem downL_perm : ∀ (c k : Nat) (l : List Int), k < l.length → (downL c k l).Perm l
  | 0, _, l, _ => List.Perm.refl l
  | c + 1, k, l, h => by
    rw [downL]
    exact (downL_perm c (k - 1) _ (by simp; omega)).trans (swapL_perm (by omega) (by omega))
theorem at0_up : ∀ (c k : Nat) (l : List Int) (x : Nat), k + c < l.length → at0 (upL c k l) x = if k ≤ x ∧ x < k + c then at0 l (x + 1) else if x = k + c then at0 l k else at0 l x
  | 0, k, l, x, h => by
    rw [upL, if_neg (by omega)]
    split
    · congr 1
    · rfl
  | c + 1, k, l, x, h => by
    rw [upL, at0_up c (k + 1) _ x (by simp; omega)]
    simp only [at0_swap (show k < l.length by omega) (show k + 1 < l.length by omega)]
    repeat' split
    all_goals first
      | (exfalso; omega)
      | exact absurd trivial ‹¬True›
      | (congr 1; omega)
      | rfl
theorem at0_down : ∀ (c k : Nat) (l : List Int) (x : Nat), c ≤ k → k < l.length → at0 (downL c k l) x = if x + c = k then at0 l k else if k < x + c ∧ x ≤ k then at0 l (x - 1) else at0 l x
  | 0, k, l, x, h, h2 => by
    rw [downL]
    split
    · congr 1
    split
    · exfalso; omega
    · rfl
  | c + 1, k, l, x, h, h2 => by
    rw [downL, at0_down c (k - 1) _ x (by omega) (by simp; omega)]
    simp only [at0_swap (show k < l.length by omega) (show k - 1 < l.length by omega)]
    repeat' split
    all_goals first
      | (exfalso; omega)
      | exact absurd trivial ‹¬True›
      | (congr 1; omega)
      | rfl

/-- One number is put into a sorted part behind it. -/
theorem one_left {B : Int → Int → Bool} {l : List Int} {a b p : Nat} (hb : b ≤ l.length) (h : Two B l a (a + 1) b) (hp1 : a + 1 ≤ p) (hp2 : p ≤ b)
    (h1 : ∀ k, a + 1 ≤ k → k < p → B (at0 l k) (at0 l a) = true) (h2 : ∀ k, p ≤ k → k < b → B (at0 l k) (at0 l a) = false) : Mv l (upL (p - 1 - a) a l) a b ∧ Srt B (upL (p - 1 - a) a l) a b := by
  have hat := fun x => at0_up (p - 1 - a) a l x (by omega)
  refine ⟨⟨upL_perm _ _ _ (by omega), fun k hk => ?_, fun k q1 q2 => ?_⟩, fun i j q1 q2 q3 => ?_⟩
  · rw [hat, if_neg (by omega), if_neg (by omega)]
  · rw [hat]
    split
    · exact ⟨k + 1, by omega, by omega, rfl⟩
    split
    · exact ⟨a, by omega, by omega, rfl⟩
    · exact ⟨k, q1, q2, rfl⟩
  · rw [hat, hat]
    by_cases c1 : i < p - 1
    · rw [if_pos (by omega)]
      by_cases c2 : j < p - 1
      · rw [if_pos (by omega)]
        exact h.right _ _ (by omega) (by omega) (by omega)
      rw [if_neg (by omega)]
      by_cases c3 : j = p - 1
      · rw [if_pos (by omega)]
        exact (rb_true (h.less a (i + 1) (by omega) (by omega) (by omega) (by omega))).2 (h1 _ (by omega) (by omega))
      · rw [if_neg (by omega)]
        exact h.right _ _ (by omega) (by omega) (by omega)
    · rw [if_neg (by omega), if_neg (show ¬ (a ≤ j ∧ j < a + (p - 1 - a)) by omega), if_neg (show ¬ j = a + (p - 1 - a) by omega)]
      by_cases c3 : i = p - 1
      · rw [if_pos (by omega)]
        exact (rb_false (h.less a j (by omega) (by omega) (by omega) (by omega))).2 (h2 _ (by omega) (by omega))
      · rw [if_neg (by omega)]
        exact h.right _ _ (by omega) (by omega) (by omega)
/-- One number is put into a sorted part ahead of it. -/
theorem one_right {B : Int → Int → Bool} {l : List Int} {a m p : Nat} (hb : m + 1 ≤ l.length) (h : Two B l a m (m + 1)) (hp1 : a ≤ p) (hp2 : p ≤ m)
    (h1 : ∀ k, a ≤ k → k < p → B (at0 l m) (at0 l k) = false) (h2 : ∀ k, p ≤ k → k < m → B (at0 l m) (at0 l k) = true) : Mv l (downL (m - p) m l) a (m + 1) ∧ Srt B (downL (m - p) m l) a (m + 1) := by
  have hat := fun x => at0_down (m - p) m l x (by omega) (by omega)
  refine ⟨⟨downL_perm _ _ _ (by omega), fun k hk => ?_, fun k q1 q2 => ?_⟩, fun i j q1 q2 q3 => ?_⟩
  · rw [hat, if_neg (by omega), if_neg (by omega)]
  · rw [hat]
    split
    · exact ⟨m, by omega, by omega, rfl⟩
    split
    · exact ⟨k - 1, by omega, by omega, rfl⟩
    · exact ⟨k, q1, q2, rfl⟩
  · rw [hat, hat]
    by_cases c1 : i < p
    · rw [if_neg (show ¬ i + (m - p) = m by omega), if_neg (show ¬ (m < i + (m - p) ∧ i ≤ m) by omega)]
      by_cases c2 : j = p
      · rw [if_pos (by omega)]
        exact (rb_false (h.less i m (by omega) (by omega) (by omega) (by omega))).2 (h1 _ (by omega) (by omega))
      rw [if_neg (by omega)]
      split
      · exact h.left _ _ (by omega) (by omega) (by omega)
      · exact h.left _ _ (by omega) (by omega) (by omega)
    · rw [if_neg (show ¬ j + (m - p) = m by omega), if_pos (show m < j + (m - p) ∧ j ≤ m by omega)]
      by_cases c3 : i = p
      · rw [if_pos (by omega)]
        exact (rb_true (h.less (j - 1) m (by omega) (by omega) (by omega) (by omega))).2 (h2 _ (by omega) (by omega))
      · rw [if_neg (by omega), if_pos (by omega)]
        exact h.left _ _ (by omega) (by omega) (by omega)

end Go.Proofs.YtokhnmchnfkiiaaGreat.Am
