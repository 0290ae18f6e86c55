import Derived.Test.YtokhnmchnfkiiaaGreatAmCg11
/- The old and the new package of a name; the names that go with a name, by both sides. No conditions. -/
namespace Go.Proofs.YtokhnmchnfkiiaaGreat.Am
open Go Go.RowKit Go.Proofs
set_option linter.unusedSimpArgs false
set_option linter.unusedVariables false

def bothK (c : List Pk) (a b : List Int) (n : ByteArray) : List Int := [oneF c n a, oneF c n b]
def bothL (c : List Pk) (a b : List Int) (n : ByteArray) : List Pk := ((bothK c a b n).filter fun k => decide (0 ≤ k)).map (pkAt c)
theorem bothL_len (c : List Pk) (a b : List Int) (n : ByteArray) : (bothL c a b n).length ≤ 2 := by
  have := List.length_filter_le (fun k => decide ((0 : Int) ≤ k)) (bothK c a b n)
  simpa [bothL, bothK] using this
theorem bothL_ok {c : List Pk} {a b : List Int} (hc : CatOk c) (ha : Places c.length a) (hb : Places c.length b) (n : ByteArray) : CatOk (bothL c a b n) := by
  intro p hp
  simp only [bothL, List.mem_map, List.mem_filter, decide_eq_true_eq] at hp
  obtain ⟨k, ⟨hk, h0⟩, rfl⟩ := hp
  refine hc _ (pkAt_mem ?_)
  simp only [bothK, List.mem_cons, List.not_mem_nil, or_false] at hk
  rcases hk with rfl | rfl
  · exact (ha _ (oneF_mem c n a h0)).2
  · exact (hb _ (oneF_mem c n b h0)).2
theorem oneF_get {c : List Pk} {a : List Int} (ha : Places c.length a) {n : ByteArray} (h : 0 ≤ oneF c n a) : c[(oneF c n a).toNat]? = some (pkAt c (oneF c n a)) := pkAt_get (ha _ (oneF_mem c n a h)).2

set_option maxHeartbeats 4000000 in
theorem p_l5both (d k : Bool) (c : List Pk) (a b : List Int) (ha : Places c.length a) (hb : Places c.length b) (hal : a.length ≤ 4611686018427387904) (hbl : b.length ≤ 4611686018427387904) (n : ByteArray) :
    Pure Tryz.prog 188 [pksAV d false c, intsAV k a, intsAV k b, .v (.string n)] (pksAV false false (bothL c a b n)) := by
  have q1 := p_one d false k c a hal ha n
  have q2 := p_one d false k c b hbl hb n
  refine pure_of_code (G := (Go1 12)) (verso 12) mixed0 Tryz.func188 rfl (by decide) (by simp [Tryz.f188]) (by simp) fun ver => ?_
  simp only [Tryz.f188, Go1]
  simp [Mem.made, sealRows, sealCells, List.range_succ]
  refine call_p q1 (by simp) ?_
  by_cases h1 : 0 ≤ oneF c n a
  · have g1 := oneF_get ha h1
    simp [h1, g1, aappend, sealRows, sealCells, List.range_succ]
    refine call_p q2 (by simp) ?_
    by_cases h2 : 0 ≤ oneF c n b
    · have g2 := oneF_get hb h2
      simp [h1, g1, h2, g2, aappend, sealRows, sealCells, List.range_succ, bothL, bothK]
    · simp [h1, h2, bothL, bothK]
  · simp [h1]
    refine call_p q2 (by simp) ?_
    by_cases h2 : 0 ≤ oneF c n b
    · have g2 := oneF_get hb h2
      simp [h1, h2, g2, aappend, sealRows, sealCells, List.range_succ, bothL, bothK]
    · simp [h1, h2, bothL, bothK]

set_option maxHeartbeats 4000000 in
theorem q_both (d k : Bool) (c : List Pk) (a b : List Int) (ha : Places c.length a) (hb : Places c.length b) (hal : a.length ≤ 4611686018427387904) (hbl : b.length ≤ 4611686018427387904) (n : ByteArray) :
    Pure Tryz.prog 180 [pksAV d false c, intsAV k a, intsAV k b, .v (.string n)] (pksAV false false (bothL c a b n)) := by
  have q1 := q_named d false k c a hal ha n
  have q2 := q_named d false k c b hbl hb n
  obtain ⟨K, hK⟩ : ∃ K, K = bothK c a b n := ⟨_, rfl⟩
  have hKl : K.length = 2 := by rw [hK]; rfl
  have hKc : [[AV.v (.int .i64 (oneF c n a))], [AV.v (.int .i64 (oneF c n b))]] = K.map intCells := by rw [hK]; rfl
  have hKg : ∀ x ∈ K, 0 ≤ x → c[x.toNat]? = some (pkAt c x) := by
    intro x hx h0
    rw [hK] at hx
    simp only [bothK, List.mem_cons, List.not_mem_nil, or_false] at hx
    rcases hx with rfl | rfl
    · exact oneF_get ha h0
    · exact oneF_get hb h0
  have hB : bothL c a b n = (K.filter fun k => decide (0 ≤ k)).map (pkAt c) := by rw [hK]; rfl
  obtain ⟨B, hB2⟩ : ∃ B, B = bothL c a b n := ⟨_, rfl⟩
  rw [← hB2]
  rw [← hB2] at hB
  clear hB2
  refine pure_of_code (G := (Go1 12)) (verso 12) mixed0 Tryz.func180 rfl (by decide) (by simp [Tryz.f180]) (by simp) fun ver => ?_
  simp only [Tryz.f180, Go1]
  simp [Mem.made, sealRows, sealCells, List.range_succ]
  refine call_p q1 (by simp) ?_
  simp
  refine call_p q2 (by simp) ?_
  simp [sealRows, sealCells, List.range_succ, hKc]
  clear hK hKc
  refine aloop (α := Nat × Nat × List Pk) (fun q => ⟨envOf [(0, pksAV d false c), (9, .arr 12 q.2.1 0 q.2.2.length), (21, intsAV false K), (22, .v (.int .i64 K.length)), (23, .v (.int .i64 q.1))], ⟨[], arrG 12 ver q.2.1 67 (q.2.2.map (Pk.cells false))⟩⟩)
    (fun q => q.1 ≤ K.length ∧ q.2.2.length ≤ q.1 ∧ q.2.2 ++ ((K.drop q.1).filter fun k => decide (0 ≤ k)).map (pkAt c) = B) (fun q => K.length - q.1) (0, ver 12 + 1, []) (less_envOf (by simp [hKl]) rfl (by intro j; simp [arrG, noArrs])) ⟨by simp, by simp, by simpa using hB.symm⟩ ?_
  rintro ⟨i, v, out⟩ ⟨h1, h2, h3⟩
  simp only at h1 h2 h3 ⊢
  by_cases hlt : i < K.length
  · have hw := wrapS hlt (by omega)
    rw [drop_get hlt, List.filter_cons] at h3
    simp [hlt]
    by_cases h0 : 0 ≤ K[i]
    · have hg := hKg _ (List.getElem_mem hlt) h0
      rw [if_pos (by simpa using h0)] at h3
      have h0n : ¬ K[i] < 0 := by omega
      have hro : (out.length + 1) * 120 ≤ 140737488355328 := by omega
      simp [h0, h0n, hg, aappend, arrG, sealRows, sealCells, List.range_succ, hro]
      refine ⟨i + 1, v + 1, out ++ [pkAt c K[i]], less_envOf (by simp [hw]) rfl ?_, ⟨by omega, by simp; omega, by simpa using h3⟩, by omega⟩
      intro j
      by_cases hj : j = 12 <;> simp [hj, arrG]
    · rw [if_neg (by simpa using h0)] at h3
      have h0n : K[i] < 0 := by omega
      simp [h0, h0n]
      exact ⟨i + 1, v, out, less_envOf (by simp [hw]) rfl fun _ => rfl, ⟨by omega, by omega, by simpa using h3⟩, by omega⟩
  · have e : i = K.length := by omega
    subst e
    rw [List.drop_eq_nil_of_le (by omega), List.filter_nil, List.map_nil, List.append_nil] at h3
    simp [arrG, h3]

end Go.Proofs.YtokhnmchnfkiiaaGreat.Am

/- The names that go with a name, by both sides; NamesOf. No conditions. -/
namespace Go.Proofs.YtokhnmchnfkiiaaGreat.Am
open Go Go.RowKit Go.Proofs
set_option linter.unusedSimpArgs false
set_option linter.unusedVariables false

noncomputable def nmsL (c : List Pk) (a b : List Int) (n : ByteArray) : List ByteArray := putS [n] ((bothL c a b n).flatMap Pk.pr)
theorem nmsL_put (c : List Pk) (a b : List Int) (n : ByteArray) : putS [] (n :: (bothL c a b n).flatMap Pk.pr) = nmsL c a b n := rfl
theorem prs_len {B : List Pk} (h : CatOk B) : (B.flatMap Pk.pr).length ≤ 4 * B.length := by
  induction B with
  | nil => simp
  | cons p r ih =>
    have h1 := (h p (by simp)).1
    have h2 := ih fun x hx => h x (by simp [hx])
    rw [List.flatMap_cons, List.length_append, List.length_cons]
    omega
theorem nmsL_len {c : List Pk} {a b : List Int} (hc : CatOk c) (ha : Places c.length a) (hb : Places c.length b) (n : ByteArray) : (nmsL c a b n).length ≤ 9 := by
  have h1 := putS_len ((bothL c a b n).flatMap Pk.pr) [n]
  have h2 := prs_len (bothL_ok hc ha hb n)
  have h3 := bothL_len c a b n
  simp only [List.length_cons, List.length_nil] at h1
  unfold nmsL
  omega

set_option maxHeartbeats 4000000 in
set_option maxRecDepth 10000 in
theorem p_l5names (d k : Bool) (c : List Pk) (hc : CatOk c) (a b : List Int) (ha : Places c.length a) (hb : Places c.length b) (hal : a.length ≤ 4611686018427387904) (hbl : b.length ≤ 4611686018427387904) (n : ByteArray) :
    Pure Tryz.prog 114 [pksAV d false c, intsAV k a, intsAV k b, .v (.string n)] (.sl false ((nmsL c a b n).map strCells)) := by
  have hboth := p_l5both d k c a b ha hb hal hbl n
  obtain ⟨T, hT⟩ : ∃ T, T = nmsL c a b n := ⟨_, rfl⟩
  rw [← hT]
  have hB1 := bothL_len c a b n
  have hB2 := bothL_ok hc ha hb n
  have hT2 : T = putS [n] ((bothL c a b n).flatMap Pk.pr) := hT
  obtain ⟨B, hB⟩ : ∃ B, B = bothL c a b n := ⟨_, rfl⟩
  rw [← hB] at hboth hB1 hB2 hT2
  clear hB hT
  refine pure_of_code (G := (G0)) vers0 mixed0 Tryz.func114 rfl (by decide) (by simp [Tryz.f114]) (by simp) fun ver => ?_
  simp only [Tryz.f114, G0]
  simp [sealRows, sealCells, List.range_succ]
  refine call_p hboth (by simp) ?_
  simp
  refine aloop (α := Nat × List ByteArray) (fun q => ⟨envOf [(9, .sl false (q.2.map strCells)), (10, pksAV false false B), (11, .v (.int .i64 q.1))], ⟨[], noArrs ver⟩⟩)
    (fun q => q.1 ≤ B.length ∧ Rise q.2 ∧ q.2.length ≤ 1 + 4 * q.1 ∧ putS q.2 ((B.drop q.1).flatMap Pk.pr) = T) (fun q => B.length - q.1) (0, [n]) (less_envOf (by simp) rfl fun _ => rfl) ⟨by simp, by simp [Rise], by simp, by simpa using hT2.symm⟩ ?_
  rintro ⟨i, out⟩ ⟨h1, h2, h3, h4⟩
  simp only at h1 h2 h3 h4 ⊢
  by_cases hlt : i < B.length
  · have hw := wrapS hlt (by omega)
    have hq := (hB2 _ (List.getElem_mem hlt)).1
    rw [drop_get hlt, List.flatMap_cons] at h4
    simp [hlt]
    refine aloop (α := Nat × List ByteArray) (fun q => ⟨envOf [(9, .sl false (q.2.map strCells)), (10, pksAV false false B), (11, .v (.int .i64 i)), (12, .v (.int .i64 q.1))], ⟨[], noArrs ver⟩⟩)
      (fun q => q.1 ≤ B[i].pr.length ∧ Rise q.2 ∧ q.2.length ≤ 1 + 4 * i + q.1 ∧ putS q.2 (B[i].pr.drop q.1 ++ (B.drop (i + 1)).flatMap Pk.pr) = T) (fun q => B[i].pr.length - q.1) (0, out) (less_envOf (by simp) rfl fun _ => rfl) ⟨by simp, h2, by simpa using h3, by simpa using h4⟩ ?_
    rintro ⟨j, o2⟩ ⟨g1, g2, g3, g4⟩
    simp only at g1 g2 g3 g4 ⊢
    by_cases hj : j < B[i].pr.length
    · have hwj := wrapS hj (by omega)
      rw [drop_get hj, List.cons_append, putS_cons] at g4
      simp [hlt, hj]
      refine call_p (p_l5put false o2 (by omega) g2 B[i].pr[j] (.inl rfl)) (by simp) ?_
      simp
      exact ⟨j + 1, insS B[i].pr[j] o2, less_envOf (by simp [hwj]) rfl fun _ => rfl, ⟨by omega, insS_rise _ g2, by have := insS_len B[i].pr[j] o2; omega, by simpa using g4⟩, by omega⟩
    · have e : j = B[i].pr.length := by omega
      rw [List.drop_eq_nil_of_le (by omega), List.nil_append] at g4
      simp [hlt, hj]
      exact ⟨i + 1, o2, less_envOf (by simp [hw]) rfl fun _ => rfl, ⟨by omega, g2, by omega, by simpa using g4⟩, by omega⟩
  · rw [List.drop_eq_nil_of_le (by omega), List.flatMap_nil, putS_nil] at h4
    simp [hlt, h4]

set_option maxHeartbeats 4000000 in
set_option maxRecDepth 10000 in
theorem q_namesO (d k : Bool) (c : List Pk) (hc : CatOk c) (a b : List Int) (ha : Places c.length a) (hb : Places c.length b) (hal : a.length ≤ 4611686018427387904) (hbl : b.length ≤ 4611686018427387904) (n : ByteArray) :
    OCall Tryz.prog 115 none [pksAV d false c, intsAV k a, intsAV k b, .v (.string n)] (some (false, 9, (nmsL c a b n).map strCells)) (.arr 0 0 0 (nmsL c a b n).length) := by
  have hboth := q_both d k c a b ha hb hal hbl n
  rw [← nmsL_put]
  have hB1 := bothL_len c a b n
  have hB2 := bothL_ok hc ha hb n
  obtain ⟨B, hB⟩ : ∃ B, B = bothL c a b n := ⟨_, rfl⟩
  rw [← hB] at hboth hB1 hB2 ⊢
  clear hB
  have hpl := prs_len hB2
  refine own_of_code (G := Go1 13) (verso 13) mixed0 Tryz.func115 rfl (by decide) (by simp [Tryz.f115]) 13 .dead (by intro s' e es h; cases h; exact fr_str _) ?_
  obtain ⟨ver, hver⟩ : ∃ ver : Nat → Nat, ver = fun _ => 0 := ⟨_, rfl⟩
  have hin : inArrs none = noArrs ver := by rw [hver]; rfl
  rw [hin]
  clear hin hver
  simp only [Tryz.f115, Go1]
  simp [Mem.made, sealRows, sealCells, List.range_succ]
  refine call_p hboth (by simp) ?_
  simp
  refine aloop (α := Nat × Nat × List ByteArray × List (List AV)) (fun q => ⟨envOf [(9, .arr 13 q.2.1 0 q.2.2.1.length), (18, pksAV false false B), (19, .v (.int .i64 B.length)), (20, .v (.int .i64 q.1))], ⟨q.2.2.2, arrW 13 q.2.1 9 (q.2.2.1.map strCells) ver⟩⟩)
    (fun q => q.1 ≤ B.length ∧ q.2.2.1.length ≤ 1 + 4 * q.1 ∧ q.2.2.1 ++ (B.drop q.1).flatMap Pk.pr = n :: B.flatMap Pk.pr) (fun q => B.length - q.1) (0, ver 13 + 1, [n], []) (less_envOf (by simp) (by simp) (by intro j; simp [arrW, noArrs])) ⟨by simp, by simp, by simp⟩ ?_
  rintro ⟨i, v, out, bx⟩ ⟨h1, h2, h3⟩
  simp only at h1 h2 h3 ⊢
  by_cases hlt : i < B.length
  · have hw := wrapS hlt (by omega)
    have hq := (hB2 _ (List.getElem_mem hlt)).1
    rw [drop_get hlt, List.flatMap_cons] at h3
    have hro : (out.length + B[i].pr.length) * 16 ≤ 140737488355328 := by omega
    simp [hlt, arrW, aappend, hro]
    refine ⟨i + 1, v + 1, out ++ B[i].pr, ⟨bx ++ [B[i].cells false], less_envOf (by simp [hw]) (by simp) ?_⟩, ⟨by omega, by simp; omega, by simpa using h3⟩, by omega⟩
    intro j
    by_cases h13 : j = 13 <;> simp [h13, arrW]
  · have e : i = B.length := by omega
    subst e
    rw [List.drop_eq_nil_of_le (by omega), List.flatMap_nil, List.append_nil] at h3
    rw [← h3]
    simp
    refine call_o 13 v 9 (out.map strCells) (by simp [arrW]) (o_sorted out (by omega)) (by simp [arrW]) (by simp) (fr_str _) ?_
    simp

/-- The code of NamesOf. -/
noncomputable def nmF (c : List Pk) (a b : List Int) (n : ByteArray) : Int := if deltaF c a b = 0 then (if memB n (chgF c a b) = true then 0 else 4) else deltaF c a b
noncomputable def nmN (c : List Pk) (a b : List Int) (n : ByteArray) : List ByteArray := if nmF c a b n = 0 then nmsL c a b n else []
theorem nmF_ok {c : List Pk} {a b : List Int} {n : ByteArray} (h : nmF c a b n = 0) : deltaF c a b = 0 ∧ memB n (chgF c a b) = true := by
  unfold nmF at h
  split at h
  · rename_i h1
    split at h
    · rename_i h2; exact ⟨h1, h2⟩
    · cases h
  · rename_i h1; exact (h1 h).elim

theorem q_changed (d f k : Bool) (c : List Pk) (hc : c.length ≤ 100000) (a b : List Int) (ha : Places c.length a) (hb : Places c.length b) (hal : a.length ≤ 1000) (hbl : b.length ≤ 1000) :
    Pure Tryz.prog 108 [pksAV d f c, intsAV k a, intsAV k b] (.sl false ((chgF c a b).map strCells)) := by
  have := OCall.pure (q_changedO d f k c hc a b ha hb hal hbl) (by simp) (by simp)
  simpa using this

theorem p_namesOf (d k : Bool) (c : List Pk) (hc : c.length ≤ 4611686018427387904) (hcl : ∀ p ∈ c, p.Len) (a b : List Int) (hal : a.length ≤ 4611686018427387904) (hbl : b.length ≤ 4611686018427387904) (n : ByteArray) :
    Pure Tryz.prog 58 [pksAV d false c, intsAV k a, intsAV k b, .v (.string n)] (.agg [.v (.int .i64 (nmF c a b n)), .sl false ((nmN c a b n).map strCells)]) := by
  refine pure_of_code (G := (G0)) vers0 mixed0 Tryz.func58 rfl (by decide) (by simp [Tryz.f58]) (by simp) fun ver => ?_
  simp only [Tryz.f58, G0]
  simp
  refine call_p (p_asked d false k k c hc hcl a b hal hbl) (by simp) ?_
  by_cases h : deltaF c a b = 0
  · obtain ⟨g1, g2, g3, g4, g5, g6⟩ := delta_facts h
    have hl := chgF_len c a b
    simp [h]
    refine call_p (p_l5changed d false k c (by omega) a b g3 g4 hal hbl) (by simp) ?_
    simp
    refine call_p (p_holds false (chgF c a b) (by omega) n) (by simp) ?_
    cases hm : memB n (chgF c a b) with
    | true =>
      simp
      refine call_p (p_l5names d k c g1 a b g3 g4 hal hbl n) (by simp) ?_
      simp [nmF, nmN, h, hm]
    | false => simp [nmF, nmN, h, hm]
  · simp [h, nmF, nmN]

theorem q_namesOfA (d k : Bool) (c : List Pk) (hc : c.length ≤ 4611686018427387904) (hcl : ∀ p ∈ c, p.Len) (a b : List Int) (hal : a.length ≤ 4611686018427387904) (hbl : b.length ≤ 4611686018427387904) (n : ByteArray) (h : nmF c a b n ≠ 0) :
    Pure Tryz.prog 59 [pksAV d false c, intsAV k a, intsAV k b, .v (.string n)] (.agg [.v (.int .i64 (nmF c a b n)), .sl false []]) := by
  refine pure_of_code (G := (G0)) vers0 mixed0 Tryz.func59 rfl (by decide) (by simp [Tryz.f59]) (by simp) fun ver => ?_
  simp only [Tryz.f59, G0]
  simp
  refine call_p (q_delta d false k k c hc hcl a b hal hbl) (by simp) ?_
  by_cases h0 : deltaF c a b = 0
  · obtain ⟨g1, g2, g3, g4, g5, g6⟩ := delta_facts h0
    have hl := chgF_len c a b
    have hm : memB n (chgF c a b) = false := by
      cases hm : memB n (chgF c a b) with
      | true => exact absurd (by simp [nmF, h0, hm]) h
      | false => rfl
    simp [h0]
    refine call_p (q_changed d false k c (by omega) a b g3 g4 (by omega) (by omega)) (by simp) ?_
    simp
    refine call_p (q_contains false (chgF c a b) (by omega) n) (by simp) ?_
    simp [hm, nmF, h0]
  · simp [h0, nmF]

theorem q_namesOfB (d k : Bool) (c : List Pk) (hc : c.length ≤ 4611686018427387904) (hcl : ∀ p ∈ c, p.Len) (a b : List Int) (hal : a.length ≤ 4611686018427387904) (hbl : b.length ≤ 4611686018427387904) (n : ByteArray) (h : nmF c a b n = 0) :
    OCall Tryz.prog 59 none [pksAV d false c, intsAV k a, intsAV k b, .v (.string n)] (some (false, 9, (nmsL c a b n).map strCells)) (.agg [.v (.int .i64 0), .arr 0 0 0 (nmsL c a b n).length]) := by
  obtain ⟨h0, hm⟩ := nmF_ok h
  obtain ⟨g1, g2, g3, g4, g5, g6⟩ := delta_facts h0
  have hl := chgF_len c a b
  refine own_of_code (G := Go1 33) (verso 33) mixed0 Tryz.func59 rfl (by decide) (by simp [Tryz.f59]) 33 (by simp) (by intro s e es h; cases h; exact fr_str _) ?_
  simp only [Tryz.f59, Go1, inArrs]
  simp
  refine call_p (q_delta d false k k c hc hcl a b hal hbl) (by simp) ?_
  simp [h0]
  refine call_p (q_changed d false k c (by omega) a b g3 g4 (by omega) (by omega)) (by simp) ?_
  simp
  refine call_p (q_contains false (chgF c a b) (by omega) n) (by simp) ?_
  simp [hm]
  refine call_n 33 (q_namesO d k c g1 a b g3 g4 hal hbl n) (by simp) ?_
  simp

end Go.Proofs.YtokhnmchnfkiiaaGreat.Am
