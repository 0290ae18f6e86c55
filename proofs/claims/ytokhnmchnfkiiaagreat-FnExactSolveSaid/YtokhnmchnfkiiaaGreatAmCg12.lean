import Derived.Test.YtokhnmchnfkiiaaGreatAmCg11
import Derived.Test.YtokhnmchnfkiiaaGreatAmCg8
import Derived.Test.YtokhnmchnfkiiaaGreatAmCg4
/- The old and the new package of a name; the names that go with a name, by both sides. No conditions. -/
namespace Go.Proofs.YtokhnmchnfkiiaaGreat.Am
open Go Go.RowKit Go.Proofs
set_option linter.unusedSimpArgs false
set_option linter.unusedVariables false

def bothK (c : List Pk) (a b : List Int) (n : ByteArray) : List Int := [oneF c n a, oneF c n b]
def bothL (c : List Pk) (a b : List Int) (n : ByteArray) : List Pk := ((bothK c a b n).filter fun k => decide (0 ≤ k)).map (pkAt c)
theorem bothL_len (c : List Pk) (a b : List Int) (n : ByteArray) : (bothL c a b n).length ≤ 2 := by
  have := List.length_filter_le (fun k => decide ((0 : Int) ≤ k)) (bothK c a b n)
  simpa [bothL, bothK] using this
theorem bothL_ok {c : List Pk} {a b : List Int} (hc : CatOk c) (ha : Places c.length a) (hb : Places c.length b) (n : ByteArray) : CatOk (bothL c a b n) := by
  intro p hp
  simp only [bothL, List.mem_map, List.mem_filter, decide_eq_true_eq] at hp
  obtain ⟨k, ⟨hk, h0⟩, rfl⟩ := hp
  refine hc _ (pkAt_mem ?_)
  simp only [bothK, List.mem_cons, List.not_mem_nil, or_false] at hk
  rcases hk with rfl | rfl
  · exact (ha _ (oneF_mem c n a h0)).2
  · exact (hb _ (oneF_mem c n b h0)).2
theorem oneF_get {c : List Pk} {a : List Int} (ha : Places c.length a) {n : ByteArray} (h : 0 ≤ oneF c n a) : c[(oneF c n a).toNat]? = some (pkAt c (oneF c n a)) := pkAt_get (ha _ (oneF_mem c n a h)).2

set_option maxHeartbeats 4000000 in
theorem p_l5both (d k : Bool) (c : List Pk) (a b : List Int) (ha : Places c.length a) (hb : Places c.length b) (hal : a.length ≤ 4611686018427387904) (hbl : b.length ≤ 4611686018427387904) (n : ByteArray) :
    Pure Tryz.prog 188 [pksAV d false c, intsAV k a, intsAV k b, .v (.string n)] (pksAV false false (bothL c a b n)) := by
  have q1 := p_one d false k c a hal ha n
  have q2 := p_one d false k c b hbl hb n
  refine pure_of_code (G := (Go1 12)) (verso 12) mixed0 Tryz.func188 rfl (by decide) (by simp [Tryz.f188]) (by simp) fun ver => ?_
  simp only [Tryz.f188, Go1]
  simp [Mem.made, sealRows, sealCells, List.range_succ]
  refine call_p q1 (by simp) ?_
  by_cases h1 : 0 ≤ oneF c n a
  · have g1 := oneF_get ha h1
    simp [h1, g1, aappend, sealRows, sealCells, List.range_succ]
    refine call_p q2 (by simp) ?_
    by_cases h2 : 0 ≤ oneF c n b
    · have g2 := oneF_get hb h2
      simp [h1, g1, h2, g2, aappend, sealRows, sealCells, List.range_succ, bothL, bothK]
    · simp [h1, h2, bothL, bothK]
  · simp [h1]
    refine call_p q2 (by simp) ?_
    by_cases h2 : 0 ≤ oneF c n b
    · have g2 := oneF_get hb h2
      simp [h1, h2, g2, aappend, sealRows, sealCells, List.range_succ, bothL, bothK]
    · simp [h1, h2, bothL, bothK]

set_option maxHeartbeats 4000000 in
theorem q_both (d k : Bool) (c : List Pk) (a b : List Int) (ha : Places c.length a) (hb : Places c.length b) (hal : a.length ≤ 4611686018427387904) (hbl : b.length ≤ 4611686018427387904) (n : ByteArray) :
    Pure Tryz.prog 180 [pksAV d false c, intsAV k a, intsAV k b, .v (.string n)] (pksAV false false (bothL c a b n)) := by
  have q1 := q_named d false k c a hal ha n
  have q2 := q_named d false k c b hbl hb n
  obtain ⟨K, hK⟩ : ∃ K, K = bothK c a b n := ⟨_, rfl⟩
  have hKl : K.length = 2 := by rw [hK]; rfl
  have hKc : [[AV.v (.int .i64 (oneF c n a))], [AV.v (.int .i64 (oneF c n b))]] = K.map intCells := by rw [hK]; rfl
  have hKg : ∀ x ∈ K, 0 ≤ x → c[x.toNat]? = some (pkAt c x) := by
    intro x hx h0
    rw [hK] at hx
    simp only [bothK, List.mem_cons, List.not_mem_nil, or_false] at hx
    rcases hx with rfl | rfl
    · exact oneF_get ha h0
    · exact oneF_get hb h0
  have hB : bothL c a b n = (K.filter fun k => decide (0 ≤ k)).map (pkAt c) := by rw [hK]; rfl
  obtain ⟨B, hB2⟩ : ∃ B, B = bothL c a b n := ⟨_, rfl⟩
  rw [← hB2]
  rw [← hB2] at hB
  clear hB2
  refine pure_of_code (G := (Go1 12)) (verso 12) mixed0 Tryz.func180 rfl (by decide) (by simp [Tryz.f180]) (by simp) fun ver => ?_
  simp only [Tryz.f180, Go1]
  simp [Mem.made, sealRows, sealCells, List.range_succ]
  refine call_p q1 (by simp) ?_
  simp
  refine call_p q2 (by simp) ?_
  simp [sealRows, sealCells, List.range_succ, hKc]
  clear hK hKc
  refine aloop (α := Nat × Nat × List Pk) (fun q => ⟨envOf [(0, pksAV d false c), (9, .arr 12 q.2.1 0 q.2.2.length), (21, intsAV false K), (22, .v (.int .i64 K.length)), (23, .v (.int .i64 q.1))], ⟨[], arrG 12 ver q.2.1 67 (q.2.2.map (Pk.cells false))⟩⟩)
    (fun q => q.1 ≤ K.length ∧ q.2.2.length ≤ q.1 ∧ q.2.2 ++ ((K.drop q.1).filter fun k => decide (0 ≤ k)).map (pkAt c) = B) (fun q => K.length - q.1) (0, ver 12 + 1, []) (less_envOf (by simp [hKl]) rfl (by intro j; simp [arrG, noArrs])) ⟨by simp, by simp, by simpa using hB.symm⟩ ?_
  rintro ⟨i, v, out⟩ ⟨h1, h2, h3⟩
  simp only at h1 h2 h3 ⊢
  by_cases hlt : i < K.length
  · have hw := wrapS hlt (by omega)
    rw [drop_get hlt, List.filter_cons] at h3
    simp [hlt]
    by_cases h0 : 0 ≤ K[i]
    · have hg := hKg _ (List.getElem_mem hlt) h0
      rw [if_pos (by simpa using h0)] at h3
      have h0n : ¬ K[i] < 0 := by omega
      have hro : (out.length + 1) * 120 ≤ 140737488355328 := by omega
      simp [h0, h0n, hg, aappend, arrG, sealRows, sealCells, List.range_succ, hro]
      refine ⟨i + 1, v + 1, out ++ [pkAt c K[i]], less_envOf (by simp [hw]) rfl ?_, ⟨by omega, by simp; omega, by simpa using h3⟩, by omega⟩
      intro j
      by_cases hj : j = 12 <;> simp [hj, arrG]
    · rw [if_neg (by simpa using h0)] at h3
      have h0n : K[i] < 0 := by omega
      simp [h0, h0n]
      exact ⟨i + 1, v, out, less_envOf (by simp [hw]) rfl fun _ => rfl, ⟨by omega, by omega, by simpa using h3⟩, by omega⟩
  · have e : i = K.length := by omega
    subst e
    rw [List.drop_eq_nil_of_le (by omega), List.filter_nil, List.map_nil, List.append_nil] at h3
    simp [arrG, h3]

end Go.Proofs.YtokhnmchnfkiiaaGreat.Am

/- The names that go with a name, by both sides; NamesOf. No conditions. -/
namespace Go.Proofs.YtokhnmchnfkiiaaGreat.Am
open Go Go.RowKit Go.Proofs
set_option linter.unusedSimpArgs false
set_option linter.unusedVariables false

noncomputable def nmsL (c : List Pk) (a b : List Int) (n : ByteArray) : List ByteArray := putS [n] ((bothL c a b n).flatMap Pk.pr)
theorem nmsL_put (c : List Pk) (a b : List Int) (n : ByteArray) : putS [] (n :: (bothL c a b n).flatMap Pk.pr) = nmsL c a b n := rfl
theorem prs_len {B : List Pk} (h : CatOk B) : (B.flatMap Pk.pr).length ≤ 4 * B.length := by
  induction B with
  | nil => simp
  | cons p r ih =>
    have h1 := (h p (by simp)).1
    have h2 := ih fun x hx => h x (by simp [hx])
    rw [List.flatMap_cons, List.length_append, List.length_cons]
    omega
theorem nmsL_len {c : List Pk} {a b : List Int} (hc : CatOk c) (ha : Places c.length a) (hb : Places c.length b) (n : ByteArray) : (nmsL c a b n).length ≤ 9 := by
  have h1 := putS_len ((bothL c a b n).flatMap Pk.pr) [n]
  have h2 := prs_len (bothL_ok hc ha hb n)
  have h3 := bothL_len c a b n
  simp only [List.length_cons, List.length_nil] at h1
  unfold nmsL
  omega

set_option maxHeartbeats 4000000 in
set_option maxRecDepth 10000 in
theorem p_l5names (d k : Bool) (c : List Pk) (hc : CatOk c) (a b : List Int) (ha : Places c.length a) (hb : Places c.length b) (hal : a.length ≤ 4611686018427387904) (hbl : b.length ≤ 4611686018427387904) (n : ByteArray) :
    Pure Tryz.prog 114 [pksAV d false c, intsAV k a, intsAV k b, .v (.string n)] (.sl false ((nmsL c a b n).map strCells)) := by
  have hboth := p_l5both d k c a b ha hb hal hbl n
  obtain ⟨T, hT⟩ : ∃ T, T = nmsL c a b n := ⟨_, rfl⟩
  rw [← hT]
  have hB1 := bothL_len c a b n
  have hB2 := bothL_ok hc ha hb n
  have hT2 : T = putS [n] ((bothL c a b n).flatMap Pk.pr) := hT
  obtain ⟨B, hB⟩ : ∃ B, B = bothL c a b n := ⟨_, rfl⟩
  rw [← hB] at hboth hB1 hB2 hT2
  clear hB hT
  refine pure_of_code (G := (G0)) vers0 mixed0 Tryz.func114 rfl (by decide) (by simp [Tryz.f114]) (by simp) fun ver => ?_
  simp only [Tryz.f114, G0]
  simp [sealRows, sealCells, List.range_succ]
  refine call_p hboth (by simp) ?_
  simp
  refine aloop (α := Nat × List ByteArray) (fun q => ⟨envOf [(9, .sl false (q.2.map strCells)), (10, pksAV false false B), (11, .v (.int .i64 q.1))], ⟨[], noArrs ver⟩⟩)
    (fun q => q.1 ≤ B.length ∧ Rise q.2 ∧ q.2.length ≤ 1 + 4 * q.1 ∧ putS q.2 ((B.drop q.1).flatMap Pk.pr) = T) (fun q => B.length - q.1) (0, [n]) (less_envOf (by simp) rfl fun _ => rfl) ⟨by simp, by simp [Rise], by simp, by simpa using hT2.symm⟩ ?_
  rintro ⟨i, out⟩ ⟨h1, h2, h3, h4⟩
  simp only at h1 h2 h3 h4 ⊢
  by_cases hlt : i < B.length
  · have hw := wrapS hlt (by omega)
    have hq := (hB2 _ (List.getElem_mem hlt)).1
    rw [drop_get hlt, List.flatMap_cons] at h4
    simp [hlt]
    refine aloop (α := Nat × List ByteArray) (fun q => ⟨envOf [(9, .sl false (q.2.map strCells)), (10, pksAV false false B), (11, .v (.int .i64 i)), (12, .v (.int .i64 q.1))], ⟨[], noArrs ver⟩⟩)
      (fun q => q.1 ≤ B[i].pr.length ∧ Rise q.2 ∧ q.2.length ≤ 1 + 4 * i + q.1 ∧ putS q.2 (B[i].pr.drop q.1 ++ (B.drop (i + 1)).flatMap Pk.pr) = T) (fun q => B[i].pr.length - q.1) (0, out) (less_envOf (by simp) rfl fun _ => rfl) ⟨by simp, h2, by simpa using h3, by simpa using h4⟩ ?_
    rintro ⟨j, o2⟩ ⟨g1, g2, g3, g4⟩
    simp only at g1 g2 g3 g4 ⊢
    by_cases hj : j < B[i].pr.length
    · have hwj := wrapS hj (by omega)
      rw [drop_get hj, List.cons_append, putS_cons] at g4
      simp [hlt, hj]
      refine call_p (p_l5put false o2 (by omega) g2 B[i].pr[j] (.inl rfl)) (by simp) ?_
      simp
      exact ⟨j + 1, insS B[i].pr[j] o2, less_envOf (by simp [hwj]) rfl fun _ => rfl, ⟨by omega, insS_rise _ g2, by have := insS_len B[i].pr[j] o2; omega, by simpa using g4⟩, by omega⟩
    · have e : j = B[i].pr.length := by omega
      rw [List.drop_eq_nil_of_le (by omega), List.nil_append] at g4
      simp [hlt, hj]
      exact ⟨i + 1, o2, less_envOf (by simp [hw]) rfl fun _ => rfl, ⟨by omega, g2, by omega, by simpa using g4⟩, by omega⟩
  · rw [List.drop_eq_nil_of_le (by omega), List.flatMap_nil, putS_nil] at h4
    simp [hlt, h4]

set_option maxHeartbeats 4000000 in
set_option maxRecDepth 10000 in
theorem q_namesO (d k : Bool) (c : List Pk) (hc : CatOk c) (a b : List Int) (ha : Places c.length a) (hb : Places c.length b) (hal : a.length ≤ 4611686018427387904) (hbl : b.length ≤ 4611686018427387904) (n : ByteArray) :
    OCall Tryz.prog 115 none [pksAV d false c, intsAV k a, intsAV k b, .v (.string n)] (some (false, 9, (nmsL c a b n).map strCells)) (.arr 0 0 0 (nmsL c a b n).length) := by
  have hboth := q_both d k c a b ha hb hal hbl n
  rw [← nmsL_put]
  have hB1 := bothL_len c a b n
  have hB2 := bothL_ok hc ha hb n
  obtain ⟨B, hB⟩ : ∃ B, B = bothL c a b n := ⟨_, rfl⟩
  rw [← hB] at hboth hB1 hB2 ⊢
  clear hB
  have hpl := prs_len hB2
  refine own_of_code (G := Go1 13) (verso 13) mixed0 Tryz.func115 rfl (by decide) (by simp [Tryz.f115]) 13 .dead (by intro s' e es h; cases h; exact fr_str _) ?_
  obtain ⟨ver, hver⟩ : ∃ ver : Nat → Nat, ver = fun _ => 0 := ⟨_, rfl⟩
  have hin : inArrs none = noArrs ver := by rw [hver]; rfl
  rw [hin]
  clear hin hver
  simp only [Tryz.f115, Go1]
  simp [Mem.made, sealRows, sealCells, List.range_succ]
  refine call_p hboth (by simp) ?_
  simp
  refine aloop (α := Nat × Nat × List ByteArray × List (List AV)) (fun q => ⟨envOf [(9, .arr 13 q.2.1 0 q.2.2.1.length), (18, pksAV false false B), (19, .v (.int .i64 B.length)), (20, .v (.int .i64 q.1))], ⟨q.2.2.2, arrW 13 q.2.1 9 (q.2.2.1.map strCells) ver⟩⟩)
    (fun q => q.1 ≤ B.length ∧ q.2.2.1.length ≤ 1 + 4 * q.1 ∧ q.2.2.1 ++ (B.drop q.1).flatMap Pk.pr = n :: B.flatMap Pk.pr) (fun q => B.length - q.1) (0, ver 13 + 1, [n], []) (less_envOf (by simp) (by simp) (by intro j; simp [arrW, noArrs])) ⟨by simp, by simp, by simp⟩ ?_
  rintro ⟨i, v, out, bx⟩ ⟨h1, h2, h3⟩
  simp only at h1 h2 h3 ⊢
  by_cases hlt : i < B.length
  · have hw := wrapS hlt (by omega)
    have hq := (hB2 _ (List.getElem_mem hlt)).1
    rw [drop_get hlt, List.flatMap_cons] at h3
    have hro : (out.length + B[i].pr.length) * 16 ≤ 140737488355328 := by omega
    simp [hlt, arrW, aappend, hro]
    refine ⟨i + 1, v + 1, out ++ B[i].pr, ⟨bx ++ [B[i].cells false], less_envOf (by simp [hw]) (by simp) ?_⟩, ⟨by omega, by simp; omega, by simpa using h3⟩, by omega⟩
    intro j
    by_cases h13 : j = 13 <;> simp [h13, arrW]
  · have e : i = B.length := by omega
    subst e
    rw [List.drop_eq_nil_of_le (by omega), List.flatMap_nil, List.append_nil] at h3
    rw [← h3]
    simp
    refine call_o 13 v 9 (out.map strCells) (by simp [arrW]) (o_sorted out (by omega)) (by simp [arrW]) (by simp) (fr_str _) ?_
    simp

/-- The code of NamesOf. -/
noncomputable def nmF (c : List Pk) (a b : List Int) (n : ByteArray) : Int := if deltaF c a b = 0 then (if memB n (chgF c a b) = true then 0 else 4) else deltaF c a b
noncomputable def nmN (c : List Pk) (a b : List Int) (n : ByteArray) : List ByteArray := if nmF c a b n = 0 then nmsL c a b n else []
theorem nmF_ok {c : List Pk} {a b : List Int} {n : ByteArray} (h : nmF c a b n = 0) : deltaF c a b = 0 ∧ memB n (chgF c a b) = true := by
  unfold nmF at h
  split at h
  · rename_i h1
    split at h
    · rename_i h2; exact ⟨h1, h2⟩
    · cases h
  · rename_i h1; exact (h1 h).elim

theorem q_changed (d f k : Bool) (c : List Pk) (hc : c.length ≤ 100000) (a b : List Int) (ha : Places c.length a) (hb : Places c.length b) (hal : a.length ≤ 1000) (hbl : b.length ≤ 1000) :
    Pure Tryz.prog 108 [pksAV d f c, intsAV k a, intsAV k b] (.sl false ((chgF c a b).map strCells)) := by
  have := OCall.pure (q_changedO d f k c hc a b ha hb hal hbl) (by simp) (by simp)
  simpa using this

theorem p_namesOf (d k : Bool) (c : List Pk) (hc : c.length ≤ 4611686018427387904) (hcl : ∀ p ∈ c, p.Len) (a b : List Int) (hal : a.length ≤ 4611686018427387904) (hbl : b.length ≤ 4611686018427387904) (n : ByteArray) :
    Pure Tryz.prog 58 [pksAV d false c, intsAV k a, intsAV k b, .v (.string n)] (.agg [.v (.int .i64 (nmF c a b n)), .sl false ((nmN c a b n).map strCells)]) := by
  refine pure_of_code (G := (G0)) vers0 mixed0 Tryz.func58 rfl (by decide) (by simp [Tryz.f58]) (by simp) fun ver => ?_
  simp only [Tryz.f58, G0]
  simp
  refine call_p (p_asked d false k k c hc hcl a b hal hbl) (by simp) ?_
  by_cases h : deltaF c a b = 0
  · obtain ⟨g1, g2, g3, g4, g5, g6⟩ := delta_facts h
    have hl := chgF_len c a b
    simp [h]
    refine call_p (p_l5changed d false k c (by omega) a b g3 g4 hal hbl) (by simp) ?_
    simp
    refine call_p (p_holds false (chgF c a b) (by omega) n) (by simp) ?_
    cases hm : memB n (chgF c a b) with
    | true =>
      simp
      refine call_p (p_l5names d k c g1 a b g3 g4 hal hbl n) (by simp) ?_
      simp [nmF, nmN, h, hm]
    | false => simp [nmF, nmN, h, hm]
  · simp [h, nmF, nmN]

theorem q_namesOfA (d k : Bool) (c : List Pk) (hc : c.length ≤ 4611686018427387904) (hcl : ∀ p ∈ c, p.Len) (a b : List Int) (hal : a.length ≤ 4611686018427387904) (hbl : b.length ≤ 4611686018427387904) (n : ByteArray) (h : nmF c a b n ≠ 0) :
    Pure Tryz.prog 59 [pksAV d false c, intsAV k a, intsAV k b, .v (.string n)] (.agg [.v (.int .i64 (nmF c a b n)), .sl false []]) := by
  refine pure_of_code (G := (G0)) vers0 mixed0 Tryz.func59 rfl (by decide) (by simp [Tryz.f59]) (by simp) fun ver => ?_
  simp only [Tryz.f59, G0]
  simp
  refine call_p (q_delta d false k k c hc hcl a b hal hbl) (by simp) ?_
  by_cases h0 : deltaF c a b = 0
  · obtain ⟨g1, g2, g3, g4, g5, g6⟩ := delta_facts h0
    have hl := chgF_len c a b
    have hm : memB n (chgF c a b) = false := by
      cases hm : memB n (chgF c a b) with
      | true => exact absurd (by simp [nmF, h0, hm]) h
      | false => rfl
    simp [h0]
    refine call_p (q_changed d false k c (by omega) a b g3 g4 (by omega) (by omega)) (by simp) ?_
    simp
    refine call_p (q_contains false (chgF c a b) (by omega) n) (by simp) ?_
    simp [hm, nmF, h0]
  · simp [h0, nmF]

theorem q_namesOfB (d k : Bool) (c : List Pk) (hc : c.length ≤ 4611686018427387904) (hcl : ∀ p ∈ c, p.Len) (a b : List Int) (hal : a.length ≤ 4611686018427387904) (hbl : b.length ≤ 4611686018427387904) (n : ByteArray) (h : nmF c a b n = 0) :
    OCall Tryz.prog 59 none [pksAV d false c, intsAV k a, intsAV k b, .v (.string n)] (some (false, 9, (nmsL c a b n).map strCells)) (.agg [.v (.int .i64 0), .arr 0 0 0 (nmsL c a b n).length]) := by
  obtain ⟨h0, hm⟩ := nmF_ok h
  obtain ⟨g1, g2, g3, g4, g5, g6⟩ := delta_facts h0
  have hl := chgF_len c a b
  refine own_of_code (G := Go1 33) (verso 33) mixed0 Tryz.func59 rfl (by decide) (by simp [Tryz.f59]) 33 (by simp) (by intro s e es h; cases h; exact fr_str _) ?_
  simp only [Tryz.f59, Go1, inArrs]
  simp
  refine call_p (q_delta d false k k c hc hcl a b hal hbl) (by simp) ?_
  simp [h0]
  refine call_p (q_changed d false k c (by omega) a b g3 g4 (by omega) (by omega)) (by simp) ?_
  simp
  refine call_p (q_contains false (chgF c a b) (by omega) n) (by simp) ?_
  simp [hm]
  refine call_n 33 (q_namesO d k c g1 a b g3 g4 hal hbl n) (by simp) ?_
  simp

end Go.Proofs.YtokhnmchnfkiiaaGreat.Am

/- Names that are joined, as the reference finds them. No conditions. -/
namespace Go.Proofs.YtokhnmchnfkiiaaGreat.Am
open Go Go.RowKit Go.Proofs
set_option linter.unusedSimpArgs false
set_option linter.unusedVariables false

def shareB (a b : List ByteArray) : Bool := a.any fun x => memB x b
def clB (l : List Trm) (N : List ByteArray) : Bool := l.any fun t => memB t.n N
def bothB (x y : List ByteArray) (p : Pk) : Bool := p.ne.any fun l => clB l x && clB l y
noncomputable def saysB (c : List Pk) (a b : List Int) (n : ByteArray) (N : List ByteArray) : Bool := (bothL c a b n).any fun p => shareB (putS [] (mentT p)) N
def inClB (c : List Pk) (s : List Int) (x y : List ByteArray) : Bool := s.any fun k => bothB x y (pkAt c k)
noncomputable def joinB (c : List Pk) (a b : List Int) (m n : ByteArray) : Bool :=
  saysB c a b m (nmsL c a b n) || (saysB c a b n (nmsL c a b m) || (inClB c a (nmsL c a b m) (nmsL c a b n) || inClB c b (nmsL c a b m) (nmsL c a b n)))

theorem p_l5share (d e : Bool) (a b : List ByteArray) (ha : a.length ≤ 4611686018427387904) (hb : b.length ≤ 4611686018427387904) : Pure Tryz.prog 234 [strsAV d a, strsAV e b] (.v (.bool (shareB a b))) := by
  refine pure_of_code (G := (G0)) vers0 mixed0 Tryz.func234 rfl (by decide) (by simp [Tryz.f234]) (by simp) fun ver => ?_
  simp only [Tryz.f234, G0]
  simp
  refine aloop (α := Nat) (fun i => ⟨envOf [(0, strsAV d a), (1, strsAV e b), (5, .v (.int .i64 i))], ⟨[], noArrs ver⟩⟩)
    (fun i => i ≤ a.length ∧ shareB (a.drop i) b = shareB a b) (fun i => a.length - i) 0 (less_envOf (by simp) rfl fun _ => rfl) (by simp) ?_
  rintro i ⟨h1, h2⟩
  by_cases hlt : i < a.length
  · have hw := wrapS hlt ha
    rw [drop_get hlt, shareB, List.any_cons] at h2
    simp [hlt]
    refine call_p (p_holds e b hb a[i]) (by simp) ?_
    cases hm : memB a[i] b with
    | true =>
      simp
      simpa [hm] using h2
    | false =>
      simp
      exact ⟨i + 1, less_envOf (by simp [hw]) rfl fun _ => rfl, ⟨by omega, by simpa [hm, shareB] using h2⟩, by omega⟩
  · rw [List.drop_eq_nil_of_le (by omega)] at h2
    simp [hlt]
    simpa [shareB] using h2

theorem p_l5clause (d e : Bool) (l : List Trm) (N : List ByteArray) (hl : l.length ≤ 4611686018427387904) (hN : N.length ≤ 4611686018427387904) : Pure Tryz.prog 236 [trmsAV d l, strsAV e N] (.v (.bool (clB l N))) := by
  refine pure_of_code (G := (G0)) vers0 mixed0 Tryz.func236 rfl (by decide) (by simp [Tryz.f236]) (by simp) fun ver => ?_
  simp only [Tryz.f236, G0]
  simp
  refine aloop (α := Nat) (fun i => ⟨envOf [(0, trmsAV d l), (1, strsAV e N), (5, .v (.int .i64 i))], ⟨[], noArrs ver⟩⟩)
    (fun i => i ≤ l.length ∧ clB (l.drop i) N = clB l N) (fun i => l.length - i) 0 (less_envOf (by simp) rfl fun _ => rfl) (by simp) ?_
  rintro i ⟨h1, h2⟩
  by_cases hlt : i < l.length
  · have hw := wrapS hlt hl
    rw [drop_get hlt, clB, List.any_cons] at h2
    simp [hlt]
    refine call_p (p_holds e N hN l[i].n) (by simp) ?_
    cases hm : memB l[i].n N with
    | true =>
      simp
      simpa [hm] using h2
    | false =>
      simp
      exact ⟨i + 1, less_envOf (by simp [hw]) rfl fun _ => rfl, ⟨by omega, by simpa [hm, clB] using h2⟩, by omega⟩
  · rw [List.drop_eq_nil_of_le (by omega)] at h2
    simp [hlt]
    simpa [clB] using h2

theorem p_l5says (d k e : Bool) (c : List Pk) (hc : CatOk c) (a b : List Int) (ha : Places c.length a) (hb : Places c.length b) (hal : a.length ≤ 4611686018427387904) (hbl : b.length ≤ 4611686018427387904) (n : ByteArray) (N : List ByteArray) (hN : N.length ≤ 4611686018427387904) :
    Pure Tryz.prog 175 [pksAV d false c, intsAV k a, intsAV k b, .v (.string n), strsAV e N] (.v (.bool (saysB c a b n N))) := by
  have hboth := p_l5both d k c a b ha hb hal hbl n
  have hB1 := bothL_len c a b n
  have hB2 := bothL_ok hc ha hb n
  obtain ⟨T, hT⟩ : ∃ T, T = saysB c a b n N := ⟨_, rfl⟩
  have hT2 : T = (bothL c a b n).any fun p => shareB (putS [] (mentT p)) N := hT
  rw [← hT]
  obtain ⟨B, hB⟩ : ∃ B, B = bothL c a b n := ⟨_, rfl⟩
  rw [← hB] at hboth hB1 hB2 hT2
  clear hB hT
  refine pure_of_code (G := (G0)) vers0 mixed0 Tryz.func175 rfl (by decide) (by simp [Tryz.f175]) (by simp) fun ver => ?_
  simp only [Tryz.f175, G0]
  simp
  refine call_p hboth (by simp) ?_
  simp
  refine aloop (α := Nat) (fun i => ⟨envOf [(4, strsAV e N), (11, pksAV false false B), (12, .v (.int .i64 i))], ⟨[], noArrs ver⟩⟩)
    (fun i => i ≤ B.length ∧ ((B.drop i).any fun p => shareB (putS [] (mentT p)) N) = T) (fun i => B.length - i) 0 (less_envOf (by simp) rfl fun _ => rfl) ⟨by simp, by simpa using hT2.symm⟩ ?_
  rintro i ⟨h1, h2⟩
  by_cases hlt : i < B.length
  · have hw := wrapS hlt (by omega)
    have hok := hB2 _ (List.getElem_mem hlt)
    have hml := mentT_len hok
    have hpl := putS_len (mentT B[i]) []
    simp only [List.length_nil] at hpl
    rw [drop_get hlt, List.any_cons] at h2
    simp [hlt]
    refine call_p (p_l5ment false B[i] hok) (by simp) ?_
    simp
    refine call_p (p_l5share false e (putS [] (mentT B[i])) N (by omega) hN) (by simp) ?_
    cases hm : shareB (putS [] (mentT B[i])) N with
    | true =>
      simp
      simpa [hm] using h2
    | false =>
      simp
      exact ⟨i + 1, less_envOf (by simp [hw]) rfl fun _ => rfl, ⟨by omega, by simpa [hm] using h2⟩, by omega⟩
  · rw [List.drop_eq_nil_of_le (by omega)] at h2
    simp [hlt]
    simpa using h2

set_option maxHeartbeats 4000000 in
theorem p_l5inClause (d k e : Bool) (c : List Pk) (hc : CatOk c) (s : List Int) (hs : Places c.length s) (hsl : s.length ≤ 4611686018427387904) (x y : List ByteArray) (hx : x.length ≤ 4611686018427387904) (hy : y.length ≤ 4611686018427387904) :
    Pure Tryz.prog 176 [pksAV d false c, intsAV k s, strsAV e x, strsAV e y] (.v (.bool (inClB c s x y))) := by
  refine pure_of_code (G := (G0)) vers0 mixed0 Tryz.func176 rfl (by decide) (by simp [Tryz.f176]) (by simp) fun ver => ?_
  simp only [Tryz.f176, G0]
  simp
  refine aloop (α := Nat) (fun i => ⟨envOf [(0, pksAV d false c), (1, intsAV k s), (2, strsAV e x), (3, strsAV e y), (9, .v (.int .i64 i))], ⟨[], noArrs ver⟩⟩)
    (fun i => i ≤ s.length ∧ inClB c (s.drop i) x y = inClB c s x y) (fun i => s.length - i) 0 (less_envOf (by simp) rfl fun _ => rfl) (by simp) ?_
  rintro i ⟨h1, h2⟩
  by_cases hlt : i < s.length
  · have hw := wrapS hlt hsl
    obtain ⟨p1, p2⟩ := hs _ (List.getElem_mem hlt)
    have hg := pkAt_get p2
    have hok := hc _ (pkAt_mem p2)
    rw [drop_get hlt, inClB, List.any_cons] at h2
    obtain ⟨P, hP⟩ : ∃ P, P = pkAt c s[i] := ⟨_, rfl⟩
    rw [← hP] at hg hok h2
    have hnl := hok.2.1
    simp [hlt, p1, hg]
    refine aloop (α := Nat) (fun j => ⟨envOf [(0, pksAV d false c), (1, intsAV k s), (2, strsAV e x), (3, strsAV e y), (9, .v (.int .i64 i)), (10, clausesAV false P.ne), (11, .v (.int .i64 j))], ⟨[], noArrs ver⟩⟩)
      (fun j => j ≤ P.ne.length ∧ ((P.ne.drop j).any fun l => clB l x && clB l y) = bothB x y P) (fun j => P.ne.length - j) 0 (less_envOf (by simp) rfl fun _ => rfl) ⟨by simp, by simp [bothB]⟩ ?_
    rintro j ⟨g1, g2⟩
    by_cases hj : j < P.ne.length
    · have hwj := wrapS hj (by omega)
      have hq := hok.2.2.2 _ (List.getElem_mem hj)
      rw [drop_get hj, List.any_cons] at g2
      simp [hj]
      refine call_p (p_l5clause false e P.ne[j] x (by omega) hx) (by simp) ?_
      cases hm : clB P.ne[j] x with
      | true =>
        simp [hj]
        refine call_p (p_l5clause false e P.ne[j] y (by omega) hy) (by simp) ?_
        cases hn : clB P.ne[j] y with
        | true =>
          simp [hm, hn] at g2
          simp
          simpa [g2] using h2
        | false =>
          simp
          exact ⟨j + 1, less_envOf (by simp [hwj]) rfl fun _ => rfl, ⟨by omega, by simpa [hm, hn] using g2⟩, by omega⟩
      | false =>
        simp
        exact ⟨j + 1, less_envOf (by simp [hwj]) rfl fun _ => rfl, ⟨by omega, by simpa [hm] using g2⟩, by omega⟩
    · rw [List.drop_eq_nil_of_le (by omega)] at g2
      simp only [List.any_nil] at g2
      simp [hj]
      exact ⟨i + 1, less_envOf (by simp [hw]) rfl fun _ => rfl, ⟨by omega, by simpa [← g2, inClB] using h2⟩, by omega⟩
  · rw [List.drop_eq_nil_of_le (by omega)] at h2
    simp [hlt]
    simpa [inClB] using h2

set_option maxHeartbeats 4000000 in
theorem p_l5joined (d k : Bool) (c : List Pk) (hc : CatOk c) (a b : List Int) (ha : Places c.length a) (hb : Places c.length b) (hal : a.length ≤ 4611686018427387904) (hbl : b.length ≤ 4611686018427387904) (m n : ByteArray) :
    Pure Tryz.prog 111 [pksAV d false c, intsAV k a, intsAV k b, .v (.string m), .v (.string n)] (.v (.bool (joinB c a b m n))) := by
  have h1 := p_l5names d k c hc a b ha hb hal hbl m
  have h2 := p_l5names d k c hc a b ha hb hal hbl n
  have l1 := nmsL_len hc ha hb m
  have l2 := nmsL_len hc ha hb n
  obtain ⟨T, hT⟩ : ∃ T, T = joinB c a b m n := ⟨_, rfl⟩
  rw [← hT]
  rw [joinB] at hT
  obtain ⟨X, hX⟩ : ∃ X, X = nmsL c a b m := ⟨_, rfl⟩
  obtain ⟨Y, hY⟩ : ∃ Y, Y = nmsL c a b n := ⟨_, rfl⟩
  rw [← hX] at h1 l1 hT
  rw [← hY] at h2 l2 hT
  clear hX hY
  have s1 := p_l5says d k false c hc a b ha hb hal hbl m Y (by omega)
  have s2 := p_l5says d k false c hc a b ha hb hal hbl n X (by omega)
  have s3 := p_l5inClause d k false c hc a ha hal X Y (by omega) (by omega)
  have s4 := p_l5inClause d k false c hc b hb hbl X Y (by omega) (by omega)
  have hTv : T = (saysB c a b m Y || (saysB c a b n X || (inClB c a X Y || inClB c b X Y))) := hT
  clear hT
  refine pure_of_code (G := (G0)) vers0 mixed0 Tryz.func111 rfl (by decide) (by simp [Tryz.f111]) (by simp) fun ver => ?_
  simp only [Tryz.f111, G0]
  refine seq_step ⟨[], noArrs ver⟩ (fun E => E 0 = pksAV d false c ∧ E 1 = intsAV k a ∧ E 2 = intsAV k b ∧ E 3 = .v (.string m) ∧ E 4 = .v (.string n)) ?_ ?_
  · simp
  rintro E ⟨z0, z1, z2, z3, z4⟩
  refine seq_step ⟨[], noArrs ver⟩ (fun E => E 0 = pksAV d false c ∧ E 1 = intsAV k a ∧ E 2 = intsAV k b ∧ E 3 = .v (.string m) ∧ E 4 = .v (.string n) ∧ E 11 = .sl false (X.map strCells)) ?_ ?_
  · simp [z0, z1, z2, z3, z4]
    refine call_p h1 (by simp) ?_
    simp [z0, z1, z2, z3, z4]
  rintro E ⟨z0, z1, z2, z3, z4, z11⟩
  refine seq_step ⟨[], noArrs ver⟩ (fun E => E 0 = pksAV d false c ∧ E 1 = intsAV k a ∧ E 2 = intsAV k b ∧ E 3 = .v (.string m) ∧ E 4 = .v (.string n) ∧ E 11 = .sl false (X.map strCells) ∧ E 12 = .sl false (Y.map strCells)) ?_ ?_
  · simp [z0, z1, z2, z3, z4, z11]
    refine call_p h2 (by simp) ?_
    simp [z0, z1, z2, z3, z4, z11]
  rintro E ⟨z0, z1, z2, z3, z4, z11, z12⟩
  simp [z0, z1, z2, z3, z4, z11, z12]
  refine call_p s1 (by simp) ?_
  cases e1 : saysB c a b m Y with
  | true =>
    rw [e1, Bool.true_or] at hTv
    subst hTv
    simp (config := { maxSteps := 4000000 })
  | false =>
    rw [e1, Bool.false_or] at hTv
    simp (config := { maxSteps := 4000000 }) [z0, z1, z2, z3, z4, z11, z12]
    refine call_p s2 (by simp) ?_
    cases e2 : saysB c a b n X with
    | true =>
      rw [e2, Bool.true_or] at hTv
      subst hTv
      simp (config := { maxSteps := 4000000 })
    | false =>
      rw [e2, Bool.false_or] at hTv
      simp (config := { maxSteps := 4000000 }) [z0, z1, z2, z3, z4, z11, z12]
      refine call_p s3 (by simp) ?_
      cases e3 : inClB c a X Y with
      | true =>
        rw [e3, Bool.true_or] at hTv
        subst hTv
        simp (config := { maxSteps := 4000000 })
      | false =>
        rw [e3, Bool.false_or] at hTv
        rw [← hTv] at s4
        simp (config := { maxSteps := 4000000 }) [z0, z1, z2, z3, z4, z11, z12]
        refine call_p s4 (by simp) ?_
        simp (config := { maxSteps := 4000000 })

end Go.Proofs.YtokhnmchnfkiiaaGreat.Am

/- Names that are joined, as the program finds them. No conditions. -/
namespace Go.Proofs.YtokhnmchnfkiiaaGreat.Am
open Go Go.RowKit Go.Proofs
set_option linter.unusedSimpArgs false
set_option linter.unusedVariables false

theorem q_touch111 (m : ByteArray) (e : Bool) (N : List ByteArray) (hN : N.length ≤ 4611686018427387904) (i : Nat) (bs : List (List AV)) (hi : bs[i]? = some [strsAV e N]) :
    BCall Tryz.prog 184 [.v (.string m), .box i 0] bs (.v (.bool (memB m N))) := by
  refine bcode Tryz.func184 rfl (by decide) (by simp [Tryz.f184]) (by simp) fun ver => ?_
  simp only [Tryz.f184, Gb]
  simp [hi]
  refine call_p (q_contains e N hN m) (by simp) ?_
  simp

theorem q_ment (d : Bool) (p : Pk) (hok : p.Ok) : Pure Tryz.prog 183 [p.av d] (.sl false ((putS [] (mentT p)).map strCells)) := by
  have := OCall.pure (q_mentO d p hok) (by simp) (by simp)
  simpa using this

theorem q_touch11 (d : Bool) (p : Pk) (hok : p.Ok) (e : Bool) (N : List ByteArray) (hN : N.length ≤ 4611686018427387904) (i : Nat) (bs : List (List AV)) (hst : StabL bs) (hi : bs[i]? = some [strsAV e N]) :
    BCall Tryz.prog 181 [p.av d, .box i 0] bs (.v (.bool (shareB (putS [] (mentT p)) N))) := by
  have hml := mentT_len hok
  have hpl := putS_len (mentT p) []
  simp only [List.length_nil] at hpl
  have hst2 : StabL (bs ++ [p.cells d]) := stabL_app hst (stab_pk d p)
  have hi2 : (bs ++ [p.cells d])[i]? = some [strsAV e N] := getA hi _
  refine bcode Tryz.func181 rfl (by decide) (by simp [Tryz.f181]) (by simp) fun ver => ?_
  simp only [Tryz.f181, Gb]
  simp
  refine call_p (q_ment d p hok) (by simp) ?_
  simp
  refine call_b (cb_strs false (putS [] (mentT p)) (by omega) 184 [] [.box i 0] (bs ++ [p.cells d]) (fun x => memB x N) (stab_of hst2) (fun _ => rfl) (fun _ => rfl) fun a _ => q_touch111 a e N hN i _ hi2) (stab_of hst2 _) ?_
  simp [shareB]

theorem q_touch1 (d k e : Bool) (c : List Pk) (hc : CatOk c) (a b : List Int) (ha : Places c.length a) (hb : Places c.length b) (hal : a.length ≤ 4611686018427387904) (hbl : b.length ≤ 4611686018427387904) (n : ByteArray) (N : List ByteArray) (hN : N.length ≤ 4611686018427387904) (i j h : Nat) (bs : List (List AV)) (hst : StabL bs)
    (hi : bs[i]? = some [pksAV d false c]) (hj : bs[j]? = some [intsAV k a]) (hh : bs[h]? = some [intsAV k b]) :
    BCall Tryz.prog 178 [.v (.string n), strsAV e N, .box i 0, .box j 0, .box h 0] bs (.v (.bool (saysB c a b n N))) := by
  have hB1 := bothL_len c a b n
  have hB2 := bothL_ok hc ha hb n
  have hst2 : StabL (bs ++ [[strsAV e N]]) := stabL_app hst (stab_one (stabC_sl _ _))
  have hi2 := getA hi [[strsAV e N]]
  have hj2 := getA hj [[strsAV e N]]
  have hh2 := getA hh [[strsAV e N]]
  have hn2 : (bs ++ [[strsAV e N]])[bs.length]? = some [strsAV e N] := by simp
  refine bcode Tryz.func178 rfl (by decide) (by simp [Tryz.f178]) (by simp) fun ver => ?_
  simp only [Tryz.f178, Gb]
  simp [hi2, hj2, hh2]
  refine call_p (q_both d k c a b ha hb hal hbl n) (by simp) ?_
  simp
  refine call_b (cb_pks false false (bothL c a b n) (by omega) 181 [] [.box bs.length 0] (bs ++ [[strsAV e N]]) (fun p => shareB (putS [] (mentT p)) N) (stab_of hst2) (fun _ => rfl) (fun _ => rfl) fun p hp => q_touch11 false p (hB2 p hp) e N hN bs.length _ hst2 hn2) (stab_of hst2 _) ?_
  simp [saysB]

theorem q_has1 (t : Trm) (e : Bool) (N : List ByteArray) (hN : N.length ≤ 4611686018427387904) (i : Nat) (bs : List (List AV)) (hi : bs[i]? = some [strsAV e N]) :
    BCall Tryz.prog 187 [t.av, .box i 0] bs (.v (.bool (memB t.n N))) := by
  have hi2 := getA hi [t.cells]
  refine bcode Tryz.func187 rfl (by decide) (by simp [Tryz.f187]) (by simp) fun ver => ?_
  simp only [Tryz.f187, Gb]
  simp [hi2]
  refine call_p (q_contains e N hN t.n) (by simp) ?_
  simp

theorem q_hasN (d e : Bool) (l : List Trm) (hl : l.length ≤ 4611686018427387904) (N : List ByteArray) (hN : N.length ≤ 4611686018427387904) (i : Nat) (bs : List (List AV)) (hst : StabL bs) (hi : bs[i]? = some [trmsAV d l]) :
    BCall Tryz.prog 185 [strsAV e N, .box i 0] bs (.v (.bool (clB l N))) := by
  have hst2 : StabL (bs ++ [[strsAV e N]]) := stabL_app hst (stab_one (stabC_sl _ _))
  have hi2 := getA hi [[strsAV e N]]
  have hn2 : (bs ++ [[strsAV e N]])[bs.length]? = some [strsAV e N] := by simp
  refine bcode Tryz.func185 rfl (by decide) (by simp [Tryz.f185]) (by simp) fun ver => ?_
  simp only [Tryz.f185, Gb]
  simp [hi2]
  refine call_b (cb_trms d l hl 187 [] [.box bs.length 0] (bs ++ [[strsAV e N]]) (fun t => memB t.n N) (stab_of hst2) (fun _ => rfl) (fun _ => rfl) fun t _ => q_has1 t e N hN bs.length _ hn2) (stab_of hst2 _) ?_
  simp [clB]

/-- slices.Concat at numbers, where what comes out is only read. -/
theorem p_concatI (k k' : Bool) (ne : List (List Int)) (h1 : ne.length ≤ 1000) (h4 : ∀ q ∈ ne, q.length ≤ 1000) (hne : ne.flatten ≠ []) :
    Pure Tryz.prog 173 [.sl k (ne.map (intsCells k'))] (.sl false (ne.flatten.map intCells)) := by
  have h := c_concatI k k' ne h1 h4 hne
  obtain ⟨F, hF⟩ : ∃ F, F = ne.flatten := ⟨_, rfl⟩
  rw [← hF] at h ⊢
  have := OCall.pure h (by simp) (by simp)
  simpa using this

theorem inClB_app (c : List Pk) (a b : List Int) (x y : List ByteArray) : inClB c (a ++ b) x y = (inClB c a x y || inClB c b x y) := List.any_append

set_option maxHeartbeats 4000000 in
set_option maxRecDepth 10000 in
theorem q_joined (d k : Bool) (c : List Pk) (hc : CatOk c) (a b : List Int) (ha : Places c.length a) (hb : Places c.length b) (hal : a.length ≤ 1000) (hbl : b.length ≤ 1000) (m n : ByteArray) :
    Pure Tryz.prog 113 [pksAV d false c, intsAV k a, intsAV k b, .v (.string m), .v (.string n)] (.v (.bool (joinB c a b m n))) := by
  have h1 : Pure Tryz.prog 115 [pksAV d false c, intsAV k a, intsAV k b, .v (.string m)] (.sl false ((nmsL c a b m).map strCells)) := by
    have := OCall.pure (q_namesO d k c hc a b ha hb (by omega) (by omega) m) (by simp) (by simp)
    simpa using this
  have h2 : Pure Tryz.prog 115 [pksAV d false c, intsAV k a, intsAV k b, .v (.string n)] (.sl false ((nmsL c a b n).map strCells)) := by
    have := OCall.pure (q_namesO d k c hc a b ha hb (by omega) (by omega) n) (by simp) (by simp)
    simpa using this
  have l1 := nmsL_len hc ha hb m
  have l2 := nmsL_len hc ha hb n
  have hJ : joinB c a b m n = (saysB c a b m (nmsL c a b n) || (saysB c a b n (nmsL c a b m) || inClB c (a ++ b) (nmsL c a b m) (nmsL c a b n))) := by rw [inClB_app]; rfl
  obtain ⟨J, hJ2⟩ : ∃ J, J = joinB c a b m n := ⟨_, rfl⟩
  rw [← hJ2] at hJ ⊢
  clear hJ2
  obtain ⟨X, hX⟩ : ∃ X, X = nmsL c a b m := ⟨_, rfl⟩
  obtain ⟨Y, hY⟩ : ∃ Y, Y = nmsL c a b n := ⟨_, rfl⟩
  rw [← hX] at h1 l1 hJ
  rw [← hY] at h2 l2 hJ
  clear hX hY
  obtain ⟨T, hT⟩ : ∃ T, T = a ++ b := ⟨_, rfl⟩
  have hTp : Places c.length T := by
    rw [hT]
    intro x hx
    rcases List.mem_append.1 hx with h | h
    · exact ha x h
    · exact hb x h
  have hTl : T.length ≤ 2000 := by rw [hT, List.length_append]; omega
  have hfl : [a, b].flatten = T := by simp [hT]
  have hcc0 := fun h : T = [] => c_concatI0 false k [a, b] (by simp) (by rw [hfl]; exact h)
  have hcc := fun h : T ≠ [] => p_concatI false k [a, b] (by simp) (by intro q hq; simp at hq; rcases hq with rfl | rfl <;> assumption) (by rw [hfl]; exact h)
  rw [hfl] at hcc
  rw [← hT] at hJ
  have bsS : StabL [[pksAV d false c], [intsAV k a], [intsAV k b]] := stabL_cons (stabL_cons (stabL_cons (fun _ h => by cases h) (stab_one (stabC_sl _ _))) (stab_one (stabC_sl _ _))) (stab_one (stabC_sl _ _))
  have s1 := q_touch1 d k false c hc a b ha hb (by omega) (by omega) m Y (by omega) 0 1 2 _ bsS rfl rfl rfl
  have s2 := q_touch1 d k false c hc a b ha hb (by omega) (by omega) n X (by omega) 0 1 2 _ bsS rfl rfl rfl
  refine pure_of_code (G := (G0)) vers0 mixed0 Tryz.func113 rfl (by decide) (by simp [Tryz.f113]) (by simp) fun ver => ?_
  simp only [Tryz.f113, G0]
  refine seq_step ⟨[[pksAV d false c], [intsAV k a], [intsAV k b]], noArrs ver⟩ (fun E => E 3 = .v (.string m) ∧ E 4 = .v (.string n) ∧ E 5 = .box 0 0 ∧ E 6 = .box 1 0 ∧ E 7 = .box 2 0) ?_ ?_
  · simp
  rintro E ⟨z3, z4, z5, z6, z7⟩
  refine seq_step ⟨[[pksAV d false c], [intsAV k a], [intsAV k b]], noArrs ver⟩ (fun E => E 3 = .v (.string m) ∧ E 4 = .v (.string n) ∧ E 5 = .box 0 0 ∧ E 6 = .box 1 0 ∧ E 7 = .box 2 0 ∧ E 11 = .sl false (X.map strCells) ∧ E 12 = .sl false (Y.map strCells)) ?_ ?_
  · simp
    refine adraw_all (by kernel_rfl) ?_
    simp [z3, z4, z5, z6, z7]
    refine call_p h1 (by simp) ?_
    simp [z3, z4, z5, z6, z7]
    refine call_p h2 (by simp) ?_
    simp [z3, z4, z5, z6, z7]
  rintro E ⟨z3, z4, z5, z6, z7, z11, z12⟩
  refine seq_step ⟨[[pksAV d false c], [intsAV k a], [intsAV k b]], noArrs ver⟩ (fun E => E 3 = .v (.string m) ∧ E 4 = .v (.string n) ∧ E 5 = .box 0 0 ∧ E 6 = .box 1 0 ∧ E 7 = .box 2 0 ∧ E 11 = .sl false (X.map strCells) ∧ E 12 = .sl false (Y.map strCells) ∧ E 13 = .clo 178 [] [.box 0 0, .box 1 0, .box 2 0]) ?_ ?_
  · simp [z3, z4, z5, z6, z7, z11, z12]
  rintro E ⟨z3, z4, z5, z6, z7, z11, z12, z13⟩
  cases e1 : saysB c a b m Y with
  | true =>
    rw [e1, Bool.true_or] at hJ
    subst hJ
    rw [e1] at s1
    simp [z3, z4, z11, z12, z13]
    refine call_b s1 (stab_of bsS _) ?_
    simp
  | false =>
  cases e2 : saysB c a b n X with
  | true =>
    rw [e1, e2, Bool.false_or, Bool.true_or] at hJ
    subst hJ
    rw [e1] at s1
    rw [e2] at s2
    simp [z3, z4, z11, z12, z13]
    refine call_b s1 (stab_of bsS _) ?_
    simp [z3, z4, z11, z12, z13]
    refine call_b s2 (stab_of bsS _) ?_
    simp
  | false =>
  rw [e1, e2, Bool.false_or, Bool.false_or] at hJ
  rw [e1] at s1
  rw [e2] at s2
  refine if_skip ⟨[[pksAV d false c], [intsAV k a], [intsAV k b]], noArrs ver⟩ (fun E => E 5 = .box 0 0 ∧ E 6 = .box 1 0 ∧ E 7 = .box 2 0 ∧ E 11 = .sl false (X.map strCells) ∧ E 12 = .sl false (Y.map strCells)) ?_ ?_
  · simp [z3, z4, z11, z12, z13]
    refine call_b s1 (stab_of bsS _) ?_
    simp [z3, z4, z11, z12, z13]
    refine call_b s2 (stab_of bsS _) ?_
    simp [z5, z6, z7, z11, z12]
  rintro E ⟨z5, z6, z7, z11, z12⟩
  rw [acode_seq, acode_seq]
  by_cases hT0 : T = []
  · refine acode_cutE ⟨[[pksAV d false c], [intsAV k a], [intsAV k b]], noArrs ver⟩ (fun E => E 44 = .v (.int .i64 0) ∧ E 45 = .v (.int .i64 0)) ?_ ?_
    · simp [z5, z6, z7, sealRows, sealCells, List.range_succ]
      refine call_p (hcc0 hT0) (by simp) ?_
      simp
    rintro E ⟨z44, z45⟩
    rw [hT0] at hJ
    have hJf : J = false := hJ
    subst hJf
    rw [kSeq_normal]
    simp
    refine aloop (α := Unit) (fun _ => ⟨envOf [(44, .v (.int .i64 0)), (45, .v (.int .i64 0))], ⟨[[pksAV d false c], [intsAV k a], [intsAV k b]], noArrs ver⟩⟩)
      (fun _ => True) (fun _ => 0) () (less_envOf (by simp [z44, z45]) rfl fun _ => rfl) trivial ?_
    intro _ _
    simp
  refine acode_cutE ⟨[[pksAV d false c], [intsAV k a], [intsAV k b]], noArrs ver⟩ (fun E => E 5 = .box 0 0 ∧ E 6 = .box 1 0 ∧ E 7 = .box 2 0 ∧ E 11 = .sl false (X.map strCells) ∧ E 12 = .sl false (Y.map strCells) ∧ E 43 = .sl false (T.map intCells) ∧ E 44 = .v (.int .i64 T.length) ∧ E 45 = .v (.int .i64 0)) ?_ ?_
  · simp [z5, z6, z7, sealRows, sealCells, List.range_succ]
    refine call_p (hcc hT0) (by simp) ?_
    simp [z5, z6, z7, z11, z12]
  rintro E ⟨z5, z6, z7, z11, z12, z43, z44, z45⟩
  rw [kSeq_normal]
  simp
  refine aloop (α := Nat × List (List AV)) (fun q => ⟨envOf [(5, .box 0 0), (11, .sl false (X.map strCells)), (12, .sl false (Y.map strCells)), (43, .sl false (T.map intCells)), (44, .v (.int .i64 T.length)), (45, .v (.int .i64 q.1))], ⟨[pksAV d false c] :: [intsAV k a] :: [intsAV k b] :: q.2, noArrs ver⟩⟩)
    (fun q => q.1 ≤ T.length ∧ inClB c (T.drop q.1) X Y = J ∧ StabL q.2) (fun q => T.length - q.1) (0, []) (less_envOf (by simp [z5, z11, z12, z43, z44, z45]) (by simp) (by simp)) ⟨by simp, by simpa using hJ.symm, fun _ h => by cases h⟩ ?_
  rintro ⟨i, B⟩ ⟨h3, h4, h5⟩
  simp only at h3 h4 h5 ⊢
  by_cases hlt : i < T.length
  · have hw := wrapS hlt (by omega)
    obtain ⟨p1, p2⟩ := hTp _ (List.getElem_mem hlt)
    have hg := pkAt_get p2
    have hok := hc _ (pkAt_mem p2)
    rw [drop_get hlt, inClB, List.any_cons] at h4
    obtain ⟨P, hP⟩ : ∃ P, P = pkAt c T[i] := ⟨_, rfl⟩
    rw [← hP] at hg hok h4
    have hnl := hok.2.1
    simp [hlt, p1, hg]
    refine aloop (α := Nat × List (List AV)) (fun q => ⟨envOf [(5, .box 0 0), (11, .sl false (X.map strCells)), (12, .sl false (Y.map strCells)), (43, .sl false (T.map intCells)), (44, .v (.int .i64 T.length)), (45, .v (.int .i64 i)), (53, clausesAV false P.ne), (54, .v (.int .i64 P.ne.length)), (55, .v (.int .i64 q.1))], ⟨[pksAV d false c] :: [intsAV k a] :: [intsAV k b] :: q.2, noArrs ver⟩⟩)
      (fun q => q.1 ≤ P.ne.length ∧ ((P.ne.drop q.1).any fun l => clB l X && clB l Y) = bothB X Y P ∧ StabL q.2) (fun q => P.ne.length - q.1) (0, B) (less_envOf (by simp) (by simp) (by simp)) ⟨by simp, by simp [bothB], h5⟩ ?_
    rintro ⟨j, D⟩ ⟨g1, g2, g3⟩
    simp only at g1 g2 g3 ⊢
    by_cases hj : j < P.ne.length
    · have hwj := wrapS hj (by omega)
      have hq := hok.2.2.2 _ (List.getElem_mem hj)
      rw [drop_get hj, List.any_cons] at g2
      have g4 : StabL (D ++ [[trmsAV false P.ne[j]]]) := stabL_app g3 (stab_one (stabC_sl _ _))
      have g5 : StabL ([pksAV d false c] :: [intsAV k a] :: [intsAV k b] :: (D ++ [[trmsAV false P.ne[j]]])) := stabL_cons (stabL_cons (stabL_cons g4 (stab_one (stabC_sl _ _))) (stab_one (stabC_sl _ _))) (stab_one (stabC_sl _ _))
      have t1 := q_hasN false false P.ne[j] (by omega) X (by omega) (D.length + 3) ([pksAV d false c] :: [intsAV k a] :: [intsAV k b] :: (D ++ [[trmsAV false P.ne[j]]])) g5 (by simp)
      have t2 := q_hasN false false P.ne[j] (by omega) Y (by omega) (D.length + 3) ([pksAV d false c] :: [intsAV k a] :: [intsAV k b] :: (D ++ [[trmsAV false P.ne[j]]])) g5 (by simp)
      simp [hj]
      refine call_b t1 (stab_of g5 _) ?_
      cases hm : clB P.ne[j] X with
      | true =>
        simp
        refine call_b t2 (stab_of g5 _) ?_
        cases hn : clB P.ne[j] Y with
        | true =>
          simp [hm, hn] at g2
          simp [g2] at h4
          simp [h4]
        | false =>
          simp
          exact ⟨j + 1, _, less_envOf (by simp [hwj]) rfl (by simp), ⟨by omega, by simpa [hm, hn] using g2, g4⟩, by omega⟩
      | false =>
        simp
        exact ⟨j + 1, _, less_envOf (by simp [hwj]) rfl (by simp), ⟨by omega, by simpa [hm] using g2, g4⟩, by omega⟩
    · rw [List.drop_eq_nil_of_le (by omega)] at g2
      simp only [List.any_nil] at g2
      simp [hj]
      exact ⟨i + 1, D, less_envOf (by simp [hw]) rfl (by simp), ⟨by omega, by simpa [← g2, inClB] using h4, g3⟩, by omega⟩
  · rw [List.drop_eq_nil_of_le (by omega)] at h4
    simp [hlt]
    simpa [inClB] using h4

end Go.Proofs.YtokhnmchnfkiiaaGreat.Am
