/- What is newer than a set, as the reference and the program find it. No conditions. -/
import Derived.Test.YtbmfoijakgccgaaAmC25
namespace Go.Proofs.Ytbmfoijakgccgaa.Am
open Go Go.RowKit Go.Proofs
set_option linter.unusedSimpArgs false
set_option linter.unusedVariables false

noncomputable def upgF (c : List Pk) (s : List Int) : Int × List Int := if setF c s ≠ 0 then (setF c s, []) else (0, upgL c s)

set_option maxHeartbeats 8000000 in
set_option maxRecDepth 10000 in
theorem p_upg (a b k : Bool) (c : List Pk) (hc : c.length * 8 ≤ 140737488355328) (hb : ∀ p ∈ c, p.Len) (s : List Int) (hs2 : s.length ≤ 4611686018427387904) : Pure Try.prog 77 [pksAV a b c, intsAV k s] (setRes (upgF c s).1 (intsAV false (upgF c s).2)) := by
  have hc2 : c.length ≤ 4611686018427387904 := by omega
  by_cases h1 : setF c s = 0
  · have e : upgF c s = (0, upgL c s) := by simp [upgF, h1]
    rw [e]
    obtain ⟨hcat, hpl, _, _⟩ := setF_facts h1
    simp only [setRes]
    obtain ⟨L, hL⟩ : ∃ L, L = upgL c s := ⟨_, rfl⟩
    rw [← hL]
    refine pure_of_code (G := Go1 75) (verso 75) mixed0 Try.func77 rfl (by decide) (by simp [Try.f77]) (by simp) fun ver => ?_
    simp only [Try.f77, Go1]
    simp
    refine call_p (p_setFault a b k c hc2 hb s hs2) (by simp) ?_
    simp [h1]
    refine aloop (α := Nat × Nat × List Int) (fun d => ⟨envOf [(0, pksAV a b c), (1, intsAV k s), (4, .box 0 0), (6, .box 1 0), (7, .v (.int .i64 d.1))], ⟨[[.v (.int .i64 0), .v (.int .i64 0), .nil], [.v (.int .i64 0), .v (.int .i64 0), refN 75 d.2.1 d.2.2.length]], arrN 75 ver d.2.1 2 (d.2.2.map intCells)⟩⟩)
      (fun d => d.1 ≤ c.length ∧ d.2.2 = (allI d.1).filter (upgB c s)) (fun d => c.length - d.1) (0, 0, []) (less_envOf (by simp) (by simp [refN]) (by simp [arrN])) (by simp [allI]) ?_
    rintro ⟨i, v, out⟩ ⟨hk, hm⟩
    simp only at hk hm ⊢
    by_cases hlt : i < c.length
    · have hw := wrapS hlt hc2
      have hpi : pkAt c (i : Int) = c[i] := by simp [pkAt, hlt]
      have hnx : (allI (i + 1)).filter (upgB c s) = out ++ if upgB c s i = true then [(i : Int)] else [] := by
        rw [allI_succ, List.filter_append, ← hm]
        by_cases q : upgB c s i = true <;> simp [q]
      simp [hlt]
      refine aloop (α := Nat × Bool) (fun d => ⟨envOf [(0, pksAV a b c), (1, intsAV k s), (4, .box 0 0), (6, .box 1 0), (7, .v (.int .i64 i)), (8, .v (.bool d.2)), (9, .v (.int .i64 d.1))], ⟨[[.v (.int .i64 0), .v (.int .i64 0), .nil], [.v (.int .i64 0), .v (.int .i64 0), refN 75 v out.length]], arrN 75 ver v 2 (out.map intCells)⟩⟩)
        (fun d => d.1 ≤ s.length ∧ (d.2 || (s.drop d.1).any (newerB c i)) = s.any (newerB c i)) (fun d => s.length - d.1) (0, false) (less_envOf (by simp) rfl fun _ => rfl) (by simp) ?_
      rintro ⟨j, o⟩ ⟨hj, ho⟩
      simp only at hj ho ⊢
      by_cases hjl : j < s.length
      · have hwj := wrapS hjl hs2
        obtain ⟨q1, q2⟩ := hpl _ (List.getElem_mem hjl)
        have hg := pkAt_get q2
        rw [drop_get hjl, List.any_cons] at ho
        simp [hjl, -Bool.exists_bool]
        refine adraw_all (by kernel_rfl) ?_
        cases o with
        | true =>
          simp [-Bool.exists_bool]
          exact ⟨j + 1, true, less_envOf (by simp [hwj]) rfl fun _ => rfl, ⟨by omega, by simpa using ho⟩, by omega⟩
        | false =>
          by_cases hn : (pkAt c s[j]).n = c[i].n
          · have hn2 : ((pkAt c s[j]).n = c[i].n) = True := eq_true hn
            simp (config := { maxSteps := 4000000 }) [hjl, hlt, q1, hg, hn2, -Bool.exists_bool]
            refine call_p (p_compareVersions _ _ _ _ _ _) (by simp) ?_
            simp [-Bool.exists_bool]
            exact ⟨j + 1, decide (cmpF (pkAt c s[j]).v.a (pkAt c s[j]).v.b (pkAt c s[j]).v.c c[i].v.a c[i].v.b c[i].v.c < 0), less_envOf (by simp [hwj]) rfl fun _ => rfl, ⟨by omega, by simpa [newerB, hpi, hn] using ho⟩, by omega⟩
          · simp (config := { maxSteps := 4000000 }) [hjl, hlt, q1, hg, hn, -Bool.exists_bool]
            exact ⟨j + 1, false, less_envOf (by simp [hwj]) rfl fun _ => rfl, ⟨by omega, by simpa [newerB, hpi, hn] using ho⟩, by omega⟩
      · rw [List.drop_eq_nil_of_le (by omega), List.any_nil, Bool.or_false] at ho
        simp [hjl]
        cases o with
        | false =>
          have hu : upgB c s i = false := by simp [upgB, ← ho]
          rw [hu] at hnx
          simp
          exact ⟨i + 1, v, out, less_envOf (by simp [hw]) rfl fun _ => rfl, ⟨by omega, by simpa using hnx.symm⟩, by omega⟩
        | true =>
          simp
          refine call_p (p_has k s hs2 i) (by simp) ?_
          cases hmem : memI i s with
          | true =>
            have hu : upgB c s i = false := by simp [upgB, hmem]
            rw [hu] at hnx
            simp
            exact ⟨i + 1, v, out, less_envOf (by simp [hw]) rfl fun _ => rfl, ⟨by omega, by simpa using hnx.symm⟩, by omega⟩
          | false =>
            have hu : upgB c s i = true := by simp [upgB, hmem, ← ho]
            rw [hu] at hnx
            have hlen : (out.length + 1) * 8 ≤ 140737488355328 := by
              have h3 := List.length_filter_le (upgB c s) (allI i)
              rw [← hm] at h3
              simp at h3
              omega
            obtain ⟨w, happ⟩ := append_refN (G := ⟨Try.prog, fun t => t == 75, fun t => t == 31, fun _ => true, 0⟩) (t := 69) (e := 2) (by simp) (by simp) (by simp) (by simp) 75 ver v out (i : Int) [[.v (.int .i64 0), .v (.int .i64 0), .nil], [.v (.int .i64 0), .v (.int .i64 0), refN 75 v out.length]] false hlen
            simp at happ
            simp [List.range_succ, sealRows, sealCells, happ]
            exact ⟨i + 1, w, out ++ [(i : Int)], less_envOf (by simp [hw]) (by simp [refN]) (by simp), ⟨by omega, by simpa using hnx.symm⟩, by omega⟩
    · have e : i = c.length := by omega
      subst e
      rw [show upgL c s = out from hm.symm] at hL
      subst hL
      cases L with
      | nil => simp [refN, arrN]
      | cons x out => simp [refN, arrN]
  · have e : upgF c s = (setF c s, []) := by simp [upgF, h1]
    rw [e]
    simp only [setRes]
    refine pure_of_code (G := (G0)) vers0 mixed0 Try.func77 rfl (by decide) (by simp [Try.f77]) (by simp) fun ver => ?_
    simp only [Try.f77, G0]
    simp
    refine call_p (p_setFault a b k c hc2 hb s hs2) (by simp) ?_
    simp [h1]

theorem q_upgA (a b k : Bool) (c : List Pk) (hc2 : c.length ≤ 4611686018427387904) (hb : ∀ p ∈ c, p.Len) (s : List Int) (hs2 : s.length ≤ 4611686018427387904) (h : (upgF c s).1 ≠ 0 ∨ c = []) : Pure Try.prog 78 [pksAV a b c, intsAV k s] (setRes (upgF c s).1 (.sl false [])) := by
  simp only [setRes]
  by_cases h1 : setF c s = 0
  · have e : upgF c s = (0, upgL c s) := by simp [upgF, h1]
    rw [e] at h ⊢
    simp only [ne_eq, not_true_eq_false, false_or] at h
    subst h
    refine pure_of_code (G := (G0)) vers0 mixed0 Try.func78 rfl (by decide) (by simp [Try.f78]) (by simp) fun ver => ?_
    simp only [Try.f78, G0]
    simp
    refine call_p (q_setFault a b k [] hc2 hb s hs2) (by simp) ?_
    simp [h1]
    refine call_p (q_all0 a b) (by simp) ?_
    simp
    refine call_b (q_those0 false 143 [.box 1 0, .box 0 0] [[pksAV a b []], [intsAV k s], [.v (.int .i64 0), .v (.int .i64 0), .sl true []]] (fun _ => rfl) (fun _ => rfl)) rfl ?_
    simp
  · have e : upgF c s = (setF c s, []) := by simp [upgF, h1]
    rw [e]
    refine pure_of_code (G := (G0)) vers0 mixed0 Try.func78 rfl (by decide) (by simp [Try.f78]) (by simp) fun ver => ?_
    simp only [Try.f78, G0]
    simp
    refine call_p (q_setFault a b k c hc2 hb s hs2) (by simp) ?_
    simp [h1]

theorem q_upgB (a b k : Bool) (c : List Pk) (hc : c.length * 8 ≤ 140737488355328) (hb : ∀ p ∈ c, p.Len) (s : List Int) (hs2 : s.length ≤ 4611686018427387904) (h : (upgF c s).1 = 0) (h0 : c ≠ []) :
    OCall Try.prog 78 none [pksAV a b c, intsAV k s] (some (false, 2, (upgF c s).2.map intCells)) (setRes 0 (.arr 0 0 0 (upgF c s).2.length)) := by
  have hc2 : c.length ≤ 4611686018427387904 := by omega
  have h1 : setF c s = 0 := by
    by_cases q : setF c s = 0
    · exact q
    · simp [upgF, q] at h
  have e : upgF c s = (0, upgL c s) := by simp [upgF, h1]
  rw [e]
  obtain ⟨hcat, hpl, _, _⟩ := setF_facts h1
  obtain ⟨x0, l0, hx⟩ : ∃ x0 l0, allI c.length = x0 :: l0 := by
    cases hq : allI c.length with
    | nil =>
      have := congrArg List.length hq
      simp at this
      exact absurd this h0
    | cons x l => exact ⟨x, l, rfl⟩
  have hA : OCall Try.prog 142 none [pksAV a b c] (some (false, 2, (x0 :: l0).map intCells)) (.arr 0 0 0 (x0 :: l0).length) := by
    rw [← hx]
    simpa using q_all a b c hc
  have hmem : ∀ x ∈ x0 :: l0, 0 ≤ x ∧ x.toNat < c.length := fun x hxm => allI_mem (hx ▸ hxm)
  have hll : (x0 :: l0).length * 8 ≤ 140737488355328 := by rw [← hx]; simpa using hc
  have hL : upgL c s = (x0 :: l0).filter (upgB c s) := by rw [← hx]; rfl
  have htk : List.take l0.length (List.map intCells l0) = List.map intCells l0 := List.take_of_length_le (by simp)
  simp only [setRes]
  rw [hL]
  obtain ⟨L, hL2⟩ : ∃ L, L = (x0 :: l0).filter (upgB c s) := ⟨_, rfl⟩
  refine own_of_code (G := Go1 16) (verso 16) mixed0 Try.func78 rfl (by decide) (by simp [Try.f78]) 16 (by simp) (by intro s e es h; cases h; exact fr_int _) ?_
  simp only [Try.f78, Go1, inArrs]
  rw [← hL2]
  simp
  refine call_p (q_setFault a b k c hc2 hb s hs2) (by simp) ?_
  simp [h1]
  refine call_n 14 hA (by simp) ?_
  simp [htk]
  have hbs : ∀ cs ∈ [[pksAV a b c], [intsAV k s], [AV.v (.int .i64 0), AV.v (.int .i64 0), AV.sl true []]], ∀ c ∈ cs, c.closed := by
    intro cs hcs x hx
    simp only [List.mem_cons, List.not_mem_nil, or_false] at hcs
    rcases hcs with rfl | rfl | rfl
    · simp at hx
      subst hx
      exact closed_pks a b c
    · simp at hx
      subst hx
      exact closed_ints k s
    · simp at hx
      rcases hx with rfl | rfl
      · exact .v _
      · exact .sl _ _ (by simp)
  have ht := q_those true x0 l0 hll 143 [.box 1 0, .box 0 0] [[pksAV a b c], [intsAV k s], [.v (.int .i64 0), .v (.int .i64 0), .sl true []]] (upgB c s) (fun _ => rfl) (fun _ => rfl) ?_ ?_ fun x hx => q_upg1 a b k c s hs2 hpl x (hmem x hx)
  · rw [← hL2] at ht
    refine call_nb 16 ht ?_ ?_ ?_ ?_
    · rfl
    · intro a ha
      rcases List.mem_cons.1 ha with rfl | ha
      · exact closed_ints true (x0 :: l0)
      · simp at ha
        subst ha
        exact .clo _ _ _ (by simp) (by simp; exact ⟨.box _ _, .box _ _⟩)
    · exact hbs
    · simp
  · exact hbs
  · simp
    exact ⟨.box _ _, .box _ _⟩

end Go.Proofs.Ytbmfoijakgccgaa.Am
