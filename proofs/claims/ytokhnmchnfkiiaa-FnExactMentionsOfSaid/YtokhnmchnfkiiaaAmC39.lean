/- The names that a package mentions, as the program hands them out. No conditions. -/
import Derived.Test.YtokhnmchnfkiiaaAmC38
import Derived.Test.YtokhnmchnfkiiaaAmC32
namespace Go.Proofs.Ytokhnmchnfkiiaa.Am
open Go Go.RowKit Go.Proofs
set_option linter.unusedSimpArgs false
set_option linter.unusedVariables false

/-- Two arrays of the call's own: of names at place 6, of terms at place 12. -/
def arrV (ver : Nat → Nat) (v : Nat) (out : List ByteArray) (w : Nat) (T : List Trm) : Nat → ArrSt := fun j => if j = 12 then ⟨w, true, 28, T.map Trm.cells⟩ else if j = 6 then ⟨v, true, 9, out.map strCells⟩ else noArrs ver j

theorem arrV_made (ver : Nat → Nat) (v w : Nat) (T : List Trm) : (fun j => if j = 12 then (⟨w, true, 28, T.map Trm.cells⟩ : ArrSt) else arrW 6 v 9 [] ver j) = arrV ver v [] w T := by
  funext j
  by_cases h : j = 12 <;> simp [arrV, arrW, h]
theorem arrV_turn (ver : Nat → Nat) (v w w' : Nat) (out : List ByteArray) (T T' : List Trm) : (fun j => if j = 12 then (⟨w', true, 28, T'.map Trm.cells⟩ : ArrSt) else arrV ver v out w T j) = arrV ver v out w' T' := by
  funext j
  by_cases h : j = 12 <;> simp [arrV, h]
theorem arrV_12 (ver : Nat → Nat) (v w : Nat) (out : List ByteArray) (T : List Trm) : arrV ver v out w T 12 = ⟨w, true, 28, T.map Trm.cells⟩ := by simp [arrV]
theorem arrW_12 (ver : Nat → Nat) (v : Nat) (es : List (List AV)) : arrW 6 v 9 es ver 12 = noArrs ver 12 := by simp [arrW]

set_option maxHeartbeats 4000000 in
set_option maxRecDepth 10000 in
theorem q_mentO (d : Bool) (p : Pk) (hok : p.Ok) : OCall Try.prog 84 none [p.av d] (some (false, 9, (putS [] (mentT p)).map strCells)) (.arr 0 0 0 (putS [] (mentT p)).length) := by
  have hml := mentT_len hok
  obtain ⟨k1, k2, k3, k4⟩ := hok
  have hfl := flat_len p.ne k4
  obtain ⟨T, hT⟩ : ∃ T, T = p.ne.flatten ++ p.ba := ⟨_, rfl⟩
  have hmt : mentT p = T.map Trm.n := by rw [hT, mentT, List.map_append]
  have hTl : T.length ≤ 20 := by rw [hmt, List.length_map] at hml; exact hml
  rw [hmt]
  refine own_of_code (G := Go1 6) (verso 6) mixed0 Try.func84 rfl (by decide) (by simp [Try.f84]) 6 .dead (by intro s' e es h; cases h; exact fr_str _) ?_
  obtain ⟨ver, hver⟩ : ∃ ver : Nat → Nat, ver = fun _ => 0 := ⟨_, rfl⟩
  have hin : inArrs none = noArrs ver := by rw [hver]; rfl
  rw [hin]
  clear hin hver
  simp only [Try.f84, Go1]
  refine seq_step ⟨[p.cells d], noArrs ver⟩ (fun E => E 1 = .box 0 0) ?_ ?_
  · simp
  intro E z1
  refine seq_step ⟨[p.cells d], arrW 6 (ver 6 + 1) 9 [] ver⟩ (fun E => E 1 = .box 0 0 ∧ E 3 = .arr 6 (ver 6 + 1) 0 0) ?_ ?_
  · simp [z1, Mem.made, sealRows, noArrs_put]
  rintro E ⟨z1, z3⟩
  by_cases hT0 : T = []
  · have hb : p.ba = [] := by rw [hT0] at hT; exact (List.append_eq_nil_iff.1 hT.symm).2
    have hf : p.ne.flatten = [] := by rw [hT0] at hT; exact (List.append_eq_nil_iff.1 hT.symm).1
    rw [acode_seq, acode_seq]
    refine acode_cutE ⟨[p.cells d], arrW 6 (ver 6 + 1) 9 [] ver⟩ (fun E => E 3 = .arr 6 (ver 6 + 1) 0 0 ∧ E 12 = .nil ∧ E 13 = .v (.int .i64 0) ∧ E 14 = .v (.int .i64 0)) ?_ ?_
    · simp
      refine adraw_all (by kernel_rfl) ?_
      simp [z1, z3]
      refine call_p (c_concatT0 d d p.ne (by omega) hf) (by simp) ?_
      simp [z1, z3, hb, aappend, arrW, noArrs]
    rintro E ⟨z3, z12, z13, z14⟩
    rw [hT0, kSeq_normal]
    simp
    refine aloop (α := Unit) (fun _ => ⟨envOf [(3, .arr 6 (ver 6 + 1) 0 0), (12, .nil), (13, .v (.int .i64 0)), (14, .v (.int .i64 0))], ⟨[p.cells d], arrW 6 (ver 6 + 1) 9 [] ver⟩⟩)
      (fun _ => True) (fun _ => 0) () (less_envOf (by simp [z3, z12, z13, z14]) rfl fun _ => rfl) trivial ?_
    intro _ _
    simp
    refine call_o 6 (ver 6 + 1) 9 (([] : List ByteArray).map strCells) (by simp) (o_sorted [] (by simp)) (by simp) (by simp) (fr_str _) ?_
    simp [putS, arrW]
  rw [acode_seq, acode_seq]
  refine acode_cut (fun s => ∃ w, s.mem = ⟨[p.cells d], arrV ver (ver 6 + 1) [] w T⟩ ∧ s.env 3 = .arr 6 (ver 6 + 1) 0 0 ∧ s.env 12 = .arr 12 w 0 T.length ∧ s.env 13 = .v (.int .i64 T.length) ∧ s.env 14 = .v (.int .i64 0)) ?_ ?_
  · by_cases hf : p.ne.flatten = []
    · have hTb : T = p.ba := by rw [hT, hf]; rfl
      have hb0 : p.ba ≠ [] := by rw [← hTb]; exact hT0
      have hro : p.ba.length * 64 ≤ 140737488355328 := by omega
      simp
      refine adraw_g [0, 1, 2, 3, 4, 5, 6, 7] [5, 6] [⟨[p.cells d], arrW 6 (ver 6 + 1) 9 [] ver⟩, ⟨[p.cells d], arrV ver (ver 6 + 1) [] (ver 12 + 1) T⟩, ⟨[p.cells d], arrV ver (ver 6 + 1) [] (ver 12 + 1) T⟩]
        [.box 0 6, .sl d (p.ne.map (clauseCells d)), .nil, .box 0 7, .sl d (p.ba.map Trm.cells), .arr 12 (ver 12 + 1) 0 T.length, .v (.int .i64 T.length), .v (.int .i64 0)] (by decide +kernel) rfl rfl ?_
      simp [tellG_cons, tellG_nil, onTell, yieldsTo, z1, z3]
      have hc0 := c_concatT0 d d p.ne (by omega) hf
      have hn12 : ver 12 + 1 ≠ 0 := by omega
      refine ⟨⟨call_p hc0 (by simp) rfl, call_p hc0 (by simp) rfl⟩, ?_, ?_⟩
      · have hb1 : p.ba.map Trm.cells ≠ [] := by simpa using hb0
        simp [aappend, hro, hb0, Mem.made, arrV_made, arrW_12, hTb]
      · have x6 : List.idxOf 6 [5, 6] = 1 := by decide
        simp [x6, arrV_12, z3]
    · have hro : (p.ne.flatten.length + p.ba.length) * 64 ≤ 140737488355328 := by omega
      have x5 : List.idxOf 5 [2, 5, 6] = 1 := by decide
      have x6 : List.idxOf 6 [2, 5, 6] = 2 := by decide
      simp
      refine adraw_g [0, 1, 2, 3, 4, 5, 6, 7] [2, 5, 6] [⟨[p.cells d], arrW 6 (ver 6 + 1) 9 [] ver⟩, ⟨[p.cells d], arrV ver (ver 6 + 1) [] (ver 12 + 1) p.ne.flatten⟩, ⟨[p.cells d], arrV ver (ver 6 + 1) [] (ver 12 + 1 + 1) T⟩, ⟨[p.cells d], arrV ver (ver 6 + 1) [] (ver 12 + 1 + 1) T⟩]
        [.box 0 6, .sl d (p.ne.map (clauseCells d)), .arr 12 (ver 12 + 1) 0 p.ne.flatten.length, .box 0 7, .sl d (p.ba.map Trm.cells), .arr 12 (ver 12 + 1 + 1) 0 T.length, .v (.int .i64 T.length), .v (.int .i64 0)] (by decide +kernel) rfl rfl ?_
      simp [tellG_cons, tellG_nil, onTell, yieldsTo, z1, z3, x5, x6, -List.length_flatten, -List.map_flatten]
      refine ⟨call_n 12 (c_concatT d d p.ne (by omega) k4 hf) (by simp) (by simp [arrV_made, arrW_12, -List.length_flatten, -List.map_flatten]), ?_, ?_⟩
      · have e1 : p.ne.flatten.map Trm.cells ++ p.ba.map Trm.cells = T.map Trm.cells := by rw [hT, List.map_append]
        have e2 : p.ne.flatten.length + p.ba.length = T.length := by rw [hT, List.length_append]
        have hro2 : T.length * 64 ≤ 140737488355328 := by omega
        simp [aappend, hro2, arrV_12, e1, e2, arrV_turn, -List.length_flatten, -List.map_flatten]
      · simp [arrV_12, z3]
  · rintro ⟨E, M⟩ ⟨w, hM, z3, z12, z13, z14⟩
    simp only at hM z3 z12 z13 z14
    subst hM
    rw [kSeq_normal]
    simp
    refine aloop (α := Nat × Nat × List (List AV)) (fun q => ⟨envOf [(3, .arr 6 q.2.1 0 q.1), (12, .arr 12 w 0 T.length), (13, .v (.int .i64 T.length)), (14, .v (.int .i64 q.1))], ⟨[p.cells d] ++ q.2.2, arrV ver q.2.1 ((T.take q.1).map Trm.n) w T⟩⟩)
      (fun q => q.1 ≤ T.length) (fun q => T.length - q.1) (0, ver 6 + 1, []) (less_envOf (by simp [z3, z12, z13, z14]) (by simp) (by simp)) (Nat.zero_le _) ?_
    rintro ⟨i, v, B⟩ hi
    simp only at hi ⊢
    by_cases hlt : i < T.length
    · have hw := wrapS hlt (by omega)
      have hro : (i + 1) * 16 ≤ 140737488355328 := by omega
      have hmin : min i T.length = i := by omega
      simp [hlt, arrV, aappend, sealRows, sealCells, List.range_succ, hro, hmin]
      refine ⟨i + 1, ⟨v + 1, B ++ [T[i].cells], less_envOf (by simp [hw]) (by simp) ?_⟩, by omega, by omega⟩
      intro j
      by_cases h12 : j = 12
      · simp [h12, arrV]
      · by_cases h6 : j = 6
        · simp [h6, arrV]
          rw [List.take_succ_eq_append_getElem (by simpa using hlt)]
          simp [strCells]
        · simp [h6, h12, arrV]
    · have e : i = T.length := by omega
      subst e
      rw [List.take_length]
      simp
      refine call_o 6 v 9 ((T.map Trm.n).map strCells) (by simp [arrV]) (o_sorted (T.map Trm.n) (by simp; omega)) (by simp [arrV]) (by simp) (fr_str _) ?_
      simp

end Go.Proofs.Ytokhnmchnfkiiaa.Am
