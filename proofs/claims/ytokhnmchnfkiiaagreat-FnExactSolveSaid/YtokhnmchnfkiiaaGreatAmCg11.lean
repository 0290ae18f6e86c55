import Derived.Test.YtokhnmchnfkiiaaGreatAmCg10
import Derived.Test.YtokhnmchnfkiiaaGreatAmCg3
import Derived.Test.YtokhnmchnfkiiaaGreatAmCg8
/- slices.Grow, slices.Concat at numbers; the names that change between sets. No conditions. -/
namespace Go.Proofs.YtokhnmchnfkiiaaGreat.Am
open Go Go.RowKit Go.Proofs
set_option linter.unusedSimpArgs false
set_option linter.unusedVariables false

@[simp] def intsCells (k : Bool) (l : List Int) : List AV := [.sl k (l.map intCells)]
theorem sum_lenI (ne : List (List Int)) (i : Nat) (h : i < ne.length) : (ne.take (i + 1)).flatten.length = (ne.take i).flatten.length + ne[i].length := by
  rw [List.take_succ_eq_append_getElem h]
  simp only [List.flatten_append, List.length_append, List.flatten_cons, List.flatten_nil, List.append_nil]
theorem flat_lenI (ne : List (List Int)) (h : ∀ q ∈ ne, q.length ≤ 1000) : ne.flatten.length ≤ 1000 * ne.length := by
  induction ne with
  | nil => simp
  | cons q r ih =>
    have h1 := h q (by simp)
    have h2 := ih fun x hx => h x (by simp [hx])
    rw [List.flatten_cons, List.length_append, List.length_cons]
    omega

theorem c_growI (n : Nat) (h0 : 0 < n) (hn : n ≤ 1000000) : OCall Tryz.prog 231 none [.nil, .v (.int .i64 n)] (some (false, 2, [])) (.arr 0 0 0 0) := by
  have e1 : IntKind.i64.wrap (n : Int) = n := IntWalk.i64_in _ (by omega)
  refine own_of_code (G := Go1 25) (verso 25) mixed0 Tryz.func231 rfl (by decide) (by simp [Tryz.f231]) 22 .dead (by intro s e es h; cases h; intro q hq; cases hq) ?_
  simp only [Tryz.f231, Go1, inArrs]
  have h1 : ¬ (n : Int) < 0 := by omega
  have h2 : (0 : Int) < n := by omega
  have h3 : (n : Int) * 8 ≤ 140737488355328 := by omega
  have h4 : (n : Int) ≤ 140737488355328 := by omega
  simp [h0, h1, h2, h3, h4, e1, aappendZ, Mem.made, wrap0]

theorem c_growI0 : Pure Tryz.prog 231 [.nil, .v (.int .i64 0)] .nil := by
  refine nil_of_code (G := G0) vers0 mixed0 Tryz.func231 rfl (by decide) (by simp [Tryz.f231]) fun ver => ?_
  simp only [Tryz.f231, G0]
  simp [wrap0]

set_option maxRecDepth 10000 in
theorem c_concatI (k k' : Bool) (ne : List (List Int)) (h1 : ne.length ≤ 1000) (h4 : ∀ q ∈ ne, q.length ≤ 1000) (hne : ne.flatten ≠ []) :
    OCall Tryz.prog 173 none [.sl k (ne.map (intsCells k'))] (some (false, 2, ne.flatten.map intCells)) (.arr 0 0 0 ne.flatten.length) := by
  have hfl := flat_lenI ne h4
  have hpos : 0 < ne.flatten.length := List.length_pos_iff.2 hne
  refine own_of_code (G := G0) vers0 mixed0 Tryz.func173 rfl (by decide) (by simp [Tryz.f173]) 24 .dead (by intro s e es h; cases h; exact fr_int _) ?_
  obtain ⟨ver, hver⟩ : ∃ ver : Nat → Nat, ver = fun _ => 0 := ⟨_, rfl⟩
  have hin : inArrs none = noArrs ver := by rw [hver]; rfl
  rw [hin]
  clear hin hver
  simp only [Tryz.f173, G0]
  simp
  refine aloop (α := Nat) (fun i => ⟨envOf [(0, .sl k (ne.map (intsCells k'))), (3, .v (.int .i64 (ne.take i).flatten.length)), (9, .sl k (ne.map (intsCells k'))), (10, .v (.int .i64 ne.length)), (11, .v (.int .i64 i))], ⟨[], noArrs ver⟩⟩)
    (fun i => i ≤ ne.length) (fun i => ne.length - i) 0 (less_envOf (by simp) rfl fun _ => rfl) (Nat.zero_le _) ?_
  intro i hi
  by_cases hlt : i < ne.length
  · have hw := wrapS hlt (by omega)
    have hs := sum_lenI ne i hlt
    have hq := h4 _ (List.getElem_mem hlt)
    have hf2 := flat_lenI (ne.take i) fun q hq => h4 q (List.mem_of_mem_take hq)
    rw [List.length_take] at hf2
    obtain ⟨N, hN⟩ : ∃ N, N = (ne.take i).flatten.length := ⟨_, rfl⟩
    rw [← hN] at hs hf2
    rw [← hN]
    have hw2 : IntKind.i64.wrap ((N : Int) + (ne[i].length : Int)) = ((ne.take (i + 1)).flatten.length : Int) := by rw [hs, IntWalk.i64_in _ (by omega)]; omega
    have hng : ¬ ((ne.take (i + 1)).flatten.length : Int) < 0 := by omega
    obtain ⟨N2, hN2⟩ : ∃ N2, N2 = (ne.take (i + 1)).flatten.length := ⟨_, rfl⟩
    rw [← hN2] at hw2 hng
    simp [hlt, hw2, hng, -List.length_flatten]
    exact ⟨i + 1, less_envOf (by simp [hw, ← hN2, -List.length_flatten]) rfl fun _ => rfl, by omega, by omega⟩
  · have e : i = ne.length := by omega
    subst e
    rw [List.take_length]
    simp
    refine call_nN 24 (c_growI ne.flatten.length hpos (by omega)) (by simp [lendN]) (by simp) ?_
    simp
    refine aloop (α := Nat × Nat) (fun d => ⟨envOf [(6, .arr 24 d.2 0 (ne.take d.1).flatten.length), (25, .sl k (ne.map (intsCells k'))), (26, .v (.int .i64 ne.length)), (27, .v (.int .i64 d.1))], ⟨[], arrG 24 ver d.2 2 ((ne.take d.1).flatten.map intCells)⟩⟩)
      (fun d => d.1 ≤ ne.length) (fun d => ne.length - d.1) (0, ver 24 + 1) (less_envOf (by simp [noArrs]) rfl (by intro j; simp [arrG, noArrs])) (Nat.zero_le _) ?_
    rintro ⟨j, v⟩ hj
    simp only at hj ⊢
    by_cases hl : j < ne.length
    · have hw := wrapS hl (by omega)
      have hs := sum_lenI ne j hl
      have hq := h4 _ (List.getElem_mem hl)
      have hf2 := flat_lenI (ne.take j) fun q hq => h4 q (List.mem_of_mem_take hq)
      rw [List.length_take] at hf2
      have hap : (ne.take (j + 1)).flatten = (ne.take j).flatten ++ ne[j] := by rw [List.take_succ_eq_append_getElem hl, List.flatten_append, List.flatten_cons, List.flatten_nil, List.append_nil]
      obtain ⟨N, hN⟩ : ∃ N, N = (ne.take j).flatten := ⟨_, rfl⟩
      rw [← hN] at hs hf2 hap
      rw [← hN]
      have hro : (N.length + ne[j].length) * 8 ≤ 140737488355328 := by omega
      simp [hl, aappend, arrG, hro, -List.length_flatten, -List.map_flatten]
      refine ⟨j + 1, ⟨v + 1, less_envOf (by simp [hw, hap, -List.length_flatten, -List.map_flatten]) rfl ?_⟩, by omega, by omega⟩
      intro q
      by_cases hq2 : q = 24 <;> simp [hq2, arrG, hap, -List.map_flatten]
    · have e : j = ne.length := by omega
      subst e
      rw [List.take_length]
      simp [arrG, Function.comp_def]

theorem c_concatI0 (k k' : Bool) (ne : List (List Int)) (h1 : ne.length ≤ 1000) (hne : ne.flatten = []) :
    Pure Tryz.prog 173 [.sl k (ne.map (intsCells k'))] .nil := by
  have hall : ∀ q ∈ ne, q = [] := List.flatten_eq_nil_iff.1 hne
  refine nil_of_code (G := G0) vers0 mixed0 Tryz.func173 rfl (by decide) (by simp [Tryz.f173]) fun ver => ?_
  simp only [Tryz.f173, G0]
  simp
  refine aloop (α := Nat) (fun i => ⟨envOf [(0, .sl k (ne.map (intsCells k'))), (3, .v (.int .i64 0)), (9, .sl k (ne.map (intsCells k'))), (10, .v (.int .i64 ne.length)), (11, .v (.int .i64 i))], ⟨[], noArrs ver⟩⟩)
    (fun i => i ≤ ne.length) (fun i => ne.length - i) 0 (less_envOf (by simp) rfl fun _ => rfl) (Nat.zero_le _) ?_
  intro i hi
  by_cases hlt : i < ne.length
  · have hw := wrapS hlt (by omega)
    have hq := hall _ (List.getElem_mem hlt)
    simp [hlt, hq, wrap0]
    exact ⟨i + 1, less_envOf (by simp [hw]) rfl fun _ => rfl, by omega, by omega⟩
  · have e : i = ne.length := by omega
    subst e
    simp
    refine call_pN c_growI0 (by simp [lendN]) (by simp) ?_
    simp
    refine aloop (α := Nat) (fun d => ⟨envOf [(6, .nil), (25, .sl k (ne.map (intsCells k'))), (26, .v (.int .i64 ne.length)), (27, .v (.int .i64 d))], ⟨[], noArrs ver⟩⟩)
      (fun d => d ≤ ne.length) (fun d => ne.length - d) 0 (less_envOf (by simp) rfl fun _ => rfl) (Nat.zero_le _) ?_
    intro j hj
    by_cases hl : j < ne.length
    · have hw := wrapS hl (by omega)
      have hq := hall _ (List.getElem_mem hl)
      simp [hl, hq, aappend]
      exact ⟨j + 1, less_envOf (by simp [hw]) rfl fun _ => rfl, by omega, by omega⟩
    · simp [hl]

end Go.Proofs.YtokhnmchnfkiiaaGreat.Am

/- The names that change between two sets, as both sides find them. No conditions. -/
namespace Go.Proofs.YtokhnmchnfkiiaaGreat.Am
open Go Go.RowKit Go.Proofs
set_option linter.unusedSimpArgs false
set_option linter.unusedVariables false

/-- Two arrays of the call's own. -/
def arr2 (p v : Nat) (e : TypeId) (es : List (List AV)) (q w : Nat) (e' : TypeId) (es' : List (List AV)) (ver : Nat → Nat) : Nat → ArrSt := fun j => if j = q then ⟨w, true, e', es'⟩ else if j = p then ⟨v, true, e, es⟩ else noArrs ver j

def isChg (c : List Pk) (a b : List Int) (n : ByteArray) : Bool := decide (oneF c n a ≠ oneF c n b)
def chgC (c : List Pk) (a b : List Int) : List ByteArray := (c.map Pk.n).filter (isChg c a b)
def chgS (c : List Pk) (a b : List Int) : List ByteArray := ((a ++ b).map fun k => (pkAt c k).n).filter (isChg c a b)
theorem oneF_neg (c : List Pk) (n : ByteArray) : ∀ a : List Int, (∀ k ∈ a, (pkAt c k).n ≠ n) → oneF c n a = -1
  | [], _ => rfl
  | k :: a, h => by
    rw [oneF, if_neg (h k (by simp))]
    exact oneF_neg c n a fun x hx => h x (by simp [hx])
theorem chg_eq {c : List Pk} {a b : List Int} (ha : Places c.length a) (hb : Places c.length b) : putS [] (chgS c a b) = putS [] (chgC c a b) := by
  refine rise_uniq (putS_rise _ List.Pairwise.nil) (putS_rise _ List.Pairwise.nil) fun x => ?_
  rw [putS_mem, putS_mem]
  simp only [List.not_mem_nil, false_or, chgS, chgC, List.mem_filter, List.mem_map]
  constructor
  · rintro ⟨⟨k, hk, rfl⟩, h⟩
    refine ⟨⟨_, pkAt_mem ?_, rfl⟩, h⟩
    rcases List.mem_append.1 hk with h1 | h1
    · exact (ha k h1).2
    · exact (hb k h1).2
  · rintro ⟨_, h⟩
    refine ⟨?_, h⟩
    by_cases h2 : ∃ k, k ∈ a ++ b ∧ (pkAt c k).n = x
    · exact h2
    · have h3 : ∀ k ∈ a ++ b, (pkAt c k).n ≠ x := fun k hk e => h2 ⟨k, hk, e⟩
      rw [isChg, oneF_neg c x a fun k hk => h3 k (List.mem_append_left _ hk), oneF_neg c x b fun k hk => h3 k (List.mem_append_right _ hk)] at h
      simp at h
theorem chgC_len (c : List Pk) (a b : List Int) : (chgC c a b).length ≤ c.length := by
  have := List.length_filter_le (isChg c a b) (c.map Pk.n)
  simpa [chgC] using this
noncomputable def chgF (c : List Pk) (a b : List Int) : List ByteArray := putS [] (chgC c a b)
theorem chgF_len (c : List Pk) (a b : List Int) : (chgF c a b).length ≤ c.length := by
  have h1 := putS_len (chgC c a b) []
  have h2 := chgC_len c a b
  simp only [List.length_nil] at h1
  unfold chgF
  omega

set_option maxHeartbeats 4000000 in
set_option maxRecDepth 10000 in
theorem p_l5changed (d f k : Bool) (c : List Pk) (hc : c.length ≤ 100000) (a b : List Int) (ha : Places c.length a) (hb : Places c.length b) (hal : a.length ≤ 4611686018427387904) (hbl : b.length ≤ 4611686018427387904) :
    Pure Tryz.prog 106 [pksAV d f c, intsAV k a, intsAV k b] (.sl false ((chgF c a b).map strCells)) := by
  obtain ⟨T, hT⟩ : ∃ T, T = chgF c a b := ⟨_, rfl⟩
  rw [← hT]
  refine pure_of_code (G := (G0)) vers0 mixed0 Tryz.func106 rfl (by decide) (by simp [Tryz.f106]) (by simp) fun ver => ?_
  simp only [Tryz.f106, G0]
  simp
  refine aloop (α := Nat × List ByteArray) (fun q => ⟨envOf [(0, pksAV d f c), (1, intsAV k a), (2, intsAV k b), (7, slN q.2), (8, .v (.int .i64 q.1))], ⟨[], noArrs ver⟩⟩)
    (fun q => q.1 ≤ c.length ∧ Rise q.2 ∧ q.2.length ≤ q.1 ∧ putS q.2 (((c.drop q.1).map Pk.n).filter (isChg c a b)) = T) (fun q => c.length - q.1) (0, []) (less_envOf (by simp [slN]) rfl fun _ => rfl) ⟨Nat.zero_le _, by simp [Rise], by simp, by simpa [chgF, chgC] using hT.symm⟩ ?_
  rintro ⟨i, out⟩ ⟨h1, h2, h3, h4⟩
  simp only at h1 h2 h3 h4 ⊢
  by_cases hlt : i < c.length
  · have hw := wrapS hlt (by omega)
    rw [drop_get hlt, List.map_cons, List.filter_cons] at h4
    have q1 := p_one d f k c a hal ha c[i].n
    have q2 := p_one d f k c b hbl hb c[i].n
    simp [hlt]
    refine call_p q1 (by simp) ?_
    simp [hlt]
    refine call_p q2 (by simp) ?_
    by_cases hn : oneF c c[i].n a = oneF c c[i].n b
    · have hz : isChg c a b c[i].n = false := by simp [isChg, hn]
      rw [hz, if_neg (by simp)] at h4
      simp [hn]
      exact ⟨i + 1, out, less_envOf (by simp [hw]) rfl fun _ => rfl, ⟨by omega, h2, by omega, by simpa using h4⟩, by omega⟩
    · have hz : isChg c a b c[i].n = true := by simp [isChg, hn]
      rw [hz, if_pos rfl, putS_cons] at h4
      simp [hn]
      refine call_p (p_l5put out.isEmpty out (by omega) h2 c[i].n (empty_or out)) (by simp) ?_
      simp
      exact ⟨i + 1, insS c[i].n out, less_envOf (by simp [hw, slN_ins]) rfl fun _ => rfl, ⟨by omega, insS_rise _ h2, by have := insS_len c[i].n out; omega, by simpa using h4⟩, by omega⟩
  · rw [List.drop_eq_nil_of_le (by omega), List.map_nil, List.filter_nil, putS_nil] at h4
    simp [hlt, h4]

end Go.Proofs.YtokhnmchnfkiiaaGreat.Am

/- The names that change between two sets, as the program finds and hands them out; as the reference hands them out. No conditions. -/
namespace Go.Proofs.YtokhnmchnfkiiaaGreat.Am
open Go Go.RowKit Go.Proofs
set_option linter.unusedSimpArgs false
set_option linter.unusedVariables false

set_option maxHeartbeats 4000000 in
set_option maxRecDepth 10000 in
theorem q_changedO (d f k : Bool) (c : List Pk) (hc : c.length ≤ 100000) (a b : List Int) (ha : Places c.length a) (hb : Places c.length b) (hal : a.length ≤ 1000) (hbl : b.length ≤ 1000) :
    OCall Tryz.prog 108 none [pksAV d f c, intsAV k a, intsAV k b] (some (false, 9, (chgF c a b).map strCells)) (.arr 0 0 0 (chgF c a b).length) := by
  have hff : chgF c a b = putS [] (chgS c a b) := (chg_eq ha hb).symm
  rw [hff]
  obtain ⟨T, hT⟩ : ∃ T, T = a ++ b := ⟨_, rfl⟩
  have hTp : Places c.length T := by
    rw [hT]
    intro x hx
    rcases List.mem_append.1 hx with h | h
    · exact ha x h
    · exact hb x h
  have hTl : T.length ≤ 2000 := by rw [hT, List.length_append]; omega
  have hcg : chgS c a b = (T.map fun k => (pkAt c k).n).filter (isChg c a b) := by rw [hT]; rfl
  rw [hcg]
  refine own_of_code (G := Go1 11) (verso 11) mixed0 Tryz.func108 rfl (by decide) (by simp [Tryz.f108]) 11 .dead (by intro s' e es h; cases h; exact fr_str _) ?_
  obtain ⟨ver, hver⟩ : ∃ ver : Nat → Nat, ver = fun _ => 0 := ⟨_, rfl⟩
  have hin : inArrs none = noArrs ver := by rw [hver]; rfl
  rw [hin]
  clear hin hver
  simp only [Tryz.f108, Go1]
  refine seq_step ⟨[], noArrs ver⟩ (fun E => E 0 = pksAV d f c ∧ E 1 = intsAV k a ∧ E 2 = intsAV k b) ?_ ?_
  · simp
  rintro E ⟨z0, z1, z2⟩
  refine seq_step ⟨[], arrW 11 (ver 11 + 1) 9 [] ver⟩ (fun E => E 0 = pksAV d f c ∧ E 1 = intsAV k a ∧ E 2 = intsAV k b ∧ E 7 = .arr 11 (ver 11 + 1) 0 0) ?_ ?_
  · simp [z0, z1, z2, Mem.made, sealRows, noArrs_put]
  rintro E ⟨z0, z1, z2, z7⟩
  have hfl : [a, b].flatten = T := by simp [hT]
  rw [acode_seq, acode_seq]
  by_cases hT0 : T = []
  · refine acode_cutE ⟨[], arrW 11 (ver 11 + 1) 9 [] ver⟩ (fun E => E 7 = .arr 11 (ver 11 + 1) 0 0 ∧ E 15 = .nil ∧ E 16 = .v (.int .i64 0) ∧ E 17 = .v (.int .i64 0)) ?_ ?_
    · simp [z0, z1, z2, z7, sealRows, sealCells, List.range_succ]
      have hcc := c_concatI0 false k [a, b] (by simp) (by rw [hfl]; exact hT0)
      refine call_p hcc (by simp) ?_
      simp [z7]
    rintro E ⟨z7, z15, z16, z17⟩
    rw [hT0, kSeq_normal]
    simp
    refine aloop (α := Unit) (fun _ => ⟨envOf [(7, .arr 11 (ver 11 + 1) 0 0), (15, .nil), (16, .v (.int .i64 0)), (17, .v (.int .i64 0))], ⟨[], arrW 11 (ver 11 + 1) 9 [] ver⟩⟩)
      (fun _ => True) (fun _ => 0) () (less_envOf (by simp [z7, z15, z16, z17]) rfl fun _ => rfl) trivial ?_
    intro _ _
    simp
    refine call_o 11 (ver 11 + 1) 9 (([] : List ByteArray).map strCells) (by simp) (o_sorted [] (by simp)) (by simp) (by simp) (fr_str _) ?_
    simp [putS, arrW]
  · refine acode_cutE ⟨[], arr2 11 (ver 11 + 1) 9 [] 15 (ver 15 + 1) 2 (T.map intCells) ver⟩ (fun E => E 0 = pksAV d f c ∧ E 1 = intsAV k a ∧ E 2 = intsAV k b ∧ E 7 = .arr 11 (ver 11 + 1) 0 0 ∧ E 15 = .arr 15 (ver 15 + 1) 0 T.length ∧ E 16 = .v (.int .i64 T.length) ∧ E 17 = .v (.int .i64 0)) ?_ ?_
    · have hcc := c_concatI false k [a, b] (by simp) (by intro q hq; simp at hq; rcases hq with rfl | rfl <;> assumption) (by rw [hfl]; exact hT0)
      rw [hfl] at hcc
      have hm : (fun j => if j = 15 then (⟨ver 15 + 1, true, 2, T.map intCells⟩ : ArrSt) else arrW 11 (ver 11 + 1) 9 [] ver j) = arr2 11 (ver 11 + 1) 9 [] 15 (ver 15 + 1) 2 (T.map intCells) ver := by
        funext j
        simp [arr2, arrW]
      have h15 : arrW 11 (ver 11 + 1) 9 [] ver 15 = noArrs ver 15 := by simp [arrW]
      simp [z0, z1, z2, z7, sealRows, sealCells, List.range_succ]
      refine call_n 15 hcc (by simp) ?_
      simp [h15, hm]
      simp [arr2, z0, z1, z2, z7]
    rintro E ⟨z0, z1, z2, z7, z15, z16, z17⟩
    rw [kSeq_normal]
    simp
    refine aloop (α := Nat × Nat × List ByteArray) (fun q => ⟨envOf [(0, pksAV d f c), (1, intsAV k a), (2, intsAV k b), (7, .arr 11 q.2.1 0 q.2.2.length), (15, .arr 15 (ver 15 + 1) 0 T.length), (16, .v (.int .i64 T.length)), (17, .v (.int .i64 q.1))], ⟨[], arr2 11 q.2.1 9 (q.2.2.map strCells) 15 (ver 15 + 1) 2 (T.map intCells) ver⟩⟩)
      (fun q => q.1 ≤ T.length ∧ q.2.2.length ≤ q.1 ∧ q.2.2 ++ ((T.drop q.1).map fun k => (pkAt c k).n).filter (isChg c a b) = (T.map fun k => (pkAt c k).n).filter (isChg c a b)) (fun q => T.length - q.1) (0, ver 11 + 1, []) (less_envOf (by simp [z0, z1, z2, z7, z15, z16, z17]) (by simp) (by simp)) ⟨Nat.zero_le _, by simp, by simp⟩ ?_
    rintro ⟨i, v, out⟩ ⟨hi, hol, ho⟩
    simp only at hi hol ho ⊢
    by_cases hlt : i < T.length
    · have hw := wrapS hlt (by omega)
      have hro : (out.length + 1) * 16 ≤ 140737488355328 := by omega
      obtain ⟨p1, p2⟩ := hTp _ (List.getElem_mem hlt)
      have hg := pkAt_get p2
      rw [drop_get hlt, List.map_cons, List.filter_cons] at ho
      have q1 := q_named d f k c a (by omega) ha (pkAt c T[i]).n
      have q2 := q_named d f k c b (by omega) hb (pkAt c T[i]).n
      simp [hlt, arr2, p1, hg]
      refine call_p q1 (by simp) ?_
      simp
      refine call_p q2 (by simp) ?_
      by_cases hn : oneF c (pkAt c T[i]).n a = oneF c (pkAt c T[i]).n b
      · have hz : isChg c a b (pkAt c T[i]).n = false := by simp [isChg, hn]
        rw [hz, if_neg (by simp)] at ho
        simp [hn]
        exact ⟨i + 1, v, out, less_envOf (by simp [hw]) rfl fun _ => by simp [arr2], ⟨by omega, by omega, by simpa using ho⟩, by omega⟩
      · have hz : isChg c a b (pkAt c T[i]).n = true := by simp [isChg, hn]
        rw [hz, if_pos rfl] at ho
        simp [hn, aappend, arr2, sealRows, sealCells, List.range_succ, hro]
        refine ⟨i + 1, v + 1, out ++ [(pkAt c T[i]).n], less_envOf (by simp [hw]) rfl ?_, ⟨by omega, by simp; omega, by simpa using ho⟩, by omega⟩
        intro j
        by_cases h15 : j = 15
        · simp [h15, arr2]
        · by_cases h11 : j = 11 <;> simp [h11, h15, arr2]
    · have e : i = T.length := by omega
      subst e
      rw [List.drop_length, List.map_nil, List.filter_nil, List.append_nil] at ho
      rw [← ho]
      simp
      refine call_o 11 v 9 (out.map strCells) (by simp [arr2]) (o_sorted out (by omega)) (by simp [arr2]) (by simp) (fr_str _) ?_
      simp

end Go.Proofs.YtokhnmchnfkiiaaGreat.Am

/- ChangedNames, by both sides. No conditions. -/
namespace Go.Proofs.YtokhnmchnfkiiaaGreat.Am
open Go Go.RowKit Go.Proofs
set_option linter.unusedSimpArgs false
set_option linter.unusedVariables false

theorem delta_facts {c : List Pk} {a b : List Int} (h : deltaF c a b = 0) : CatOk c ∧ c.length ≤ 24 ∧ Places c.length a ∧ Places c.length b ∧ a.length ≤ 24 ∧ b.length ≤ 24 := by
  obtain ⟨h1, h2⟩ := deltaF_ok h
  obtain ⟨g1, g2⟩ := setF_ok h1
  obtain ⟨_, g3⟩ := setF_ok h2
  obtain ⟨g4, g5⟩ := catF_ok g1
  have l1 := g2.len
  have l2 := g3.len
  exact ⟨fun p hp => packF_ok (g5 p hp), g4, g2.places, g3.places, by omega, by omega⟩
noncomputable def chgN (c : List Pk) (a b : List Int) : List ByteArray := if deltaF c a b = 0 then chgF c a b else []

theorem p_changedNames (d f k : Bool) (c : List Pk) (hc : c.length ≤ 4611686018427387904) (hcl : ∀ p ∈ c, p.Len) (a b : List Int) (hal : a.length ≤ 4611686018427387904) (hbl : b.length ≤ 4611686018427387904) :
    Pure Tryz.prog 51 [pksAV d f c, intsAV k a, intsAV k b] (.agg [.v (.int .i64 (deltaF c a b)), .sl false ((chgN c a b).map strCells)]) := by
  refine pure_of_code (G := (G0)) vers0 mixed0 Tryz.func51 rfl (by decide) (by simp [Tryz.f51]) (by simp) fun ver => ?_
  simp only [Tryz.f51, G0]
  simp
  refine call_p (p_asked d f k k c hc hcl a b hal hbl) (by simp) ?_
  by_cases h : deltaF c a b = 0
  · obtain ⟨g1, g2, g3, g4, g5, g6⟩ := delta_facts h
    simp [h]
    refine call_p (p_l5changed d f k c (by omega) a b g3 g4 hal hbl) (by simp) ?_
    simp [chgN, h]
  · simp [h, chgN]

theorem q_changedNamesA (d f k : Bool) (c : List Pk) (hc : c.length ≤ 4611686018427387904) (hcl : ∀ p ∈ c, p.Len) (a b : List Int) (hal : a.length ≤ 4611686018427387904) (hbl : b.length ≤ 4611686018427387904) (h : deltaF c a b ≠ 0) :
    Pure Tryz.prog 52 [pksAV d f c, intsAV k a, intsAV k b] (.agg [.v (.int .i64 (deltaF c a b)), .sl false []]) := by
  refine pure_of_code (G := (G0)) vers0 mixed0 Tryz.func52 rfl (by decide) (by simp [Tryz.f52]) (by simp) fun ver => ?_
  simp only [Tryz.f52, G0]
  simp
  refine call_p (q_delta d f k k c hc hcl a b hal hbl) (by simp) ?_
  simp [h]

theorem q_changedNamesB (d f k : Bool) (c : List Pk) (hc : c.length ≤ 4611686018427387904) (hcl : ∀ p ∈ c, p.Len) (a b : List Int) (hal : a.length ≤ 4611686018427387904) (hbl : b.length ≤ 4611686018427387904) (h : deltaF c a b = 0) :
    OCall Tryz.prog 52 none [pksAV d f c, intsAV k a, intsAV k b] (some (false, 9, (chgF c a b).map strCells)) (.agg [.v (.int .i64 0), .arr 0 0 0 (chgF c a b).length]) := by
  obtain ⟨g1, g2, g3, g4, g5, g6⟩ := delta_facts h
  refine own_of_code (G := Go1 19) (verso 19) mixed0 Tryz.func52 rfl (by decide) (by simp [Tryz.f52]) 19 (by simp) (by intro s e es h; cases h; exact fr_str _) ?_
  simp only [Tryz.f52, Go1, inArrs]
  simp
  refine call_p (q_delta d f k k c hc hcl a b hal hbl) (by simp) ?_
  simp [h]
  refine call_n 19 (q_changedO d f k c (by omega) a b g3 g4 (by omega) (by omega)) (by simp) ?_
  simp

end Go.Proofs.YtokhnmchnfkiiaaGreat.Am
