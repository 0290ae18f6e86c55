import Derived.Test.YtokhnmchnfkiiaaGreatAmCg12
import Derived.Test.YtokhnmchnfkiiaaGreatAmCg6
import Derived.Test.YtokhnmchnfkiiaaGreatAmCg9
import Derived.Test.YtokhnmchnfkiiaaGreatAmCg11
import Derived.Test.YtokhnmchnfkiiaaGreatAmCg7
/- JoinedNames, by both sides. No conditions. -/
namespace Go.Proofs.YtokhnmchnfkiiaaGreat.Am
open Go Go.RowKit Go.Proofs
set_option linter.unusedSimpArgs false
set_option linter.unusedVariables false

noncomputable def jnF (c : List Pk) (a b : List Int) (m n : ByteArray) : Bool := decide (deltaF c a b = 0) && (!decide (m = n) && (memB m (chgF c a b) && (memB n (chgF c a b) && joinB c a b m n)))

set_option maxHeartbeats 4000000 in
theorem p_joinedNames (d k : Bool) (c : List Pk) (hc : c.length ≤ 4611686018427387904) (hcl : ∀ p ∈ c, p.Len) (a b : List Int) (hal : a.length ≤ 4611686018427387904) (hbl : b.length ≤ 4611686018427387904) (m n : ByteArray) :
    Pure Tryz.prog 56 [pksAV d false c, intsAV k a, intsAV k b, .v (.string m), .v (.string n)] (.v (.bool (jnF c a b m n))) := by
  obtain ⟨J, hJ2⟩ : ∃ J, J = jnF c a b m n := ⟨_, rfl⟩
  have hJ : J = (decide (deltaF c a b = 0) && (!decide (m = n) && (memB m (chgF c a b) && (memB n (chgF c a b) && joinB c a b m n)))) := hJ2
  rw [← hJ2]
  clear hJ2
  refine pure_of_code (G := (G0)) vers0 mixed0 Tryz.func56 rfl (by decide) (by simp [Tryz.f56]) (by simp) fun ver => ?_
  simp only [Tryz.f56, G0]
  simp
  refine call_p (p_asked d false k k c hc hcl a b hal hbl) (by simp) ?_
  by_cases h : deltaF c a b = 0
  · obtain ⟨g1, g2, g3, g4, g5, g6⟩ := delta_facts h
    have hl := chgF_len c a b
    by_cases hmn : m = n
    · have hJf : J = false := by simpa [h, hmn] using hJ
      subst hJf
      simp [h, hmn]
    simp [h, hmn]
    refine call_p (p_l5changed d false k c (by omega) a b g3 g4 hal hbl) (by simp) ?_
    simp
    refine call_p (p_holds false (chgF c a b) (by omega) m) (by simp) ?_
    cases e1 : memB m (chgF c a b) with
    | false =>
      have hJf : J = false := by simpa [h, hmn, e1] using hJ
      subst hJf
      simp
    | true =>
      simp
      refine call_p (p_holds false (chgF c a b) (by omega) n) (by simp) ?_
      cases e2 : memB n (chgF c a b) with
      | false =>
        have hJf : J = false := by simpa [h, hmn, e1, e2] using hJ
        subst hJf
        simp
      | true =>
        have hJf : J = joinB c a b m n := by simpa [h, hmn, e1, e2] using hJ
        rw [hJf]
        simp
        refine call_p (p_l5joined d k c g1 a b g3 g4 hal hbl m n) (by simp) ?_
        simp
  · have hJf : J = false := by simpa [h] using hJ
    subst hJf
    simp [h]

set_option maxHeartbeats 4000000 in
theorem q_joinedNames (d k : Bool) (c : List Pk) (hc : c.length ≤ 4611686018427387904) (hcl : ∀ p ∈ c, p.Len) (a b : List Int) (hal : a.length ≤ 4611686018427387904) (hbl : b.length ≤ 4611686018427387904) (m n : ByteArray) :
    Pure Tryz.prog 57 [pksAV d false c, intsAV k a, intsAV k b, .v (.string m), .v (.string n)] (.v (.bool (jnF c a b m n))) := by
  obtain ⟨J, hJ2⟩ : ∃ J, J = jnF c a b m n := ⟨_, rfl⟩
  have hJ : J = (decide (deltaF c a b = 0) && (!decide (m = n) && (memB m (chgF c a b) && (memB n (chgF c a b) && joinB c a b m n)))) := hJ2
  rw [← hJ2]
  clear hJ2
  refine pure_of_code (G := (G0)) vers0 mixed0 Tryz.func57 rfl (by decide) (by simp [Tryz.f57]) (by simp) fun ver => ?_
  simp only [Tryz.f57, G0]
  simp
  refine call_p (q_delta d false k k c hc hcl a b hal hbl) (by simp) ?_
  by_cases h : deltaF c a b = 0
  · obtain ⟨g1, g2, g3, g4, g5, g6⟩ := delta_facts h
    have hl := chgF_len c a b
    by_cases hmn : m = n
    · have hJf : J = false := by simpa [h, hmn] using hJ
      subst hJf
      simp [h, hmn]
    simp [h, hmn]
    refine call_p (q_changed d false k c (by omega) a b g3 g4 (by omega) (by omega)) (by simp) ?_
    simp
    refine call_p (q_contains false (chgF c a b) (by omega) m) (by simp) ?_
    cases e1 : memB m (chgF c a b) with
    | false =>
      have hJf : J = false := by simpa [h, hmn, e1] using hJ
      subst hJf
      simp
    | true =>
      simp
      refine call_p (q_contains false (chgF c a b) (by omega) n) (by simp) ?_
      cases e2 : memB n (chgF c a b) with
      | false =>
        have hJf : J = false := by simpa [h, hmn, e1, e2] using hJ
        subst hJf
        simp
      | true =>
        have hJf : J = joinB c a b m n := by simpa [h, hmn, e1, e2] using hJ
        rw [hJf]
        simp
        refine call_p (q_joined d k c g1 a b g3 g4 (by omega) (by omega) m n) (by simp) ?_
        simp
  · have hJf : J = false := by simpa [h] using hJ
    subst hJf
    simp [h]

end Go.Proofs.YtokhnmchnfkiiaaGreat.Am

/- Lists of numbers, sorted; those of an empty set. No conditions. -/
namespace Go.Proofs.YtokhnmchnfkiiaaGreat.Am
open Go Go.RowKit Go.Proofs
set_option linter.unusedSimpArgs false
set_option linter.unusedVariables false

noncomputable def sortI (l : List Int) : List Int := l.mergeSort fun x y => decide (x ≤ y)
theorem sortI_length (l : List Int) : (sortI l).length = l.length := (List.mergeSort_perm l _).length_eq
theorem sortI_mem (l : List Int) (x : Int) : x ∈ sortI l ↔ x ∈ l := (List.mergeSort_perm l _).mem_iff
theorem sortI_le (l : List Int) : (sortI l).Pairwise (· ≤ ·) := by
  have := List.pairwise_mergeSort (le := fun x y : Int => decide (x ≤ y)) (by intro a b c; simp; omega) (by intro a b; simp; omega) l
  exact this.imp fun h => by simpa using h
/-- A list in order with the same elements is what sorting gives. -/
theorem sortI_eq {l m : List Int} (hm : m.Pairwise (· < ·)) (hp : l.Perm m) : sortI l = m := by
  have h1 : (sortI l).Perm m := (List.mergeSort_perm l _).trans hp
  exact List.Perm.eq_of_pairwise (fun a b _ _ h1 h2 => Int.le_antisymm h1 h2) (sortI_le l) (hm.imp fun h => Int.le_of_lt h) h1

theorem o_sortInt (l : List Int) (hl : l.length < 4611686018427387904) :
    OCall Tryz.prog 76 (some (2, l.map intCells)) [.arr 0 0 0 l.length] (some (true, 2, (sortI l).map intCells)) (.tup []) :=
  o_sort (P := Tryz.prog) (f := 76) (e := 2) (Value.int .i64) (fun _ => rfl) (by kernel_rfl) (by kernel_rfl) l (sortI l) (sortI_length l)
    (fun _ p cap w => AnyG.slices_Sort_int_none sortInt p cap w)
    (fun blk off cap w hH hb => AnyG.slices_Sort_int sortInt blk off cap l w hH hb hl)

theorem p_sortInt0 (c : Bool) : Pure Tryz.prog 76 [.sl c []] (.tup []) :=
  p_sort0 (by kernel_rfl) (fun p cap w => AnyG.slices_Sort_int_none sortInt p cap w) c

theorem n_clone0 (c : Bool) : Pure Tryz.prog 229 [.sl c []] .nil := by
  refine nil_of_code (G := G0) vers0 mixed0 Tryz.func229 rfl (by decide) (by simp [Tryz.f229]) fun ver => ?_
  simp only [Tryz.f229, G0]
  simp [aappend, sealRows]

theorem n_ints0 (f : FuncId) (post : List AV) (bs : List (List AV)) (hst : Stab bs) (hs2 : StabA post) : BCall Tryz.prog 228 [.nil, .clo f [] post] bs .nil := by
  refine nil_of_codeB (G := Gb bs.length) (versb _) mixed0 Tryz.func228 rfl (by decide) (by simp [Tryz.f228]) (fun ver => ?_) (fun k hk => by simpa [Gb] using hk)
  simp only [Tryz.f228, Gb]
  have es := hs2
  unfold StabA at es
  simp
  try simp only [es]
  refine call_b (xb_ints true [] (by simp) f [] post bs (fun _ => false) hst (fun _ => rfl) hs2 (by simp)) (hst _) ?_
  simp [idxQ]

theorem n_those0 (k : Bool) (f : FuncId) (post : List AV) (bs : List (List AV)) (hst : Stab (bs ++ [[AV.clo f [] post]])) (hs2 : StabA post) : BCall Tryz.prog 167 [.sl k [], .clo f [] post] bs .nil := by
  refine nil_of_codeB (G := Gb bs.length) (versb _) mixed0 Tryz.func167 rfl (by decide) (by simp [Tryz.f167]) (fun ver => ?_) (fun k hk => by simpa [Gb] using hk)
  simp only [Tryz.f167, Gb]
  simp [AV.one]
  refine call_p (n_clone0 k) (by simp) ?_
  simp
  refine call_bN (n_ints0 230 [.box bs.length 0] (bs ++ [[AV.clo f [] post]]) hst (fun _ => rfl)) (by simp [lendN]) (by simpa using hst _) ?_
  simp

end Go.Proofs.YtokhnmchnfkiiaaGreat.Am

/- A set in which names are as in another one. No conditions. -/
namespace Go.Proofs.YtokhnmchnfkiiaaGreat.Am
open Go Go.RowKit Go.Proofs
set_option linter.unusedSimpArgs false
set_option linter.unusedVariables false

def isN (c : List Pk) (N : List ByteArray) (k : Int) : Bool := memB (pkAt c k).n N
def mvB (c : List Pk) (a b : List Int) (N : List ByteArray) (i : Int) : Bool := (!isN c N i && memI i a) || (isN c N i && memI i b)
def mvF (c : List Pk) (a b : List Int) (N : List ByteArray) : List Int := (allI c.length).filter (mvB c a b N)
def mvL (c : List Pk) (a b : List Int) (N : List ByteArray) : List Int := (a.filter fun k => !isN c N k) ++ b.filter (isN c N)
theorem memI_iff (x : Int) : ∀ l : List Int, memI x l = true ↔ x ∈ l
  | [] => by simp [memI]
  | a :: l => by
    rw [memI, List.mem_cons, ← memI_iff x l]
    by_cases h : a = x
    · simp [h]
    · simp [h, Ne.symm h]
theorem allI_lt (n : Nat) : (allI n).Pairwise (· < ·) := by
  unfold allI
  rw [List.pairwise_map]
  exact List.pairwise_lt_range.imp fun h => by omega
theorem allI_in {n : Nat} {k : Int} (h0 : 0 ≤ k) (h : k.toNat < n) : k ∈ allI n := by
  unfold allI
  exact List.mem_map.2 ⟨k.toNat, List.mem_range.2 h, by omega⟩
theorem SetOK.rise {n : Nat} {s : List Int} (h : SetOK n s) : s.Pairwise (· < ·) := by
  rw [List.pairwise_iff_getElem]
  intro i j hi hj hij
  exact h.lt hij hj
theorem rise_nodup {l : List Int} (h : l.Pairwise (· < ·)) : l.Nodup := h.imp fun h => by omega
theorem mv_eq {c : List Pk} {a b : List Int} (ha : SetOK c.length a) (hb : SetOK c.length b) (N : List ByteArray) : sortI (mvL c a b N) = mvF c a b N := by
  have hr : (mvF c a b N).Pairwise (· < ·) := (allI_lt c.length).sublist List.filter_sublist
  refine sortI_eq hr ((List.perm_ext_iff_of_nodup ?_ (rise_nodup hr)).2 fun x => ?_)
  · unfold mvL
    rw [List.nodup_append]
    refine ⟨(rise_nodup ha.rise).sublist List.filter_sublist, (rise_nodup hb.rise).sublist List.filter_sublist, ?_⟩
    rintro x hx y hy rfl
    rw [List.mem_filter] at hx hy
    rw [hy.2] at hx
    simp at hx
  · unfold mvL mvF
    rw [List.mem_append, List.mem_filter, List.mem_filter, List.mem_filter]
    have i1 := memI_iff x a
    have i2 := memI_iff x b
    constructor
    · rintro (⟨h1, h2⟩ | ⟨h1, h2⟩)
      · exact ⟨allI_in (ha.places x h1).1 (ha.places x h1).2, by simp at h2; simp [mvB, h2, i1.2 h1]⟩
      · exact ⟨allI_in (hb.places x h1).1 (hb.places x h1).2, by simp [mvB, h2, i2.2 h1]⟩
    · rintro ⟨_, h⟩
      cases hN : isN c N x with
      | true =>
        rw [mvB, hN] at h
        simp at h
        exact .inr ⟨i2.1 h, rfl⟩
      | false =>
        rw [mvB, hN] at h
        simp at h
        exact .inl ⟨i1.1 h, rfl⟩

set_option maxHeartbeats 4000000 in
set_option maxRecDepth 10000 in
theorem p_l3move (d f k e : Bool) (c : List Pk) (hc : c.length ≤ 100000) (a b : List Int) (hal : a.length ≤ 4611686018427387904) (hbl : b.length ≤ 4611686018427387904) (N : List ByteArray) (hN : N.length ≤ 4611686018427387904) :
    Pure Tryz.prog 104 [pksAV d f c, intsAV k a, intsAV k b, strsAV e N] (intsAV false (mvF c a b N)) := by
  obtain ⟨M, hM⟩ : ∃ M, M = mvF c a b N := ⟨_, rfl⟩
  rw [← hM]
  refine pure_of_code (G := (Go1 12)) (verso 12) mixed0 Tryz.func104 rfl (by decide) (by simp [Tryz.f104]) (by simp) fun ver => ?_
  simp only [Tryz.f104, Go1]
  simp [Mem.made, sealRows, sealCells, List.range_succ]
  refine aloop (α := Nat × Nat × List Int) (fun q => ⟨envOf [(0, pksAV d f c), (1, intsAV k a), (2, intsAV k b), (3, strsAV e N), (9, .arr 12 q.2.1 0 q.2.2.length), (10, .v (.int .i64 q.1))], ⟨[], arrG 12 ver q.2.1 2 (q.2.2.map intCells)⟩⟩)
    (fun q => q.1 ≤ c.length ∧ q.2.2 = (allI q.1).filter (mvB c a b N)) (fun q => c.length - q.1) (0, ver 12 + 1, []) (less_envOf (by simp) rfl (by intro j; simp [arrG, noArrs])) ⟨by simp, by simp [allI]⟩ ?_
  rintro ⟨i, v, out⟩ ⟨h1, h2⟩
  simp only at h1 h2 ⊢
  by_cases hlt : i < c.length
  · have hw := wrapS hlt (by omega)
    have hg : pkAt c (i : Int) = c[i] := by simp [pkAt, hlt]
    have hol : out.length ≤ i := by
      rw [h2]
      have := List.length_filter_le (mvB c a b N) (allI i)
      simpa using this
    have hro : (out.length + 1) * 8 ≤ 140737488355328 := by omega
    have hnx : (allI (i + 1)).filter (mvB c a b N) = if mvB c a b N i = true then out ++ [(i : Int)] else out := by
      rw [allI_succ, List.filter_append, ← h2, List.filter_cons, List.filter_nil]
      split <;> simp
    have hmv : mvB c a b N i = ((!memB c[i].n N && memI i a) || (memB c[i].n N && memI i b)) := by simp only [mvB, isN, hg]
    simp [hlt]
    refine call_p (p_holds e N hN c[i].n) (by simp) ?_
    cases hm : memB c[i].n N with
    | true =>
      rw [hm] at hmv
      simp only [Bool.not_true, Bool.false_and, Bool.false_or, Bool.true_and] at hmv
      simp
      refine call_p (p_has k b hbl i) (by simp) ?_
      cases hx : memI i b with
      | true =>
        rw [hmv, hx, if_pos rfl] at hnx
        simp [aappend, arrG, sealRows, sealCells, List.range_succ, hro]
        refine ⟨i + 1, v + 1, out ++ [(i : Int)], less_envOf (by simp [hw]) rfl ?_, ⟨by omega, hnx.symm⟩, by omega⟩
        intro j
        by_cases hj : j = 12 <;> simp [hj, arrG]
      | false =>
        rw [hmv, hx, if_neg (by simp)] at hnx
        simp
        exact ⟨i + 1, v, out, less_envOf (by simp [hw]) rfl fun _ => rfl, ⟨by omega, hnx.symm⟩, by omega⟩
    | false =>
      rw [hm] at hmv
      simp only [Bool.not_false, Bool.false_and, Bool.or_false, Bool.true_and] at hmv
      simp
      refine call_p (p_has k a hal i) (by simp) ?_
      cases hx : memI i a with
      | true =>
        rw [hmv, hx, if_pos rfl] at hnx
        simp [aappend, arrG, sealRows, sealCells, List.range_succ, hro]
        refine ⟨i + 1, v + 1, out ++ [(i : Int)], less_envOf (by simp [hw]) rfl ?_, ⟨by omega, hnx.symm⟩, by omega⟩
        intro j
        by_cases hj : j = 12 <;> simp [hj, arrG]
      | false =>
        rw [hmv, hx, if_neg (by simp)] at hnx
        simp
        exact ⟨i + 1, v, out, less_envOf (by simp [hw]) rfl fun _ => rfl, ⟨by omega, hnx.symm⟩, by omega⟩
  · have e : i = c.length := by omega
    subst e
    have e2 : out = M := by rw [h2, hM]; rfl
    subst e2
    simp [arrG]

end Go.Proofs.YtokhnmchnfkiiaaGreat.Am

/- A set in which names are as in another one, as the program makes it. No conditions. -/
namespace Go.Proofs.YtokhnmchnfkiiaaGreat.Am
open Go Go.RowKit Go.Proofs
set_option linter.unusedSimpArgs false
set_option linter.unusedVariables false

@[simp] theorem tf_zok (own verT wr : Nat → Bool) (md : Nat) : Cfg.zerOK ⟨Tryz.prog, own, verT, wr, md⟩ 149 = true := by kernel_rfl
@[simp] theorem tf_zer (own verT wr : Nat → Bool) (md : Nat) : Cfg.zer ⟨Tryz.prog, own, verT, wr, md⟩ 149 = some [.v .nilFunc] := by kernel_rfl

@[simp] theorem tf_csz (own verT wr : Nat → Bool) (md : Nat) : Cfg.csz ⟨Tryz.prog, own, verT, wr, md⟩ 149 = some 1 := by kernel_rfl

theorem q_is (d f e : Bool) (c : List Pk) (N : List ByteArray) (hN : N.length ≤ 4611686018427387904) (x : Int) (hx : 0 ≤ x ∧ x.toNat < c.length) (i j : Nat) (bs : List (List AV)) (hi : bs[i]? = some [strsAV e N]) (hj : bs[j]? = some [pksAV d f c]) :
    BCall Tryz.prog 166 [.v (.int .i64 x), .box i 0, .box j 0] bs (.v (.bool (isN c N x))) := by
  obtain ⟨q1, q2⟩ := hx
  have hg := pkAt_get q2
  refine bcode Tryz.func166 rfl (by decide) (by simp [Tryz.f166]) (by simp) fun ver => ?_
  simp only [Tryz.f166, Gb]
  simp
  refine adraw_all (by kernel_rfl) ?_
  simp [hi, hj, q1, hg]
  refine call_p (q_contains e N hN _) (by simp) ?_
  simp [isN]

theorem q_isnt (d f e : Bool) (c : List Pk) (N : List ByteArray) (hN : N.length ≤ 4611686018427387904) (x : Int) (hx : 0 ≤ x ∧ x.toNat < c.length) (i j h : Nat) (bs : List (List AV)) (hst : Stab bs) (hi : bs[i]? = some [strsAV e N]) (hj : bs[j]? = some [pksAV d f c]) (hh : bs[h]? = some [.clo 166 [] [.box i 0, .box j 0]]) :
    BCall Tryz.prog 168 [.v (.int .i64 x), .box h 0] bs (.v (.bool (!isN c N x))) := by
  refine bcode Tryz.func168 rfl (by decide) (by simp [Tryz.f168]) (by simp) fun ver => ?_
  simp only [Tryz.f168, Gb]
  simp [hh]
  refine call_b (q_is d f e c N hN x hx i j bs hi hj) (hst _) ?_
  simp

theorem q_thoseL (k : Bool) (l : List Int) (h0 : l ≠ []) (hl : l.length * 8 ≤ 140737488355328) (f : FuncId) (post : List AV) (bs : List (List AV)) (q : Int → Bool) (hst : Stab (bs ++ [[AV.clo f [] post]])) (hs2 : StabA post)
    (hcl : ∀ cs ∈ bs, ∀ c ∈ cs, c.closed) (hcp : ∀ c ∈ post, c.closed) (h : ∀ x ∈ l, BCall Tryz.prog f ([.v (.int .i64 x)] ++ post) (bs ++ [[AV.clo f [] post]]) (.v (.bool (q x)))) :
    OCallB Tryz.prog 167 bs none [intsAV k l, .clo f [] post] (some (false, 2, (l.filter q).map intCells)) (.arr 0 0 0 (l.filter q).length) := by
  cases l with
  | nil => exact absurd rfl h0
  | cons a l => exact q_those k a l hl f post bs q hst hs2 hcl hcp h

/-- The boxes of the call. -/
def mvBs (d f e : Bool) (c : List Pk) (N : List ByteArray) : List (List AV) := [[pksAV d f c], [strsAV e N], [.clo 166 [] [.box 1 0, .box 0 0]]]
theorem mvBs_closed (d f e : Bool) (c : List Pk) (N : List ByteArray) : ∀ cs ∈ mvBs d f e c N, ∀ x ∈ cs, x.closed := by
  intro cs hcs x hx
  simp only [mvBs, List.mem_cons, List.not_mem_nil, or_false] at hcs
  rcases hcs with rfl | rfl | rfl
  · simp at hx
    subst hx
    exact closed_pks d f c
  · simp at hx
    subst hx
    exact .sl _ _ (by intro e he x hx; obtain ⟨s, _, rfl⟩ := List.mem_map.1 he; simp at hx; subst hx; exact .v _)
  · simp at hx
    subst hx
    exact .clo _ _ _ (by simp) (by simp; exact ⟨.box _ _, .box _ _⟩)
theorem q_keep (d f e k : Bool) (c : List Pk) (N : List ByteArray) (hN : N.length ≤ 4611686018427387904) (a : List Int) (ha : Places c.length a) (h0 : a ≠ []) (hl : a.length ≤ 1000) :
    OCallB Tryz.prog 167 (mvBs d f e c N) none [intsAV k a, .clo 168 [] [.box 2 0]] (some (false, 2, (a.filter fun k => !isN c N k).map intCells)) (.arr 0 0 0 (a.filter fun k => !isN c N k).length) := by
  refine q_thoseL k a h0 (by omega) 168 [.box 2 0] (mvBs d f e c N) (fun k => !isN c N k) (fun _ => rfl) (fun _ => rfl) (mvBs_closed d f e c N) (by simp; exact .box _ _) fun x hx => ?_
  exact q_isnt d f e c N hN x (ha x hx) 1 0 2 _ (fun _ => rfl) rfl rfl rfl
theorem q_take (d f e k : Bool) (c : List Pk) (N : List ByteArray) (hN : N.length ≤ 4611686018427387904) (a : List Int) (ha : Places c.length a) (h0 : a ≠ []) (hl : a.length ≤ 1000) :
    OCallB Tryz.prog 167 (mvBs d f e c N) none [intsAV k a, .clo 166 [] [.box 1 0, .box 0 0]] (some (false, 2, (a.filter (isN c N)).map intCells)) (.arr 0 0 0 (a.filter (isN c N)).length) := by
  refine q_thoseL k a h0 (by omega) 166 [.box 1 0, .box 0 0] (mvBs d f e c N) (isN c N) (fun _ => rfl) (fun _ => rfl) (mvBs_closed d f e c N) (by simp; exact ⟨.box _ _, .box _ _⟩) fun x hx => ?_
  exact q_is d f e c N hN x (ha x hx) 1 0 _ rfl rfl
theorem n_keep (d f e k : Bool) (c : List Pk) (N : List ByteArray) : BCall Tryz.prog 167 [.sl k [], .clo 168 [] [.box 2 0]] (mvBs d f e c N) .nil := n_those0 k _ _ _ (fun _ => rfl) (fun _ => rfl)
theorem n_take (d f e k : Bool) (c : List Pk) (N : List ByteArray) : BCall Tryz.prog 167 [.sl k [], .clo 166 [] [.box 1 0, .box 0 0]] (mvBs d f e c N) .nil := n_those0 k _ _ _ (fun _ => rfl) (fun _ => rfl)

theorem cl2 (k : Bool) (a : List Int) : ∀ x ∈ [AV.sl k (a.map intCells), .clo 168 [] [.box 2 0]], AV.closed x := by
  intro x hx
  rcases List.mem_cons.1 hx with rfl | hx
  · exact closed_ints k a
  · simp at hx
    subst hx
    exact .clo _ _ _ (by simp) (by simp; exact .box _ _)
theorem cl3 (k : Bool) (a : List Int) : ∀ x ∈ [AV.sl k (a.map intCells), .clo 166 [] [.box 1 0, .box 0 0]], AV.closed x := by
  intro x hx
  rcases List.mem_cons.1 hx with rfl | hx
  · exact closed_ints k a
  · simp at hx
    subst hx
    exact .clo _ _ _ (by simp) (by simp; exact ⟨.box _ _, .box _ _⟩)

set_option maxHeartbeats 4000000 in
set_option maxRecDepth 10000 in
theorem q_movedO (d f k e : Bool) (c : List Pk) (a b : List Int) (ha : Places c.length a) (hb : Places c.length b) (hal : a.length ≤ 1000) (hbl : b.length ≤ 1000) (N : List ByteArray) (hN : N.length ≤ 4611686018427387904) (h0 : a ≠ []) :
    OCall Tryz.prog 103 none [pksAV d f c, intsAV k a, intsAV k b, strsAV e N] (some (false, 2, (sortI (mvL c a b N)).map intCells)) (.arr 0 0 0 (sortI (mvL c a b N)).length) := by
  have hk := q_keep d f e k c N hN a ha h0 hal
  have hfl := List.length_filter_le (fun k => !isN c N k) a
  have hfl2 := List.length_filter_le (isN c N) b
  have hL : mvL c a b N = (a.filter fun k => !isN c N k) ++ b.filter (isN c N) := rfl
  obtain ⟨L, hL2⟩ : ∃ L, L = mvL c a b N := ⟨_, rfl⟩
  obtain ⟨F, hF⟩ : ∃ F, F = a.filter fun k => !isN c N k := ⟨_, rfl⟩
  rw [← hF] at hk hfl hL
  rw [← hL2] at hL ⊢
  obtain ⟨Z, hZ⟩ : ∃ Z, Z = mvBs d f e c N := ⟨_, rfl⟩
  have hcl := mvBs_closed d f e c N
  have hZb : Z = [[pksAV d f c], [strsAV e N], [.clo 166 [] [.box 1 0, .box 0 0]]] := hZ
  refine own_of_code (G := Go1 14) (verso 14) mixed0 Tryz.func103 rfl (by decide) (by simp [Tryz.f103]) 14 .dead (by intro s' e es h; cases h; exact fr_int _) ?_
  obtain ⟨ver, hver⟩ : ∃ ver : Nat → Nat, ver = fun _ => 0 := ⟨_, rfl⟩
  have hin : inArrs none = noArrs ver := by rw [hver]; rfl
  rw [hin]
  clear hin hver
  simp only [Tryz.f103, Go1]
  refine seq_step ⟨[[pksAV d f c], [strsAV e N]], noArrs ver⟩ (fun E => E 1 = intsAV k a ∧ E 2 = intsAV k b ∧ E 4 = .box 0 0 ∧ E 7 = .box 1 0) ?_ ?_
  · simp
  rintro E ⟨z1, z2, z4, z7⟩
  refine seq_step ⟨Z, noArrs ver⟩ (fun E => E 1 = intsAV k a ∧ E 2 = intsAV k b ∧ E 9 = .box 2 0) ?_ ?_
  · simp [z1, z2, z4, z7, hZb, AV.one]
  rintro E ⟨z1, z2, z9⟩
  have x5 : List.idxOf 5 [2, 5, 6] = 1 := by decide
  have x6 : List.idxOf 6 [2, 5, 6] = 2 := by decide
  have hro : (F.length + (b.filter (isN c N)).length) * 8 ≤ 140737488355328 := by omega
  rw [acode_seq]
  refine acode_cut (fun s => ∃ v A, s.mem = ⟨Z, A⟩ ∧ A 14 = ⟨v, true, 2, L.map intCells⟩ ∧ s.env 10 = .arr 14 v 0 L.length) ?_ ?_
  · by_cases hb0 : b = []
    · subst hb0
      have hLF : L = F := by rw [hL]; simp
      have hn := n_take d f e k c N
      simp
      refine adraw_g [0, 1, 2, 3, 4, 5, 6, 7] [2, 5, 6] [⟨Z, noArrs ver⟩, ⟨Z, arrW 14 (ver 14 + 1) 2 (F.map intCells) ver⟩, ⟨Z, arrW 14 (ver 14 + 1) 2 (F.map intCells) ver⟩, ⟨Z, arrW 14 (ver 14 + 1 + 1) 2 (F.map intCells) ver⟩]
        [intsAV k a, .clo 168 [] [.box 2 0], .arr 14 (ver 14 + 1) 0 F.length, intsAV k [], .clo 166 [] [.box 1 0, .box 0 0], .nil, .arr 14 (ver 14 + 1 + 1) 0 F.length, .arr 14 (ver 14 + 1 + 1) 0 F.length] (by decide +kernel) rfl rfl ?_
      simp [tellG_cons, tellG_nil, onTell, yieldsTo, z1, z2, z9, x5, x6, hZb]
      refine ⟨call_nb 14 hk rfl (cl2 _ _) hcl (by simp [noArrs_put]), ?_⟩
      refine ⟨call_bN hn (by simp [lendN]) rfl (by simp), ?_⟩
      have hroF : F.length * 8 ≤ 140737488355328 := by omega
      simp [aappend, sealRows, arrW_put, hLF, hroF]
    · have hq := q_take d f e k c N hN b hb hb0 hbl
      obtain ⟨K, hK⟩ : ∃ K, K = b.filter (isN c N) := ⟨_, rfl⟩
      rw [← hK] at hq hL hro
      have m2 : (fun j => if j = 17 then (⟨ver 17 + 1, true, 2, K.map intCells⟩ : ArrSt) else arrW 14 (ver 14 + 1) 2 (F.map intCells) ver j) = arr2 14 (ver 14 + 1) 2 (F.map intCells) 17 (ver 17 + 1) 2 (K.map intCells) ver := by
        funext j
        simp [arr2, arrW]
      have m3 : (fun j => if j = 14 then (⟨ver 14 + 1 + 1, true, 2, F.map intCells ++ K.map intCells⟩ : ArrSt) else arr2 14 (ver 14 + 1) 2 (F.map intCells) 17 (ver 17 + 1) 2 (K.map intCells) ver j) = arr2 14 (ver 14 + 1 + 1) 2 (L.map intCells) 17 (ver 17 + 1) 2 (K.map intCells) ver := by
        funext j
        rw [hL, List.map_append]
        by_cases h14 : j = 14 <;> simp [arr2, h14]
      have n17 : arrW 14 (ver 14 + 1) 2 (F.map intCells) ver 17 = noArrs ver 17 := by simp [arrW]
      have g14 : arr2 14 (ver 14 + 1) 2 (F.map intCells) 17 (ver 17 + 1) 2 (K.map intCells) ver 14 = ⟨ver 14 + 1, true, 2, F.map intCells⟩ := by simp [arr2]
      have g17 : arr2 14 (ver 14 + 1) 2 (F.map intCells) 17 (ver 17 + 1) 2 (K.map intCells) ver 17 = ⟨ver 17 + 1, true, 2, K.map intCells⟩ := by simp [arr2]
      have hLl : F.length + K.length = L.length := by rw [hL, List.length_append]
      simp
      refine adraw_g [0, 1, 2, 3, 4, 5, 6, 7] [2, 5, 6] [⟨Z, noArrs ver⟩, ⟨Z, arrW 14 (ver 14 + 1) 2 (F.map intCells) ver⟩, ⟨Z, arr2 14 (ver 14 + 1) 2 (F.map intCells) 17 (ver 17 + 1) 2 (K.map intCells) ver⟩, ⟨Z, arr2 14 (ver 14 + 1 + 1) 2 (L.map intCells) 17 (ver 17 + 1) 2 (K.map intCells) ver⟩]
        [intsAV k a, .clo 168 [] [.box 2 0], .arr 14 (ver 14 + 1) 0 F.length, intsAV k b, .clo 166 [] [.box 1 0, .box 0 0], .arr 17 (ver 17 + 1) 0 K.length, .arr 14 (ver 14 + 1 + 1) 0 L.length, .arr 14 (ver 14 + 1 + 1) 0 L.length] (by decide +kernel) rfl rfl ?_
      simp [tellG_cons, tellG_nil, onTell, yieldsTo, z1, z2, z9, x5, x6, hZb]
      refine ⟨call_nb 14 hk rfl (cl2 _ _) hcl (by simp [noArrs_put]), ?_⟩
      refine ⟨call_nb 17 hq rfl (cl3 _ _) hcl (by simp [n17, m2]), ?_⟩
      have hroL : L.length * 8 ≤ 140737488355328 := by omega
      simp [aappend, g14, g17, hLl, m3, hroL]
      simp [arr2]
  · rintro ⟨E, M⟩ ⟨v, A, hM, hA, z10⟩
    simp only at hM z10
    subst hM
    rw [kSeq_normal]
    have hsl := sortI_length L
    have hLl : L.length ≤ 2000 := by rw [hL, List.length_append]; omega
    simp [z10]
    refine call_s 14 v 2 (L.map intCells) (by simp [hA]) (o_sortInt L (by omega)) (by simp [hA]) (by simp) (fr_int _) ?_
    simp [z10, hsl]

set_option maxHeartbeats 4000000 in
set_option maxRecDepth 10000 in
theorem q_movedP (d f k e : Bool) (c : List Pk) (b : List Int) (hb : Places c.length b) (hbl : b.length ≤ 1000) (N : List ByteArray) (hN : N.length ≤ 4611686018427387904) (h0 : b.filter (isN c N) ≠ []) :
    OCall Tryz.prog 103 none [pksAV d f c, intsAV k [], intsAV k b, strsAV e N] (some (false, 2, (sortI (mvL c [] b N)).map intCells)) (.arr 0 0 0 (sortI (mvL c [] b N)).length) := by
  have hb0 : b ≠ [] := fun h => h0 (by rw [h]; rfl)
  have hq := q_take d f e k c N hN b hb hb0 hbl
  have hfl2 := List.length_filter_le (isN c N) b
  have hn := n_keep d f e k c N
  have hL : mvL c [] b N = b.filter (isN c N) := by simp [mvL]
  rw [hL]
  obtain ⟨K, hK⟩ : ∃ K, K = b.filter (isN c N) := ⟨_, rfl⟩
  rw [← hK] at hq h0 hfl2 ⊢
  obtain ⟨Z, hZ⟩ : ∃ Z, Z = mvBs d f e c N := ⟨_, rfl⟩
  have hcl := mvBs_closed d f e c N
  have hZb : Z = [[pksAV d f c], [strsAV e N], [.clo 166 [] [.box 1 0, .box 0 0]]] := hZ
  refine own_of_code (G := Go1 18) (verso 18) mixed0 Tryz.func103 rfl (by decide) (by simp [Tryz.f103]) 18 .dead (by intro s' e es h; cases h; exact fr_int _) ?_
  obtain ⟨ver, hver⟩ : ∃ ver : Nat → Nat, ver = fun _ => 0 := ⟨_, rfl⟩
  have hin : inArrs none = noArrs ver := by rw [hver]; rfl
  rw [hin]
  clear hin hver
  simp only [Tryz.f103, Go1]
  refine seq_step ⟨[[pksAV d f c], [strsAV e N]], noArrs ver⟩ (fun E => E 1 = intsAV k [] ∧ E 2 = intsAV k b ∧ E 4 = .box 0 0 ∧ E 7 = .box 1 0) ?_ ?_
  · simp
  rintro E ⟨z1, z2, z4, z7⟩
  refine seq_step ⟨Z, noArrs ver⟩ (fun E => E 1 = intsAV k [] ∧ E 2 = intsAV k b ∧ E 9 = .box 2 0) ?_ ?_
  · simp [z1, z2, z4, z7, hZb, AV.one]
  rintro E ⟨z1, z2, z9⟩
  have x5 : List.idxOf 5 [2, 5, 6] = 1 := by decide
  have x6 : List.idxOf 6 [2, 5, 6] = 2 := by decide
  have hro : K.length * 8 ≤ 140737488355328 := by omega
  rw [acode_seq]
  refine acode_cut (fun s => ∃ v A, s.mem = ⟨Z, A⟩ ∧ A 18 = ⟨v, true, 2, K.map intCells⟩ ∧ s.env 10 = .arr 18 v 0 K.length) ?_ ?_
  · have m3 : (fun j => if j = 18 then (⟨ver 18 + 1, true, 2, K.map intCells⟩ : ArrSt) else arrW 17 (ver 17 + 1) 2 (K.map intCells) ver j) = arr2 17 (ver 17 + 1) 2 (K.map intCells) 18 (ver 18 + 1) 2 (K.map intCells) ver := by
      funext j
      simp [arr2, arrW]
    have n18 : arrW 17 (ver 17 + 1) 2 (K.map intCells) ver 18 = noArrs ver 18 := by simp [arrW]
    simp
    refine adraw_g [0, 1, 2, 3, 4, 5, 6, 7] [2, 5, 6] [⟨Z, noArrs ver⟩, ⟨Z, noArrs ver⟩, ⟨Z, arrW 17 (ver 17 + 1) 2 (K.map intCells) ver⟩, ⟨Z, arr2 17 (ver 17 + 1) 2 (K.map intCells) 18 (ver 18 + 1) 2 (K.map intCells) ver⟩]
      [intsAV k [], .clo 168 [] [.box 2 0], .nil, intsAV k b, .clo 166 [] [.box 1 0, .box 0 0], .arr 17 (ver 17 + 1) 0 K.length, .arr 18 (ver 18 + 1) 0 K.length, .arr 18 (ver 18 + 1) 0 K.length] (by decide +kernel) rfl rfl ?_
    simp [tellG_cons, tellG_nil, onTell, yieldsTo, z1, z2, z9, x5, x6, hZb]
    refine ⟨call_bN hn (by simp [lendN]) rfl (by simp), ?_⟩
    refine ⟨call_nb 17 hq rfl (cl3 _ _) hcl (by simp [noArrs_put]), ?_⟩
    simp [aappend, Mem.made, n18, m3, hro, h0]
    simp [arr2]
  · rintro ⟨E, M⟩ ⟨v, A, hM, hA, z10⟩
    simp only at hM z10
    subst hM
    rw [kSeq_normal]
    have hsl := sortI_length K
    simp [z10]
    refine call_s 18 v 2 (K.map intCells) (by simp [hA]) (o_sortInt K (by omega)) (by simp [hA]) (by simp) (fr_int _) ?_
    simp [z10, hsl]

set_option maxHeartbeats 4000000 in
set_option maxRecDepth 10000 in
theorem q_movedA (d f k e : Bool) (c : List Pk) (b : List Int) (hb : Places c.length b) (hbl : b.length ≤ 1000) (N : List ByteArray) (hN : N.length ≤ 4611686018427387904) (h0 : b.filter (isN c N) = []) :
    Pure Tryz.prog 103 [pksAV d f c, intsAV k [], intsAV k b, strsAV e N] (.sl false []) := by
  have hn := n_keep d f e k c N
  obtain ⟨Z, hZ⟩ : ∃ Z, Z = mvBs d f e c N := ⟨_, rfl⟩
  have hcl := mvBs_closed d f e c N
  have hZb : Z = [[pksAV d f c], [strsAV e N], [.clo 166 [] [.box 1 0, .box 0 0]]] := hZ
  refine pure_of_code (G := (G0)) vers0 mixed0 Tryz.func103 rfl (by decide) (by simp [Tryz.f103]) (by simp) fun ver => ?_
  simp only [Tryz.f103, G0]
  refine seq_step ⟨[[pksAV d f c], [strsAV e N]], noArrs ver⟩ (fun E => E 1 = intsAV k [] ∧ E 2 = intsAV k b ∧ E 4 = .box 0 0 ∧ E 7 = .box 1 0) ?_ ?_
  · simp
  rintro E ⟨z1, z2, z4, z7⟩
  refine seq_step ⟨Z, noArrs ver⟩ (fun E => E 1 = intsAV k [] ∧ E 2 = intsAV k b ∧ E 9 = .box 2 0) ?_ ?_
  · simp [z1, z2, z4, z7, hZb, AV.one]
  rintro E ⟨z1, z2, z9⟩
  have x5 : List.idxOf 5 [2, 5, 6] = 1 := by decide
  have x6 : List.idxOf 6 [2, 5, 6] = 2 := by decide
  rw [acode_seq]
  refine acode_cut (fun s => s.env 10 = .nil) ?_ ?_
  · by_cases hb0 : b = []
    · subst hb0
      have hn2 := n_take d f e k c N
      simp
      refine adraw_g [0, 1, 2, 3, 4, 5, 6, 7] [2, 5, 6] [⟨Z, noArrs ver⟩, ⟨Z, noArrs ver⟩, ⟨Z, noArrs ver⟩, ⟨Z, noArrs ver⟩]
        [intsAV k [], .clo 168 [] [.box 2 0], .nil, intsAV k [], .clo 166 [] [.box 1 0, .box 0 0], .nil, .nil, .nil] (by decide +kernel) rfl rfl ?_
      simp [tellG_cons, tellG_nil, onTell, yieldsTo, z1, z2, z9, x5, x6, hZb]
      refine ⟨call_bN hn (by simp [lendN]) rfl (by simp), ?_⟩
      refine ⟨call_bN hn2 (by simp [lendN]) rfl (by simp), ?_⟩
      simp [aappend]
    · have hq := q_take d f e k c N hN b hb hb0 hbl
      rw [h0] at hq
      simp
      refine adraw_g [0, 1, 2, 3, 4, 5, 6, 7] [2, 5, 6] [⟨Z, noArrs ver⟩, ⟨Z, noArrs ver⟩, ⟨Z, arrW 17 (ver 17 + 1) 2 [] ver⟩, ⟨Z, arrW 17 (ver 17 + 1) 2 [] ver⟩]
        [intsAV k [], .clo 168 [] [.box 2 0], .nil, intsAV k b, .clo 166 [] [.box 1 0, .box 0 0], .arr 17 (ver 17 + 1) 0 0, .nil, .nil] (by decide +kernel) rfl rfl ?_
      simp [tellG_cons, tellG_nil, onTell, yieldsTo, z1, z2, z9, x5, x6, hZb]
      refine ⟨call_bN hn (by simp [lendN]) rfl (by simp), ?_⟩
      refine ⟨call_nb 17 hq rfl (cl3 _ _) hcl (by simp [noArrs_put]), ?_⟩
      simp [aappend]
  · rintro ⟨E, M⟩ z10
    simp only at z10
    rw [kSeq_normal]
    simp [z10]
    refine call_p (p_sortInt0 true) (by simp) ?_
    simp [z10]

end Go.Proofs.YtokhnmchnfkiiaaGreat.Am
