import Derived.Test.YtokhnmchnfkiiaaGreatAmCg15
/- slices.SortStableFunc at numbers, eighth part: what symMerge does. No conditions. -/
namespace Go.Proofs.YtokhnmchnfkiiaaGreat.Am
open Go Go.RowKit Go.Proofs
set_option linter.unusedSimpArgs false
set_option linter.unusedVariables false

theorem Mv.len {l l1 : List Int} {a b : Nat} (h : Mv l l1 a b) : l1.length = l.length := h.perm.length_eq

set_option maxHeartbeats 4000000 in
theorem s_sym (f : FuncId) (post : List AV) (bs : List (List AV)) (K : Int → Int → Int) (B : Int → Int → Bool) (hB : B = fun y x => decide (K y x < 0)) (hst : Stab bs) (hs2 : StabA post) (hcl : ∀ cs ∈ bs, ∀ c ∈ cs, c.closed) (hcp : ∀ c ∈ post, c.closed) :
    ∀ (N : Nat) (l : List Int) (a m b : Nat), b ≤ a + N → a < m → m < b → b ≤ l.length → l.length ≤ 1000 → Tr B l → Two B l a m b →
      (∀ x ∈ l, ∀ y ∈ l, BCall Tryz.prog f ([.v (.int .i64 x), .v (.int .i64 y)] ++ post) bs (.v (.int .i64 (K x y)))) →
      ∃ l', OCallB Tryz.prog 249 bs (some (2, l.map intCells)) [.arr 0 0 0 l.length, .v (.int .i64 a), .v (.int .i64 m), .v (.int .i64 b), .clo f [] post] (some (true, 2, l'.map intCells)) (.tup []) ∧ Mv l l' a b ∧ Srt B l' a b
  | 0, l, a, m, b, h0, h1, h2, _, _, _, _, _ => by omega
  | N + 1, l, a, m, b, h0, h1, h2, h3, h4, hT, h5, h => by
    by_cases c1 : m = a + 1
    · subst c1
      obtain ⟨p, hp⟩ : ∃ p, p = bsr (fun k => decide (K (at0 l k) (at0 l a) < 0)) (b - (a + 1)) (a + 1) b := ⟨_, rfl⟩
      obtain ⟨q1, q2, q3, q4⟩ := bsr_ok (fun k => decide (K (at0 l k) (at0 l a) < 0)) (b - (a + 1)) (a + 1) b (by omega) (by omega)
      rw [← hp] at q1 q2 q3 q4
      obtain ⟨r1, r2⟩ := one_left2 h3 hT h5 q1 q2 (by rw [hB]; exact q3) (by rw [hB]; exact q4)
      exact ⟨_, s_sym1 l h4 a b h2 h3 f post bs K hst hs2 h p hp, r1, r2⟩
    by_cases c2 : b = m + 1
    · subst c2
      obtain ⟨p, hp⟩ : ∃ p, p = bsr (fun k => !decide (K (at0 l m) (at0 l k) < 0)) (m - a) a m := ⟨_, rfl⟩
      obtain ⟨q1, q2, q3, q4⟩ := bsr_ok (fun k => !decide (K (at0 l m) (at0 l k) < 0)) (m - a) a m (by omega) (by omega)
      rw [← hp] at q1 q2 q3 q4
      obtain ⟨r1, r2⟩ := one_right2 h3 hT h5 q1 q2 (by rw [hB]; simpa using q3) (by rw [hB]; simpa using q4)
      exact ⟨_, s_sym2 l h4 a m (by omega) h3 f post bs K hst hs2 h p hp, r1, r2⟩
    obtain ⟨mid, hmid⟩ : ∃ mid, mid = (a + b) / 2 := ⟨_, rfl⟩
    obtain ⟨P, hP⟩ : ∃ P, P = mid + m - 1 := ⟨_, rfl⟩
    obtain ⟨s, hs⟩ : ∃ s, s = bsr (fun k => !decide (K (at0 l (P - k)) (at0 l k) < 0)) (r0 a m b - s0 a m b) (s0 a m b) (r0 a m b) := ⟨_, rfl⟩
    obtain ⟨E, hE⟩ : ∃ E, E = mid + m - s := ⟨_, rfl⟩
    obtain ⟨e1, e2, e3, e4, e5, e6⟩ := sr a m b (by omega) (by omega)
    obtain ⟨q1, q2, q3, q4⟩ := bsr_ok (fun k => !decide (K (at0 l (P - k)) (at0 l k) < 0)) (r0 a m b - s0 a m b) (s0 a m b) (r0 a m b) e2 (by omega)
    rw [← hs] at q1 q2 q3 q4
    rw [← hmid] at e4 e5 e6
    have hEl : E + s = mid + m := by omega
    have hEb : E ≤ b := by omega
    have hmE : m ≤ E := by omega
    have has : a ≤ s := by omega
    have hsm : s ≤ m := by omega
    have hsd : s ≤ mid := by omega
    have ham : a ≤ mid := by omega
    have hmb : mid ≤ b := by omega
    have F1 := part_one h3 h1 h2 hT h5 q1 q2 (by rw [hB, ← hmid, ← hP]; simpa using q3)
    have F2 := part_two h3 h1 h2 hT h5 q1 q2 (by rw [hB, ← hmid, ← hP]; simpa using q4)
    rw [← hmid, ← hE] at F1 F2
    -- the middle parts change places
    obtain ⟨l1, t1, t2, t3, t4⟩ : ∃ l1, l1.Perm l ∧ Turned l l1 s m mid E ∧ (s < m ∧ m < E → OCallB Tryz.prog 262 bs (some (2, l.map intCells)) [.arr 0 0 0 l.length, .v (.int .i64 s), .v (.int .i64 m), .v (.int .i64 E), .clo f [] post] (some (true, 2, l1.map intCells)) (.tup [])) ∧ (¬ (s < m ∧ m < E) → l1 = l) := by
      by_cases c : s < m ∧ m < E
      · refine ⟨rotL m (E - s) (m - s) (E - m) l, rotL_perm m _ _ _ l (by omega) (by omega), fun k => ?_, fun _ => s_rotate l h4 s m E c.1 c.2 (by omega) f post bs hst hs2 hcl hcp, fun n => absurd c n⟩
        rw [at0_rot m (E - s) (m - s) (E - m) l k (by omega) (by omega) (by omega) (by omega) (by omega)]
        repeat' split
        all_goals first
          | (exfalso; omega)
          | (congr 1; omega)
          | rfl
      · refine ⟨l, List.Perm.refl l, fun k => ?_, fun n => absurd n c, fun _ => rfl⟩
        repeat' split
        all_goals first
          | (exfalso; omega)
          | (congr 1; omega)
          | rfl
    have u1 := two_a has hsm hsd hEl hEb h5 t2
    have hT1 := hT.perm t1
    have hh1 : ∀ x ∈ l1, ∀ y ∈ l1, BCall Tryz.prog f ([.v (.int .i64 x), .v (.int .i64 y)] ++ post) bs (.v (.int .i64 (K x y))) := fun x hx y hy => h x (t1.mem_iff.1 hx) y (t1.mem_iff.1 hy)
    have k1 := t1.length_eq
    obtain ⟨l2, v1, v2, v3, v4⟩ : ∃ l2, Mv l1 l2 a mid ∧ Srt B l2 a mid ∧ (a < s ∧ s < mid → OCallB Tryz.prog 249 bs (some (2, l1.map intCells)) [.arr 0 0 0 l.length, .v (.int .i64 a), .v (.int .i64 s), .v (.int .i64 mid), .clo f [] post] (some (true, 2, l2.map intCells)) (.tup [])) ∧ (¬ (a < s ∧ s < mid) → l2 = l1) := by
      by_cases c : a < s ∧ s < mid
      · obtain ⟨l2, w1, w2, w3⟩ := s_sym f post bs K B hB hst hs2 hcl hcp N l1 a s mid (by omega) c.1 c.2 (by omega) (by omega) hT1 u1 hh1
        rw [k1] at w1
        exact ⟨l2, w2, w3, fun _ => w1, fun n => absurd c n⟩
      · exact ⟨l1, Mv.refl _ _ _, two_empty u1 (by omega), fun n => absurd n c, fun _ => rfl⟩
    have k2 := v1.len
    have u2 := two_b has hsm hsd hmE hEl hEb h5 t2 (fun k hk => v1.out k (by omega))
    have hT2 := hT1.perm v1.perm
    have hh2 : ∀ x ∈ l2, ∀ y ∈ l2, BCall Tryz.prog f ([.v (.int .i64 x), .v (.int .i64 y)] ++ post) bs (.v (.int .i64 (K x y))) := fun x hx y hy => hh1 x (v1.perm.mem_iff.1 hx) y (v1.perm.mem_iff.1 hy)
    obtain ⟨l3, y1, y2, y3, y4⟩ : ∃ l3, Mv l2 l3 mid b ∧ Srt B l3 mid b ∧ (mid < E ∧ E < b → OCallB Tryz.prog 249 bs (some (2, l2.map intCells)) [.arr 0 0 0 l.length, .v (.int .i64 mid), .v (.int .i64 E), .v (.int .i64 b), .clo f [] post] (some (true, 2, l3.map intCells)) (.tup [])) ∧ (¬ (mid < E ∧ E < b) → l3 = l2) := by
      by_cases c : mid < E ∧ E < b
      · obtain ⟨l3, w1, w2, w3⟩ := s_sym f post bs K B hB hst hs2 hcl hcp N l2 mid E b (by omega) c.1 c.2 (by omega) (by omega) hT2 u2 hh2
        rw [k2, k1] at w1
        exact ⟨l3, w2, w3, fun _ => w1, fun n => absurd c n⟩
      · exact ⟨l2, Mv.refl _ _ _, two_empty u2 (by omega), fun n => absurd n c, fun _ => rfl⟩
    refine ⟨l3, s_sym3 l l1 l2 l3 h4 a m b (by omega) (by omega) h3 f post bs K hst hs2 hcl hcp h mid s E P hmid hP hs hE k1 (by omega) (by rw [y1.len]; omega) t3 t4 v3 v4 y3 y4, ?_, ?_⟩
    · exact ((turned_mv t1 has hsm hsd hmE hEl hEb t2).trans (v1.wide (Nat.le_refl _) hmb)).trans (y1.wide ham (Nat.le_refl _))
    · exact all_srt has hsm hsd hmE hEl hEb ham hmb h5 t2 F1 F2 v1 v2 y1 y2

end Go.Proofs.YtokhnmchnfkiiaaGreat.Am

/- slices.SortStableFunc at numbers, ninth part: what insertion does; the whole. No conditions. -/
namespace Go.Proofs.YtokhnmchnfkiiaaGreat.Am
open Go Go.RowKit Go.Proofs
set_option linter.unusedSimpArgs false
set_option linter.unusedVariables false

theorem sink_down (B : Int → Int → Bool) (a : Nat) : ∀ (j : Nat) (l : List Int), a ≤ j → j < l.length → ∃ p, a ≤ p ∧ p ≤ j ∧ sinkL B a j l = downL (j - p) j l ∧ (∀ k, p ≤ k → k < j → B (at0 l j) (at0 l k) = true) ∧ (p = a ∨ B (at0 l j) (at0 l (p - 1)) = false)
  | 0, l, h1, h2 => ⟨0, h1, Nat.le_refl _, rfl, fun k _ h => by omega, .inl (by omega)⟩
  | j + 1, l, h1, h2 => by
    rw [sinkL]
    by_cases c : a < j + 1 ∧ B (at0 l (j + 1)) (at0 l j) = true
    · rw [if_pos c]
      obtain ⟨p, q1, q2, q3, q4, q5⟩ := sink_down B a j (swapL l (j + 1) j) (by omega) (by simp; omega)
      have hsw := fun x => at0_swap (l := l) (i := j + 1) (j := j) h2 (by omega) x
      refine ⟨p, q1, by omega, ?_, fun k r1 r2 => ?_, ?_⟩
      · rw [q3, show j + 1 - p = (j - p) + 1 by omega, downL]
        rfl
      · by_cases e : k = j
        · rw [e]; exact c.2
        · have := q4 k r1 (by omega)
          rw [hsw j, hsw k, if_pos rfl, if_neg e, if_neg (by omega)] at this
          exact this
      · rcases q5 with q5 | q5
        · exact .inl q5
        · by_cases hp : p = 0
          · exact .inl (by omega)
          · right
            rw [hsw j, if_pos rfl, hsw (p - 1), if_neg (by omega), if_neg (by omega)] at q5
            exact q5
    · rw [if_neg c]
      refine ⟨j + 1, h1, Nat.le_refl _, ?_, fun k r1 r2 => by omega, ?_⟩
      · rw [Nat.sub_self]; rfl
      · by_cases e : a < j + 1
        · right
          have : ¬ B (at0 l (j + 1)) (at0 l j) = true := fun h => c ⟨e, h⟩
          simpa using this
        · exact .inl (by omega)

/-- From i on up to b the numbers rise, and lie over those between a and i. -/
def Up (l : List Int) (a i b : Nat) : Prop := ∀ u v, a ≤ u → u < v → i ≤ v → v < b → at0 l u < at0 l v
theorem sink_ok {B : Int → Int → Bool} {l : List Int} {a i b : Nat} (hai : a ≤ i) (hib : i < b) (hb : b ≤ l.length) (hT : Tr B l) (h1 : Srt B l a i) (h2 : Up l a i b) : Mv l (sinkL B a i l) a (i + 1) ∧ Srt B (sinkL B a i l) a (i + 1) := by
  obtain ⟨p, q1, q2, q3, q4, q5⟩ := sink_down B a i l hai (by omega)
  rw [q3]
  refine one_right2 (by omega) hT ⟨h1, fun u v r1 r2 r3 => by omega, fun u v r1 r2 r3 r4 => h2 u v r1 (by omega) r3 (by omega)⟩ q1 q2 q5 ?_
  by_cases e : p = i
  · exact .inl e
  · exact .inr (q4 p (Nat.le_refl _) (by omega))
theorem ins_ok {B : Int → Int → Bool} {a b : Nat} : ∀ (k i : Nat) (l : List Int), a ≤ i → i + k = b → b ≤ l.length → Tr B l → Srt B l a i → Up l a i b → Mv l (insL B a k i l) a b ∧ Srt B (insL B a k i l) a b
  | 0, i, l, h1, h2, h3, hT, h4, h5 => by
    rw [insL]
    rw [Nat.add_zero] at h2
    subst h2
    exact ⟨Mv.refl _ _ _, h4⟩
  | k + 1, i, l, h1, h2, h3, hT, h4, h5 => by
    rw [insL]
    obtain ⟨g1, g2⟩ := sink_ok h1 (show i < b by omega) h3 hT h4 h5
    have hu : Up (sinkL B a i l) a (i + 1) b := by
      intro u v r1 r2 r3 r4
      rw [g1.out v (by omega)]
      by_cases c : u < i + 1
      · obtain ⟨u2, s1, s2, s3⟩ := g1.inn u r1 c
        rw [s3]
        exact h5 u2 v s1 (by omega) (by omega) r4
      · rw [g1.out u (by omega)]
        exact h5 u v r1 r2 (by omega) r4
    obtain ⟨g3, g4⟩ := ins_ok k (i + 1) (sinkL B a i l) (by omega) (by omega) (by rw [g1.len]; exact h3) (hT.perm g1.perm) g2 hu
    exact ⟨(g1.wide (Nat.le_refl _) (by omega)).trans g3, g4⟩
/-- What insertion does between a and b, where the numbers rise. -/
theorem insert_ok {B : Int → Int → Bool} {l : List Int} {a b : Nat} (hab : a ≤ b) (hb : b ≤ l.length) (hT : Tr B l) (h : ∀ u v, a ≤ u → u < v → v < b → at0 l u < at0 l v) :
    Mv l (insL B a (b - (a + 1)) (a + 1) l) a b ∧ Srt B (insL B a (b - (a + 1)) (a + 1) l) a b := by
  by_cases e : a = b
  · subst e
    rw [show a - (a + 1) = 0 by omega, insL]
    exact ⟨Mv.refl _ _ _, fun i j r1 r2 r3 => by omega⟩
  · exact ins_ok _ _ l (by omega) (by omega) hb hT (fun i j r1 r2 r3 => by omega) fun u v r1 r2 r3 r4 => h u v r1 r2 r4

end Go.Proofs.YtokhnmchnfkiiaaGreat.Am

/- slices.SortStableFunc at numbers, tenth part: the whole, for fewer than forty. No conditions. -/
namespace Go.Proofs.YtokhnmchnfkiiaaGreat.Am
open Go Go.RowKit Go.Proofs
set_option linter.unusedSimpArgs false
set_option linter.unusedVariables false

section
variable (f : FuncId) (post : List AV) (bs : List (List AV)) (hst : Stab bs) (hcl : ∀ cs ∈ bs, ∀ c ∈ cs, c.closed) (hcp : ∀ c ∈ post, c.closed)
include hst hcl hcp

set_option maxHeartbeats 4000000 in
set_option maxRecDepth 10000 in
theorem s_stableA (l l1 : List Int) (hl : l.length < 20) (h1 : OCallB Tryz.prog 248 bs (some (2, l.map intCells)) [.arr 0 0 0 l.length, .v (.int .i64 0), .v (.int .i64 l.length), .clo f [] post] (some (true, 2, l1.map intCells)) (.tup [])) (k1 : l1.length = l.length) :
    OCallB Tryz.prog 207 bs (some (2, l.map intCells)) [.arr 0 0 0 l.length, .v (.int .i64 l.length), .clo f [] post] (some (true, 2, l1.map intCells)) (.tup []) := by
  refine own_of_codeB (G := Gob bs.length 999) (versob _ _) mixed0 Tryz.func207 rfl (by decide) (by simp [Tryz.f207]) (fun k hk => by simpa [Gob] using hk) 0 (by simp) (by intro s e es h; cases h; exact fr_int _) ?_
  simp only [Tryz.f207, Gob, inArrs_some]
  have n1 : ¬ (20 : Int) ≤ l.length := by omega
  have n2 : ¬ (20 : Int) < l.length := by omega
  simp
  refine aloop (α := Unit) (fun _ => ⟨envOf [(0, .arr 0 0 0 l.length), (1, .v (.int .i64 l.length)), (2, .clo f [] post), (6, .v (.int .i64 20)), (7, .v (.int .i64 0)), (8, .v (.int .i64 20))], ⟨bs, arr1 0 0 2 (l.map intCells)⟩⟩)
    (fun _ => True) (fun _ => 0) () (less_envOf (by simp) rfl fun _ => rfl) trivial ?_
  intro _ _
  simp [n1]
  refine call_sb 0 0 2 (l.map intCells) (by simp) h1 (stab_O hst _ _) (by simp) (cl_args2 _ _ _ _ hcp) hcl (cl_int l) ?_
  simp [arr1_put]
  refine aloop (α := Unit) (fun _ => ⟨envOf [(1, .v (.int .i64 l.length)), (6, .v (.int .i64 20))], ⟨bs, arr1 0 0 2 (l1.map intCells)⟩⟩)
    (fun _ => True) (fun _ => 0) () (less_envOf (by simp) rfl fun _ => rfl) trivial ?_
  intro _ _
  simp [n2]

set_option maxHeartbeats 4000000 in
set_option maxRecDepth 10000 in
theorem s_stableB (l l1 l2 l3 : List Int) (hl : 20 ≤ l.length) (hl2 : l.length < 40)
    (h1 : OCallB Tryz.prog 248 bs (some (2, l.map intCells)) [.arr 0 0 0 l.length, .v (.int .i64 0), .v (.int .i64 20), .clo f [] post] (some (true, 2, l1.map intCells)) (.tup [])) (k1 : l1.length = l.length)
    (h2 : OCallB Tryz.prog 248 bs (some (2, l1.map intCells)) [.arr 0 0 0 l.length, .v (.int .i64 20), .v (.int .i64 l.length), .clo f [] post] (some (true, 2, l2.map intCells)) (.tup [])) (k2 : l2.length = l.length)
    (h3 : 20 < l.length → OCallB Tryz.prog 249 bs (some (2, l2.map intCells)) [.arr 0 0 0 l.length, .v (.int .i64 0), .v (.int .i64 20), .v (.int .i64 l.length), .clo f [] post] (some (true, 2, l3.map intCells)) (.tup [])) (h3n : ¬ 20 < l.length → l3 = l2) (k3 : l3.length = l.length) :
    OCallB Tryz.prog 207 bs (some (2, l.map intCells)) [.arr 0 0 0 l.length, .v (.int .i64 l.length), .clo f [] post] (some (true, 2, l3.map intCells)) (.tup []) := by
  refine own_of_codeB (G := Gob bs.length 999) (versob _ _) mixed0 Tryz.func207 rfl (by decide) (by simp [Tryz.f207]) (fun k hk => by simpa [Gob] using hk) 0 (by simp) (by intro s e es h; cases h; exact fr_int _) ?_
  simp only [Tryz.f207, Gob, inArrs_some]
  have n1 : (20 : Int) ≤ l.length := by omega
  have n2 : ¬ (40 : Int) ≤ l.length := by omega
  have n3 : ¬ (40 : Int) < l.length := by omega
  have w1 : IntKind.i64.wrap (20 + 20) = 40 := by decide
  have w2 : IntKind.i64.wrap (2 * 20) = 40 := by decide
  have w3 : IntKind.i64.wrap (20 * 2) = 40 := by decide
  have w4 : IntKind.i64.wrap (0 + 20) = 20 := by decide
  have w5 : IntKind.i64.wrap 20 = 20 := by decide
  have w6 : IntKind.i64.wrap 40 = 40 := by decide
  simp
  refine aloop (α := Nat) (fun q => ⟨envOf [(0, .arr 0 0 0 l.length), (1, .v (.int .i64 l.length)), (2, .clo f [] post), (6, .v (.int .i64 20)), (7, .v (.int .i64 (if q = 0 then 0 else 20))), (8, .v (.int .i64 (if q = 0 then 20 else 40)))], ⟨bs, arr1 0 0 2 ((if q = 0 then l else l1).map intCells)⟩⟩)
    (fun q => q ≤ 1) (fun q => 1 - q) 0 (less_envOf (by simp) rfl (by simp)) (by simp) ?_
  intro q hq0
  by_cases hq1 : q = 0
  · subst hq1
    simp [n1, -Bool.exists_bool]
    refine call_sb 0 0 2 (l.map intCells) (by simp) h1 (stab_O hst _ _) (by simp) (cl_args2 _ _ _ _ hcp) hcl (cl_int l) ?_
    simp [-Bool.exists_bool]
    exact ⟨1, less_envOf (by simp [w1, w6]) rfl (by simp [arr1_put]), by simp, by simp⟩
  · obtain rfl : q = 1 := by omega
    simp [n2, -Bool.exists_bool]
    refine call_sb 0 0 2 (l1.map intCells) (by simp) h2 (stab_O hst _ _) (by simp [k1]) (cl_args2 _ _ _ _ hcp) hcl (cl_int l1) ?_
    simp [arr1_put, -Bool.exists_bool]
    refine aloop (α := Nat) (fun q => ⟨envOf [(0, .arr 0 0 0 l.length), (1, .v (.int .i64 l.length)), (2, .clo f [] post), (6, .v (.int .i64 (if q = 0 then 20 else 40)))], ⟨bs, arr1 0 0 2 ((if q = 0 then l2 else l3).map intCells)⟩⟩)
      (fun q => q ≤ 1) (fun q => 1 - q) 0 (less_envOf (by simp) rfl (by simp)) (by simp) ?_
    intro q hq0
    by_cases hq1 : q = 0
    · subst hq1
      by_cases c : 20 < l.length
      · have ci : (20 : Int) < l.length := by omega
        simp [ci, w2, w6, -Bool.exists_bool]
        refine aloop (α := Unit) (fun _ => ⟨envOf [(0, .arr 0 0 0 l.length), (1, .v (.int .i64 l.length)), (2, .clo f [] post), (6, .v (.int .i64 20)), (7, .v (.int .i64 0)), (8, .v (.int .i64 40))], ⟨bs, arr1 0 0 2 (l2.map intCells)⟩⟩)
          (fun _ => True) (fun _ => 0) () (less_envOf (by simp) rfl fun _ => rfl) trivial ?_
        intro _ _
        simp [n2, ci, w4, w5, -Bool.exists_bool]
        refine call_sb 0 0 2 (l2.map intCells) (by simp) (h3 c) (stab_O hst _ _) (by simp [k2]) (cl_args _ _ _ _ _ hcp) hcl (cl_int l2) ?_
        simp [arr1_put, w3, w6, -Bool.exists_bool]
        exact ⟨1, less_envOf (by simp) rfl (by simp), by simp, by simp⟩
      · have ci : ¬ (20 : Int) < l.length := by omega
        rw [h3n c]
        simp [ci]
    · obtain rfl : q = 1 := by omega
      simp [n3]
end

end Go.Proofs.YtokhnmchnfkiiaaGreat.Am

/- slices.SortStableFunc at numbers: what it does. No conditions. -/
namespace Go.Proofs.YtokhnmchnfkiiaaGreat.Am
open Go Go.RowKit Go.Proofs
set_option linter.unusedSimpArgs false
set_option linter.unusedVariables false

theorem rb_anti {B : Int → Int → Bool} {x y : Int} (h1 : RB B x y) (h2 : RB B y x) : x = y := by
  rcases Int.lt_trichotomy x y with h | h | h
  · rw [rb_false h] at h1
    rw [rb_true h] at h2
    rw [h1] at h2
    cases h2
  · exact h
  · rw [rb_true h] at h1
    rw [rb_false h] at h2
    rw [h2] at h1
    cases h1
theorem srt_pair {B : Int → Int → Bool} {l : List Int} (h : Srt B l 0 l.length) : l.Pairwise (RB B) := by
  rw [List.pairwise_iff_getElem]
  intro i j hi hj hij
  have := h i j (Nat.zero_le _) hij hj
  rw [at0_get hi, at0_get hj] at this
  exact this
/-- What is sorted is the one sorted list. -/
theorem srt_uniq {B : Int → Int → Bool} {l m : List Int} (h : Srt B l 0 l.length) (hm : m.Pairwise (RB B)) (p : l.Perm m) : l = m :=
  List.Perm.eq_of_pairwise (fun _ _ _ _ h1 h2 => rb_anti h1 h2) (srt_pair h) hm p

set_option maxHeartbeats 4000000 in
theorem s_stable (f : FuncId) (post : List AV) (bs : List (List AV)) (K : Int → Int → Int) (B : Int → Int → Bool) (hB : B = fun y x => decide (K y x < 0)) (hst : Stab bs) (hs2 : StabA post) (hcl : ∀ cs ∈ bs, ∀ c ∈ cs, c.closed) (hcp : ∀ c ∈ post, c.closed)
    (l : List Int) (hl : l.length < 40) (hT : Tr B l) (hu : ∀ u v, u < v → v < l.length → at0 l u < at0 l v)
    (h : ∀ x ∈ l, ∀ y ∈ l, BCall Tryz.prog f ([.v (.int .i64 x), .v (.int .i64 y)] ++ post) bs (.v (.int .i64 (K x y)))) :
    ∃ l', OCallB Tryz.prog 207 bs (some (2, l.map intCells)) [.arr 0 0 0 l.length, .v (.int .i64 l.length), .clo f [] post] (some (true, 2, l'.map intCells)) (.tup []) ∧ l'.Perm l ∧ Srt B l' 0 l.length := by
  by_cases c : l.length < 20
  · obtain ⟨g1, g2⟩ := insert_ok (B := B) (Nat.zero_le l.length) (Nat.le_refl _) hT fun u v _ r2 r3 => hu u v r2 r3
    have hc := s_insert l (by omega) 0 l.length (Nat.zero_le _) (Nat.le_refl _) f post bs K hst hs2 h
    rw [← hB] at hc
    exact ⟨_, s_stableA f post bs hst hcl hcp l _ c hc g1.len, g1.perm, g2⟩
  · have c20 : 20 ≤ l.length := by omega
    obtain ⟨g1, g2⟩ := insert_ok (B := B) (Nat.zero_le 20) c20 hT fun u v _ r2 r3 => hu u v r2 (by omega)
    have h1 := s_insert l (by omega) 0 20 (Nat.zero_le _) c20 f post bs K hst hs2 h
    rw [← hB] at h1
    obtain ⟨l1, hl1⟩ : ∃ l1, l1 = insL B 0 (20 - (0 + 1)) (0 + 1) l := ⟨_, rfl⟩
    rw [← hl1] at g1 g2 h1
    have k1 := g1.len
    have hh1 : ∀ x ∈ l1, ∀ y ∈ l1, BCall Tryz.prog f ([.v (.int .i64 x), .v (.int .i64 y)] ++ post) bs (.v (.int .i64 (K x y))) := fun x hx y hy => h x (g1.perm.mem_iff.1 hx) y (g1.perm.mem_iff.1 hy)
    have hT1 := hT.perm g1.perm
    obtain ⟨g3, g4⟩ := insert_ok (B := B) (a := 20) (b := l1.length) (by omega) (Nat.le_refl _) hT1 fun u v r1 r2 r3 => by
      rw [g1.out u (by omega), g1.out v (by omega)]
      exact hu u v r2 (by omega)
    have h2 := s_insert l1 (by omega) 20 l1.length (by omega) (Nat.le_refl _) f post bs K hst hs2 hh1
    rw [← hB] at h2
    obtain ⟨l2, hl2⟩ : ∃ l2, l2 = insL B 20 (l1.length - (20 + 1)) (20 + 1) l1 := ⟨_, rfl⟩
    rw [← hl2] at g3 g4 h2
    have k2 := g3.len
    rw [k1] at h2 g4
    have hh2 : ∀ x ∈ l2, ∀ y ∈ l2, BCall Tryz.prog f ([.v (.int .i64 x), .v (.int .i64 y)] ++ post) bs (.v (.int .i64 (K x y))) := fun x hx y hy => hh1 x (g3.perm.mem_iff.1 hx) y (g3.perm.mem_iff.1 hy)
    have hT2 := hT1.perm g3.perm
    by_cases c2 : 20 < l.length
    · have htwo : Two B l2 0 20 l.length := by
        refine ⟨fun i j r1 r2 r3 => ?_, g4, fun i j r1 r2 r3 r4 => ?_⟩
        · rw [g3.out i (by omega), g3.out j (by omega)]
          exact g2 i j r1 r2 r3
        · rw [g3.out i (by omega)]
          obtain ⟨i2, s1, s2, s3⟩ := g1.inn i r1 r2
          obtain ⟨j2, s4, s5, s6⟩ := g3.inn j r3 (by omega)
          rw [s3, s6, g1.out j2 (by omega)]
          exact hu i2 j2 (by omega) (by omega)
      obtain ⟨l3, v1, v2, v3⟩ := s_sym f post bs K B hB hst hs2 hcl hcp l.length l2 0 20 l.length (by omega) (by omega) c2 (by omega) (by omega) hT2 htwo hh2
      rw [k2, k1] at v1
      exact ⟨l3, s_stableB f post bs hst hcl hcp l l1 l2 l3 c20 hl h1 k1 h2 (by omega) (fun _ => v1) (fun n => absurd c2 n) (by rw [v2.len]; omega), (v2.perm.trans g3.perm).trans g1.perm, v3⟩
    · have e : l.length = 20 := by omega
      refine ⟨l2, s_stableB f post bs hst hcl hcp l l1 l2 l2 c20 hl h1 k1 h2 (by omega) (fun n => absurd n c2) (fun _ => rfl) (by omega), g3.perm.trans g1.perm, fun i j r1 r2 r3 => ?_⟩
      rw [g3.out i (by omega), g3.out j (by omega)]
      exact g2 i j r1 r2 (by omega)

/-- slices.SortStableFunc. -/
theorem s_sortStable (f : FuncId) (post : List AV) (bs : List (List AV)) (K : Int → Int → Int) (B : Int → Int → Bool) (hB : B = fun y x => decide (K y x < 0)) (hst : Stab bs) (hs2 : StabA post) (hcl : ∀ cs ∈ bs, ∀ c ∈ cs, c.closed) (hcp : ∀ c ∈ post, c.closed)
    (l m : List Int) (hl : l.length < 40) (hT : Tr B l) (hu : l.Pairwise (· < ·))
    (h : ∀ x ∈ l, ∀ y ∈ l, BCall Tryz.prog f ([.v (.int .i64 x), .v (.int .i64 y)] ++ post) bs (.v (.int .i64 (K x y)))) (hm : m.Pairwise (RB B)) (hp : m.Perm l) :
    OCallB Tryz.prog 138 bs (some (2, l.map intCells)) [.arr 0 0 0 l.length, .clo f [] post] (some (true, 2, m.map intCells)) (.tup []) := by
  obtain ⟨l', g1, g2, g3⟩ := s_stable f post bs K B hB hst hs2 hcl hcp l hl hT (fun u v r1 r2 => by
    rw [at0_get (by omega), at0_get r2]
    exact List.pairwise_iff_getElem.1 hu u v (by omega) r2 r1) h
  rw [← g2.length_eq] at g3
  have e : l' = m := srt_uniq g3 hm (g2.trans hp.symm)
  rw [e] at g1
  refine own_of_codeB (G := Gob bs.length 999) (versob _ _) mixed0 Tryz.func138 rfl (by decide) (by simp [Tryz.f138]) (fun k hk => by simpa [Gob] using hk) 0 (by simp) (by intro s e es h; cases h; exact fr_int _) ?_
  simp only [Tryz.f138, Gob, inArrs_some]
  simp
  refine call_sb 0 0 2 (l.map intCells) (by simp) g1 (stab_O hst _ _) (by simp) ?_ hcl (cl_int l) ?_
  · intro c hc
    simp at hc
    rcases hc with rfl | rfl | rfl
    · exact .dead
    · exact .v _
    · exact .clo _ _ _ (by simp) hcp
  · simp [arr1_put]

end Go.Proofs.YtokhnmchnfkiiaaGreat.Am
