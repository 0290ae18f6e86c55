import Derived.Test.YtokhnmchnfkiiaaGreatAmCg14
import Derived.Test.YtokhnmchnfkiiaaGreatAmCg8
/- slices.SortStableFunc at numbers, fourth part: the plain laws of symMerge's halves. No conditions. -/
namespace Go.Proofs.YtokhnmchnfkiiaaGreat.Am
open Go Go.RowKit Go.Proofs
set_option linter.unusedSimpArgs false
set_option linter.unusedVariables false

theorem one_left2 {B : Int → Int → Bool} {l : List Int} {a b p : Nat} (hb : b ≤ l.length) (hT : Tr B l) (h : Two B l a (a + 1) b) (hp1 : a + 1 ≤ p) (hp2 : p ≤ b)
    (h1 : p = a + 1 ∨ B (at0 l (p - 1)) (at0 l a) = true) (h2 : p = b ∨ B (at0 l p) (at0 l a) = false) : Mv l (upL (p - 1 - a) a l) a b ∧ Srt B (upL (p - 1 - a) a l) a b := by
  refine one_left hb h hp1 hp2 (fun k q1 q2 => ?_) fun k q1 q2 => ?_
  · rcases h1 with h1 | h1
    · omega
    have r1 := (rb_true (h.less a (p - 1) (by omega) (by omega) (by omega) (by omega))).2 h1
    exact (rb_true (h.less a k (by omega) (by omega) (by omega) (by omega))).1 (hT.chain (at0_mem (by omega)) (at0_mem (by omega)) (at0_mem (by omega)) (at0_mem (by omega)) (rb_le h.right (by omega) (show k ≤ p - 1 by omega) (by omega)) r1 (.inl rfl))
  · rcases h2 with h2 | h2
    · omega
    have r1 := (rb_false (h.less a p (by omega) (by omega) (by omega) (by omega))).2 h2
    exact (rb_false (h.less a k (by omega) (by omega) (by omega) (by omega))).1 (hT.chain (at0_mem (by omega)) (at0_mem (by omega)) (at0_mem (by omega)) (at0_mem (by omega)) (.inl rfl) r1 (rb_le h.right (by omega) q1 (by omega)))
theorem one_right2 {B : Int → Int → Bool} {l : List Int} {a m p : Nat} (hb : m + 1 ≤ l.length) (hT : Tr B l) (h : Two B l a m (m + 1)) (hp1 : a ≤ p) (hp2 : p ≤ m)
    (h1 : p = a ∨ B (at0 l m) (at0 l (p - 1)) = false) (h2 : p = m ∨ B (at0 l m) (at0 l p) = true) : Mv l (downL (m - p) m l) a (m + 1) ∧ Srt B (downL (m - p) m l) a (m + 1) := by
  refine one_right hb h hp1 hp2 (fun k q1 q2 => ?_) fun k q1 q2 => ?_
  · rcases h1 with h1 | h1
    · omega
    have r1 := (rb_false (h.less (p - 1) m (by omega) (by omega) (by omega) (by omega))).2 h1
    exact (rb_false (h.less k m (by omega) (by omega) (by omega) (by omega))).1 (hT.chain (at0_mem (by omega)) (at0_mem (by omega)) (at0_mem (by omega)) (at0_mem (by omega)) (rb_le h.left (by omega) (show k ≤ p - 1 by omega) (by omega)) r1 (.inl rfl))
  · rcases h2 with h2 | h2
    · omega
    have r1 := (rb_true (h.less p m (by omega) (by omega) (by omega) (by omega))).2 h2
    exact (rb_true (h.less k m (by omega) (by omega) (by omega) (by omega))).1 (hT.chain (at0_mem (by omega)) (at0_mem (by omega)) (at0_mem (by omega)) (at0_mem (by omega)) (.inl rfl) r1 (rb_le h.left (by omega) q1 (by omega)))

/-- Where the search begins, and where it ends at the latest. -/
def s0 (a m b : Nat) : Nat := if (a + b) / 2 < m then (a + b) / 2 + m - b else a
def r0 (a m b : Nat) : Nat := if (a + b) / 2 < m then (a + b) / 2 else m
theorem sr (a m b : Nat) (h1 : a < m) (h2 : m < b) : a ≤ s0 a m b ∧ s0 a m b ≤ r0 a m b ∧ r0 a m b ≤ m ∧ r0 a m b ≤ (a + b) / 2 ∧ (a + b) / 2 + m - s0 a m b ≤ b ∧ m ≤ (a + b) / 2 + m - r0 a m b := by
  unfold s0 r0
  split <;> omega
theorem sr1 (a m b : Nat) (h1 : a < m) (h2 : m < b) : s0 a m b = a ∨ (a + b) / 2 + m - s0 a m b = b := by
  unfold s0
  split <;> omega
theorem sr2 (a m b : Nat) (h1 : a < m) (h2 : m < b) : r0 a m b = m ∨ (a + b) / 2 + m - r0 a m b = m := by
  unfold r0
  split <;> omega

theorem part_one {B : Int → Int → Bool} {l : List Int} {a m b s : Nat} (hb : b ≤ l.length) (ham : a < m) (hmb : m < b) (hT : Tr B l) (h : Two B l a m b) (h1 : s0 a m b ≤ s) (h2 : s ≤ r0 a m b)
    (g1 : s = s0 a m b ∨ B (at0 l ((a + b) / 2 + m - 1 - (s - 1))) (at0 l (s - 1)) = false) : ∀ i j, a ≤ i → i < s → (a + b) / 2 + m - s ≤ j → j < b → RB B (at0 l i) (at0 l j) := by
  intro i j q1 q2 q3 q4
  obtain ⟨e1, e2, e3, e4, e5, e6⟩ := sr a m b ham hmb
  have e7 := sr1 a m b ham hmb
  by_cases hs : s = s0 a m b
  · omega
  have g2 := g1.resolve_left hs
  have r1 := (rb_false (h.less (s - 1) ((a + b) / 2 + m - 1 - (s - 1)) (by omega) (by omega) (by omega) (by omega))).2 g2
  exact hT.chain (at0_mem (by omega)) (at0_mem (by omega)) (at0_mem (by omega)) (at0_mem (by omega)) (rb_le h.left q1 (show i ≤ s - 1 by omega) (by omega)) r1 (rb_le h.right (by omega) (by omega) q4)
theorem part_two {B : Int → Int → Bool} {l : List Int} {a m b s : Nat} (hb : b ≤ l.length) (ham : a < m) (hmb : m < b) (hT : Tr B l) (h : Two B l a m b) (h1 : s0 a m b ≤ s) (h2 : s ≤ r0 a m b)
    (g1 : s = r0 a m b ∨ B (at0 l ((a + b) / 2 + m - 1 - s)) (at0 l s) = true) : ∀ j i, m ≤ j → j < (a + b) / 2 + m - s → s ≤ i → i < m → RB B (at0 l j) (at0 l i) := by
  intro j i q1 q2 q3 q4
  obtain ⟨e1, e2, e3, e4, e5, e6⟩ := sr a m b ham hmb
  have e7 := sr2 a m b ham hmb
  by_cases hs : s = r0 a m b
  · omega
  have g2 := g1.resolve_left hs
  have r1 := (rb_true (h.less s ((a + b) / 2 + m - 1 - s) (by omega) (by omega) (by omega) (by omega))).2 g2
  exact hT.chain (at0_mem (by omega)) (at0_mem (by omega)) (at0_mem (by omega)) (at0_mem (by omega)) (rb_le h.right q1 (show j ≤ (a + b) / 2 + m - 1 - s by omega) (by omega)) r1 (rb_le h.left (by omega) q3 q4)

/-- What the two middle parts hold when they have changed places. -/
def Turned (l l1 : List Int) (s m mid E : Nat) : Prop := ∀ k, at0 l1 k = if s ≤ k ∧ k < mid then at0 l (k - s + m) else if mid ≤ k ∧ k < E then at0 l (k - mid + s) else at0 l k
theorem two_a {B : Int → Int → Bool} {l l1 : List Int} {a m b s mid E : Nat} (hs : a ≤ s) (hsm : s ≤ m) (hsd : s ≤ mid) (hE : E + s = mid + m) (hEb : E ≤ b) (h : Two B l a m b) (ht : Turned l l1 s m mid E) : Two B l1 a s mid := by
  refine ⟨fun i j q1 q2 q3 => ?_, fun i j q1 q2 q3 => ?_, fun i j q1 q2 q3 q4 => ?_⟩
  · rw [ht i, ht j, if_neg (by omega), if_neg (by omega), if_neg (by omega), if_neg (by omega)]
    exact h.left i j q1 q2 (by omega)
  · rw [ht i, ht j, if_pos (by omega), if_pos (by omega)]
    exact h.right _ _ (by omega) (by omega) (by omega)
  · rw [ht i, ht j, if_neg (by omega), if_neg (by omega), if_pos (by omega)]
    exact h.less _ _ q1 (by omega) (by omega) (by omega)
theorem two_b {B : Int → Int → Bool} {l l1 l2 : List Int} {a m b s mid E : Nat} (hs : a ≤ s) (hsm : s ≤ m) (hsd : s ≤ mid) (hmE : m ≤ E) (hE : E + s = mid + m) (hEb : E ≤ b) (h : Two B l a m b) (ht : Turned l l1 s m mid E) (h2 : ∀ k, mid ≤ k → at0 l2 k = at0 l1 k) : Two B l2 mid E b := by
  refine ⟨fun i j q1 q2 q3 => ?_, fun i j q1 q2 q3 => ?_, fun i j q1 q2 q3 q4 => ?_⟩
  · rw [h2 i (by omega), h2 j (by omega), ht i, ht j, if_neg (by omega), if_pos (by omega), if_neg (by omega), if_pos (by omega)]
    exact h.left _ _ (by omega) (by omega) (by omega)
  · rw [h2 i (by omega), h2 j (by omega), ht i, ht j, if_neg (by omega), if_neg (by omega), if_neg (by omega), if_neg (by omega)]
    exact h.right _ _ (by omega) (by omega) (by omega)
  · rw [h2 i (by omega), h2 j (by omega), ht i, ht j, if_neg (by omega), if_pos (by omega), if_neg (by omega), if_neg (by omega)]
    exact h.less _ _ (by omega) (by omega) (by omega) (by omega)
theorem two_empty {B : Int → Int → Bool} {l : List Int} {a s b : Nat} (h : Two B l a s b) (e : s ≤ a ∨ b ≤ s) : Srt B l a b := by
  rcases e with e | e
  · exact fun i j q1 q2 q3 => h.right i j (by omega) q2 q3
  · exact fun i j q1 q2 q3 => h.left i j q1 q2 (by omega)
theorem turned_mv {l l1 : List Int} {a m b s mid E : Nat} (hp : l1.Perm l) (hs : a ≤ s) (hsm : s ≤ m) (hsd : s ≤ mid) (hmE : m ≤ E) (hE : E + s = mid + m) (hEb : E ≤ b) (ht : Turned l l1 s m mid E) : Mv l l1 a b := by
  refine ⟨hp, fun k hk => ?_, fun k q1 q2 => ?_⟩
  · rw [ht k, if_neg (by omega), if_neg (by omega)]
  · rw [ht k]
    split
    · exact ⟨_, by omega, by omega, rfl⟩
    split
    · exact ⟨_, by omega, by omega, rfl⟩
    · exact ⟨k, q1, q2, rfl⟩
theorem all_srt {B : Int → Int → Bool} {l l1 l2 l3 : List Int} {a m b s mid E : Nat} (hs : a ≤ s) (hsm : s ≤ m) (hsd : s ≤ mid) (hmE : m ≤ E) (hE : E + s = mid + m) (hEb : E ≤ b) (hm : a ≤ mid) (hmb : mid ≤ b) (h : Two B l a m b) (ht : Turned l l1 s m mid E)
    (F1 : ∀ i j, a ≤ i → i < s → E ≤ j → j < b → RB B (at0 l i) (at0 l j)) (F2 : ∀ j i, m ≤ j → j < E → s ≤ i → i < m → RB B (at0 l j) (at0 l i))
    (h2 : Mv l1 l2 a mid) (g2 : Srt B l2 a mid) (h3 : Mv l2 l3 mid b) (g3 : Srt B l3 mid b) : Srt B l3 a b := by
  intro i j q1 q2 q3
  by_cases c1 : mid ≤ i
  · exact g3 i j c1 q2 q3
  by_cases c2 : j < mid
  · rw [h3.out i (by omega), h3.out j (by omega)]
    exact g2 i j q1 q2 c2
  rw [h3.out i (by omega)]
  obtain ⟨j2, r1, r2, r3⟩ := h3.inn j (by omega) q3
  obtain ⟨i2, u1, u2, u3⟩ := h2.inn i q1 (by omega)
  rw [r3, u3, h2.out j2 (by omega), ht i2, ht j2, if_neg (show ¬ (s ≤ j2 ∧ j2 < mid) by omega)]
  by_cases d1 : s ≤ i2
  · rw [if_pos ⟨d1, u2⟩]
    by_cases d2 : j2 < E
    · rw [if_pos ⟨r1, d2⟩]
      exact F2 _ _ (by omega) (by omega) (by omega) (by omega)
    · rw [if_neg (by omega)]
      exact h.right _ _ (by omega) (by omega) (by omega)
  · rw [if_neg (by omega), if_neg (by omega)]
    by_cases d2 : j2 < E
    · rw [if_pos ⟨r1, d2⟩]
      exact h.left _ _ (by omega) (by omega) (by omega)
    · rw [if_neg (by omega)]
      exact F1 _ _ (by omega) (by omega) (by omega) (by omega)

end Go.Proofs.YtokhnmchnfkiiaaGreat.Am

/- slices.SortStableFunc at numbers, fifth part: symMerge where one part has one number. No conditions. -/
namespace Go.Proofs.YtokhnmchnfkiiaaGreat.Am
open Go Go.RowKit Go.Proofs
set_option linter.unusedSimpArgs false
set_option linter.unusedVariables false

theorem mid_w (i j : Nat) (h : i + j ≤ 100000) : IntKind.i64.wrap ((IntKind.u64.wrap ((i : Int) + (j : Int))).fdiv (2 ^ min 1 IntKind.u64.bits)) = (((i + j) / 2 : Nat) : Int) := by
  have h1 : IntKind.u64.wrap ((i : Int) + (j : Int)) = (i : Int) + (j : Int) := by
    simp [IntKind.wrap, IntKind.signed, IntKind.bits]
    omega
  have h2 : (2 : Int) ^ min 1 IntKind.u64.bits = 2 := by decide
  rw [h1, h2, Int.fdiv_eq_ediv_of_nonneg _ (by omega), IntWalk.i64_in _ (by omega)]
  omega

/-- The least place behind which the test fails. -/
def bsr (T : Nat → Bool) : Nat → Nat → Nat → Nat
  | 0, i, _ => i
  | F + 1, i, j => if i < j then (if T ((i + j) / 2) = true then bsr T F ((i + j) / 2 + 1) j else bsr T F i ((i + j) / 2)) else i
theorem bsr_ok (T : Nat → Bool) : ∀ (F i j : Nat), i ≤ j → j ≤ i + F → i ≤ bsr T F i j ∧ bsr T F i j ≤ j ∧ (bsr T F i j = i ∨ T (bsr T F i j - 1) = true) ∧ (bsr T F i j = j ∨ T (bsr T F i j) = false)
  | 0, i, j, h1, h2 => by
    unfold bsr
    exact ⟨Nat.le_refl _, h1, .inl rfl, .inl (by omega)⟩
  | F + 1, i, j, h1, h2 => by
    unfold bsr
    by_cases h : i < j
    · rw [if_pos h]
      cases hT : T ((i + j) / 2) with
      | true =>
        rw [if_pos rfl]
        obtain ⟨g1, g2, g3, g4⟩ := bsr_ok T F ((i + j) / 2 + 1) j (by omega) (by omega)
        refine ⟨by omega, g2, ?_, g4⟩
        rcases g3 with g3 | g3
        · right
          rw [g3]
          simpa using hT
        · exact .inr g3
      | false =>
        rw [if_neg (by simp)]
        obtain ⟨g1, g2, g3, g4⟩ := bsr_ok T F i ((i + j) / 2) (by omega) (by omega)
        refine ⟨g1, by omega, g3, ?_⟩
        rcases g4 with g4 | g4
        · right
          rw [g4]
          exact hT
        · exact .inr g4
    · rw [if_neg h]
      exact ⟨Nat.le_refl _, h1, .inl rfl, .inl (by omega)⟩
theorem bsr_done (T : Nat → Bool) (F i : Nat) : bsr T F i i = i := by
  cases F with
  | zero => rfl
  | succ F => rw [bsr, if_neg (by omega)]

set_option maxHeartbeats 4000000 in
set_option maxRecDepth 10000 in
theorem s_sym1 (l : List Int) (hl : l.length ≤ 1000) (a b : Nat) (hab : a + 1 < b) (hb : b ≤ l.length) (f : FuncId) (post : List AV) (bs : List (List AV)) (K : Int → Int → Int) (hst : Stab bs) (hs2 : StabA post)
    (h : ∀ x ∈ l, ∀ y ∈ l, BCall Tryz.prog f ([.v (.int .i64 x), .v (.int .i64 y)] ++ post) bs (.v (.int .i64 (K x y)))) (p : Nat) (hp : p = bsr (fun k => decide (K (at0 l k) (at0 l a) < 0)) (b - (a + 1)) (a + 1) b) :
    OCallB Tryz.prog 249 bs (some (2, l.map intCells)) [.arr 0 0 0 l.length, .v (.int .i64 a), .v (.int .i64 ((a + 1 : Nat) : Int)), .v (.int .i64 b), .clo f [] post]
      (some (true, 2, (upL (p - 1 - a) a l).map intCells)) (.tup []) := by
  obtain ⟨T, hT⟩ : ∃ T : Nat → Bool, T = fun k => decide (K (at0 l k) (at0 l a) < 0) := ⟨_, rfl⟩
  rw [← hT] at hp
  obtain ⟨p1, p2, _, _⟩ := bsr_ok T (b - (a + 1)) (a + 1) b (by omega) (by omega)
  rw [← hp] at p1 p2
  obtain ⟨M, hM⟩ : ∃ M, M = a + 1 := ⟨_, rfl⟩
  rw [← hM] at hp p1 ⊢
  refine own_of_codeB (G := Gob bs.length 999) (versob _ _) mixed0 Tryz.func249 rfl (by decide) (by simp [Tryz.f249]) (fun k hk => by simpa [Gob] using hk) 0 (by simp) (by intro s e es h; cases h; exact fr_int _) ?_
  simp only [Tryz.f249, Gob, inArrs_some]
  have es := hs2
  unfold StabA at es
  obtain ⟨R, hR⟩ : ∃ R, R = upL (p - 1 - a) a l := ⟨_, rfl⟩
  rw [← hR]
  have w1 : IntKind.i64.wrap ((M : Int) - (a : Int)) = 1 := by rw [IntWalk.i64_in _ (by omega)]; omega
  simp [w1]
  refine aloop (α := Nat × Nat × Nat) (fun d => ⟨envOf [(0, .arr 0 0 0 l.length), (1, .v (.int .i64 a)), (4, .clo f [] post), (10, .v (.int .i64 d.2.1)), (11, .v (.int .i64 d.2.2))], ⟨bs, arr1 0 0 2 (l.map intCells)⟩⟩)
    (fun d => M ≤ d.2.1 ∧ d.2.1 ≤ d.2.2 ∧ d.2.2 ≤ b ∧ d.2.2 ≤ d.2.1 + d.1 ∧ bsr T d.1 d.2.1 d.2.2 = p) (fun d => d.1) (b - M, M, b) (less_envOf (by simp) rfl fun _ => rfl) ⟨Nat.le_refl _, by simp only; omega, Nat.le_refl _, by simp only; omega, hp.symm⟩ ?_
  rintro ⟨F, i, j⟩ ⟨e1, e2, e3, e4, e5⟩
  simp only at e1 e2 e3 e4 e5 ⊢
  by_cases hlt : i < j
  · obtain ⟨F, rfl⟩ : ∃ k, F = k + 1 := ⟨F - 1, by omega⟩
    rw [bsr, if_pos hlt] at e5
    obtain ⟨H, hH⟩ : ∃ H, H = (i + j) / 2 := ⟨_, rfl⟩
    rw [← hH] at e5
    have hHl : H < l.length := by omega
    have hal : a < l.length := by omega
    have hcall := h l[H] (List.getElem_mem hHl) l[a] (List.getElem_mem hal)
    have hTH : T H = decide (K l[H] l[a] < 0) := by rw [hT]; simp only [at0_get hHl, at0_get hal]
    have w2 : IntKind.i64.wrap ((i : Int) + (j : Int)) = ((i + j : Nat) : Int) := by rw [IntWalk.i64_in _ (by omega)]; omega
    have w3 := mid_w i j (by omega)
    rw [← hH] at w3
    have w4 : IntKind.i64.wrap ((H : Int) + 1) = ((H + 1 : Nat) : Int) := by rw [IntWalk.i64_in _ (by omega)]; omega
    simp [hlt, w2, w3]
    refine adraw_all (by kernel_rfl) ?_
    simp [hHl, hal, w3]
    simp only [es]
    refine call_b hcall (hst _) ?_
    by_cases hk : K l[H] l[a] < 0
    · rw [hTH, if_pos (by simpa using hk)] at e5
      simp [hk]
      exact ⟨F, H + 1, j, less_envOf (by simp [w4]) rfl fun _ => rfl, ⟨by omega, by omega, e3, by omega, e5⟩, by omega⟩
    · rw [hTH, if_neg (by simpa using hk)] at e5
      simp [hk]
      exact ⟨F, i, H, less_envOf (by simp [w3]) rfl fun _ => rfl, ⟨e1, by omega, by omega, by omega, e5⟩, by omega⟩
  · obtain rfl : j = i := by omega
    rw [bsr_done] at e5
    subst e5
    have w5 : IntKind.i64.wrap ((j : Int) - 1) = ((j - 1 : Nat) : Int) := by rw [IntWalk.i64_in _ (by omega)]; omega
    simp [hlt]
    refine aloop (α := Nat × List Int) (fun d => ⟨envOf [(0, .arr 0 0 0 l.length), (10, .v (.int .i64 j)), (13, .v (.int .i64 d.1))], ⟨bs, arr1 0 0 2 (d.2.map intCells)⟩⟩)
      (fun d => a ≤ d.1 ∧ d.1 ≤ j - 1 ∧ d.2.length = l.length ∧ upL (j - 1 - d.1) d.1 d.2 = R) (fun d => j - d.1) (a, l) (less_envOf (by simp) rfl fun _ => rfl) ⟨Nat.le_refl _, by simp only; omega, rfl, hR.symm⟩ ?_
    rintro ⟨k, q⟩ ⟨g1, g2, g3, g4⟩
    simp only at g1 g2 g3 g4 ⊢
    by_cases hk : k < j - 1
    · obtain ⟨D, hD⟩ : ∃ D, D = k + 1 := ⟨_, rfl⟩
      have w6 : IntKind.i64.wrap ((k : Int) + 1) = (D : Int) := by rw [IntWalk.i64_in _ (by omega)]; omega
      rw [show j - 1 - k = (j - 1 - (k + 1)) + 1 by omega, upL, ← hD] at g4
      have hAq : k < q.length := by omega
      have hDq : D < q.length := by omega
      have hAl : k < l.length := by omega
      have hDl : D < l.length := by omega
      have hne : k ≠ D := by omega
      have hsw : swapL q k D = (q.set k q[D]).set D q[k] := by rw [swapL, at0_get hAq, at0_get hDq]
      have x17 : List.idxOf 17 [15, 17] = 1 := by decide
      simp [hk, w5]
      refine adraw_r [0, 1, 2, 3, 4, 5, 6, 7, 8, 9, 10, 11, 12, 13, 14, 15, 16, 17] [15, 17] swapRg [⟨bs, arr1 0 0 2 (q.map intCells)⟩, ⟨bs, arr1 0 0 2 ((q.set k q[D]).map intCells)⟩, ⟨bs, arr1 0 0 2 ((swapL q k D).map intCells)⟩]
        [.arr 0 0 0 l.length, .v (.int .i64 k), .arr 0 0 0 l.length, .v (.int .i64 k), .v (.int .i64 D), .arr 0 0 0 l.length, .v (.int .i64 k), .v (.int .i64 D), .ael 0 0 D 0, .v (.int .i64 q[D]), .arr 0 0 0 l.length, .v (.int .i64 k), .ael 0 0 k 0, .v (.int .i64 q[k]), .ael 0 0 k 0, .dead, .ael 0 0 D 0, .dead] (by decide +kernel) rfl rfl ?_
      simp [tellG_cons, tellG_nil, onTell, yieldsTo, swapRg, w6, hAq, hDq, hAl, hDl, g3, hsw, x17, arr1_put, hne, List.getElem_set_ne]
      exact ⟨k + 1, swapL q k D, less_envOf (by simp [hD]) rfl (by simp [hsw]), ⟨by omega, by omega, by simp [g3], by rw [← hD]; exact g4⟩, by omega⟩
    · have e0 : j - 1 - k = 0 := by omega
      rw [e0, upL] at g4
      subst g4
      simp [hk, w5]

end Go.Proofs.YtokhnmchnfkiiaaGreat.Am

/- slices.SortStableFunc at numbers, sixth part: symMerge where the second part has one number. No conditions. -/
namespace Go.Proofs.YtokhnmchnfkiiaaGreat.Am
open Go Go.RowKit Go.Proofs
set_option linter.unusedSimpArgs false
set_option linter.unusedVariables false

set_option maxHeartbeats 4000000 in
set_option maxRecDepth 10000 in
theorem s_sym2 (l : List Int) (hl : l.length ≤ 1000) (a m : Nat) (ham : a + 1 < m) (hb : m + 1 ≤ l.length) (f : FuncId) (post : List AV) (bs : List (List AV)) (K : Int → Int → Int) (hst : Stab bs) (hs2 : StabA post)
    (h : ∀ x ∈ l, ∀ y ∈ l, BCall Tryz.prog f ([.v (.int .i64 x), .v (.int .i64 y)] ++ post) bs (.v (.int .i64 (K x y)))) (p : Nat) (hp : p = bsr (fun k => !decide (K (at0 l m) (at0 l k) < 0)) (m - a) a m) :
    OCallB Tryz.prog 249 bs (some (2, l.map intCells)) [.arr 0 0 0 l.length, .v (.int .i64 a), .v (.int .i64 m), .v (.int .i64 ((m + 1 : Nat) : Int)), .clo f [] post]
      (some (true, 2, (downL (m - p) m l).map intCells)) (.tup []) := by
  obtain ⟨T, hT⟩ : ∃ T : Nat → Bool, T = fun k => !decide (K (at0 l m) (at0 l k) < 0) := ⟨_, rfl⟩
  rw [← hT] at hp
  obtain ⟨p1, p2, _, _⟩ := bsr_ok T (m - a) a m (by omega) (by omega)
  rw [← hp] at p1 p2
  obtain ⟨b, hM⟩ : ∃ b, b = m + 1 := ⟨_, rfl⟩
  rw [← hM]
  refine own_of_codeB (G := Gob bs.length 999) (versob _ _) mixed0 Tryz.func249 rfl (by decide) (by simp [Tryz.f249]) (fun k hk => by simpa [Gob] using hk) 0 (by simp) (by intro s e es h; cases h; exact fr_int _) ?_
  simp only [Tryz.f249, Gob, inArrs_some]
  have es := hs2
  unfold StabA at es
  obtain ⟨R, hR⟩ : ∃ R, R = downL (m - p) m l := ⟨_, rfl⟩
  rw [← hR]
  have w1 : IntKind.i64.wrap ((m : Int) - (a : Int)) = ((m - a : Nat) : Int) := by rw [IntWalk.i64_in _ (by omega)]; omega
  have w1n : ¬ (((m - a : Nat) : Int) = 1) := by omega
  have w0 : IntKind.i64.wrap ((b : Int) - (m : Int)) = 1 := by rw [IntWalk.i64_in _ (by omega)]; omega
  simp [w1, w1n, w0]
  refine aloop (α := Nat × Nat × Nat) (fun d => ⟨envOf [(0, .arr 0 0 0 l.length), (2, .v (.int .i64 m)), (4, .clo f [] post), (14, .v (.int .i64 d.2.1)), (15, .v (.int .i64 d.2.2))], ⟨bs, arr1 0 0 2 (l.map intCells)⟩⟩)
    (fun d => a ≤ d.2.1 ∧ d.2.1 ≤ d.2.2 ∧ d.2.2 ≤ m ∧ d.2.2 ≤ d.2.1 + d.1 ∧ bsr T d.1 d.2.1 d.2.2 = p) (fun d => d.1) (m - a, a, m) (less_envOf (by simp) rfl fun _ => rfl) ⟨Nat.le_refl _, by simp only; omega, Nat.le_refl _, by simp only; omega, hp.symm⟩ ?_
  rintro ⟨F, i, j⟩ ⟨e1, e2, e3, e4, e5⟩
  simp only at e1 e2 e3 e4 e5 ⊢
  by_cases hlt : i < j
  · obtain ⟨F, rfl⟩ : ∃ k, F = k + 1 := ⟨F - 1, by omega⟩
    rw [bsr, if_pos hlt] at e5
    obtain ⟨H, hH⟩ : ∃ H, H = (i + j) / 2 := ⟨_, rfl⟩
    rw [← hH] at e5
    have hHl : H < l.length := by omega
    have hal : m < l.length := by omega
    have hcall := h l[m] (List.getElem_mem hal) l[H] (List.getElem_mem hHl)
    have hTH : T H = !decide (K l[m] l[H] < 0) := by rw [hT]; simp only [at0_get hHl, at0_get hal]
    have w2 : IntKind.i64.wrap ((i : Int) + (j : Int)) = ((i + j : Nat) : Int) := by rw [IntWalk.i64_in _ (by omega)]; omega
    have w3 := mid_w i j (by omega)
    rw [← hH] at w3
    have w4 : IntKind.i64.wrap ((H : Int) + 1) = ((H + 1 : Nat) : Int) := by rw [IntWalk.i64_in _ (by omega)]; omega
    simp [hlt, w2, w3]
    refine adraw_all (by kernel_rfl) ?_
    simp [hHl, hal, w3]
    simp only [es]
    refine call_b hcall (hst _) ?_
    by_cases hk : K l[m] l[H] < 0
    · rw [hTH, if_neg (by simp [hk])] at e5
      simp [hk]
      exact ⟨F, i, H, less_envOf (by simp [w3]) rfl fun _ => rfl, ⟨e1, by omega, by omega, by omega, e5⟩, by omega⟩
    · rw [hTH, if_pos (by simp [hk])] at e5
      simp [hk]
      exact ⟨F, H + 1, j, less_envOf (by simp [w4]) rfl fun _ => rfl, ⟨by omega, by omega, e3, by omega, e5⟩, by omega⟩
  · obtain rfl : j = i := by omega
    rw [bsr_done] at e5
    subst e5
    simp [hlt]
    refine aloop (α := Nat × List Int) (fun d => ⟨envOf [(0, .arr 0 0 0 l.length), (14, .v (.int .i64 j)), (17, .v (.int .i64 d.1))], ⟨bs, arr1 0 0 2 (d.2.map intCells)⟩⟩)
      (fun d => j ≤ d.1 ∧ d.1 ≤ m ∧ d.2.length = l.length ∧ downL (d.1 - j) d.1 d.2 = R) (fun d => d.1) (m, l) (less_envOf (by simp) rfl fun _ => rfl) ⟨by simp only; omega, Nat.le_refl _, rfl, hR.symm⟩ ?_
    rintro ⟨k, q⟩ ⟨g1, g2, g3, g4⟩
    simp only at g1 g2 g3 g4 ⊢
    by_cases hk : j < k
    · obtain ⟨D, hD⟩ : ∃ D, D = k - 1 := ⟨_, rfl⟩
      have w6 : IntKind.i64.wrap ((k : Int) - 1) = (D : Int) := by rw [IntWalk.i64_in _ (by omega)]; omega
      rw [show k - j = (k - 1 - j) + 1 by omega, downL, ← hD] at g4
      have hAq : k < q.length := by omega
      have hDq : D < q.length := by omega
      have hAl : k < l.length := by omega
      have hDl : D < l.length := by omega
      have hne : k ≠ D := by omega
      have hsw : swapL q k D = (q.set k q[D]).set D q[k] := by rw [swapL, at0_get hAq, at0_get hDq]
      have x17 : List.idxOf 17 [15, 17] = 1 := by decide
      simp [hk]
      refine adraw_r [0, 1, 2, 3, 4, 5, 6, 7, 8, 9, 10, 11, 12, 13, 14, 15, 16, 17] [15, 17] swapRg [⟨bs, arr1 0 0 2 (q.map intCells)⟩, ⟨bs, arr1 0 0 2 ((q.set k q[D]).map intCells)⟩, ⟨bs, arr1 0 0 2 ((swapL q k D).map intCells)⟩]
        [.arr 0 0 0 l.length, .v (.int .i64 k), .arr 0 0 0 l.length, .v (.int .i64 k), .v (.int .i64 D), .arr 0 0 0 l.length, .v (.int .i64 k), .v (.int .i64 D), .ael 0 0 D 0, .v (.int .i64 q[D]), .arr 0 0 0 l.length, .v (.int .i64 k), .ael 0 0 k 0, .v (.int .i64 q[k]), .ael 0 0 k 0, .dead, .ael 0 0 D 0, .dead] (by decide +kernel) rfl rfl ?_
      simp [tellG_cons, tellG_nil, onTell, yieldsTo, swapRg, w6, hAq, hDq, hAl, hDl, g3, hsw, x17, arr1_put, hne, List.getElem_set_ne]
      exact ⟨D, swapL q k D, less_envOf (by simp) rfl (by simp [hsw]), ⟨by omega, by omega, by simp [g3], g4⟩, by omega⟩
    · have e0 : k - j = 0 := by omega
      rw [e0, downL] at g4
      subst g4
      simp [hk]

end Go.Proofs.YtokhnmchnfkiiaaGreat.Am

/- slices.SortStableFunc at numbers, seventh part: symMerge. No conditions. -/
namespace Go.Proofs.YtokhnmchnfkiiaaGreat.Am
open Go Go.RowKit Go.Proofs
set_option linter.unusedSimpArgs false
set_option linter.unusedVariables false

theorem cl_args4 (n : Nat) (x y z : Int) (f : FuncId) {post : List AV} (h : ∀ c ∈ post, c.closed) : ∀ a ∈ [AV.arr 0 0 0 n, .v (.int .i64 x), .v (.int .i64 y), .v (.int .i64 z), .clo f [] post], (strip a).closed := cl_args n x y z f h

set_option maxHeartbeats 4000000 in
set_option maxRecDepth 10000 in
theorem s_sym3 (l l1 l2 l3 : List Int) (hl : l.length ≤ 1000) (a m b : Nat) (ham : a + 1 < m) (hmb : m + 1 < b) (hb : b ≤ l.length) (f : FuncId) (post : List AV) (bs : List (List AV)) (K : Int → Int → Int) (hst : Stab bs) (hs2 : StabA post) (hcl : ∀ cs ∈ bs, ∀ c ∈ cs, c.closed) (hcp : ∀ c ∈ post, c.closed)
    (h : ∀ x ∈ l, ∀ y ∈ l, BCall Tryz.prog f ([.v (.int .i64 x), .v (.int .i64 y)] ++ post) bs (.v (.int .i64 (K x y)))) (mid s E P : Nat) (hmid : mid = (a + b) / 2) (hP : P = mid + m - 1) (hs : s = bsr (fun k => !decide (K (at0 l (P - k)) (at0 l k) < 0)) (r0 a m b - s0 a m b) (s0 a m b) (r0 a m b)) (hE : E = mid + m - s)
    (k1 : l1.length = l.length) (k2 : l2.length = l.length) (k3 : l3.length = l.length)
    (h1 : s < m ∧ m < E → OCallB Tryz.prog 262 bs (some (2, l.map intCells)) [.arr 0 0 0 l.length, .v (.int .i64 s), .v (.int .i64 m), .v (.int .i64 E), .clo f [] post] (some (true, 2, l1.map intCells)) (.tup []))
    (h1n : ¬ (s < m ∧ m < E) → l1 = l)
    (h2 : a < s ∧ s < mid → OCallB Tryz.prog 249 bs (some (2, l1.map intCells)) [.arr 0 0 0 l.length, .v (.int .i64 a), .v (.int .i64 s), .v (.int .i64 mid), .clo f [] post] (some (true, 2, l2.map intCells)) (.tup []))
    (h2n : ¬ (a < s ∧ s < mid) → l2 = l1)
    (h3 : mid < E ∧ E < b → OCallB Tryz.prog 249 bs (some (2, l2.map intCells)) [.arr 0 0 0 l.length, .v (.int .i64 mid), .v (.int .i64 E), .v (.int .i64 b), .clo f [] post] (some (true, 2, l3.map intCells)) (.tup []))
    (h3n : ¬ (mid < E ∧ E < b) → l3 = l2) :
    OCallB Tryz.prog 249 bs (some (2, l.map intCells)) [.arr 0 0 0 l.length, .v (.int .i64 a), .v (.int .i64 m), .v (.int .i64 b), .clo f [] post]
      (some (true, 2, l3.map intCells)) (.tup []) := by
  obtain ⟨T, hT⟩ : ∃ T : Nat → Bool, T = fun k => !decide (K (at0 l (P - k)) (at0 l k) < 0) := ⟨_, rfl⟩
  rw [← hT] at hs
  obtain ⟨e1, e2, e3, e4, e5, e6⟩ := sr a m b (by omega) (by omega)
  rw [← hmid] at e4 e5 e6
  obtain ⟨p1, p2, _, _⟩ := bsr_ok T (r0 a m b - s0 a m b) (s0 a m b) (r0 a m b) e2 (by omega)
  rw [← hs] at p1 p2
  have hSR : ∀ _ : Unit, (mid < m → s0 a m b + b = mid + m ∧ r0 a m b = mid) ∧ (¬ mid < m → s0 a m b = a ∧ r0 a m b = m) := fun _ => by
    unfold s0 r0
    rw [← hmid]
    constructor
    · intro hm
      rw [if_pos hm, if_pos hm]
      exact ⟨by omega, rfl⟩
    · intro hm
      rw [if_neg hm, if_neg hm]
      exact ⟨rfl, rfl⟩
  have e7 : mid + m ≤ b + s0 a m b := by omega
  have hPl : P + 1 = mid + m := by omega
  have hEl : E + s = mid + m := by omega
  have w2 := mid_w a b (by omega)
  rw [← hmid] at w2
  obtain ⟨S, hS⟩ : ∃ S, S = s0 a m b := ⟨_, rfl⟩
  obtain ⟨R, hR⟩ : ∃ R, R = r0 a m b := ⟨_, rfl⟩
  rw [← hS] at hs hSR e1 e2 e7 p1
  rw [← hR] at hs hSR e2 e3 e4 p2
  clear hS hR hE hP hmid e5 e6
  obtain ⟨FF, hFF⟩ : ∃ FF, FF = R - S := ⟨_, rfl⟩
  rw [← hFF] at hs
  have hFl : R ≤ S + FF := by omega
  clear hFF
  obtain ⟨ma, hma⟩ : ∃ ma, ma + a = m := ⟨m - a, by omega⟩
  obtain ⟨bm, hbm⟩ : ∃ bm, bm + m = b := ⟨b - m, by omega⟩
  refine own_of_codeB (G := Gob bs.length 999) (versob _ _) mixed0 Tryz.func249 rfl (by decide) (by simp [Tryz.f249]) (fun k hk => by simpa [Gob] using hk) 0 (by simp) (by intro s e es h; cases h; exact fr_int _) ?_
  simp only [Tryz.f249, Gob, inArrs_some]
  have es := hs2
  unfold StabA at es
  have w1 : IntKind.i64.wrap ((m : Int) - (a : Int)) = (ma : Int) := by rw [IntWalk.i64_in _ (by omega)]; omega
  have w1n : ¬ ((ma : Int) = 1) := by omega
  have w1m : ¬ ma = 1 := by omega
  have w0 : IntKind.i64.wrap ((b : Int) - (m : Int)) = (bm : Int) := by rw [IntWalk.i64_in _ (by omega)]; omega
  have w0n : ¬ ((bm : Int) = 1) := by omega
  have w0m : ¬ bm = 1 := by omega
  obtain ⟨n, hn⟩ : ∃ n, n = mid + m := ⟨_, rfl⟩
  have w3 : IntKind.i64.wrap ((mid : Int) + (m : Int)) = (n : Int) := by rw [IntWalk.i64_in _ (by omega)]; omega
  have w4 : IntKind.i64.wrap ((n : Int) - 1) = (P : Int) := by rw [IntWalk.i64_in _ (by omega)]; omega
  have w6 : IntKind.i64.wrap ((n : Int) - (s : Int)) = (E : Int) := by rw [IntWalk.i64_in _ (by omega)]; omega
  have wab : IntKind.i64.wrap ((a : Int) + (b : Int)) = (a : Int) + (b : Int) := by rw [IntWalk.i64_in _ (by omega)]
  refine if_skip ⟨bs, arr1 0 0 2 (l.map intCells)⟩ (fun E => E 0 = .arr 0 0 0 l.length ∧ E 1 = .v (.int .i64 a) ∧ E 2 = .v (.int .i64 m) ∧ E 3 = .v (.int .i64 b) ∧ E 4 = .clo f [] post) ?_ ?_
  · simp [w1, w1n, w1m]
  rintro Q ⟨z0, z1, z2, z3, z4⟩
  refine if_skip ⟨bs, arr1 0 0 2 (l.map intCells)⟩ (fun E => E 0 = .arr 0 0 0 l.length ∧ E 1 = .v (.int .i64 a) ∧ E 2 = .v (.int .i64 m) ∧ E 3 = .v (.int .i64 b) ∧ E 4 = .clo f [] post) ?_ ?_
  · simp [z0, z1, z2, z3, z4, w0, w0n, w0m]
  rintro Q ⟨z0, z1, z2, z3, z4⟩
  refine seq_step ⟨bs, arr1 0 0 2 (l.map intCells)⟩ (fun E => E 0 = .arr 0 0 0 l.length ∧ E 1 = .v (.int .i64 a) ∧ E 2 = .v (.int .i64 m) ∧ E 3 = .v (.int .i64 b) ∧ E 4 = .clo f [] post ∧ E 18 = .v (.int .i64 mid)) ?_ ?_
  · simp [z0, z1, z2, z3, z4, wab, w2]
  rintro Q ⟨z0, z1, z2, z3, z4, z18⟩
  refine seq_step ⟨bs, arr1 0 0 2 (l.map intCells)⟩ (fun E => E 0 = .arr 0 0 0 l.length ∧ E 1 = .v (.int .i64 a) ∧ E 2 = .v (.int .i64 m) ∧ E 3 = .v (.int .i64 b) ∧ E 4 = .clo f [] post ∧ E 18 = .v (.int .i64 mid) ∧ E 19 = .v (.int .i64 n)) ?_ ?_
  · simp [z0, z1, z2, z3, z4, z18, w3]
  rintro Q ⟨z0, z1, z2, z3, z4, z18, z19⟩
  refine seq_step ⟨bs, arr1 0 0 2 (l.map intCells)⟩ (fun E => E 0 = .arr 0 0 0 l.length ∧ E 1 = .v (.int .i64 a) ∧ E 2 = .v (.int .i64 m) ∧ E 3 = .v (.int .i64 b) ∧ E 4 = .clo f [] post ∧ E 18 = .v (.int .i64 mid) ∧ E 19 = .v (.int .i64 n)) ?_ ?_
  · simp [z0, z1, z2, z3, z4, z18, z19]
  rintro Q ⟨z0, z1, z2, z3, z4, z18, z19⟩
  refine seq_step ⟨bs, arr1 0 0 2 (l.map intCells)⟩ (fun E => E 0 = .arr 0 0 0 l.length ∧ E 1 = .v (.int .i64 a) ∧ E 2 = .v (.int .i64 m) ∧ E 3 = .v (.int .i64 b) ∧ E 4 = .clo f [] post ∧ E 18 = .v (.int .i64 mid) ∧ E 19 = .v (.int .i64 n) ∧ E 20 = .v (.int .i64 S) ∧ E 21 = .v (.int .i64 R)) ?_ ?_
  · by_cases hm : mid < m
    · obtain ⟨q1, q2⟩ := (hSR ()).1 hm
      have w7 : IntKind.i64.wrap ((n : Int) - (b : Int)) = (S : Int) := by rw [IntWalk.i64_in _ (by omega)]; omega
      simp [z0, z1, z2, z3, z4, z18, z19, hm, w7, q2]
    · obtain ⟨q1, q2⟩ := (hSR ()).2 hm
      simp [z0, z1, z2, z3, z4, z18, z19, hm, q1, q2]
  rintro Q ⟨z0, z1, z2, z3, z4, z18, z19, z20, z21⟩
  refine seq_step ⟨bs, arr1 0 0 2 (l.map intCells)⟩ (fun E => E 0 = .arr 0 0 0 l.length ∧ E 1 = .v (.int .i64 a) ∧ E 2 = .v (.int .i64 m) ∧ E 3 = .v (.int .i64 b) ∧ E 4 = .clo f [] post ∧ E 18 = .v (.int .i64 mid) ∧ E 19 = .v (.int .i64 n) ∧ E 20 = .v (.int .i64 S) ∧ E 21 = .v (.int .i64 R) ∧ E 22 = .v (.int .i64 P)) ?_ ?_
  · simp [z0, z1, z2, z3, z4, z18, z19, z20, z21, w4]
  rintro Q ⟨z0, z1, z2, z3, z4, z18, z19, z20, z21, z22⟩
  refine seq_step ⟨bs, arr1 0 0 2 (l.map intCells)⟩ (fun E => E 0 = .arr 0 0 0 l.length ∧ E 1 = .v (.int .i64 a) ∧ E 2 = .v (.int .i64 m) ∧ E 3 = .v (.int .i64 b) ∧ E 4 = .clo f [] post ∧ E 18 = .v (.int .i64 mid) ∧ E 19 = .v (.int .i64 n) ∧ E 20 = .v (.int .i64 s)) ?_ ?_
  · simp
    refine aloop (α := Nat × Nat × Nat) (fun d => ⟨envOf [(0, .arr 0 0 0 l.length), (1, .v (.int .i64 a)), (2, .v (.int .i64 m)), (3, .v (.int .i64 b)), (4, .clo f [] post), (18, .v (.int .i64 mid)), (19, .v (.int .i64 n)), (20, .v (.int .i64 d.2.1)), (21, .v (.int .i64 d.2.2)), (22, .v (.int .i64 P))], ⟨bs, arr1 0 0 2 (l.map intCells)⟩⟩)
      (fun d => S ≤ d.2.1 ∧ d.2.1 ≤ d.2.2 ∧ d.2.2 ≤ R ∧ d.2.2 ≤ d.2.1 + d.1 ∧ bsr T d.1 d.2.1 d.2.2 = s) (fun d => d.1) (FF, S, R) (less_envOf (by simp [z0, z1, z2, z3, z4, z18, z19, z20, z21, z22]) rfl fun _ => rfl) ⟨Nat.le_refl _, e2, Nat.le_refl _, by simp only; omega, hs.symm⟩ ?_
    rintro ⟨F, i, j⟩ ⟨g1, g2, g3, g4, g5⟩
    simp only at g1 g2 g3 g4 g5 ⊢
    by_cases hlt : i < j
    · obtain ⟨F, rfl⟩ : ∃ k, F = k + 1 := ⟨F - 1, by omega⟩
      rw [bsr, if_pos hlt] at g5
      have u3 := mid_w i j (by omega)
      obtain ⟨H, hH⟩ : ∃ H, H = (i + j) / 2 := ⟨_, rfl⟩
      rw [← hH] at g5 u3
      have hH1 : i ≤ H := by omega
      have hH2 : H < j := by omega
      clear hH
      obtain ⟨D, hD⟩ : ∃ D, D = P - H := ⟨_, rfl⟩
      have hDl2 : D + H = P := by omega
      have hHl : H < l.length := by omega
      have hDl : D < l.length := by omega
      have hcall := h l[D] (List.getElem_mem hDl) l[H] (List.getElem_mem hHl)
      have hTH : T H = !decide (K l[D] l[H] < 0) := by rw [hT]; simp only [← hD, at0_get hHl, at0_get hDl]
      clear hD
      have u2 : IntKind.i64.wrap ((i : Int) + (j : Int)) = ((i + j : Nat) : Int) := by rw [IntWalk.i64_in _ (by omega)]; omega
      have u4 : IntKind.i64.wrap ((H : Int) + 1) = ((H + 1 : Nat) : Int) := by rw [IntWalk.i64_in _ (by omega)]; omega
      have u5 : IntKind.i64.wrap ((P : Int) - (H : Int)) = (D : Int) := by rw [IntWalk.i64_in _ (by omega)]; omega
      simp [hlt, u2, u3]
      refine adraw_all (by kernel_rfl) ?_
      simp [hHl, hDl, u3, u5]
      simp only [es]
      refine call_b hcall (hst _) ?_
      by_cases hk : K l[D] l[H] < 0
      · rw [hTH, if_neg (by simp [hk])] at g5
        simp [hk]
        exact ⟨F, i, H, less_envOf (by simp [u3]) rfl fun _ => rfl, ⟨g1, by omega, by omega, by omega, g5⟩, by omega⟩
      · rw [hTH, if_pos (by simp [hk])] at g5
        simp [hk]
        exact ⟨F, H + 1, j, less_envOf (by simp [u4]) rfl fun _ => rfl, ⟨by omega, by omega, g3, by omega, g5⟩, by omega⟩
    · obtain rfl : j = i := by omega
      rw [bsr_done] at g5
      subst g5
      simp [hlt]
  rintro Q ⟨z0, z1, z2, z3, z4, z18, z19, z20⟩
  refine seq_step ⟨bs, arr1 0 0 2 (l.map intCells)⟩ (fun Q => Q 0 = .arr 0 0 0 l.length ∧ Q 1 = .v (.int .i64 a) ∧ Q 2 = .v (.int .i64 m) ∧ Q 3 = .v (.int .i64 b) ∧ Q 4 = .clo f [] post ∧ Q 18 = .v (.int .i64 mid) ∧ Q 20 = .v (.int .i64 s) ∧ Q 24 = .v (.int .i64 E)) ?_ ?_
  · simp [z0, z1, z2, z3, z4, z18, z19, z20, w6]
  rintro Q ⟨z0, z1, z2, z3, z4, z18, z20, z24⟩
  refine seq_step ⟨bs, arr1 0 0 2 (l1.map intCells)⟩ (fun Q => Q 0 = .arr 0 0 0 l.length ∧ Q 1 = .v (.int .i64 a) ∧ Q 3 = .v (.int .i64 b) ∧ Q 4 = .clo f [] post ∧ Q 18 = .v (.int .i64 mid) ∧ Q 20 = .v (.int .i64 s) ∧ Q 24 = .v (.int .i64 E)) ?_ ?_
  · by_cases c1 : s < m
    · by_cases c2 : m < E
      · simp [z0, z1, z2, z3, z4, z18, z20, z24, c1, c2]
        refine call_sb 0 0 2 (l.map intCells) (by simp) (h1 ⟨c1, c2⟩) (stab_O hst _ _) (by simp) (cl_args _ _ _ _ _ hcp) hcl (cl_int l) ?_
        simp [z0, z1, z3, z4, z18, z20, z24, arr1_put]
      · rw [h1n (by omega)]
        simp [z0, z1, z2, z3, z4, z18, z20, z24, c1, c2]
    · rw [h1n (by omega)]
      simp [z0, z1, z2, z3, z4, z18, z20, z24, c1]
  rintro Q ⟨z0, z1, z3, z4, z18, z20, z24⟩
  refine seq_step ⟨bs, arr1 0 0 2 (l2.map intCells)⟩ (fun Q => Q 0 = .arr 0 0 0 l.length ∧ Q 3 = .v (.int .i64 b) ∧ Q 4 = .clo f [] post ∧ Q 18 = .v (.int .i64 mid) ∧ Q 24 = .v (.int .i64 E)) ?_ ?_
  · by_cases c1 : a < s
    · by_cases c2 : s < mid
      · simp [z0, z1, z3, z4, z18, z20, z24, c1, c2]
        refine call_sb 0 0 2 (l1.map intCells) (by simp) (h2 ⟨c1, c2⟩) (stab_O hst _ _) (by simp [k1]) (cl_args _ _ _ _ _ hcp) hcl (cl_int l1) ?_
        simp [z0, z3, z4, z18, z24, arr1_put]
      · rw [h2n (by omega)]
        simp [z0, z1, z3, z4, z18, z20, z24, c1, c2]
    · rw [h2n (by omega)]
      simp [z0, z1, z3, z4, z18, z20, z24, c1]
  rintro Q ⟨z0, z3, z4, z18, z24⟩
  by_cases c1 : mid < E
  · by_cases c2 : E < b
    · simp [z0, z3, z4, z18, z24, c1, c2]
      refine call_sb 0 0 2 (l2.map intCells) (by simp) (h3 ⟨c1, c2⟩) (stab_O hst _ _) (by simp [k2]) (cl_args _ _ _ _ _ hcp) hcl (cl_int l2) ?_
      simp [arr1_put]
    · rw [h3n (by omega)]
      simp [z0, z3, z4, z18, z24, c1, c2]
  · rw [h3n (by omega)]
    simp [z0, z3, z4, z18, z24, c1]

end Go.Proofs.YtokhnmchnfkiiaaGreat.Am
