import Derived.Test.YtokhnmchnfkiiaaGreatAmCg16
import Derived.Test.YtokhnmchnfkiiaaGreatAmCg13
import Derived.Test.YtokhnmchnfkiiaaGreatAmCg4
import Derived.Test.YtokhnmchnfkiiaaGreatAmCg8
/- The order of candidates. No conditions. -/
namespace Go.Proofs.YtokhnmchnfkiiaaGreat.Am
open Go Go.RowKit Go.Proofs
set_option linter.unusedSimpArgs false
set_option linter.unusedVariables false

/-- What the program's comparison of two places gives. -/
def candK (c : List Pk) (like : List Int) (x y : Int) : Int :=
  if memI x like = true ∧ memI y like = false then -1 else if memI y like = true ∧ memI x like = false then 1 else cmpV (pkAt c y).v (pkAt c x).v
def candB (c : List Pk) (like : List Int) (y x : Int) : Bool := decide (candK c like y x < 0)
def lkI (like : List Int) (x : Int) : Int := if memI x like = true then 1 else 0
/-- The order by its key: in like first, then the newer version, then the lesser place. -/
def keyLt (l1 : Int) (v1 : Ver) (x1 l2 : Int) (v2 : Ver) (x2 : Int) : Prop :=
  l2 < l1 ∨ (l1 = l2 ∧ (v2.a < v1.a ∨ (v1.a = v2.a ∧ (v2.b < v1.b ∨ (v1.b = v2.b ∧ (v2.c < v1.c ∨ (v1.c = v2.c ∧ x1 < x2)))))))
theorem cmpV_neg (u v : Ver) : cmpV u v < 0 ↔ (u.a < v.a ∨ (u.a = v.a ∧ (u.b < v.b ∨ (u.b = v.b ∧ u.c < v.c)))) := by
  unfold cmpV cmpF signF
  constructor
  · intro h
    repeat' split at h
    all_goals omega
  · intro h
    repeat' split
    all_goals omega
theorem cmpV_pos (u v : Ver) : 0 < cmpV u v ↔ (v.a < u.a ∨ (u.a = v.a ∧ (v.b < u.b ∨ (u.b = v.b ∧ v.c < u.c)))) := by
  unfold cmpV cmpF signF
  constructor
  · intro h
    repeat' split at h
    all_goals omega
  · intro h
    repeat' split
    all_goals omega
theorem candK_neg (c : List Pk) (like : List Int) (y x : Int) : candK c like y x < 0 ↔ (lkI like x < lkI like y ∨ (lkI like x = lkI like y ∧ cmpV (pkAt c x).v (pkAt c y).v < 0)) := by
  unfold candK lkI
  cases memI y like <;> cases memI x like <;> simp
theorem rb_key (c : List Pk) (like : List Int) (x y : Int) (h : x ≠ y) : RB (candB c like) x y ↔ keyLt (lkI like x) (pkAt c x).v x (lkI like y) (pkAt c y).v y := by
  unfold RB keyLt candB
  by_cases hxy : x < y
  · rw [if_pos hxy, decide_eq_false_iff_not, candK_neg, cmpV_neg]
    omega
  · rw [if_neg hxy, decide_eq_true_eq, candK_neg, cmpV_neg]
    omega
theorem rb_irr (c : List Pk) (like : List Int) (x : Int) : ¬ RB (candB c like) x x := by
  unfold RB candB
  rw [if_neg (by omega), decide_eq_true_eq, candK_neg, cmpV_neg]
  omega
theorem cand_tr (c : List Pk) (like l : List Int) : Tr (candB c like) l := by
  intro x _ y _ z _ h1 h2
  by_cases e1 : x = y
  · subst e1; exact absurd h1 (rb_irr c like x)
  by_cases e2 : y = z
  · subst e2; exact absurd h2 (rb_irr c like y)
  rw [rb_key c like x y e1] at h1
  rw [rb_key c like y z e2] at h2
  by_cases e3 : x = z
  · subst e3
    unfold keyLt at h1 h2
    omega
  · rw [rb_key c like x z e3]
    unfold keyLt at h1 h2 ⊢
    omega

end Go.Proofs.YtokhnmchnfkiiaaGreat.Am

/- Candidates: the closures of the program. No conditions. -/
namespace Go.Proofs.YtokhnmchnfkiiaaGreat.Am
open Go Go.RowKit Go.Proofs
set_option linter.unusedSimpArgs false
set_option linter.unusedVariables false

theorem q_candK (d f k : Bool) (c : List Pk) (like : List Int) (hl : like.length ≤ 4611686018427387904) (x y : Int) (hx : 0 ≤ x ∧ x.toNat < c.length) (hy : 0 ≤ y ∧ y.toNat < c.length) (i j : Nat) (bs : List (List AV)) (hi : bs[i]? = some [intsAV k like]) (hj : bs[j]? = some [pksAV d f c]) :
    BCall Tryz.prog 139 [.v (.int .i64 x), .v (.int .i64 y), .box i 0, .box j 0] bs (.v (.int .i64 (candK c like x y))) := by
  obtain ⟨x1, x2⟩ := hx
  obtain ⟨y1, y2⟩ := hy
  have gx := pkAt_get x2
  have gy := pkAt_get y2
  obtain ⟨R, hR⟩ : ∃ R, R = candK c like x y := ⟨_, rfl⟩
  rw [← hR]
  have hRv : R = if memI x like = true ∧ memI y like = false then -1 else if memI y like = true ∧ memI x like = false then 1 else cmpV (pkAt c y).v (pkAt c x).v := hR
  clear hR
  refine bcode Tryz.func139 rfl (by decide) (by simp [Tryz.f139]) (by simp) fun ver => ?_
  simp only [Tryz.f139, Gb]
  simp
  refine adraw_all (by kernel_rfl) ?_
  simp [hi]
  refine call_p (q_containsI k like hl x) (by simp) ?_
  simp [hi]
  refine call_p (q_containsI k like hl y) (by simp) ?_
  cases e1 : memI x like with
  | true =>
    cases e2 : memI y like with
    | true =>
      rw [e1, e2] at hRv
      simp at hRv
      simp
      refine adraw_all (by kernel_rfl) ?_
      simp [hj, x1, y1, gx, gy]
      refine call_p (p_compare _ _ _ _ _ _) (by simp) ?_
      simp [hRv, cmpV]
    | false =>
      rw [e1, e2] at hRv
      simp at hRv
      simp [hRv]
  | false =>
    cases e2 : memI y like with
    | true =>
      rw [e1, e2] at hRv
      simp at hRv
      simp [hRv]
    | false =>
      rw [e1, e2] at hRv
      simp at hRv
      simp
      refine adraw_all (by kernel_rfl) ?_
      simp [hj, x1, y1, gx, gy]
      refine call_p (p_compare _ _ _ _ _ _) (by simp) ?_
      simp [hRv, cmpV]

/-- A chosen package shuts another one out. -/
def clashB (p : Pk) (k o : Int) (q : Pk) : Bool := decide (o = k) || (decide (q.n = p.n) || (q.ba.any (givesF p) || p.ba.any (givesF q)))
theorem q_clash (d f : Bool) (c : List Pk) (hc : CatOk c) (k : Int) (hk : 0 ≤ k ∧ k.toNat < c.length) (o : Int) (ho : 0 ≤ o ∧ o.toNat < c.length) (i j h : Nat) (bs : List (List AV)) (hi : bs[i]? = some [pksAV d f c]) (hj : bs[j]? = some [.v (.int .i64 k)]) (hh : bs[h]? = some ((pkAt c k).cells f)) :
    BCall Tryz.prog 137 [.v (.int .i64 o), .box i 0, .box j 0, .box h 0] bs (.v (.bool (clashB (pkAt c k) k o (pkAt c o)))) := by
  obtain ⟨o1, o2⟩ := ho
  have go := pkAt_get o2
  have okp := hc _ (pkAt_mem hk.2)
  have oko := hc _ (pkAt_mem o2)
  obtain ⟨p, hp⟩ : ∃ p, p = pkAt c k := ⟨_, rfl⟩
  obtain ⟨q, hq⟩ : ∃ q, q = pkAt c o := ⟨_, rfl⟩
  rw [← hp] at hh okp ⊢
  rw [← hq] at go oko ⊢
  have hi2 := getA hi
  have hj2 := getA hj
  have hh2 := getA hh
  obtain ⟨R, hR⟩ : ∃ R, R = clashB p k o q := ⟨_, rfl⟩
  rw [← hR]
  have hRv : R = (decide (o = k) || (decide (q.n = p.n) || (q.ba.any (givesF p) || p.ba.any (givesF q)))) := hR
  clear hR
  have l1 := okp.1
  have l2 := okp.2.2.1
  have l3 := oko.1
  have l4 := oko.2.2.1
  refine bcode Tryz.func137 rfl (by decide) (by simp [Tryz.f137]) (by simp) fun ver => ?_
  simp only [Tryz.f137, Gb]
  simp [hi, o1, go]
  by_cases e1 : o = k
  · have hRt : R = true := by simpa [e1] using hRv
    subst hRt
    simp [hj2, e1]
  by_cases e2 : q.n = p.n
  · have hRt : R = true := by simpa [e1, e2] using hRv
    subst hRt
    simp [hj2, hh2, e1, e2]
  simp [hj2, hh2, e1, e2]
  refine call_p (q_givesOne f f p (by omega) q.ba (by omega)) (by simp) ?_
  cases e3 : q.ba.any (givesF p) with
  | true =>
    have hRt : R = true := by simpa [e1, e2, e3] using hRv
    subst hRt
    simp
  | false =>
    simp [hj2, hh2]
    refine call_p (q_givesOne f f q (by omega) p.ba (by omega)) (by simp) ?_
    have hRt : R = p.ba.any (givesF q) := by
      rw [hRv, e3]
      simp [e1, e2]
    simp [hRt]

end Go.Proofs.YtokhnmchnfkiiaaGreat.Am

/- Candidates: put in their order one by one; the program's side. No conditions. -/
namespace Go.Proofs.YtokhnmchnfkiiaaGreat.Am
open Go Go.RowKit Go.Proofs
set_option linter.unusedSimpArgs false
set_option linter.unusedVariables false

def keepB (c : List Pk) (cl : List Trm) (ch dn : List Int) (k : Int) : Bool := !memI k dn && (cl.any (givesF (pkAt c k)) && !(ch.any fun o => clashB (pkAt c k) k o (pkAt c o)))
def cand0 (c : List Pk) (cl : List Trm) (ch dn : List Int) : List Int := (allI c.length).filter (keepB c cl ch dn)
def posA (B : Int → Int → Bool) (x : Int) (out : List Int) : Nat → Nat
  | 0 => 0
  | n + 1 => if B x (at0 out n) = true then posA B x out n else n + 1
def insA (B : Int → Int → Bool) (out : List Int) (x : Int) : List Int := out.take (posA B x out out.length) ++ x :: out.drop (posA B x out out.length)
def candF (c : List Pk) (cl : List Trm) (ch dn like : List Int) : List Int := (cand0 c cl ch dn).foldl (insA (candB c like)) []
theorem posA_le (B : Int → Int → Bool) (x : Int) (out : List Int) : ∀ n, posA B x out n ≤ n
  | 0 => Nat.le_refl _
  | n + 1 => by
    unfold posA
    split
    · exact Nat.le_succ_of_le (posA_le B x out n)
    · exact Nat.le_refl _
theorem posA_ok (B : Int → Int → Bool) (x : Int) (out : List Int) : ∀ n, (∀ k, posA B x out n ≤ k → k < n → B x (at0 out k) = true) ∧ (posA B x out n = 0 ∨ B x (at0 out (posA B x out n - 1)) = false)
  | 0 => ⟨fun k h1 h2 => by omega, .inl rfl⟩
  | n + 1 => by
    unfold posA
    by_cases h : B x (at0 out n) = true
    · rw [if_pos h]
      obtain ⟨h1, h2⟩ := posA_ok B x out n
      refine ⟨fun k r1 r2 => ?_, h2⟩
      by_cases e : k = n
      · rw [e]; exact h
      · exact h1 k r1 (by omega)
    · rw [if_neg h]
      exact ⟨fun k r1 r2 => by omega, .inr (by simpa using h)⟩
theorem insA_perm (B : Int → Int → Bool) (out : List Int) (x : Int) : (insA B out x).Perm (x :: out) := by
  unfold insA
  refine List.perm_middle.trans ?_
  rw [List.take_append_drop]
theorem insA_pair {B : Int → Int → Bool} {out : List Int} {x : Int} (hT : ∀ l, Tr B l) (h : out.Pairwise (RB B)) (hx : ∀ y ∈ out, y < x) : (insA B out x).Pairwise (RB B) := by
  obtain ⟨h1, h2⟩ := posA_ok B x out out.length
  have hle := posA_le B x out out.length
  unfold insA
  obtain ⟨p, hp⟩ : ∃ p, p = posA B x out out.length := ⟨_, rfl⟩
  rw [← hp] at h1 h2 hle ⊢
  have hs := List.pairwise_iff_getElem.1 h
  have hlt : ∀ k (hk : k < out.length), out[k] < x := fun k hk => hx _ (List.getElem_mem hk)
  have low : ∀ k (hk : k < out.length), k < p → RB B out[k] x := by
    intro k hk hkp
    have h3 := h2.resolve_left (by omega)
    have hp1 : p - 1 < out.length := by omega
    rw [at0_get hp1] at h3
    have r1 := (rb_false (hlt _ hp1)).2 h3
    by_cases e : k = p - 1
    · subst e; exact r1
    · exact hT [out[k], out[p - 1], x] _ (by simp) _ (by simp) _ (by simp) (hs k (p - 1) hk hp1 (by omega)) r1
  have high : ∀ k (hk : k < out.length), p ≤ k → RB B x out[k] := by
    intro k hk hkp
    have h3 := h1 k hkp hk
    rw [at0_get hk] at h3
    exact (rb_true (hlt k hk)).2 h3
  rw [List.pairwise_append]
  refine ⟨h.sublist (List.take_sublist _ _), List.pairwise_cons.2 ⟨fun y hy => ?_, h.sublist (List.drop_sublist _ _)⟩, fun y hy z hz => ?_⟩
  · obtain ⟨k, hk, rfl⟩ := List.getElem_of_mem hy
    rw [List.getElem_drop]
    exact high _ _ (by omega)
  · obtain ⟨k, hk, rfl⟩ := List.getElem_of_mem hy
    have hk2 : k < p ∧ k < out.length := by simp at hk; omega
    rw [List.getElem_take]
    rcases List.mem_cons.1 hz with rfl | hz
    · exact low k hk2.2 hk2.1
    · obtain ⟨j, hj, rfl⟩ := List.getElem_of_mem hz
      rw [List.getElem_drop]
      exact hs _ _ hk2.2 (by simp at hj; omega) (by omega)
theorem cand_all {B : Int → Int → Bool} (hT : ∀ l, Tr B l) : ∀ (l out : List Int), l.Pairwise (· < ·) → out.Pairwise (RB B) → (∀ y ∈ out, ∀ x ∈ l, y < x) → (l.foldl (insA B) out).Pairwise (RB B) ∧ (l.foldl (insA B) out).Perm (out ++ l)
  | [], out, _, h, _ => ⟨h, by simp⟩
  | x :: l, out, hl, h, hx => by
    obtain ⟨h1, h2⟩ := List.pairwise_cons.1 hl
    have g1 := insA_pair hT h (x := x) fun y hy => hx y hy x (by simp)
    have gp := insA_perm B out x
    obtain ⟨g2, g3⟩ := cand_all hT l (insA B out x) h2 g1 fun y hy z hz => by
      rcases List.mem_cons.1 (gp.mem_iff.1 hy) with rfl | hy
      · exact h1 z hz
      · exact hx y hy z (by simp [hz])
    refine ⟨g2, g3.trans ?_⟩
    have := (gp.append_right l).trans (by simpa using (List.perm_middle (l₁ := out) (a := x) (l₂ := l)).symm)
    exact this
theorem cand0_rise (c : List Pk) (cl : List Trm) (ch dn : List Int) : (cand0 c cl ch dn).Pairwise (· < ·) := (allI_lt c.length).sublist List.filter_sublist
theorem cand0_len (c : List Pk) (cl : List Trm) (ch dn : List Int) : (cand0 c cl ch dn).length ≤ c.length := by
  have := List.length_filter_le (keepB c cl ch dn) (allI c.length)
  simpa [cand0] using this
theorem candF_ok (c : List Pk) (cl : List Trm) (ch dn like : List Int) : (candF c cl ch dn like).Pairwise (RB (candB c like)) ∧ (candF c cl ch dn like).Perm (cand0 c cl ch dn) := by
  have := cand_all (cand_tr c like) (cand0 c cl ch dn) [] (cand0_rise c cl ch dn) List.Pairwise.nil (by simp)
  simpa [candF] using this
theorem candF_len (c : List Pk) (cl : List Trm) (ch dn like : List Int) : (candF c cl ch dn like).length ≤ c.length := by
  rw [(candF_ok c cl ch dn like).2.length_eq]
  exact cand0_len c cl ch dn

end Go.Proofs.YtokhnmchnfkiiaaGreat.Am

/- Candidates, as the program finds them. No conditions. -/
namespace Go.Proofs.YtokhnmchnfkiiaaGreat.Am
open Go Go.RowKit Go.Proofs
set_option linter.unusedSimpArgs false
set_option linter.unusedVariables false

@[reducible] def ClL (B : List (List AV)) : Prop := ∀ cs ∈ B, ∀ x ∈ cs, AV.closed x
theorem clL_app {B : List (List AV)} (h : ClL B) {r : List AV} (hr : ∀ x ∈ r, AV.closed x) : ClL (B ++ [r]) := by
  intro cs hcs
  rcases List.mem_append.1 hcs with h1 | h1
  · exact h cs h1
  · simp at h1
    subst h1
    exact hr
theorem clL_cons {B : List (List AV)} (h : ClL B) {r : List AV} (hr : ∀ x ∈ r, AV.closed x) : ClL (r :: B) := by
  intro cs hcs
  rcases List.mem_cons.1 hcs with h1 | h1
  · subst h1; exact hr
  · exact h cs h1
theorem cl_one {x : AV} (h : x.closed) : ∀ c ∈ [x], AV.closed c := by intro c hc; simp at hc; subst hc; exact h

set_option maxHeartbeats 4000000 in
set_option maxRecDepth 10000 in
theorem q_candO (d k1 k k2 k3 : Bool) (c : List Pk) (hc : CatOk c) (hcl : c.length ≤ 30) (cl : List Trm) (hl : cl.length ≤ 4611686018427387904) (ch dn like : List Int) (hch : Places c.length ch) (hchl : ch.length ≤ 4611686018427387904) (hdnl : dn.length ≤ 4611686018427387904) (hlkl : like.length ≤ 4611686018427387904) :
    OCall Tryz.prog 77 none [pksAV d false c, trmsAV k1 cl, intsAV k ch, intsAV k2 dn, intsAV k3 like] (some (false, 2, (candF c cl ch dn like).map intCells)) (.arr 0 0 0 (candF c cl ch dn like).length) := by
  refine own_of_code (G := Go1 14) (verso 14) mixed0 Tryz.func77 rfl (by decide) (by simp [Tryz.f77]) 14 .dead (by intro s' e es h; cases h; exact fr_int _) ?_
  obtain ⟨ver, hver⟩ : ∃ ver : Nat → Nat, ver = fun _ => 0 := ⟨_, rfl⟩
  have hin : inArrs none = noArrs ver := by rw [hver]; rfl
  rw [hin]
  clear hin hver
  obtain ⟨M, hM⟩ : ∃ M, M = candF c cl ch dn like := ⟨_, rfl⟩
  obtain ⟨g1, g2⟩ := candF_ok c cl ch dn like
  rw [← hM] at g1 g2 ⊢
  simp only [Tryz.f77, Go1]
  simp [Mem.made, sealRows]
  refine aloop (α := Nat × Nat × List Int × List (List AV)) (fun q => ⟨envOf [(1, trmsAV k1 cl), (2, intsAV k ch), (3, intsAV k2 dn), (5, .box 0 0), (9, .box 1 0), (11, .arr 14 q.2.1 0 q.2.2.1.length), (16, .v (.int .i64 c.length)), (17, .v (.int .i64 q.1))], ⟨[pksAV d false c] :: [intsAV k3 like] :: q.2.2.2, arrW 14 q.2.1 2 (q.2.2.1.map intCells) ver⟩⟩)
    (fun q => q.1 ≤ c.length ∧ q.2.2.1 = (allI q.1).filter (keepB c cl ch dn) ∧ StabL q.2.2.2 ∧ ClL q.2.2.2) (fun q => c.length - q.1) (0, ver 14 + 1, [], []) (less_envOf (by simp) (by simp) (by intro j; simp [arrW, noArrs])) ⟨by simp, by simp [allI], (fun _ h => by cases h), (fun _ h => by cases h)⟩ ?_
  rintro ⟨i, v, out, B⟩ ⟨h1, h2, h3, h4⟩
  simp only at h1 h2 h3 h4 ⊢
  have hol : out.length ≤ i := by
    rw [h2]
    have := List.length_filter_le (keepB c cl ch dn) (allI i)
    simpa using this
  by_cases hlt : i < c.length
  · have hw := wrapS hlt (by omega)
    have hg : pkAt c (i : Int) = c[i] := by simp [pkAt, hlt]
    have hok := hc _ (List.getElem_mem hlt)
    have hpi : (0 : Int) ≤ (i : Int) ∧ ((i : Int)).toNat < c.length := by constructor <;> simp [hlt]
    have hro : (out.length + 1) * 8 ≤ 140737488355328 := by omega
    have hnx : (allI (i + 1)).filter (keepB c cl ch dn) = if keepB c cl ch dn i = true then out ++ [(i : Int)] else out := by
      rw [allI_succ, List.filter_append, ← h2, List.filter_cons, List.filter_nil]
      split <;> simp
    have hkb : keepB c cl ch dn i = (!memI i dn && (cl.any (givesF c[i]) && !(ch.any fun o => clashB c[i] i o (pkAt c o)))) := by simp only [keepB, hg]
    have s1 : StabL (B ++ [[.v (.int .i64 i)], c[i].cells false]) := by
      have := stabL_app (stabL_app h3 (r := [.v (.int .i64 i)]) (stab_one (stabC_v _))) (stab_pk false c[i])
      simpa using this
    have s2 : ClL (B ++ [[.v (.int .i64 i)], c[i].cells false]) := by
      have := clL_app (clL_app h4 (r := [.v (.int .i64 i)]) (cl_one (.v _))) (cl_pkc false c[i])
      simpa using this
    have s3 : StabL ([pksAV d false c] :: [intsAV k3 like] :: (B ++ [[.v (.int .i64 i)], c[i].cells false])) := stabL_cons (stabL_cons s1 (stab_one (stabC_sl _ _))) (stab_one (stabC_sl _ _))
    have hcc := cb_ints k ch hchl 137 [] [.box 0 0, .box (B.length + 2) 0, .box (B.length + 3) 0] ([pksAV d false c] :: [intsAV k3 like] :: (B ++ [[.v (.int .i64 i)], c[i].cells false])) (fun o => clashB c[i] i o (pkAt c o)) (stab_of s3) (fun _ => rfl) (fun _ => rfl) fun o ho => by
      have := q_clash d false c hc i hpi o (hch o ho) 0 (B.length + 2) (B.length + 3) ([pksAV d false c] :: [intsAV k3 like] :: (B ++ [[.v (.int .i64 i)], c[i].cells false])) rfl (by simp) (by simp [hg])
      rw [hg] at this
      exact this
    simp [hlt]
    refine call_p (q_containsI k2 dn hdnl i) (by simp) ?_
    cases e1 : memI i dn with
    | true =>
      rw [e1] at hkb
      rw [hkb] at hnx
      simp at hnx
      simp
      exact ⟨i + 1, v, out, B ++ [[.v (.int .i64 i)], c[i].cells false], less_envOf (by simp [hw]) (by simp) (fun _ => rfl), ⟨by omega, hnx.symm, s1, s2⟩, by omega⟩
    | false =>
      simp [hlt]
      refine call_p (q_givesOne k1 false c[i] (by have := hok.1; omega) cl hl) (by simp) ?_
      cases e2 : cl.any (givesF c[i]) with
      | false =>
        rw [e1, e2] at hkb
        rw [hkb] at hnx
        simp at hnx
        simp
        exact ⟨i + 1, v, out, B ++ [[.v (.int .i64 i)], c[i].cells false], less_envOf (by simp [hw]) (by simp) (fun _ => rfl), ⟨by omega, hnx.symm, s1, s2⟩, by omega⟩
      | true =>
        simp
        refine call_b hcc (stab_of s3 _) ?_
        cases e3 : ch.any (fun o => clashB c[i] i o (pkAt c o)) with
        | true =>
          rw [e1, e2, e3] at hkb
          rw [hkb] at hnx
          simp at hnx
          simp
          exact ⟨i + 1, v, out, B ++ [[.v (.int .i64 i)], c[i].cells false], less_envOf (by simp [hw]) (by simp) (fun _ => rfl), ⟨by omega, hnx.symm, s1, s2⟩, by omega⟩
        | false =>
          rw [e1, e2, e3] at hkb
          rw [hkb] at hnx
          simp at hnx
          simp [arrW, aappend, sealRows, sealCells, List.range_succ, hro]
          refine ⟨i + 1, v + 1, out ++ [(i : Int)], B ++ [[.v (.int .i64 i)], c[i].cells false], less_envOf (by simp [hw]) (by simp) ?_, ⟨by omega, hnx.symm, s1, s2⟩, by omega⟩
          intro j
          by_cases hj : j = 14 <;> simp [hj, arrW]
  · have e : i = c.length := by omega
    subst e
    have e2 : out = cand0 c cl ch dn := by rw [h2]; rfl
    have hl0 := cand0_len c cl ch dn
    have s3 : StabL ([pksAV d false c] :: [intsAV k3 like] :: B) := stabL_cons (stabL_cons h3 (stab_one (stabC_sl _ _))) (stab_one (stabC_sl _ _))
    have s4 : ClL ([pksAV d false c] :: [intsAV k3 like] :: B) := clL_cons (clL_cons h4 (cl_one (closed_ints k3 like))) (cl_one (closed_pks d false c))
    have hpl : ∀ x ∈ out, 0 ≤ x ∧ x.toNat < c.length := fun x hx => by
      rw [e2] at hx
      exact allI_mem (List.mem_filter.1 hx).1
    have hso := s_sortStable 139 [.box 1 0, .box 0 0] ([pksAV d false c] :: [intsAV k3 like] :: B) (candK c like) (candB c like) rfl (stab_of s3) (fun _ => rfl) s4 (by simp; exact ⟨.box _ _, .box _ _⟩)
      out M (by rw [e2]; omega) (cand_tr c like out) (by rw [e2]; exact cand0_rise c cl ch dn) (fun x hx y hy => q_candK d false k3 c like hlkl x y (hpl x hx) (hpl y hy) 1 0 _ rfl rfl) g1 (by rw [e2]; exact g2)
    have hML : M.length = out.length := by rw [g2.length_eq, e2]
    simp
    refine call_sb 14 v 2 (out.map intCells) (by simp [arrW]) hso (stab_O (stab_of s3) _ _) (by simp [arrW]) ?_ s4 (cl_int out) ?_
    · intro q hq
      simp at hq
      rcases hq with rfl | rfl
      · exact .dead
      · exact .clo _ _ _ (by simp) (by simp; exact ⟨.box _ _, .box _ _⟩)
    · simp [hML]

end Go.Proofs.YtokhnmchnfkiiaaGreat.Am
