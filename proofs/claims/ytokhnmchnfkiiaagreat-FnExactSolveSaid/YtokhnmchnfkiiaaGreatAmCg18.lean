import Derived.Test.YtokhnmchnfkiiaaGreatAmCg17
import Derived.Test.YtokhnmchnfkiiaaGreatAmCg7
/- Candidates: the parts of the reference. No conditions. -/
namespace Go.Proofs.YtokhnmchnfkiiaaGreat.Am
open Go Go.RowKit Go.Proofs
set_option linter.unusedSimpArgs false
set_option linter.unusedVariables false

theorem p_barsOne (d f k1 : Bool) (c : List Pk) (hc : CatOk c) (l : List Trm) (hl : l.length ≤ 4611686018427387904) (x : Int) (hx : 0 ≤ x ∧ x.toNat < c.length) :
    Pure Tryz.prog 218 [pksAV d f c, trmsAV k1 l, .v (.int .i64 x)] (.v (.bool (l.any (givesF (pkAt c x))))) := by
  obtain ⟨x1, x2⟩ := hx
  have gx := pkAt_get x2
  have hok := hc _ (pkAt_mem x2)
  obtain ⟨p, hp⟩ : ∃ p, p = pkAt c x := ⟨_, rfl⟩
  rw [← hp] at gx hok ⊢
  refine pure_of_code (G := (G0)) vers0 mixed0 Tryz.func218 rfl (by decide) (by simp [Tryz.f218]) (by simp) fun ver => ?_
  simp only [Tryz.f218, G0]
  simp
  refine aloop (α := Nat) (fun i => ⟨envOf [(0, pksAV d f c), (1, trmsAV k1 l), (2, .v (.int .i64 x)), (7, .v (.int .i64 i))], ⟨[], noArrs ver⟩⟩)
    (fun i => i ≤ l.length ∧ (l.drop i).any (givesF p) = l.any (givesF p)) (fun i => l.length - i) 0 (less_envOf (by simp) rfl fun _ => rfl) (by simp) ?_
  rintro i ⟨h1, h2⟩
  by_cases hlt : i < l.length
  · have hw := wrapS hlt hl
    rw [drop_get hlt, List.any_cons] at h2
    simp [hlt]
    refine adraw_all (by kernel_rfl) ?_
    simp [hlt, x1, gx]
    refine call_p (p_gives f p (by have := hok.1; omega) l[i]) (by simp) ?_
    cases hm : givesF p l[i] with
    | true =>
      simp
      simpa [hm] using h2
    | false =>
      simp
      exact ⟨i + 1, less_envOf (by simp [hw]) rfl fun _ => rfl, ⟨by omega, by simpa [hm] using h2⟩, by omega⟩
  · rw [List.drop_eq_nil_of_le (by omega)] at h2
    simp [hlt]
    simpa using h2

theorem p_ahead (d f k : Bool) (c : List Pk) (like : List Int) (hl : like.length ≤ 4611686018427387904) (x y : Int) (hx : 0 ≤ x ∧ x.toNat < c.length) (hy : 0 ≤ y ∧ y.toNat < c.length) (hyx : y < x) :
    Pure Tryz.prog 157 [pksAV d f c, intsAV k like, .v (.int .i64 x), .v (.int .i64 y)] (.v (.bool (candB c like x y))) := by
  obtain ⟨x1, x2⟩ := hx
  obtain ⟨y1, y2⟩ := hy
  have gx := pkAt_get x2
  have gy := pkAt_get y2
  obtain ⟨R, hR⟩ : ∃ R, R = candB c like x y := ⟨_, rfl⟩
  have hRv : (R = true) ↔ (lkI like y < lkI like x ∨ (lkI like y = lkI like x ∧ 0 < cmpV (pkAt c x).v (pkAt c y).v)) := by
    rw [hR, candB, decide_eq_true_eq, candK_neg, cmpV_neg, cmpV_pos]
    omega
  rw [← hR]
  clear hR
  unfold lkI at hRv
  refine pure_of_code (G := (G0)) vers0 mixed0 Tryz.func157 rfl (by decide) (by simp [Tryz.f157]) (by simp) fun ver => ?_
  simp only [Tryz.f157, G0]
  simp
  refine call_p (p_has k like hl x) (by simp) ?_
  simp
  refine call_p (p_has k like hl y) (by simp) ?_
  cases e1 : memI x like with
  | true =>
    cases e2 : memI y like with
    | false =>
      have hRt : R = true := by rw [hRv, e1, e2]; simp
      subst hRt
      simp
      refine call_p (p_has k like hl x) (by simp) ?_
      simp [e1]
    | true =>
      rw [e1, e2] at hRv
      simp at hRv
      simp
      refine adraw_all (by kernel_rfl) ?_
      simp [x1, y1, gx, gy]
      obtain ⟨V, hV⟩ : ∃ V, V = cmpV (pkAt c x).v (pkAt c y).v := ⟨_, rfl⟩
      rw [← hV] at hRv
      have hxy : ¬ x < y := by omega
      refine call_p (r := .v (.int .i64 V)) (by rw [hV]; exact p_compareVersions _ _ _ _ _ _) (by simp) ?_
      by_cases hz : V = 0
      · have hRt : R = false := by
          cases hq : R with
          | false => rfl
          | true => rw [hRv] at hq; omega
        subst hRt
        simp [hz, hxy]
      · have hRt : R = decide (0 < V) := by
          by_cases hp : 0 < V
          · rw [hRv.2 hp]; simp [hp]
          · cases hq : R with
            | false => simp [hp]
            | true => exact absurd (hRv.1 hq) hp
        rw [hRt]
        simp [hz]
  | false =>
    cases e2 : memI y like with
    | true =>
      have hRt : R = false := by
        cases hq : R with
        | false => rfl
        | true => rw [hRv, e1, e2] at hq; simp at hq
      subst hRt
      simp
      refine call_p (p_has k like hl x) (by simp) ?_
      simp [e1]
    | false =>
      rw [e1, e2] at hRv
      simp at hRv
      simp
      refine adraw_all (by kernel_rfl) ?_
      simp [x1, y1, gx, gy]
      obtain ⟨V, hV⟩ : ∃ V, V = cmpV (pkAt c x).v (pkAt c y).v := ⟨_, rfl⟩
      rw [← hV] at hRv
      have hxy : ¬ x < y := by omega
      refine call_p (r := .v (.int .i64 V)) (by rw [hV]; exact p_compareVersions _ _ _ _ _ _) (by simp) ?_
      by_cases hz : V = 0
      · have hRt : R = false := by
          cases hq : R with
          | false => rfl
          | true => rw [hRv] at hq; omega
        subst hRt
        simp [hz, hxy]
      · have hRt : R = decide (0 < V) := by
          by_cases hp : 0 < V
          · rw [hRv.2 hp]; simp [hp]
          · cases hq : R with
            | false => simp [hp]
            | true => exact absurd (hRv.1 hq) hp
        rw [hRt]
        simp [hz]

end Go.Proofs.YtokhnmchnfkiiaaGreat.Am

/- Candidates: may a package be chosen beside the chosen ones, as the reference asks. No conditions. -/
namespace Go.Proofs.YtokhnmchnfkiiaaGreat.Am
open Go Go.RowKit Go.Proofs
set_option linter.unusedSimpArgs false
set_option linter.unusedVariables false

def shutB (c : List Pk) (x o : Int) : Bool := decide ((pkAt c o).n = (pkAt c x).n) || ((pkAt c o).ba.any (givesF (pkAt c x)) || (pkAt c x).ba.any (givesF (pkAt c o)))
theorem clash_shut (c : List Pk) (ch : List Int) (x : Int) : (ch.any fun o => clashB (pkAt c x) x o (pkAt c o)) = (memI x ch || ch.any (shutB c x)) := by
  induction ch with
  | nil => rfl
  | cons o ch ih =>
    rw [List.any_cons, ih, List.any_cons, memI]
    unfold clashB shutB
    by_cases h : o = x <;> cases memI x ch <;> simp [h]

set_option maxHeartbeats 4000000 in
theorem p_fits (d f k : Bool) (c : List Pk) (hc : CatOk c) (ch : List Int) (hch : Places c.length ch) (hchl : ch.length ≤ 4611686018427387904) (x : Int) (hx : 0 ≤ x ∧ x.toNat < c.length) :
    Pure Tryz.prog 156 [pksAV d f c, intsAV k ch, .v (.int .i64 x)] (.v (.bool (!ch.any (shutB c x)))) := by
  obtain ⟨x1, x2⟩ := hx
  have gx := pkAt_get x2
  have hokx := hc _ (pkAt_mem x2)
  refine pure_of_code (G := (G0)) vers0 mixed0 Tryz.func156 rfl (by decide) (by simp [Tryz.f156]) (by simp) fun ver => ?_
  simp only [Tryz.f156, G0]
  simp
  refine aloop (α := Nat) (fun i => ⟨envOf [(0, pksAV d f c), (1, intsAV k ch), (2, .v (.int .i64 x)), (7, .v (.int .i64 i))], ⟨[], noArrs ver⟩⟩)
    (fun i => i ≤ ch.length ∧ (ch.drop i).any (shutB c x) = ch.any (shutB c x)) (fun i => ch.length - i) 0 (less_envOf (by simp) rfl fun _ => rfl) (by simp) ?_
  rintro i ⟨h1, h2⟩
  by_cases hlt : i < ch.length
  · have hw := wrapS hlt hchl
    obtain ⟨o1, o2⟩ := hch _ (List.getElem_mem hlt)
    have go := pkAt_get o2
    have hoko := hc _ (pkAt_mem o2)
    have b1 := p_barsOne d f f c hc (pkAt c ch[i]).ba (by have := hoko.2.2.1; omega) x ⟨x1, x2⟩
    have b2 := p_barsOne d f f c hc (pkAt c x).ba (by have := hokx.2.2.1; omega) ch[i] ⟨o1, o2⟩
    rw [drop_get hlt, List.any_cons, shutB] at h2
    simp [hlt]
    refine adraw_all (by kernel_rfl) ?_
    simp [hlt, x1, gx, o1, go]
    by_cases e1 : (pkAt c ch[i]).n = (pkAt c x).n
    · simp [e1]
      simpa [e1] using h2
    simp [e1, hlt, o1, go]
    refine call_p b1 (by simp) ?_
    cases e2 : (pkAt c ch[i]).ba.any (givesF (pkAt c x)) with
    | true =>
      simp
      simpa [e1, e2] using h2
    | false =>
      simp [hlt, x1, gx]
      refine call_p b2 (by simp) ?_
      cases e3 : (pkAt c x).ba.any (givesF (pkAt c ch[i])) with
      | true =>
        simp
        simpa [e1, e2, e3] using h2
      | false =>
        simp
        exact ⟨i + 1, less_envOf (by simp [hw]) rfl fun _ => rfl, ⟨by omega, by simpa [e1, e2, e3] using h2⟩, by omega⟩
  · rw [List.drop_eq_nil_of_le (by omega)] at h2
    simp [hlt]
    simpa using h2

end Go.Proofs.YtokhnmchnfkiiaaGreat.Am

/- Candidates, as the reference finds them. No conditions. -/
namespace Go.Proofs.YtokhnmchnfkiiaaGreat.Am
open Go Go.RowKit Go.Proofs
set_option linter.unusedSimpArgs false
set_option linter.unusedVariables false

/-- The arrays, one put in its place. -/
def putA (A : Nat → ArrSt) (p v : Nat) (e : TypeId) (es : List (List AV)) : Nat → ArrSt := fun j => if j = p then ⟨v, true, e, es⟩ else A j
theorem putA_at (A : Nat → ArrSt) (p v : Nat) (e : TypeId) (es : List (List AV)) : putA A p v e es p = ⟨v, true, e, es⟩ := by simp [putA]
theorem putA_put (A : Nat → ArrSt) (p v v' : Nat) (e e' : TypeId) (es es' : List (List AV)) : (fun j => if j = p then (⟨v', true, e', es'⟩ : ArrSt) else putA A p v e es j) = putA A p v' e' es' := by
  funext j
  by_cases h : j = p <;> simp [putA, h]
theorem putA_putA (A : Nat → ArrSt) (p v v' : Nat) (e e' : TypeId) (es es' : List (List AV)) : putA (putA A p v e es) p v' e' es' = putA A p v' e' es' := putA_put A p v v' e e' es es'
theorem putA_mk (A : Nat → ArrSt) (p v : Nat) (e : TypeId) (es : List (List AV)) : (fun j => if j = p then (⟨v, true, e, es⟩ : ArrSt) else A j) = putA A p v e es := rfl
noncomputable def Go2 (a b : Nat) : Cfg := ⟨Tryz.prog, fun t => t == a || t == b, fun t => t == 64, fun _ => true, 0⟩
theorem verso2 (a b : Nat) : (Go2 a b).Vers := fun t h => vers0 t h
theorem insA_len (B : Int → Int → Bool) (out : List Int) (x : Int) : (insA B out x).length = out.length + 1 := by simpa using (insA_perm B out x).length_eq
theorem insA_mem (B : Int → Int → Bool) (out : List Int) (x y : Int) : y ∈ insA B out x ↔ y = x ∨ y ∈ out := by simpa using (insA_perm B out x).mem_iff (a := y)

theorem acode_cutX {G : Cfg} {nt : Nat} {c : Code} {K : Exit → St → Prop} {st : St} (id : Nat) (M : Mem) (Q : (Nat → AV) → Prop) (h : acode G nt c (fun e s => e = .exit id ∧ s.mem = M ∧ Q s.env) st) (hk : ∀ E, Q E → K (.exit id) ⟨E, M⟩) : acode G nt c K st :=
  acode_mono c (fun e s hs => by
    obtain ⟨rfl, hm, hq⟩ := hs
    cases s with
    | mk E m => cases hm; exact hk E hq) h

set_option maxHeartbeats 4000000 in
set_option maxRecDepth 10000 in
theorem p_l4cand (d f k1 k : Bool) (c : List Pk) (hc : CatOk c) (hcl : c.length ≤ 30) (cl : List Trm) (hl : cl.length ≤ 4611686018427387904) (ch dn like : List Int) (hch : Places c.length ch) (hchl : ch.length ≤ 4611686018427387904) (hdnl : dn.length ≤ 4611686018427387904) (hlkl : like.length ≤ 4611686018427387904) :
    Pure Tryz.prog 93 [pksAV d f c, trmsAV k1 cl, intsAV k ch, intsAV k dn, intsAV k like] (intsAV false (candF c cl ch dn like)) := by
  refine pure_of_code (G := (Go2 16 77)) (verso2 16 77) mixed0 Tryz.func93 rfl (by decide) (by simp [Tryz.f93]) (by simp) fun ver => ?_
  simp only [Tryz.f93, Go2]
  simp [Mem.made, sealRows]
  refine aloopS (α := Nat × List Int × (Nat → ArrSt)) (fun q => ⟨envOf [(0, pksAV d f c), (1, trmsAV k1 cl), (2, intsAV k ch), (3, intsAV k dn), (4, intsAV k like), (11, intsAV false q.2.1), (12, .v (.int .i64 q.1))], ⟨[], q.2.2⟩⟩)
    (fun q => q.1 ≤ c.length ∧ q.2.1 = ((allI q.1).filter (keepB c cl ch dn)).foldl (insA (candB c like)) [] ∧ (∀ y ∈ q.2.1, 0 ≤ y ∧ y < (q.1 : Int)) ∧ q.2.1.length ≤ q.1 ∧ ∀ j, (q.2.2 j).live = false) (fun q => c.length - q.1)
    (0, [], fun j => if j = 16 then ⟨ver 16 + 1, false, 2, []⟩ else noArrs ver j) (lessS_seal 11 (less_envOf (by simp [sealSlot, sealCells, putA]) (by simp [sealSlot, sealCells]) (by intro j; simp [sealSlot, sealCells]; by_cases h : j = 16 <;> simp [h]))) ⟨by simp, by simp [allI], by simp, by simp, by intro j; by_cases h : j = 16 <;> simp [h, noArrs]⟩ ?_
  rintro ⟨i, out, A⟩ ⟨h1, h2, h3, h4, h5⟩
  simp only at h1 h2 h3 h4 h5 ⊢
  by_cases hlt : i < c.length
  · have hw := wrapS hlt (by omega)
    have hpi : (0 : Int) ≤ (i : Int) ∧ ((i : Int)).toNat < c.length := by constructor <;> simp [hlt]
    have hg : pkAt c (i : Int) = c[i] := by simp [pkAt, hlt]
    have hok := hc _ (List.getElem_mem hlt)
    have hnx : ((allI (i + 1)).filter (keepB c cl ch dn)).foldl (insA (candB c like)) [] = if keepB c cl ch dn i = true then insA (candB c like) out i else out := by
      rw [allI_succ, List.filter_append, List.foldl_append, ← h2, List.filter_cons, List.filter_nil]
      split <;> simp
    have hkb : keepB c cl ch dn i = (!memI i dn && (cl.any (givesF c[i]) && !(memI i ch || ch.any (shutB c i)))) := by
      have := clash_shut c ch i
      rw [keepB, this, hg]
    have h3' : ∀ y ∈ out, 0 ≤ y ∧ y < ((i + 1 : Nat) : Int) := fun y hy => by have := h3 y hy; omega
    have hskip : keepB c cl ch dn i = false → ∃ d' : Nat × List Int × (Nat → ArrSt), d' = (i + 1, out, A) ∧ (d'.1 ≤ c.length ∧ d'.2.1 = ((allI d'.1).filter (keepB c cl ch dn)).foldl (insA (candB c like)) [] ∧ (∀ y ∈ d'.2.1, 0 ≤ y ∧ y < (d'.1 : Int)) ∧ d'.2.1.length ≤ d'.1 ∧ ∀ j, (d'.2.2 j).live = false) ∧ c.length - d'.1 < c.length - i := by
      intro hk
      refine ⟨_, rfl, ⟨by simp; omega, ?_, h3', by simp; omega, h5⟩, by simp; omega⟩
      simp only [hnx, hk]
      simp
    simp [hlt]
    refine aloop (α := Nat) (fun k' => ⟨envOf [(0, pksAV d f c), (1, trmsAV k1 cl), (2, intsAV k ch), (3, intsAV k dn), (4, intsAV k like), (11, intsAV false out), (12, .v (.int .i64 i)), (13, .v (.bool ((cl.take k').any (givesF c[i])))), (14, .v (.int .i64 k'))], ⟨[], A⟩⟩) (fun k' => k' ≤ cl.length) (fun k' => cl.length - k') 0 (less_envOf (by simp) rfl fun _ => rfl) (by simp) ?_
    intro k' hk'
    by_cases hkl : k' < cl.length
    · have hwk := wrapS hkl hl
      have ht : (cl.take (k' + 1)).any (givesF c[i]) = ((cl.take k').any (givesF c[i]) || givesF c[i] cl[k']) := by
        rw [List.take_succ_eq_append_getElem hkl, List.any_append]
        simp
      simp [hkl]
      refine adraw_all (by kernel_rfl) ?_
      cases hG : (cl.take k').any (givesF c[i]) with
      | true =>
        simp
        exact ⟨k' + 1, less_envOf (by simp [hwk, ht, hG]) rfl fun _ => rfl, by omega, by omega⟩
      | false =>
        simp [hkl, hlt]
        refine call_p (p_gives f c[i] (by have := hok.1; omega) cl[k']) (by simp) ?_
        simp
        exact ⟨k' + 1, less_envOf (by simp [hwk, ht, hG]) rfl fun _ => rfl, by omega, by omega⟩
    · rw [List.take_of_length_le (by omega)]
      cases e1 : cl.any (givesF c[i]) with
      | false =>
        rw [e1] at hkb
        simp at hkb
        obtain ⟨d', hd1, hd2, hd3⟩ := hskip hkb
        simp [hkl]
        refine ⟨d'.1, d'.2.1, d'.2.2, .inl (.inl (less_envOf (by subst hd1; simp [hw]) rfl fun _ => by subst hd1; rfl)), hd2, hd3⟩
      | true =>
      simp [hkl]
      refine call_p (p_has k ch hchl i) (by simp) ?_
      cases e2 : memI i ch with
      | true =>
        rw [e1, e2] at hkb
        simp at hkb
        obtain ⟨d', hd1, hd2, hd3⟩ := hskip hkb
        simp
        refine ⟨d'.1, d'.2.1, d'.2.2, .inl (.inl (less_envOf (by subst hd1; simp [hw]) rfl fun _ => by subst hd1; rfl)), hd2, hd3⟩
      | false =>
      simp
      refine call_p (p_has k dn hdnl i) (by simp) ?_
      cases e3 : memI i dn with
      | true =>
        rw [e3] at hkb
        simp at hkb
        obtain ⟨d', hd1, hd2, hd3⟩ := hskip hkb
        simp
        refine ⟨d'.1, d'.2.1, d'.2.2, .inl (.inl (less_envOf (by subst hd1; simp [hw]) rfl fun _ => by subst hd1; rfl)), hd2, hd3⟩
      | false =>
      simp
      refine call_p (p_fits d f k c hc ch hch hchl i hpi) (by simp) ?_
      cases e4 : ch.any (shutB c i) with
      | true =>
        rw [e4] at hkb
        simp at hkb
        obtain ⟨d', hd1, hd2, hd3⟩ := hskip hkb
        simp
        refine ⟨d'.1, d'.2.1, d'.2.2, .inl (.inl (less_envOf (by subst hd1; simp [hw]) rfl fun _ => by subst hd1; rfl)), hd2, hd3⟩
      | false =>
      rw [e1, e2, e3, e4] at hkb
      simp at hkb
      rw [hkb] at hnx
      simp at hnx
      simp
      obtain ⟨P, hP⟩ : ∃ P, P = posA (candB c like) i out out.length := ⟨_, rfl⟩
      have hPle : P ≤ out.length := by rw [hP]; exact posA_le _ _ _ _
      refine acode_cutX 4 ⟨[], A⟩ (fun E => E 0 = pksAV d f c ∧ E 1 = trmsAV k1 cl ∧ E 2 = intsAV k ch ∧ E 3 = intsAV k dn ∧ E 4 = intsAV k like ∧ E 11 = intsAV false out ∧ E 12 = .v (.int .i64 i) ∧ E 15 = .v (.int .i64 P)) ?_ ?_
      · refine aloop (α := Nat) (fun a => ⟨envOf [(0, pksAV d f c), (1, trmsAV k1 cl), (2, intsAV k ch), (3, intsAV k dn), (4, intsAV k like), (11, intsAV false out), (12, .v (.int .i64 i)), (15, .v (.int .i64 a))], ⟨[], A⟩⟩) (fun a => a ≤ out.length ∧ posA (candB c like) i out a = P) (fun a => a) out.length (less_envOf (by simp) rfl fun _ => rfl) ⟨Nat.le_refl _, hP.symm⟩ ?_
        rintro a ⟨ha, hpos⟩
        cases a with
        | zero =>
          have hP0 : P = 0 := by rw [← hpos]; rfl
          simp [hP0]
        | succ a =>
          have hal : a < out.length := by omega
          have hwa : IntKind.i64.wrap (((a + 1 : Nat) : Int) - 1) = (a : Int) := by rw [IntWalk.i64_in _ (by omega)]; omega
          have hwa2 : IntKind.i64.wrap ((a : Int) + 1 - 1) = (a : Int) := by rw [IntWalk.i64_in _ (by omega)]; omega
          have hwa3 : IntKind.i64.wrap (a : Int) = (a : Int) := IntWalk.i64_in _ (by omega)
          have ha0 : (0 : Int) < (a : Int) + 1 := by omega
          obtain ⟨y1, y2⟩ := h3 _ (List.getElem_mem hal)
          have hpy : 0 ≤ out[a] ∧ (out[a]).toNat < c.length := ⟨y1, by omega⟩
          unfold posA at hpos
          rw [at0_get hal] at hpos
          simp [hwa2, hwa3, hal, ha0]
          refine call_p (p_ahead d f k c like hlkl i out[a] hpi hpy y2) (by simp) ?_
          cases hB : candB c like i out[a] with
          | true =>
            rw [hB] at hpos
            simp at hpos
            simp [hwa2, hwa3]
            exact ⟨a, less_envOf (by simp) rfl fun _ => rfl, ⟨by omega, hpos⟩, by omega⟩
          | false =>
            rw [hB] at hpos
            simp at hpos
            simp [← hpos]
      · rintro E ⟨z0, z1, z2, z3, z4, z11, z12, z15⟩
        have x0 : List.idxOf 0 [0, 4, 7, 11] = 0 := by decide
        have x4 : List.idxOf 4 [0, 4, 7, 11] = 1 := by decide
        have x7 : List.idxOf 7 [0, 4, 7, 11] = 2 := by decide
        have x11 : List.idxOf 11 [0, 4, 7, 11] = 3 := by decide
        have hT : List.take P (out.map intCells) = (out.take P).map intCells := List.map_take.symm
        have hD : List.drop P (out.map intCells) = (out.drop P).map intCells := List.map_drop.symm
        have hTl : (out.take P).length = P := by rw [List.length_take]; omega
        have hDl : (out.drop P).length = out.length - P := List.length_drop
        have hins : insA (candB c like) out i = out.take P ++ (i : Int) :: out.drop P := by rw [insA, ← hP]
        obtain ⟨T, hTT⟩ : ∃ T, T = out.take P := ⟨_, rfl⟩
        obtain ⟨D, hDD⟩ : ∃ D, D = out.drop P := ⟨_, rfl⟩
        rw [← hTT] at hT hTl hins
        rw [← hDD] at hD hDl hins
        have hsum : T.length + 1 + D.length = out.length + 1 := by omega
        obtain ⟨v, hv⟩ : ∃ v, v = (A 77).ver := ⟨_, rfl⟩
        simp
        refine adraw_g [0, 1, 2, 3, 4, 5, 6, 7, 8, 9, 10, 11, 12] [0, 4, 7, 11] [⟨[], A⟩, ⟨[], putA A 77 (v + 1) 2 []⟩, ⟨[], putA A 77 (v + 1 + 1) 2 (T.map intCells)⟩, ⟨[], putA A 77 (v + 1 + 1 + 1) 2 ((T ++ [(i : Int)]).map intCells)⟩, ⟨[], putA A 77 (v + 1 + 1 + 1 + 1) 2 ((T ++ (i : Int) :: D).map intCells)⟩]
          [.arr 77 (v + 1) 0 0, intsAV false out, .v (.int .i64 P), intsAV false T, .arr 77 (v + 1 + 1) 0 T.length, .v (.int .i64 i), .sl false [[.v (.int .i64 i)]], .arr 77 (v + 1 + 1 + 1) 0 (T.length + 1), intsAV false out, .v (.int .i64 P), intsAV false D, .arr 77 (v + 1 + 1 + 1 + 1) 0 (out.length + 1), .arr 77 (v + 1 + 1 + 1 + 1) 0 (out.length + 1)] (by decide +kernel) rfl rfl ?_
        have hro : (T.length + 1 + D.length) * 8 ≤ 140737488355328 := by omega
        have hro1 : (T.length + 1) * 8 ≤ 140737488355328 := by omega
        have hro2 : T.length * 8 ≤ 140737488355328 := by omega
        have hro3 : (out.length + 1) * 8 ≤ 140737488355328 := by omega
        have hD2 : List.take (out.length - P) (D.map intCells) = D.map intCells := List.take_of_length_le (by rw [List.length_map]; omega)
        have hall : List.take (out.length + 1) (T.map intCells ++ [AV.v (.int .i64 i)] :: D.map intCells) = T.map intCells ++ [AV.v (.int .i64 i)] :: D.map intCells := List.take_of_length_le (by simp; omega)
        simp [tellG_cons, tellG_nil, onTell, yieldsTo, z0, z1, z2, z3, z4, z11, z12, z15, x0, x4, x7, x11, hPle, Mem.made, sealRows, sealCells, aappend, putA_at, putA_putA, putA_mk, hT, hD, hD2, ← hv, hro, hro1, hro2, hro3, hsum]
        refine ⟨i + 1, insA (candB c like) out i, fun j => if j = 77 then ⟨v + 1 + 1 + 1 + 1, false, 2, (T ++ (i : Int) :: D).map intCells⟩ else A j, lessS_seal 11 (less_envOf (by simp [sealSlot, sealCells, putA_at, hw, hins, hall, z0, z1, z2, z3, z4, z12]) (by simp [sealSlot, sealCells, putA_at]) ?_), ⟨by omega, hnx.symm, ?_, ?_, ?_⟩, by omega⟩
        · intro j
          by_cases hj : j = 77 <;> simp [sealSlot, sealCells, putA, hj]
        · intro y hy
          rcases (insA_mem _ _ _ _).1 hy with rfl | hy
          · constructor <;> omega
          · exact h3' y hy
        · have := insA_len (candB c like) out i
          omega
        · intro j
          by_cases hj : j = 77 <;> simp [hj, h5]
  · have hi : i = c.length := by omega
    subst hi
    have he : out = candF c cl ch dn like := h2
    simp [he]

end Go.Proofs.YtokhnmchnfkiiaaGreat.Am

/- CandidatesOf, by both sides. No conditions. -/
namespace Go.Proofs.YtokhnmchnfkiiaaGreat.Am
open Go Go.RowKit Go.Proofs
set_option linter.unusedSimpArgs false
set_option linter.unusedVariables false

def plB (c : List Pk) (s : List Int) : Bool := s.any fun n => !inF n 0 (c.length - 1)
noncomputable def cdC (c : List Pk) (cl : List Trm) (ch dn like : List Int) : Int := if catF c ≠ 0 then catF c else if trmsF cl ≠ 0 then trmsF cl else if plB c ch = false ∧ plB c dn = false ∧ plB c like = false then 0 else 1
noncomputable def cdR (c : List Pk) (cl : List Trm) (ch dn like : List Int) : List Int := if cdC c cl ch dn like = 0 then candF c cl ch dn like else []
theorem cd_ok {c : List Pk} {cl : List Trm} {ch dn like : List Int} (h : cdC c cl ch dn like = 0) : catF c = 0 ∧ trmsF cl = 0 ∧ plB c ch = false ∧ plB c dn = false ∧ plB c like = false := by
  unfold cdC at h
  split at h
  · rename_i h1; exact (h1 h).elim
  split at h
  · rename_i h1; exact (h1 h).elim
  split at h
  · rename_i h1 h2 h3
    exact ⟨by simpa using h1, by simpa using h2, h3.1, h3.2.1, h3.2.2⟩
  · cases h

set_option maxHeartbeats 4000000 in
theorem p_candidatesOf (c : List Pk) (hc : c.length ≤ 4611686018427387904) (hlen : ∀ p ∈ c, p.Len) (cl : List Trm) (hl : cl.length ≤ 4611686018427387904) (ch dn like : List Int) (hch : ch.length ≤ 4611686018427387904) (hdn : dn.length ≤ 4611686018427387904) (hlk : like.length ≤ 4611686018427387904) :
    Pure Tryz.prog 35 [pksAV false false c, trmsAV false cl, intsAV false ch, intsAV false dn, intsAV false like] (setRes (cdC c cl ch dn like) (intsAV false (cdR c cl ch dn like))) := by
  simp only [setRes]
  obtain ⟨Q, hQ⟩ : ∃ Q, Q = cdC c cl ch dn like := ⟨_, rfl⟩
  obtain ⟨R, hR⟩ : ∃ R, R = cdR c cl ch dn like := ⟨_, rfl⟩
  rw [← hQ, ← hR]
  refine pure_of_code (G := (G0)) vers0 mixed0 Tryz.func35 rfl (by decide) (by simp [Tryz.f35]) (by simp) fun ver => ?_
  simp only [Tryz.f35, G0]
  simp
  refine call_p (p_cat false false c hc hlen) (by simp) ?_
  by_cases h1 : catF c = 0
  · simp [h1]
    refine call_p (p_trms false cl hl) (by simp) ?_
    by_cases h2 : trmsF cl = 0
    · simp [h2]
      refine call_p (p_places false false false c hc ch hch) (by simp) ?_
      cases h3 : (ch.any fun n => !inF n 0 (c.length - 1)) with
      | true =>
        have e1 : Q = 1 := by rw [hQ]; simp [cdC, h1, h2, plB, h3]
        have e2 : R = [] := by rw [hR, cdR, ← hQ, e1]; rfl
        simp [e1, e2]
      | false =>
        simp
        refine call_p (p_places false false false c hc dn hdn) (by simp) ?_
        cases h4 : (dn.any fun n => !inF n 0 (c.length - 1)) with
        | true =>
          have e1 : Q = 1 := by rw [hQ]; simp [cdC, h1, h2, plB, h3, h4]
          have e2 : R = [] := by rw [hR, cdR, ← hQ, e1]; rfl
          simp [e1, e2]
        | false =>
          simp
          refine call_p (p_places false false false c hc like hlk) (by simp) ?_
          cases h5 : (like.any fun n => !inF n 0 (c.length - 1)) with
          | true =>
            have e1 : Q = 1 := by rw [hQ]; simp [cdC, h1, h2, plB, h3, h4, h5]
            have e2 : R = [] := by rw [hR, cdR, ← hQ, e1]; rfl
            simp [e1, e2]
          | false =>
            have hb : CatOk c := fun p hp => packF_ok ((catF_ok h1).2 p hp)
            have e1 : cdC c cl ch dn like = 0 := by simp [cdC, h1, h2, plB, h3, h4, h5]
            have e2 : R = candF c cl ch dn like := by rw [hR, cdR, if_pos e1]
            have hcl := (catF_ok h1).1
            rw [e1] at hQ
            simp
            refine call_p (p_l4cand false false false false c hb (by omega) cl hl ch dn like (places_of h3) hch hdn hlk) (by simp) ?_
            simp [hQ, e2]
    · have e1 : Q = trmsF cl := by rw [hQ]; simp [cdC, h1, h2]
      have e2 : R = [] := by rw [hR, cdR, ← hQ, e1, if_neg h2]
      simp [h2, e1, e2]
  · have e1 : Q = catF c := by rw [hQ]; simp [cdC, h1]
    have e2 : R = [] := by rw [hR, cdR, ← hQ, e1, if_neg h1]
    simp [h1, e1, e2]

set_option maxHeartbeats 4000000 in
theorem q_candidatesOfA (c : List Pk) (hc : c.length ≤ 4611686018427387904) (hlen : ∀ p ∈ c, p.Len) (cl : List Trm) (hl : cl.length ≤ 4611686018427387904) (ch dn like : List Int) (hch : ch.length ≤ 4611686018427387904) (hdn : dn.length ≤ 4611686018427387904) (hlk : like.length ≤ 4611686018427387904) (h : cdC c cl ch dn like ≠ 0) :
    Pure Tryz.prog 36 [pksAV false false c, trmsAV false cl, intsAV false ch, intsAV false dn, intsAV false like] (setRes (cdC c cl ch dn like) (.sl false [])) := by
  simp only [setRes]
  obtain ⟨Q, hQ⟩ : ∃ Q, Q = cdC c cl ch dn like := ⟨_, rfl⟩
  rw [← hQ] at h ⊢
  refine pure_of_code (G := (G0)) vers0 mixed0 Tryz.func36 rfl (by decide) (by simp [Tryz.f36]) (by simp) fun ver => ?_
  simp only [Tryz.f36, G0]
  simp
  refine call_p (q_cat false false c hc hlen) (by simp) ?_
  simp
  refine call_p (q_trms false cl hl) (by simp) ?_
  simp [sealRows, sealCells, List.range_succ]
  refine call_p (q_first false [catF c, trmsF cl] (by simp)) (by simp) ?_
  rw [orF_two]
  by_cases h1 : catF c = 0
  · by_cases h2 : trmsF cl = 0
    · simp [h1, h2]
      refine call_p (q_places false false false c hc ch hch) (by simp) ?_
      cases h3 : (ch.any fun n => !inF n 0 (c.length - 1)) with
      | true =>
        have e1 : Q = 1 := by rw [hQ]; simp [cdC, h1, h2, plB, h3]
        simp [e1]
      | false =>
        simp
        refine call_p (q_places false false false c hc dn hdn) (by simp) ?_
        cases h4 : (dn.any fun n => !inF n 0 (c.length - 1)) with
        | true =>
          have e1 : Q = 1 := by rw [hQ]; simp [cdC, h1, h2, plB, h3, h4]
          simp [e1]
        | false =>
          simp
          refine call_p (q_places false false false c hc like hlk) (by simp) ?_
          cases h5 : (like.any fun n => !inF n 0 (c.length - 1)) with
          | true =>
            have e1 : Q = 1 := by rw [hQ]; simp [cdC, h1, h2, plB, h3, h4, h5]
            simp [e1]
          | false => exact absurd (by rw [hQ]; simp [cdC, h1, h2, plB, h3, h4, h5]) h
    · have e1 : Q = trmsF cl := by rw [hQ]; simp [cdC, h1, h2]
      simp [h1, h2, e1]
  · have e1 : Q = catF c := by rw [hQ]; simp [cdC, h1]
    simp [h1, e1]

set_option maxHeartbeats 4000000 in
theorem q_candidatesOfB (c : List Pk) (hc : c.length ≤ 4611686018427387904) (hlen : ∀ p ∈ c, p.Len) (cl : List Trm) (hl : cl.length ≤ 4611686018427387904) (ch dn like : List Int) (hch : ch.length ≤ 4611686018427387904) (hdn : dn.length ≤ 4611686018427387904) (hlk : like.length ≤ 4611686018427387904) (h : cdC c cl ch dn like = 0) :
    OCall Tryz.prog 36 none [pksAV false false c, trmsAV false cl, intsAV false ch, intsAV false dn, intsAV false like] (some (false, 2, (candF c cl ch dn like).map intCells)) (setRes 0 (.arr 0 0 0 (candF c cl ch dn like).length)) := by
  simp only [setRes]
  obtain ⟨h1, h2, h3, h4, h5⟩ := cd_ok h
  unfold plB at h3 h4 h5
  have hb : CatOk c := fun p hp => packF_ok ((catF_ok h1).2 p hp)
  have hcl := (catF_ok h1).1
  have hq := q_candO false false false false false c hb (by omega) cl hl ch dn like (places_of h3) hch hdn hlk
  obtain ⟨R, hR⟩ : ∃ R, R = candF c cl ch dn like := ⟨_, rfl⟩
  rw [← hR] at hq ⊢
  refine own_of_code (G := Go1 47) (verso 47) mixed0 Tryz.func36 rfl (by decide) (by simp [Tryz.f36]) 47 (by simp) (by intro s e es h; cases h; exact fr_int _) ?_
  simp only [Tryz.f36, Go1, inArrs]
  simp
  refine call_p (q_cat false false c hc hlen) (by simp) ?_
  simp
  refine call_p (q_trms false cl hl) (by simp) ?_
  simp [sealRows, sealCells, List.range_succ]
  refine call_p (q_first false [catF c, trmsF cl] (by simp)) (by simp) ?_
  rw [orF_two]
  simp [h1, h2]
  refine call_p (q_places false false false c hc ch hch) (by simp) ?_
  rw [h3]
  simp
  refine call_p (q_places false false false c hc dn hdn) (by simp) ?_
  rw [h4]
  simp
  refine call_p (q_places false false false c hc like hlk) (by simp) ?_
  rw [h5]
  simp
  refine call_n 47 hq (by simp) ?_
  simp

end Go.Proofs.YtokhnmchnfkiiaaGreat.Am
