import Derived.Test.YtokhnmchnfkiiaaAmCg7
import Derived.Test.YtokhnmchnfkiiaaAmCg6
import Derived.Test.YtokhnmchnfkiiaaAmW
/- What is unmet, as the program hands it out; how the laws' helpers meet it. No conditions. -/
namespace Go.Proofs.Ytokhnmchnfkiiaa.Am
open Go Go.RowKit Go.Proofs
set_option linter.unusedSimpArgs false
set_option linter.unusedVariables false

theorem unmF_of {c : List Pk} {l : List Trm} {s : List Int} (h : unmF c l s ≠ []) : catF c = 0 ∧ trmsF l = 0 ∧ (s.any fun n => !inF n 0 (c.length - 1)) = false ∧ unmF c l s = unmL c l s := by
  by_cases h1 : catF c = 0
  · by_cases h2 : trmsF l = 0
    · by_cases h3 : (s.any fun n => !inF n 0 (c.length - 1)) = false
      · exact ⟨h1, h2, h3, by rw [unmF, if_pos h1, if_pos h2, if_pos h3]⟩
      · exact absurd (by rw [unmF, if_pos h1, if_pos h2, if_neg h3]) h
    · exact absurd (by rw [unmF, if_pos h1, if_neg h2]) h
  · exact absurd (by rw [unmF, if_neg h1]) h

set_option maxRecDepth 10000 in
theorem q_unmetOfA (c : List Pk) (hc : c.length ≤ 4611686018427387904) (hlen : ∀ p ∈ c, p.Len) (l : List Trm) (hl : l.length ≤ 1048576) (s : List Int) (hs : s.length ≤ 1048576) (h : unmF c l s = []) : Pure Try.prog 29 [pksAV false false c, trmsAV false l, intsAV false s] (.sl false []) := by
  refine pure_of_code (G := (G0)) vers0 mixed0 Try.func29 rfl (by decide) (by simp [Try.f29]) (by simp) fun ver => ?_
  simp only [Try.f29, G0]
  simp
  refine call_p (q_cat false false c hc hlen) (by simp) ?_
  by_cases h1 : catF c = 0
  · simp [h1]
    refine call_p (q_trms false l (by omega)) (by simp) ?_
    by_cases h2 : trmsF l = 0
    · simp [h2]
      refine call_p (q_places false false false c hc s (by omega)) (by simp) ?_
      cases h3 : (s.any fun n => !inF n 0 (c.length - 1)) with
      | true => simp
      | false =>
        have hb : CatOk c := fun p hp => packF_ok ((catF_ok h1).2 p hp)
        have hp := places_of h3
        rw [unmF, if_pos h1, if_pos h2, if_pos h3] at h
        have hq := q_unmet (k := false) c hb l hl s hs hp
        rw [h] at hq
        simp
        refine call_p hq (by simp) ?_
        simp
        refine call_p (p_cloneT0 false) (by simp) ?_
        simp
    · simp [h2]
  · simp [h1]

set_option maxRecDepth 10000 in
theorem q_unmetOfB (c : List Pk) (hc : c.length ≤ 4611686018427387904) (hlen : ∀ p ∈ c, p.Len) (l : List Trm) (hl : l.length ≤ 1048576) (s : List Int) (hs : s.length ≤ 1048576) (h : unmF c l s ≠ []) :
    OCall Try.prog 29 none [pksAV false false c, trmsAV false l, intsAV false s] (some (false, 28, (unmF c l s).map Trm.cells)) (.arr 0 0 0 (unmF c l s).length) := by
  obtain ⟨h1, h2, h3, h4⟩ := unmF_of h
  have hb : CatOk c := fun p hp => packF_ok ((catF_ok h1).2 p hp)
  have hp := places_of h3
  have h5 := unmL_len (l := l) hb hp
  have hq := q_unmet (k := false) c hb l hl s hs hp
  rw [h4] at h ⊢
  cases hU : unmL c l s with
  | nil => exact absurd hU h
  | cons t U =>
    rw [hU] at h5 hq
    have hcl := c_cloneT false t U (by omega)
    refine own_of_code (G := Go1 32) (verso 32) mixed0 Try.func29 rfl (by decide) (by simp [Try.f29]) 32 .dead (by intro s e es h; cases h; exact fr_trm (t :: U)) ?_
    simp only [Try.f29, Go1, inArrs]
    simp
    refine call_p (q_cat false false c hc hlen) (by simp) ?_
    simp [h1]
    refine call_p (q_trms false l (by omega)) (by simp) ?_
    simp [h2]
    refine call_p (q_places false false false c hc s (by omega)) (by simp) ?_
    rw [h3]
    simp
    refine call_p hq (by simp) ?_
    simp
    refine call_n 32 hcl (by simp) ?_
    simp

end Go.Proofs.Ytokhnmchnfkiiaa.Am

/- A region after which all is old, with slots that are said anew. No conditions. -/
namespace Go.Proofs.Ytokhnmchnfkiiaa.Am
open Go Go.RowKit Go.Proofs
set_option linter.unusedSimpArgs false
set_option linter.unusedVariables false

theorem olds_stay (n : Nat) (env : Nat → AV) (hs : ∀ t ∈ List.range n, Olds (env t) (env t)) (t : Nat) : Olds (env t) (envStay n env t) := by
  simp only [envStay]
  by_cases ht : t < n
  · rw [decide_eq_true ht]
    exact hs t (List.mem_range.2 ht)
  · rw [decide_eq_false ht]
    have flat : ∀ a : AV, a.flat = true → Olds a a := fun a h => by
      cases a <;> first | exact .v _ | exact .nil | exact .arr _ _ _ _ | exact .box _ _ | cases h
    cases hq : env t with
    | agg cs =>
      simp only [stayA]
      split
      · rename_i hall
        refine .agg cs cs rfl fun j c c' h1 h2 => ?_
        rw [h1] at h2
        cases h2
        exact flat c (List.all_eq_true.1 hall c (List.mem_of_getElem? h1))
      · exact .dead _
    | v x => exact .v x
    | nil => exact .nil
    | arr i n o l => exact .arr i n o l
    | box k o => exact .box k o
    | _ => exact .dead _
def OldsK (e : Nat → AV) : List (Nat × AV) → Prop
  | [] => True
  | (d, x) :: l => Olds (e d) x ∧ OldsK e l
theorem OldsK_cons (e : Nat → AV) (d : Nat) (x : AV) (l : List (Nat × AV)) : OldsK e ((d, x) :: l) = (Olds (e d) x ∧ OldsK e l) := rfl
theorem OldsK_nil (e : Nat → AV) : OldsK e [] = True := rfl
theorem olds_or {n : Nat} {env : Nat → AV} (hs : ∀ t ∈ List.range n, Olds (env t) (env t)) : ∀ (keep : List (Nat × AV)), OldsK env keep → ∀ t, Olds (env t) (envOr keep (envStay n env) t)
  | [], _, t => olds_stay n env hs t
  | (d, x) :: l, hk, t => by
    simp only [envOr]
    split
    · rename_i e
      subst e
      exact hk.1
    · exact olds_or hs l hk.2 t
section
variable {nt : Nat} {st : St}
theorem reg_ok {P : Program} {own : Nat → Bool} {verT : TypeId → Bool} {wr : Nat → Bool} {l : List Oper} {L : St → Prop} (n : Nat) (keep : List (Nat × AV)) (bs bs' : List (List AV)) (e1 : st.mem.boxes = bs) (hlive : ∀ i, (st.mem.arrs i).live = false) (hs : ∀ t ∈ List.range n, Olds (st.env t) (st.env t))
    (hk : OldsK st.env keep) (hb : OldsB bs bs') (h : aops ⟨P, own, verT, wr, 1⟩ nt l.toArray l L ⟨envOr keep (envStay n st.env), ⟨bs', st.mem.arrs⟩⟩) :
    onRegion ⟨P, own, verT, wr, 1⟩ nt l L st := by
  subst e1
  exact ⟨⟨⟨envOr keep (envStay n st.env), ⟨bs', st.mem.arrs⟩⟩, .inr ⟨olds_or hs keep hk, hlive, rfl, hb.get.1, hb.get.2⟩, .inl h⟩⟩
end

/-! ### Marks, with slots that are kept; cuts between regions -/

theorem stay_stay (n : Nat) (e : Nat → AV) (hs : ∀ t ∈ List.range n, (e t).Stay) (t : Nat) : envStay n e t = .dead ∨ (envStay n e t = e t ∧ (e t).Stay) := by
  simp only [envStay]
  by_cases ht : t < n
  · rw [decide_eq_true ht]
    exact .inr ⟨rfl, hs t (List.mem_range.2 ht)⟩
  · rw [decide_eq_false ht]
    cases hq : e t with
    | agg cs =>
      simp only [stayA]
      split
      · rename_i hall
        exact .inr ⟨rfl, .agg cs fun c hc => stay_flat (List.all_eq_true.1 hall c hc)⟩
      · exact .inl rfl
    | v x => exact .inr ⟨rfl, .v x⟩
    | nil => exact .inr ⟨rfl, .nil⟩
    | arr i n o l => exact .inr ⟨rfl, .arr i n o l⟩
    | box k o => exact .inr ⟨rfl, .box k o⟩
    | _ => exact .inl rfl
/-- Slots that are said anew at a mark: seen as wild, or kept as they are. -/
def WKeep (e : Nat → AV) : List (Nat × AV) → Prop
  | [] => True
  | (d, x) :: l => ((WArg (e d) x ∧ ∀ cs, x ≠ .agg cs) ∨ (x = e d ∧ (e d).Stay)) ∧ WKeep e l
theorem WKeep_nil (e : Nat → AV) : WKeep e [] = True := rfl
theorem WKeep_cons (e : Nat → AV) (d : Nat) (x : AV) (l : List (Nat × AV)) : WKeep e ((d, x) :: l) = (((WArg (e d) x ∧ ∀ cs, x ≠ .agg cs) ∨ (x = e d ∧ (e d).Stay)) ∧ WKeep e l) := rfl
/-- Boxes behind a mark: cells that stay, cells that are forgotten. -/
def StayR : List AV → List AV → Prop
  | [], [] => True
  | c :: cs, d :: ds => (d = .dead ∨ (d = c ∧ c.Stay)) ∧ StayR cs ds
  | _, _ => False
def StayB : List (List AV) → List (List AV) → Prop
  | [], [] => True
  | c :: cs, d :: ds => StayR c d ∧ StayB cs ds
  | _, _ => False
theorem StayR.get : ∀ {cs ds : List AV}, StayR cs ds → ds.length = cs.length ∧ ∀ (j : Nat) (c c' : AV), cs[j]? = some c → ds[j]? = some c' → c' = .dead ∨ (c' = c ∧ c.Stay)
  | [], [], _ => ⟨rfl, fun j c c' h => by simp at h⟩
  | c :: cs, d :: ds, h => by
    obtain ⟨h1, h2⟩ := StayR.get h.2
    refine ⟨by simp [h1], ?_⟩
    intro j a b ha hb
    cases j with
    | zero => simp at ha hb; subst ha hb; exact h.1
    | succ j => exact h2 j a b (by simpa using ha) (by simpa using hb)
  | [], _ :: _, h => h.elim
  | _ :: _, [], h => h.elim
theorem StayB.get : ∀ {B D : List (List AV)}, StayB B D → BoxStay B D
  | [], [], _ => ⟨rfl, fun k cs cs' h => by simp at h⟩
  | c :: cs, d :: ds, h => by
    obtain ⟨h1, h2⟩ := StayB.get h.2
    refine ⟨by simp [h1], ?_⟩
    intro k a b ha hb
    cases k with
    | zero => simp at ha hb; subst ha hb; exact StayR.get h.1
    | succ k => exact h2 k a b (by simpa using ha) (by simpa using hb)
  | [], _ :: _, h => h.elim
  | _ :: _, [], h => h.elim
theorem StayR.of : ∀ {cs : List AV}, (∀ c ∈ cs, c.Stay) → StayR cs cs
  | [], _ => trivial
  | c :: cs, h => ⟨.inr ⟨rfl, h c (by simp)⟩, StayR.of fun x hx => h x (by simp [hx])⟩
theorem StayB.of : ∀ {B : List (List AV)}, (∀ cs ∈ B, ∀ c ∈ cs, c.Stay) → StayB B B
  | [], _ => trivial
  | c :: cs, h => ⟨StayR.of fun x hx => h c (by simp) x hx, StayB.of fun x hx => h x (by simp [hx])⟩
section
variable {nt : Nat} {st : St} {dst : Option Tmp}
theorem mark_b {P : Program} {own : Nat → Bool} {verT : TypeId → Bool} {wr : Nat → Bool} {ops : Array Oper} {f : FuncId} {xs : List AV} {rest : List Oper} {L : St → Prop} {las : List AV} {x : Value} (n : Nat) (keep : List (Nat × AV)) (bs bs' : List (List AV)) (e1 : st.mem.boxes = bs) (hp : MCall P f las x)
    (hw : WArgL xs las) (hd : dstOK nt dst = true) (hb0 : StayB bs bs') (ha : ∀ i, (st.mem.arrs i).live = true → ∀ r ∈ (st.mem.arrs i).es, ∀ c ∈ r, c.Stay)
    (hs : ∀ t ∈ List.range n, (st.env t).Stay) (hk : WKeep st.env keep) (h : aops ⟨P, own, verT, wr, 1⟩ nt ops rest L (St.put ⟨envOr keep (envStay n st.env), ⟨bs', st.mem.arrs⟩⟩ dst (.v x))) :
    onMark ⟨P, own, verT, wr, 1⟩ nt ops dst f xs rest L st := by
  have hb : BoxStay st.mem.boxes bs' := by rw [e1]; exact hb0.get
  refine ⟨hd, envOr keep (envStay n st.env), bs', x, ⟨rfl, ⟨las, hp, hw.get.1, hw.get.2⟩, hb, ha, ?_⟩, h⟩
  have go : ∀ (keep : List (Nat × AV)), WKeep st.env keep → ∀ t, envOr keep (envStay n st.env) t = .dead ∨ (envOr keep (envStay n st.env) t = st.env t ∧ (st.env t).Stay) ∨ (WArg (st.env t) (envOr keep (envStay n st.env) t) ∧ ∀ cs, envOr keep (envStay n st.env) t ≠ .agg cs) := by
    intro keep
    induction keep with
    | nil => intro _ t; exact (stay_stay n st.env hs t).imp id .inl
    | cons p l ih =>
      intro hk t
      obtain ⟨d, y⟩ := p
      simp only [envOr]
      split
      · rename_i e
        subst e
        rcases hk.1 with h | ⟨rfl, h⟩
        · exact .inr (.inr h)
        · exact .inr (.inl ⟨rfl, h⟩)
      · exact ih hk.2 t
  exact go keep hk
theorem mark_w {P : Program} {own : Nat → Bool} {verT : TypeId → Bool} {wr : Nat → Bool} {ops : Array Oper} {f : FuncId} {xs : List AV} {rest : List Oper} {L : St → Prop} {las : List AV} {x : Value} (n : Nat) (keep : List (Nat × AV)) (hp : MCall P f las x)
    (hw : WArgL xs las) (hd : dstOK nt dst = true) (hb : ∀ cs ∈ st.mem.boxes, ∀ c ∈ cs, c.Stay) (ha : ∀ i, (st.mem.arrs i).live = true → ∀ r ∈ (st.mem.arrs i).es, ∀ c ∈ r, c.Stay)
    (hs : ∀ t ∈ List.range n, (st.env t).Stay) (hk : WKeep st.env keep) (h : aops ⟨P, own, verT, wr, 1⟩ nt ops rest L (St.put ⟨envOr keep (envStay n st.env), st.mem⟩ dst (.v x))) :
    onMark ⟨P, own, verT, wr, 1⟩ nt ops dst f xs rest L st :=
  mark_b n keep _ _ rfl hp hw hd (StayB.of hb) ha hs hk h
end
theorem onRegion_mono {G : Cfg} {nt : Nat} {l : List Oper} {K L : St → Prop} {st : St} (hk : ∀ s, K s → L s) (h : onRegion G nt l K st) : onRegion G nt l L st := ⟨aregion_mono hk h.out⟩
/-- Behind a region only some facts about the slots are kept. -/
theorem reg_cut {G : Cfg} {nt : Nat} {l : List Oper} {L : St → Prop} {st : St} (M : Mem) (Q : (Nat → AV) → Prop) (h : onRegion G nt l (fun s => s.mem = M ∧ Q s.env) st) (hk : ∀ E, Q E → L ⟨E, M⟩) : onRegion G nt l L st :=
  onRegion_mono (fun s hs => by
    obtain ⟨e, q⟩ := hs
    cases s
    cases e
    exact hk _ q) h

end Go.Proofs.Ytokhnmchnfkiiaa.Am

/- Texts in order: put into a rising list, sorted, one of each. No conditions. -/
namespace Go.Proofs.Ytokhnmchnfkiiaa.Am
open Go Go.RowKit Go.Proofs
set_option linter.unusedSimpArgs false
set_option linter.unusedVariables false

/-! ### Texts in order -/
theorem bytesLess_lt : ∀ (x y : List UInt8), Op.bytesLess x y = decide (x < y)
  | [], [] => by simp [Op.bytesLess]
  | _ :: _, [] => by simp [Op.bytesLess]
  | [], _ :: _ => by simp [Op.bytesLess]
  | a :: x, b :: y => by
    rw [Op.bytesLess, bytesLess_lt x y]
    simp only [List.cons_lt_cons_iff]
    by_cases h1 : a < b <;> by_cases h2 : a = b <;> by_cases h3 : x < y <;> simp [h1, h2, h3]
def sLt (a b : ByteArray) : Bool := Op.bytesLess a.data.toList b.data.toList
theorem sLt_eq (a b : ByteArray) : sLt a b = decide (a.data.toList < b.data.toList) := bytesLess_lt _ _
theorem bin_inj {a b : ByteArray} (h : a.data.toList = b.data.toList) : a = b := by
  cases a; cases b; simp at h; simp [h]
theorem sLt_irrefl (a : ByteArray) : sLt a a = false := by rw [sLt_eq]; simp
theorem sLt_trans {a b c : ByteArray} (h : sLt a b = true) (k : sLt b c = true) : sLt a c = true := by
  rw [sLt_eq, decide_eq_true_eq] at *
  exact List.lt_trans h k
theorem sLt_tri {a b : ByteArray} (h : a ≠ b) (k : sLt a b = false) : sLt b a = true := by
  rw [sLt_eq] at *
  simp only [decide_eq_false_iff_not, decide_eq_true_eq, List.not_lt] at *
  rcases List.le_iff_lt_or_eq.1 k with h1 | h1
  · exact h1
  · exact (h (bin_inj h1.symm)).elim
theorem sLt_asymm {a b : ByteArray} (h : sLt a b = true) : sLt b a = false := by
  cases k : sLt b a with
  | false => rfl
  | true => have := sLt_trans h k; rw [sLt_irrefl] at this; cases this

/-- Rising, each once. -/
@[reducible] def Rise (l : List ByteArray) : Prop := l.Pairwise fun a b => sLt a b = true
theorem rise_uniq : ∀ {l m : List ByteArray}, Rise l → Rise m → (∀ x, x ∈ l ↔ x ∈ m) → l = m
  | [], [], _, _, _ => rfl
  | [], b :: m, _, _, h => by have := (h b).2 (by simp); cases this
  | a :: l, [], _, _, h => by have := (h a).1 (by simp); cases this
  | a :: l, b :: m, hl, hm, h => by
    have hl' := List.pairwise_cons.1 hl
    have hm' := List.pairwise_cons.1 hm
    have e : a = b := by
      rcases List.mem_cons.1 ((h a).1 (by simp)) with h1 | h1
      · exact h1
      · rcases List.mem_cons.1 ((h b).2 (by simp)) with h2 | h2
        · exact h2.symm
        · have := sLt_asymm (hm'.1 a h1)
          rw [hl'.1 b h2] at this
          cases this
    subst e
    rw [rise_uniq hl'.2 hm'.2 fun x => ?_]
    constructor
    · intro hx
      rcases List.mem_cons.1 ((h x).1 (List.mem_cons_of_mem _ hx)) with h1 | h1
      · subst h1
        have := hl'.1 x hx
        rw [sLt_irrefl] at this
        cases this
      · exact h1
    · intro hx
      rcases List.mem_cons.1 ((h x).2 (List.mem_cons_of_mem _ hx)) with h1 | h1
      · subst h1
        have := hm'.1 x hx
        rw [sLt_irrefl] at this
        cases this
      · exact h1

/-- A text put into a rising list, once. -/
def insS (v : ByteArray) : List ByteArray → List ByteArray
  | [] => [v]
  | a :: l => if a = v then a :: l else if sLt v a = true then v :: a :: l else a :: insS v l
theorem insS_mem (v x : ByteArray) : ∀ l, x ∈ insS v l ↔ x = v ∨ x ∈ l
  | [] => by simp [insS]
  | a :: l => by
    unfold insS
    split
    · rename_i e
      subst e
      simp
    · split
      · simp
      · have := insS_mem v x l
        simp only [List.mem_cons, this]
        constructor <;> (rintro (h | h | h) <;> simp [h])
theorem insS_rise (v : ByteArray) : ∀ {l}, Rise l → Rise (insS v l)
  | [], _ => by simp [insS, Rise]
  | a :: l, h => by
    have h' := List.pairwise_cons.1 h
    unfold insS
    split
    · exact h
    · rename_i hne
      split
      · rename_i hlt
        refine List.pairwise_cons.2 ⟨?_, h⟩
        intro x hx
        rcases List.mem_cons.1 hx with rfl | hx
        · exact hlt
        · exact sLt_trans hlt (h'.1 x hx)
      · rename_i hlt
        refine List.pairwise_cons.2 ⟨?_, insS_rise v h'.2⟩
        intro x hx
        rcases (insS_mem v x l).1 hx with rfl | hx
        · exact sLt_tri (fun e => hne e.symm) (by simpa using hlt)
        · exact h'.1 x hx
theorem insS_len (v : ByteArray) : ∀ l, (insS v l).length ≤ l.length + 1
  | [] => by simp [insS]
  | a :: l => by
    have := insS_len v l
    unfold insS
    split <;> (try split) <;> simp <;> omega
/-- All of a list, put into another one after the other. -/
def putS (l : List ByteArray) (vs : List ByteArray) : List ByteArray := vs.foldl (fun acc v => insS v acc) l
theorem putS_mem (x : ByteArray) : ∀ (vs l : List ByteArray), x ∈ putS l vs ↔ x ∈ l ∨ x ∈ vs
  | [], l => by simp [putS]
  | v :: vs, l => by
    have := putS_mem x vs (insS v l)
    simp only [putS, List.foldl_cons] at this ⊢
    rw [this, insS_mem]
    simp only [List.mem_cons]
    constructor
    · rintro ((h | h) | h)
      · exact .inr (.inl h)
      · exact .inl h
      · exact .inr (.inr h)
    · rintro (h | h | h)
      · exact .inl (.inr h)
      · exact .inl (.inl h)
      · exact .inr h
theorem putS_rise : ∀ (vs : List ByteArray) {l : List ByteArray}, Rise l → Rise (putS l vs)
  | [], _, h => h
  | v :: vs, _, h => putS_rise vs (insS_rise v h)
theorem putS_len : ∀ (vs l : List ByteArray), (putS l vs).length ≤ l.length + vs.length
  | [], l => by simp [putS]
  | v :: vs, l => by
    have h1 := putS_len vs (insS v l)
    have h2 := insS_len v l
    simp only [putS, List.foldl_cons, List.length_cons] at h1 ⊢
    omega
theorem putS_app (l a b : List ByteArray) : putS l (a ++ b) = putS (putS l a) b := by simp [putS, List.foldl_append]

/-! ### Sorted, and each once -/
def leS (a b : ByteArray) : Bool := !sLt b a
theorem leS_trans (a b c : ByteArray) : leS a b = true → leS b c = true → leS a c = true := by
  simp only [leS, Bool.not_eq_true']
  intro h k
  cases e : sLt c a with
  | false => rfl
  | true =>
    by_cases h1 : b = c
    · subst h1; rw [h] at e; cases e
    · have := sLt_tri (fun e => h1 e.symm) k
      have := sLt_trans this e
      rw [h] at this
      cases this
theorem leS_total (a b : ByteArray) : (leS a b || leS b a) = true := by
  simp only [leS, Bool.or_eq_true, Bool.not_eq_true']
  cases e : sLt b a with
  | false => exact .inl rfl
  | true => exact .inr (sLt_asymm e)
/-- The list sorted. -/
def sortS (l : List ByteArray) : List ByteArray := l.mergeSort leS
theorem sortS_le (l : List ByteArray) : (sortS l).Pairwise fun a b => leS a b = true := List.pairwise_mergeSort leS_trans leS_total l
theorem sortS_mem (l : List ByteArray) (x : ByteArray) : x ∈ sortS l ↔ x ∈ l := (List.mergeSort_perm l leS).mem_iff
theorem sortS_length (l : List ByteArray) : (sortS l).length = l.length := (List.mergeSort_perm l leS).length_eq
/-- One of each run of equals. -/
def compS : List ByteArray → List ByteArray
  | [] => []
  | [a] => [a]
  | a :: b :: l => if a = b then compS (b :: l) else a :: compS (b :: l)
theorem compS_mem (x : ByteArray) : ∀ l, x ∈ compS l ↔ x ∈ l
  | [] => by simp [compS]
  | [a] => by simp [compS]
  | a :: b :: l => by
    have := compS_mem x (b :: l)
    unfold compS
    split
    · rename_i e
      subst e
      rw [this]
      simp
    · rw [List.mem_cons, this]
      simp
theorem compS_rise : ∀ l : List ByteArray, l.Pairwise (fun a b => leS a b = true) → Rise (compS l)
  | [], _ => by simp [compS, Rise]
  | [a], _ => by simp [compS, Rise]
  | a :: b :: l, h => by
    have h' := List.pairwise_cons.1 h
    have ih := compS_rise (b :: l) h'.2
    unfold compS
    split
    · exact ih
    · rename_i hne
      refine List.pairwise_cons.2 ⟨?_, ih⟩
      intro x hx
      have hx2 := (compS_mem x (b :: l)).1 hx
      have hab : sLt a b = true := by
        have := h'.1 b (by simp)
        simp only [leS, Bool.not_eq_true'] at this
        exact sLt_tri (fun e => hne e.symm) this
      rcases List.mem_cons.1 hx2 with rfl | hx2
      · exact hab
      · have h2 := (List.pairwise_cons.1 h'.2).1 x hx2
        simp only [leS, Bool.not_eq_true'] at h2
        by_cases e : b = x
        · subst e; exact hab
        · exact sLt_trans hab (sLt_tri (fun e' => e e'.symm) h2)
theorem sorted_put (l : List ByteArray) : compS (sortS l) = putS [] l :=
  rise_uniq (compS_rise _ (sortS_le l)) (putS_rise l (by simp [Rise])) fun x => by rw [compS_mem, sortS_mem, putS_mem]; simp
theorem compS_len : ∀ l : List ByteArray, (compS l).length ≤ l.length
  | [] => by simp [compS]
  | [a] => by simp [compS]
  | a :: b :: l => by
    have := compS_len (b :: l)
    unfold compS
    split <;> simp at this ⊢ <;> omega
end Go.Proofs.Ytokhnmchnfkiiaa.Am

/- Rules for a law's statements, one by one: behind each only the slots that are named are known. No conditions. -/
namespace Go.Proofs.Ytokhnmchnfkiiaa.Am
open Go Go.RowKit Go.Proofs
set_option linter.unusedSimpArgs false
set_option linter.unusedVariables false

theorem BigP.len {l : List Pk} (h : BigP l) : l.length ≤ 4611686018427387904 ∧ ∀ p ∈ l, p.Len := ⟨by have := h.1; omega, fun p hp => (h.2 p hp).len⟩

section
variable {G : Cfg} {nt : Nat} {a b r x : Code} {K : Exit → St → Prop} {st : St} {t : Tmp}
theorem seq_step (M : Mem) (Q : (Nat → AV) → Prop) (h : acode G nt a (fun e s => e = .normal ∧ s.mem = M ∧ Q s.env) st) (hk : ∀ E, Q E → acode G nt b K ⟨E, M⟩) : acode G nt (.seq a b) K st := by
  rw [acode_seq]
  exact acode_cutE M Q h hk
/-- A test that is known to fail. -/
theorem if_skip (M : Mem) (Q : (Nat → AV) → Prop) (h : acode G nt r (fun e s => e = .normal ∧ s.mem = M ∧ s.env t = .v (.bool false) ∧ Q s.env) st) (hk : ∀ E, Q E → acode G nt b K ⟨E, M⟩) : acode G nt (.seq (.seq r (.cond (.tmp t) x .skip)) b) K st := by
  rw [acode_seq, acode_seq]
  refine acode_cutE M (fun E => E t = .v (.bool false) ∧ Q E) h ?_
  rintro E ⟨h1, h2⟩
  rw [kSeq_normal, acode_cond, ev_tmp, mk_env, h1, onBool_b]
  exact ⟨fun e => (by cases e), fun _ => hk E h2⟩
/-- A test that decides; where it holds the law ends. -/
theorem if_dec (P : Prop) [Decidable P] (M : Mem) (Q : (Nat → AV) → Prop) (h : acode G nt r (fun e s => e = .normal ∧ s.mem = M ∧ s.env t = .v (.bool (decide P)) ∧ Q s.env) st) (hx : P → ∀ E, Q E → acode G nt x (fun e s => e = .ret ∧ K .ret s) ⟨E, M⟩) (hk : ¬ P → ∀ E, Q E → acode G nt b K ⟨E, M⟩) :
    acode G nt (.seq (.seq r (.cond (.tmp t) x .skip)) b) K st := by
  rw [acode_seq, acode_seq]
  refine acode_cutE M (fun E => E t = .v (.bool (decide P)) ∧ Q E) h ?_
  rintro E ⟨h1, h2⟩
  rw [kSeq_normal, acode_cond, ev_tmp, mk_env, h1, onBool_b]
  refine ⟨fun e => ?_, fun e => hk (of_decide_eq_false e) E h2⟩
  refine acode_mono x ?_ (hx (of_decide_eq_true e) E h2)
  rintro e s ⟨rfl, h3⟩
  exact h3
/-- A test that holds: the law ends. -/
theorem if_take (M : Mem) (Q : (Nat → AV) → Prop) (h : acode G nt r (fun e s => e = .normal ∧ s.mem = M ∧ s.env t = .v (.bool true) ∧ Q s.env) st) (hx : ∀ E, Q E → acode G nt x (fun e s => e = .ret ∧ K .ret s) ⟨E, M⟩) : acode G nt (.seq (.seq r (.cond (.tmp t) x .skip)) b) K st := by
  rw [acode_seq, acode_seq]
  refine acode_cutE M (fun E => E t = .v (.bool true) ∧ Q E) h ?_
  rintro E ⟨h1, h2⟩
  rw [kSeq_normal, acode_cond, ev_tmp, mk_env, h1, onBool_b]
  refine ⟨fun _ => ?_, fun e => (by cases e)⟩
  refine acode_mono x ?_ (hx E h2)
  rintro e s ⟨rfl, h3⟩
  exact h3
end

/-- One array of the law's own. -/
def arrW (p v : Nat) (e : TypeId) (es : List (List AV)) (ver : Nat → Nat) : Nat → ArrSt := fun j => if j = p then ⟨v, true, e, es⟩ else noArrs ver j
@[simp] theorem noArrs_ver (ver : Nat → Nat) (i : Nat) : (noArrs ver i).ver = ver i := rfl
@[simp] theorem noArrs_live (ver : Nat → Nat) (i : Nat) : (noArrs ver i).live = false := rfl
@[simp] theorem arrW_self (p v : Nat) (e : TypeId) (es : List (List AV)) (ver : Nat → Nat) : arrW p v e es ver p = ⟨v, true, e, es⟩ := by simp [arrW]
theorem noArrs_put (p v : Nat) (e : TypeId) (es : List (List AV)) (ver : Nat → Nat) : (fun j => if j = p then (⟨v, true, e, es⟩ : ArrSt) else noArrs ver j) = arrW p v e es ver := rfl
theorem arrW_put (p v w : Nat) (e e' : TypeId) (es es' : List (List AV)) (ver : Nat → Nat) : (fun j => if j = p then (⟨w, true, e', es'⟩ : ArrSt) else arrW p v e es ver j) = arrW p w e' es' ver := by
  funext j
  simp only [arrW]
  by_cases h : j = p <;> simp [h]
theorem arrW_stay {p v : Nat} {e : TypeId} {es : List (List AV)} {ver : Nat → Nat} (h : ∀ r ∈ es, ∀ c ∈ r, c.Stay) (i : Nat) : (arrW p v e es ver i).live = true → ∀ r ∈ (arrW p v e es ver i).es, ∀ c ∈ r, c.Stay := by
  simp only [arrW]
  by_cases hi : i = p
  · simp only [hi, if_pos]
    exact fun _ => h
  · rw [if_neg hi]
    intro h
    cases h
@[simp] theorem olds_box (k o : Nat) : Olds (.box k o) (.box k o) = True := eq_true (.box k o)
@[simp] theorem olds_arr (i n o l : Nat) : Olds (.arr i n o l) (.arr i n o l) = True := eq_true (.arr i n o l)
@[simp] theorem olds_dead (a : AV) : Olds a .dead = True := eq_true (.dead a)
@[simp] theorem olds_cls (l : List (List Trm)) : Olds (.sl true (l.map (clauseCells true))) (.sl true (l.map (clauseCells true))) = True := eq_true (olds_rows true l oldc_cls)
theorem stayr_map {α : Type} {g : α → List AV} (l : List α) (h : ∀ a, ∀ c ∈ g a, c.Stay) : ∀ r ∈ l.map g, ∀ c ∈ r, c.Stay := by
  intro r hr c hc
  obtain ⟨a, _, rfl⟩ := List.mem_map.1 hr
  exact h a c hc

end Go.Proofs.Ytokhnmchnfkiiaa.Am
