/- A region after which all is old, with slots that are said anew. No conditions. -/
import Derived.Test.YtokhnmchnfkiiaaAmC24
namespace Go.Proofs.Ytokhnmchnfkiiaa.Am
open Go Go.RowKit Go.Proofs
set_option linter.unusedSimpArgs false
set_option linter.unusedVariables false

theorem olds_stay (n : Nat) (env : Nat → AV) (hs : ∀ t ∈ List.range n, Olds (env t) (env t)) (t : Nat) : Olds (env t) (envStay n env t) := by
  simp only [envStay]
  by_cases ht : t < n
  · rw [decide_eq_true ht]
    exact hs t (List.mem_range.2 ht)
  · rw [decide_eq_false ht]
    have flat : ∀ a : AV, a.flat = true → Olds a a := fun a h => by
      cases a <;> first | exact .v _ | exact .nil | exact .arr _ _ _ _ | exact .box _ _ | cases h
    cases hq : env t with
    | agg cs =>
      simp only [stayA]
      split
      · rename_i hall
        refine .agg cs cs rfl fun j c c' h1 h2 => ?_
        rw [h1] at h2
        cases h2
        exact flat c (List.all_eq_true.1 hall c (List.mem_of_getElem? h1))
      · exact .dead _
    | v x => exact .v x
    | nil => exact .nil
    | arr i n o l => exact .arr i n o l
    | box k o => exact .box k o
    | _ => exact .dead _
def OldsK (e : Nat → AV) : List (Nat × AV) → Prop
  | [] => True
  | (d, x) :: l => Olds (e d) x ∧ OldsK e l
theorem OldsK_cons (e : Nat → AV) (d : Nat) (x : AV) (l : List (Nat × AV)) : OldsK e ((d, x) :: l) = (Olds (e d) x ∧ OldsK e l) := rfl
theorem OldsK_nil (e : Nat → AV) : OldsK e [] = True := rfl
theorem olds_or {n : Nat} {env : Nat → AV} (hs : ∀ t ∈ List.range n, Olds (env t) (env t)) : ∀ (keep : List (Nat × AV)), OldsK env keep → ∀ t, Olds (env t) (envOr keep (envStay n env) t)
  | [], _, t => olds_stay n env hs t
  | (d, x) :: l, hk, t => by
    simp only [envOr]
    split
    · rename_i e
      subst e
      exact hk.1
    · exact olds_or hs l hk.2 t
section
variable {nt : Nat} {st : St}
theorem reg_ok {P : Program} {own : Nat → Bool} {verT : TypeId → Bool} {wr : Nat → Bool} {l : List Oper} {L : St → Prop} (n : Nat) (keep : List (Nat × AV)) (bs bs' : List (List AV)) (e1 : st.mem.boxes = bs) (hlive : ∀ i, (st.mem.arrs i).live = false) (hs : ∀ t ∈ List.range n, Olds (st.env t) (st.env t))
    (hk : OldsK st.env keep) (hb : OldsB bs bs') (h : aops ⟨P, own, verT, wr, 1⟩ nt l.toArray l L ⟨envOr keep (envStay n st.env), ⟨bs', st.mem.arrs⟩⟩) :
    onRegion ⟨P, own, verT, wr, 1⟩ nt l L st := by
  subst e1
  exact ⟨⟨⟨envOr keep (envStay n st.env), ⟨bs', st.mem.arrs⟩⟩, .inr ⟨olds_or hs keep hk, hlive, rfl, hb.get.1, hb.get.2⟩, .inl h⟩⟩
end

/-! ### Marks, with slots that are kept; cuts between regions -/

theorem stay_stay (n : Nat) (e : Nat → AV) (hs : ∀ t ∈ List.range n, (e t).Stay) (t : Nat) : envStay n e t = .dead ∨ (envStay n e t = e t ∧ (e t).Stay) := by
  simp only [envStay]
  by_cases ht : t < n
  · rw [decide_eq_true ht]
    exact .inr ⟨rfl, hs t (List.mem_range.2 ht)⟩
  · rw [decide_eq_false ht]
    cases hq : e t with
    | agg cs =>
      simp only [stayA]
      split
      · rename_i hall
        exact .inr ⟨rfl, .agg cs fun c hc => stay_flat (List.all_eq_true.1 hall c hc)⟩
      · exact .inl rfl
    | v x => exact .inr ⟨rfl, .v x⟩
    | nil => exact .inr ⟨rfl, .nil⟩
    | arr i n o l => exact .inr ⟨rfl, .arr i n o l⟩
    | box k o => exact .inr ⟨rfl, .box k o⟩
    | _ => exact .inl rfl
/-- Slots that are said anew at a mark: seen as wild, or kept as they are. -/
def WKeep (e : Nat → AV) : List (Nat × AV) → Prop
  | [] => True
  | (d, x) :: l => ((WArg (e d) x ∧ ∀ cs, x ≠ .agg cs) ∨ (x = e d ∧ (e d).Stay)) ∧ WKeep e l
theorem WKeep_nil (e : Nat → AV) : WKeep e [] = True := rfl
theorem WKeep_cons (e : Nat → AV) (d : Nat) (x : AV) (l : List (Nat × AV)) : WKeep e ((d, x) :: l) = (((WArg (e d) x ∧ ∀ cs, x ≠ .agg cs) ∨ (x = e d ∧ (e d).Stay)) ∧ WKeep e l) := rfl
/-- Boxes behind a mark: cells that stay, cells that are forgotten. -/
def StayR : List AV → List AV → Prop
  | [], [] => True
  | c :: cs, d :: ds => (d = .dead ∨ (d = c ∧ c.Stay)) ∧ StayR cs ds
  | _, _ => False
def StayB : List (List AV) → List (List AV) → Prop
  | [], [] => True
  | c :: cs, d :: ds => StayR c d ∧ StayB cs ds
  | _, _ => False
theorem StayR.get : ∀ {cs ds : List AV}, StayR cs ds → ds.length = cs.length ∧ ∀ (j : Nat) (c c' : AV), cs[j]? = some c → ds[j]? = some c' → c' = .dead ∨ (c' = c ∧ c.Stay)
  | [], [], _ => ⟨rfl, fun j c c' h => by simp at h⟩
  | c :: cs, d :: ds, h => by
    obtain ⟨h1, h2⟩ := StayR.get h.2
    refine ⟨by simp [h1], ?_⟩
    intro j a b ha hb
    cases j with
    | zero => simp at ha hb; subst ha hb; exact h.1
    | succ j => exact h2 j a b (by simpa using ha) (by simpa using hb)
  | [], _ :: _, h => h.elim
  | _ :: _, [], h => h.elim
theorem StayB.get : ∀ {B D : List (List AV)}, StayB B D → BoxStay B D
  | [], [], _ => ⟨rfl, fun k cs cs' h => by simp at h⟩
  | c :: cs, d :: ds, h => by
    obtain ⟨h1, h2⟩ := StayB.get h.2
    refine ⟨by simp [h1], ?_⟩
    intro k a b ha hb
    cases k with
    | zero => simp at ha hb; subst ha hb; exact StayR.get h.1
    | succ k => exact h2 k a b (by simpa using ha) (by simpa using hb)
  | [], _ :: _, h => h.elim
  | _ :: _, [], h => h.elim
theorem StayR.of : ∀ {cs : List AV}, (∀ c ∈ cs, c.Stay) → StayR cs cs
  | [], _ => trivial
  | c :: cs, h => ⟨.inr ⟨rfl, h c (by simp)⟩, StayR.of fun x hx => h x (by simp [hx])⟩
theorem StayB.of : ∀ {B : List (List AV)}, (∀ cs ∈ B, ∀ c ∈ cs, c.Stay) → StayB B B
  | [], _ => trivial
  | c :: cs, h => ⟨StayR.of fun x hx => h c (by simp) x hx, StayB.of fun x hx => h x (by simp [hx])⟩
section
variable {nt : Nat} {st : St} {dst : Option Tmp}
theorem mark_b {P : Program} {own : Nat → Bool} {verT : TypeId → Bool} {wr : Nat → Bool} {ops : Array Oper} {f : FuncId} {xs : List AV} {rest : List Oper} {L : St → Prop} {las : List AV} {x : Value} (n : Nat) (keep : List (Nat × AV)) (bs bs' : List (List AV)) (e1 : st.mem.boxes = bs) (hp : MCall P f las x)
    (hw : WArgL xs las) (hd : dstOK nt dst = true) (hb0 : StayB bs bs') (ha : ∀ i, (st.mem.arrs i).live = true → ∀ r ∈ (st.mem.arrs i).es, ∀ c ∈ r, c.Stay)
    (hs : ∀ t ∈ List.range n, (st.env t).Stay) (hk : WKeep st.env keep) (h : aops ⟨P, own, verT, wr, 1⟩ nt ops rest L (St.put ⟨envOr keep (envStay n st.env), ⟨bs', st.mem.arrs⟩⟩ dst (.v x))) :
    onMark ⟨P, own, verT, wr, 1⟩ nt ops dst f xs rest L st := by
  have hb : BoxStay st.mem.boxes bs' := by rw [e1]; exact hb0.get
  refine ⟨hd, envOr keep (envStay n st.env), bs', x, ⟨rfl, ⟨las, hp, hw.get.1, hw.get.2⟩, hb, ha, ?_⟩, h⟩
  have go : ∀ (keep : List (Nat × AV)), WKeep st.env keep → ∀ t, envOr keep (envStay n st.env) t = .dead ∨ (envOr keep (envStay n st.env) t = st.env t ∧ (st.env t).Stay) ∨ (WArg (st.env t) (envOr keep (envStay n st.env) t) ∧ ∀ cs, envOr keep (envStay n st.env) t ≠ .agg cs) := by
    intro keep
    induction keep with
    | nil => intro _ t; exact (stay_stay n st.env hs t).imp id .inl
    | cons p l ih =>
      intro hk t
      obtain ⟨d, y⟩ := p
      simp only [envOr]
      split
      · rename_i e
        subst e
        rcases hk.1 with h | ⟨rfl, h⟩
        · exact .inr (.inr h)
        · exact .inr (.inl ⟨rfl, h⟩)
      · exact ih hk.2 t
  exact go keep hk
theorem mark_w {P : Program} {own : Nat → Bool} {verT : TypeId → Bool} {wr : Nat → Bool} {ops : Array Oper} {f : FuncId} {xs : List AV} {rest : List Oper} {L : St → Prop} {las : List AV} {x : Value} (n : Nat) (keep : List (Nat × AV)) (hp : MCall P f las x)
    (hw : WArgL xs las) (hd : dstOK nt dst = true) (hb : ∀ cs ∈ st.mem.boxes, ∀ c ∈ cs, c.Stay) (ha : ∀ i, (st.mem.arrs i).live = true → ∀ r ∈ (st.mem.arrs i).es, ∀ c ∈ r, c.Stay)
    (hs : ∀ t ∈ List.range n, (st.env t).Stay) (hk : WKeep st.env keep) (h : aops ⟨P, own, verT, wr, 1⟩ nt ops rest L (St.put ⟨envOr keep (envStay n st.env), st.mem⟩ dst (.v x))) :
    onMark ⟨P, own, verT, wr, 1⟩ nt ops dst f xs rest L st :=
  mark_b n keep _ _ rfl hp hw hd (StayB.of hb) ha hs hk h
end
theorem onRegion_mono {G : Cfg} {nt : Nat} {l : List Oper} {K L : St → Prop} {st : St} (hk : ∀ s, K s → L s) (h : onRegion G nt l K st) : onRegion G nt l L st := ⟨aregion_mono hk h.out⟩
/-- Behind a region only some facts about the slots are kept. -/
theorem reg_cut {G : Cfg} {nt : Nat} {l : List Oper} {L : St → Prop} {st : St} (M : Mem) (Q : (Nat → AV) → Prop) (h : onRegion G nt l (fun s => s.mem = M ∧ Q s.env) st) (hk : ∀ E, Q E → L ⟨E, M⟩) : onRegion G nt l L st :=
  onRegion_mono (fun s hs => by
    obtain ⟨e, q⟩ := hs
    cases s
    cases e
    exact hk _ q) h

end Go.Proofs.Ytokhnmchnfkiiaa.Am
