/- The abstract machine: regions that draw their order: told once, in one order; sound in every order. No conditions. -/
import Derived.Test.YtbmfoijakgccgaaAmO
namespace Go.Proofs.Ytbmfoijakgccgaa.Am
open Go Go.RowKit
set_option linter.unusedSimpArgs false
set_option linter.unusedVariables false

theorem ev_congr {st : St} {env : Nat → AV} {x : Operand} (h : ∀ t, x = .tmp t → env t = st.env t) : St.ev ⟨env, st.mem⟩ x = st.ev x := by
  cases x <;> simp only [St.ev]
  exact h _ rfl

theorem aval_congr (G : Cfg) (o : Oper) (st : St) (env : Nat → AV) (h : ∀ x ∈ o.op.operands, St.ev ⟨env, st.mem⟩ x = st.ev x) : aval G o ⟨env, st.mem⟩ = aval G o st := by
  obtain ⟨dst, op, type, pos, after, guard⟩ := o
  have pairs : ∀ ps : Array (Nat × Operand), (∀ x ∈ ps.map (·.2), St.ev ⟨env, st.mem⟩ x = st.ev x) →
      (ps.toList.map fun p => (p.1, St.ev ⟨env, st.mem⟩ p.2)) = (ps.toList.map fun p => (p.1, st.ev p.2)) := fun ps hp =>
    List.map_congr_left fun p hm => by
      rw [hp p.2 (Array.mem_map.2 ⟨p, Array.mem_toList_iff.1 hm, rfl⟩)]
  have pairs2 : ∀ ps : Array (Nat × Operand), (∀ x ∈ ps.map (·.2), St.ev ⟨env, st.mem⟩ x = st.ev x) →
      (ps.toList.map fun p => (St.ev ⟨env, st.mem⟩ p.2).cells) = (ps.toList.map fun p => (st.ev p.2).cells) := fun ps hp =>
    List.map_congr_left fun p hm => by
      rw [hp p.2 (Array.mem_map.2 ⟨p, Array.mem_toList_iff.1 hm, rfl⟩)]
  have arr : ∀ ps : Array Operand, (∀ x ∈ ps, St.ev ⟨env, st.mem⟩ x = st.ev x) → ps.toList.map (St.ev ⟨env, st.mem⟩) = ps.toList.map st.ev := fun ps hp =>
    List.map_congr_left fun p hm => hp p (Array.mem_toList_iff.1 hm)
  cases op <;> simp only [Op.operands] at h <;> simp only [aval]
  case build t ps => rw [pairs ps fun x hx => h x (by simpa using hx)]
  case buildSlice t n ps => rw [pairs2 ps fun x hx => h x (by simpa using hx)]
  case makeFunc fn first captured =>
    cases fn with
    | func f => simp only; rw [arr first fun x hx => h x (by simp [hx]), arr captured fun x hx => h x (by simp [hx])]
    | _ => rfl
  case call c =>
    cases hc : c.callee with
    | builtin b => rw [arr c.args fun x hx => h x (by simp [Call.operands, hx])]
    | _ => rfl
  case slice t x lo hi mx =>
    cases mx with
    | some m => rfl
    | none =>
      cases lo <;> cases hi <;> simp_all
  all_goals (first | rfl | (simp_all; done))

/-- What an operation yields, and the memory behind it. -/
def Yields (G : Cfg) (o : Oper) (st : St) (x : AV) (m' : Mem) : Prop := aop G o (fun st' => st' = { st with mem := m' }.put o.dst x) st

theorem Yields.mk {G : Cfg} {o : Oper} {st : St} {K : St → Prop} (h : aop G o K st) : ∃ x m', (∀ env, (∀ y ∈ o.op.operands, St.ev ⟨env, st.mem⟩ y = st.ev y) → ∀ K', K' (St.put ⟨env, m'⟩ o.dst x) → aop G o K' ⟨env, st.mem⟩) ∧ K ({ st with mem := m' }.put o.dst x) := by
  have viaval : (match aval G o st with | some (x, m') => K ({ st with mem := m' }.put o.dst x) | none => False) →
      ∃ x m', (∀ env, (∀ y ∈ o.op.operands, St.ev ⟨env, st.mem⟩ y = st.ev y) → ∀ K' : St → Prop, K' (St.put ⟨env, m'⟩ o.dst x) → (match aval G o ⟨env, st.mem⟩ with | some (x, m') => K' (({ (⟨env, st.mem⟩ : St) with mem := m' } : St).put o.dst x) | none => False)) ∧ K ({ st with mem := m' }.put o.dst x) := by
    intro h
    split at h
    · rename_i x m' hv
      refine ⟨x, m', ?_, h⟩
      intro env he K' hK
      rw [aval_congr G o st env he, hv]
      exact hK
    · exact h.elim
  obtain ⟨dst, op, type, pos, after, guard⟩ := o
  cases op
  case call c =>
    obtain ⟨callee, args, tys⟩ := c
    cases callee with
    | value y =>
      simp only [aop] at h ⊢
      split at h
      · rename_i f pre post hy
        obtain ⟨r, m', hc, hK⟩ := h
        refine ⟨r, m', ?_, hK⟩
        intro env he K' hK'
        have hx : St.ev ⟨env, st.mem⟩ y = st.ev y := he y (by simp [Op.operands, Call.operands])
        have ha : args.toList.map (St.ev ⟨env, st.mem⟩) = args.toList.map st.ev := List.map_congr_left fun p hm => he p (by simp [Op.operands, Call.operands, Array.mem_toList_iff.1 hm])
        rw [hx, hy]
        exact ⟨r, m', by rw [ha]; exact hc, hK'⟩
      · exact h.elim
    | invoke y m => exact viaval h
    | builtin b => exact viaval h
  all_goals exact viaval h

theorem pairsB_split {f : Nat → Nat → Bool} : ∀ {l : List Nat}, pairsB f l = true → ∀ l1 i l2, l = l1 ++ i :: l2 → (∀ k ∈ l1, f k i = true) ∧ (∀ k ∈ l2, f i k = true)
  | [], _, l1, i, l2, e => by simp at e
  | a :: l, h, l1, i, l2, e => by
    simp only [pairsB, Bool.and_eq_true, List.all_eq_true] at h
    cases l1 with
    | nil =>
      simp only [List.nil_append, List.cons.injEq] at e
      obtain ⟨rfl, rfl⟩ := e
      exact ⟨by simp, h.1⟩
    | cons b l1 =>
      simp only [List.cons_append, List.cons.injEq] at e
      obtain ⟨rfl, rfl⟩ := e
      have := pairsB_split h.2 l1 i l2 rfl
      refine ⟨?_, this.2⟩
      intro k hk
      rcases List.mem_cons.1 hk with rfl | hk
      · exact h.1 i (by simp)
      · exact this.1 k hk

theorem nodupB_iff : ∀ {l : List Nat}, nodupB l = true → l.Nodup
  | [], _ => List.nodup_nil
  | i :: l, h => by
    simp only [nodupB, Bool.and_eq_true, Bool.not_eq_true', List.contains_eq_mem, decide_eq_false_iff_not] at h
    exact List.nodup_cons.2 ⟨h.1, nodupB_iff h.2⟩

theorem clos_length (ops : Array Oper) : ∀ n, (clos ops n).length = n
  | 0 => rfl
  | n + 1 => by simp [clos, clos_length ops n]

theorem mem_foldr_insert {x : Nat} {acc : List Nat} : ∀ {l : List Nat}, x ∈ l.foldr List.insert acc → x ∈ l ∨ x ∈ acc
  | [], h => .inr h
  | a :: l, h => by
    simp only [List.foldr_cons, List.mem_insert_iff] at h
    rcases h with rfl | h
    · exact .inl (by simp)
    · rcases mem_foldr_insert h with h | h
      · exact .inl (by simp [h])
      · exact .inr h

theorem clos_spec (ops : Array Oper) {L : Nat → Prop} (hL : ∀ k, L k → ∀ i ∈ direct ops k, L i) : ∀ n j, (∀ i ∈ direct ops j, L i) → ∀ x ∈ (clos ops n).getD j [], L x
  | 0, j, _, x, hx => by simp [clos] at hx
  | n + 1, j, hj, x, hx => by
    have ih := clos_spec ops hL n
    simp only [clos] at hx
    rcases Nat.lt_trichotomy j n with h | h | h
    · have e : (clos ops n ++ [(direct ops n).foldr (fun i acc => List.insert i (((clos ops n).getD i []).foldr List.insert acc)) []]).getD j [] = (clos ops n).getD j [] := by
        simp only [List.getD_eq_getElem?_getD]
        rw [List.getElem?_append_left (by rw [clos_length]; exact h)]
      rw [e] at hx
      exact ih j hj x hx
    · subst h
      have e : (clos ops j ++ [(direct ops j).foldr (fun i acc => List.insert i (((clos ops j).getD i []).foldr List.insert acc)) []]).getD j [] = (direct ops j).foldr (fun i acc => List.insert i (((clos ops j).getD i []).foldr List.insert acc)) [] := by
        simp only [List.getD_eq_getElem?_getD]
        rw [List.getElem?_append_right (by rw [clos_length]; exact Nat.le_refl _), clos_length]
        simp
      rw [e] at hx
      have go : ∀ l : List Nat, (∀ i ∈ l, L i) → x ∈ l.foldr (fun i acc => List.insert i (((clos ops j).getD i []).foldr List.insert acc)) [] → L x := by
        intro l
        induction l with
        | nil => intro _ h; simp at h
        | cons a l ihl =>
          intro hl h
          simp only [List.foldr_cons, List.mem_insert_iff] at h
          rcases h with rfl | h
          · exact hl _ (by simp)
          · rcases mem_foldr_insert h with h | h
            · exact ih a (hL a (hl a (by simp))) x h
            · exact ihl (fun i hi => hl i (by simp [hi])) h
      exact go _ hj hx
    · have e : (clos ops n ++ [(direct ops n).foldr (fun i acc => List.insert i (((clos ops n).getD i []).foldr List.insert acc)) []]).getD j [] = [] := by
        simp only [List.getD_eq_getElem?_getD]
        rw [List.getElem?_eq_none (by simp [clos_length]; omega)]
        rfl
      rw [e] at hx
      simp at hx

def upd (env : Nat → AV) (d : Option Tmp) (x : AV) : Nat → AV :=
  match d with
  | some d => fun t => if t = d then x else env t
  | none => env

theorem put_upd (st : St) (d : Option Tmp) (x : AV) : st.put d x = ⟨upd st.env d x, st.mem⟩ := by
  cases d <;> rfl

/-- The slots when those operations of a list that L picks out have been done. -/
def after (ops : Array Oper) (xs : Nat → AV) (L : Nat → Bool) : List Nat → (Nat → AV) → Nat → AV
  | [], env => env
  | i :: l, env => after ops xs L l (if L i = true then upd env (writes ops i) (xs i) else env)

theorem after_congr {ops : Array Oper} {xs : Nat → AV} {L M : Nat → Bool} {t : Nat} : ∀ {l : List Nat} {e f : Nat → AV}, e t = f t → (∀ i ∈ l, writes ops i = some t → L i = M i) → after ops xs L l e t = after ops xs M l f t
  | [], _, _, h, _ => h
  | i :: l, e, f, h, hw => by
    simp only [after]
    refine after_congr ?_ fun k hk => hw k (by simp [hk])
    by_cases hi : writes ops i = some t
    · rw [hw i (by simp) hi, hi]
      split
      · simp [upd]
      · exact h
    · have h1 : ∀ g : Nat → AV, upd g (writes ops i) (xs i) t = g t := by
        intro g
        cases hd : writes ops i with
        | none => rfl
        | some d => simp only [upd]; rw [if_neg (fun e => hi (by rw [hd, e]))]
      split <;> split <;> simp only [h1, h]

theorem after_none {ops : Array Oper} {xs : Nat → AV} {L : Nat → Bool} {t : Nat} : ∀ {l : List Nat} {e : Nat → AV}, (∀ i ∈ l, writes ops i = some t → L i = false) → after ops xs L l e t = e t
  | [], _, _ => rfl
  | i :: l, e, hw => by
    simp only [after]
    rw [after_none fun k hk => hw k (by simp [hk])]
    by_cases hi : writes ops i = some t
    · rw [hw i (by simp) hi]; simp
    · split
      · cases hd : writes ops i with
        | none => rfl
        | some d => simp only [upd]; rw [if_neg (fun e => hi (by rw [hd, e]))]
      · rfl

theorem after_append {ops : Array Oper} {xs : Nat → AV} {L : Nat → Bool} : ∀ {l l2 : List Nat} {e : Nat → AV}, after ops xs L (l ++ l2) e = after ops xs L l2 (after ops xs L l e)
  | [], _, _ => rfl
  | i :: l, l2, e => by simp only [List.cons_append, after]; exact after_append

theorem after_xs {ops : Array Oper} {xs ys : Nat → AV} {L : Nat → Bool} : ∀ {l : List Nat} {e : Nat → AV}, (∀ i ∈ l, xs i = ys i) → after ops xs L l e = after ops ys L l e
  | [], _, _ => rfl
  | i :: l, e, h => by simp only [after]; rw [h i (by simp)]; exact after_xs fun k hk => h k (by simp [hk])

/-- An operation of the first part, at slots that it cannot tell from those of the telling, yields the value of the telling. -/
def Told (G : Cfg) (nt : Nat) (ops : Array Oper) (i : Nat) (st : St) (x : AV) : Prop :=
  ∃ o, ops[i]? = some o ∧ dstOK nt o.dst = true ∧ ((runs ops st o = some true ∧ ∀ env, (∀ y ∈ o.op.operands, St.ev ⟨env, st.mem⟩ y = st.ev y) → ∀ K' : St → Prop, K' (St.put ⟨env, st.mem⟩ o.dst x) → aop G o K' ⟨env, st.mem⟩) ∨ (runs ops st o = some false ∧ x = .v undef))

theorem apre_told {G : Cfg} {nt : Nat} {ops : Array Oper} {K : St → Prop} : ∀ {l : List Nat} {st : St}, l.Nodup → apre G nt ops l K st → ∃ xs : Nat → AV,
    (∀ l1 i l2, l = l1 ++ i :: l2 → Told G nt ops i ⟨after ops xs (fun _ => true) l1 st.env, st.mem⟩ (xs i)) ∧ K ⟨after ops xs (fun _ => true) l st.env, st.mem⟩
  | [], st, _, h => ⟨fun _ => .dead, fun l1 i l2 e => by simp at e, h⟩
  | i :: l, st, hn, h => by
    obtain ⟨hni, hn⟩ := List.nodup_cons.1 hn
    simp only [apre] at h
    split at h
    · exact h.elim
    rename_i o ho
    obtain ⟨hd, h⟩ := h
    have hwr : writes ops i = o.dst := by simp [writes, ho]
    have fin : ∀ x, Told G nt ops i st x → apre G nt ops l K ⟨upd st.env o.dst x, st.mem⟩ → ∃ xs : Nat → AV,
        (∀ l1 k l2, i :: l = l1 ++ k :: l2 → Told G nt ops k ⟨after ops xs (fun _ => true) l1 st.env, st.mem⟩ (xs k)) ∧ K ⟨after ops xs (fun _ => true) (i :: l) st.env, st.mem⟩ := by
      intro x ht h
      obtain ⟨xs, h1, h2⟩ := apre_told hn h
      refine ⟨fun k => if k = i then x else xs k, ?_, ?_⟩
      · intro l1 k l2 e
        cases l1 with
        | nil =>
          simp only [List.nil_append, List.cons.injEq] at e
          obtain ⟨rfl, rfl⟩ := e
          simp only [after, if_pos]
          exact ht
        | cons b l1 =>
          simp only [List.cons_append, List.cons.injEq] at e
          obtain ⟨rfl, rfl⟩ := e
          have hk : k ≠ i := fun e => hni (by rw [← e]; simp)
          have := h1 l1 k l2 rfl
          simp only [after, if_neg hk, hwr, if_pos]
          rw [after_xs (ys := xs) (fun j hj => if_neg (fun e => hni (by rw [← e]; simp [hj])))]
          exact this
      · simp only [after, hwr, if_pos]
        rw [after_xs (ys := xs) (fun j hj => if_neg (fun e => hni (by rw [← e]; exact hj)))]
        exact h2
    rcases byGuard_cases h with ⟨hr, h⟩ | ⟨hr, h⟩
    · obtain ⟨x, m', hy, hm, hK⟩ := Yields.mk h
      rw [put_upd] at hm hK
      simp only at hm
      subst hm
      exact fin x ⟨o, ho, hd, .inl ⟨hr, hy⟩⟩ hK
    · rw [put_upd] at h
      exact fin (.v undef) ⟨o, ho, hd, .inr ⟨hr, rfl⟩⟩ h

end Go.Proofs.Ytbmfoijakgccgaa.Am
