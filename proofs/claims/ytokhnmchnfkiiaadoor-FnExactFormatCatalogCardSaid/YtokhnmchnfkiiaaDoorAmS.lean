/- The abstract machine: functions that are handed an array or hand one back, from their code; the rules for calls of them. No conditions. -/
import Derived.Test.YtokhnmchnfkiiaaDoorAmR
namespace Go.Proofs.YtokhnmchnfkiiaaDoor.Am
open Go Go.RowKit
set_option linter.unusedSimpArgs false
set_option linter.unusedVariables false

def rawOf (G : Cfg) (rs : List ResultVar) (st : St) : Option AV :=
  match rs with
  | [r] => resVar G st r
  | rs => (rs.mapM (resVar G st)).map AV.tup

theorem res_raw {G : Cfg} {nt base : Nat} {bx0 : List Nat} {C : Ctx} {st : St} {a : Act} (R : Rel G nt base bx0 C st a) {fn : Func} {r : AV} (h : rawOf G fn.results.toList st = some r) :
    ∃ v, (results fn a.tmps).run G.P C.w = .ok v C.w ∧ RV C r v := by
  have one : ∀ (rv : ResultVar) (x : AV), resVar G st rv = some x → ∃ v, (match rv with | .tmp t => pure (a.tmps.getD t undef) | .cell p t => do loadVar t (← asAddr (a.tmps.getD p undef)) : Sem Value).run G.P C.w = .ok v C.w ∧ RV C x v := by
    intro rv x hx
    cases rv with
    | tmp t =>
      simp only [resVar, Option.some.injEq] at hx
      subst hx
      exact ⟨_, rfl, R.env t⟩
    | cell p t =>
      simp only [resVar] at hx
      obtain ⟨cs, hc, hl⟩ := Option.bind_eq_some_iff.1 hx
      obtain ⟨b, off, hp, hcells⟩ := cellsAt_rv R.mem (R.env p) hc
      obtain ⟨v, hv, hr⟩ := loadVar_run hcells hl
      refine ⟨v, ?_, hr⟩
      simp only [hp]
      simp [asAddr, hv]
  have many : ∀ (rs : List ResultVar) (xs : List AV), rs.mapM (resVar G st) = some xs → ∃ vs : List Value, (rs.mapM fun rv => (match rv with | .tmp t => pure (a.tmps.getD t undef) | .cell p t => do loadVar t (← asAddr (a.tmps.getD p undef)) : Sem Value)).run G.P C.w = .ok vs C.w ∧ RVs C xs vs ∧ xs.length = rs.length := by
    intro rs
    induction rs with
    | nil => intro xs h; simp at h; subst h; exact ⟨[], rfl, RVs.nil C, rfl⟩
    | cons rv rs ih =>
      intro xs h
      simp only [List.mapM_cons, Option.bind_eq_bind, Option.pure_def] at h
      obtain ⟨x, hx, h2⟩ := Option.bind_eq_some_iff.1 h
      obtain ⟨ys, hy, h3⟩ := Option.bind_eq_some_iff.1 h2
      cases h3
      obtain ⟨v, hv, hr⟩ := one rv x hx
      obtain ⟨vs, hvs, hrs, hl⟩ := ih ys hy
      refine ⟨v :: vs, ?_, RVs.cons hr hrs, by simp [hl]⟩
      rw [List.mapM_cons]
      simp only [Sem.run_bind, hv, Result.andThen_ok, hvs, Sem.run_pure]
  have eq : ∀ vs : List Value, (fn.results.toList.mapM fun rv => (match rv with | .tmp t => pure (a.tmps.getD t undef) | .cell p t => do loadVar t (← asAddr (a.tmps.getD p undef)) : Sem Value)).run G.P C.w = .ok vs C.w →
      (results fn a.tmps).run G.P C.w = .ok (if h : vs.toArray.size = 1 then vs.toArray[0] else .tuple vs.toArray) C.w := by
    intro vs hvs
    unfold results
    rw [Sem.run_bind, Array.mapM_eq_mapM_toList, Sem.run_map]
    have e2 := congrArg (fun z => Result.andThen (Result.andThen z (fun a w => (Result.ok a.toArray w : Result (Array Value)))) (fun vs w => (Result.ok (if h : vs.size = 1 then vs[0] else .tuple vs) w : Result Value))) hvs
    exact e2
  unfold rawOf at h
  split at h
  · rename_i rv hrs
    obtain ⟨v, hv, hr⟩ := one rv r h
    refine ⟨v, ?_, hr⟩
    have := eq [v] (by rw [hrs]; simp only [List.mapM_cons, List.mapM_nil, Sem.run_bind, hv, Result.andThen_ok, Sem.run_pure])
    rw [this]
    rfl
  · rename_i hne
    obtain ⟨xs, hx, h2⟩ := Option.map_eq_some_iff.1 h
    subst h2
    obtain ⟨vs, hvs, hr, hl⟩ := many _ xs hx
    have hlen : ¬ vs.toArray.size = 1 := by
      intro e
      have e2 : fn.results.toList.length = 1 := by have := hr.1; simp only [List.size_toArray] at e; omega
      match hq : fn.results.toList, e2 with
      | [r0], _ => exact hne r0 hq
    refine ⟨.tuple vs.toArray, by rw [eq vs hvs, dif_neg hlen], .tup _ _ (by simp [hr.1]) ?_⟩
    intro j c y h1 h2
    exact hr.2 j c y h1 (by simpa using h2)

/-- A result as the caller gets it, the array at place q with it. -/
def finO1 (m : Mem) (q : Nat) : AV → AV
  | .arr i n off len => if i = q ∧ m.ok i n = true ∧ off = 0 ∧ len = (m.arrs q).es.length then .arr 0 0 0 len else .dead
  | .nil => .sl false []
  | a => a
def finO (m : Mem) (q : Nat) : AV → AV
  | .agg cs => .agg (cs.map (finO1 m q))
  | .tup cs => .tup (cs.map (finO1 m q))
  | a => finO1 m q a

def Ctx.told (D : Ctx) (q : Nat) : Ctx := { w := D.w, N0 := D.N0, bx := D.bx, W := D.W, ver := fun _ => 0, A := fun j => if j = 0 then D.A q else none }

theorem told_N {D : Ctx} {q : Nat} {b : Nat} (h : ¬ D.N false b) : ¬ (D.told q).N false b := by
  rintro (h1 | h1 | ⟨j, I, h1, h2⟩)
  · exact h (.inl h1)
  · exact h (.inr (.inl h1))
  · have h1' : (if j = 0 then D.A q else none) = some I := h1
    split at h1'
    · exact h (.inr (.inr ⟨q, I, h1', h2⟩))
    · cases h1'

theorem finO1_rv {G : Cfg} {base : Nat} {bx0 : List Nat} {D : Ctx} {m : Mem} (M : MemOK G base bx0 D m) {q : Nat} {a : AV} {x : Value} (h : RV D a x) (hf : (strip1 (finO1 m q a)).Free (· = false)) : RV (D.told q) (finO1 m q a) x := by
  have plain : ∀ b : AV, RV D b x → b.Free (· = false) → RV (D.told q) b x := fun b hb hbf => rv_back hb hbf rfl fun _ _ hn => told_N hn
  cases a with
  | arr i n off len =>
    simp only [finO1] at hf ⊢
    split
    · rename_i hk
      obtain ⟨rfl, hk, rfl, hlen⟩ := hk
      obtain ⟨I, xs, hI, hs, z1, z2, z3, z4, z5, z6⟩ := arr_rv M h hk
      cases h with
      | arr _ _ _ _ _ h1 hn hh =>
        refine .arr 0 0 0 len x h1 (Nat.le_refl _) ?_
        intro J hJ _
        have hJ' : (if (0 : Nat) = 0 then D.A i else none) = some J := hJ
        simp only [if_true] at hJ'
        rw [hI] at hJ'
        cases hJ'
        exact hs
    · exact .dead _
  | nil => cases h with | nil a => exact .sl0 _ _ _
  | v => exact plain _ h hf
  | agg => exact plain _ h hf
  | tup => exact plain _ h hf
  | sl => exact plain _ h hf
  | el => exact plain _ h hf
  | box => exact plain _ h hf
  | ael => exact plain _ h hf
  | clo => exact plain _ h hf
  | dead => exact .dead _
  | any => cases hf
  | wsl => cases hf
  | wel => cases hf

theorem finO_rv {G : Cfg} {base : Nat} {bx0 : List Nat} {D : Ctx} {m : Mem} (M : MemOK G base bx0 D m) {q : Nat} {a : AV} {x : Value} (h : RV D a x) (hf : (strip (finO m q a)).Free (· = false)) : RV (D.told q) (finO m q a) x := by
  cases a with
  | agg cs =>
    cases h with
    | agg _ vs hl hh =>
      cases hf with
      | agg _ hf =>
        refine .agg _ _ (by simp [hl]) ?_
        intro j c y h1 h2
        rw [List.getElem?_map] at h1
        obtain ⟨d, hd, he⟩ := Option.map_eq_some_iff.1 h1
        subst he
        exact finO1_rv M (hh j d y hd h2) (hf _ (List.mem_map.2 ⟨_, List.mem_map.2 ⟨d, List.mem_of_getElem? hd, rfl⟩, rfl⟩))
  | tup cs =>
    cases h with
    | tup _ vs hl hh =>
      cases hf with
      | tup _ hf =>
        refine .tup _ _ (by simp [hl]) ?_
        intro j c y h1 h2
        rw [List.getElem?_map] at h1
        obtain ⟨d, hd, he⟩ := Option.map_eq_some_iff.1 h1
        subst he
        exact finO1_rv M (hh j d y hd h2) (hf _ (List.mem_map.2 ⟨_, List.mem_map.2 ⟨d, List.mem_of_getElem? hd, rfl⟩, rfl⟩))
  | arr i n off len =>
    refine finO1_rv M h ?_
    have : strip (finO1 m q (.arr i n off len)) = strip1 (finO1 m q (.arr i n off len)) := by simp only [finO1]; split <;> rfl
    rw [← this]
    exact hf
  | nil => exact finO1_rv M h hf
  | v => exact finO1_rv M h hf
  | sl => exact finO1_rv M h hf
  | el => exact finO1_rv M h hf
  | box => exact finO1_rv M h hf
  | ael => exact finO1_rv M h hf
  | clo => exact finO1_rv M h hf
  | dead => exact finO1_rv M h hf
  | any => exact finO1_rv M h hf
  | wsl => exact finO1_rv M h hf
  | wel => exact finO1_rv M h hf

def inArrs : Option (TypeId × List (List AV)) → Nat → ArrSt
  | none => fun _ => ⟨0, false, 0, []⟩
  | some (e, es) => fun i => if i = 0 then ⟨0, true, e, es⟩ else ⟨0, false, 0, []⟩

/-- What has to hold where such a function ends. -/
def kEnd (G : Cfg) (rs : List ResultVar) (q : Nat) (out : Option (Bool × TypeId × List (List AV))) (r : AV) (st : St) : Prop :=
  (rawOf G rs st).map (finO st.mem q) = some r ∧ match out with
    | none => True
    | some (false, e, es) => ∃ v, st.mem.arrs q = ⟨v, true, e, es⟩
    | some (true, e, es) => q = 0 ∧ st.mem.arrs 0 = ⟨0, true, e, es⟩
def kResO (G : Cfg) (rs : List ResultVar) (q : Nat) (out : Option (Bool × TypeId × List (List AV))) (r : AV) : Exit → St → Prop
  | .normal, st => kEnd G rs q out r st
  | .ret, st => kEnd G rs q out r st
  | _, _ => False
theorem kResO_st {G : Cfg} {rs : List ResultVar} {q : Nat} {out : Option (Bool × TypeId × List (List AV))} {r : AV} {e : Exit} {st st' : St} (h : st = st') : kResO G rs q out r e st = kResO G rs q out r e st' := by rw [h]
theorem kResO_normal {G : Cfg} {rs : List ResultVar} {q : Nat} {out : Option (Bool × TypeId × List (List AV))} {r : AV} {st : St} : kResO G rs q out r .normal st = kEnd G rs q out r st := rfl
theorem kResO_ret {G : Cfg} {rs : List ResultVar} {q : Nat} {out : Option (Bool × TypeId × List (List AV))} {r : AV} {st : St} : kResO G rs q out r .ret st = kEnd G rs q out r st := rfl

theorem own_of_codeB {G : Cfg} (V : G.Vers) (hm : G.P.follows .mixedOrders = true) {f : FuncId} {fn : Func} {c : Code} (hf : G.P.funcs[f]? = some fn) (hb : fn.body = some c) (hnm : fn.name ≠ "runtime.NumGoroutine") {args : List AV} (ha : args.length ≤ fn.ntmps)
    {bs : List (List AV)} (hwr : ∀ k, G.wr k = true → bs.length ≤ k) {inp : Option (TypeId × List (List AV))} {out : Option (Bool × TypeId × List (List AV))} {r : AV} (q : Nat) (hr : (strip r).Free (· = false)) (hfe : ∀ s e es, out = some (s, e, es) → ∀ q ∈ es, ∀ c ∈ q, AV.Free (· = false) c)
    (h : acode G fn.ntmps c (kResO G fn.results.toList q out r) ⟨envOf (zipEnv 0 args), ⟨bs, inArrs inp⟩⟩) (hmd : G.md = 0 := by rfl) : OCallB G.P f bs inp args out r := by
  refine ⟨by simp [enters, hf, hb, hnm], hr, hfe, ?_⟩
  intro C vs hB hver hA1 hin hW0 hbb hN hvs
  have hlen : args.length = vs.size := by simpa using hvs.1
  have hA0 : ∀ i I, C.A i = some I → i = 0 := fun i I hI => by
    by_cases hi : i = 0
    · exact hi
    · rw [hA1 i hi] at hI; cases hI
  have R : Rel G fn.ntmps C.w.heap.size C.blk C ⟨envOf (zipEnv 0 args), ⟨bs, inArrs inp⟩⟩ { tmps := vs ++ Array.replicate (fn.ntmps - vs.size) undef, defers := [] } := by
    rw [← startEnv_eq]
    refine ⟨⟨hB.len, hB.nodup, ?_, Nat.le_refl _, ?_, hB.box, ?_, ?_, ?_, ?_, ?_, ⟨fun b h => (hW0 b h).elim, fun b h => (hW0 b h).elim, fun b _ _ h => (hW0 b h).elim, fun _ b h => (hW0 b h).elim⟩, fun e => (by rw [hmd] at e; cases e), hB.glob⟩, ?_, by simp; omega, rfl⟩
    · intro k b hk hw
      have h1 := hwr k hw
      have h2 := (List.getElem?_eq_some_iff.1 hk).1
      have h3 := hB.len
      omega
    · intro b h
      refine ⟨(hN b h).1, fun i I hI hg => (hN b h).2 ?_⟩
      have hi := hA0 i I hI
      subst hi
      simp [Ctx.blk, hI, hg]
    · intro i
      rw [hver i]
      cases inp with
      | none => rfl
      | some p =>
        show 0 = (if i = 0 then (⟨0, true, p.1, p.2⟩ : ArrSt) else ⟨0, false, 0, []⟩).ver
        split <;> rfl
    · intro i hl
      cases inp with
      | none =>
        by_cases hi : i = 0
        · subst hi; exact hin
        · exact hA1 i hi
      | some p =>
        have hl' : (if i = 0 then (⟨0, true, p.1, p.2⟩ : ArrSt) else ⟨0, false, 0, []⟩).live = false := hl
        by_cases hi : i = 0
        · rw [if_pos hi] at hl'; cases hl'
        · exact hA1 i hi
    · intro i hl
      cases inp with
      | none => cases hl
      | some p =>
        have hl' : (if i = 0 then (⟨0, true, p.1, p.2⟩ : ArrSt) else ⟨0, false, 0, []⟩).live = true := hl
        by_cases hi : i = 0
        · subst hi
          exact hin
        · rw [if_neg hi] at hl'; cases hl'
    · intro i I g hI hg
      refine ⟨fun h => hbb g h ?_, fun j J hJ _ => by rw [hA0 i I hI, hA0 j J hJ]⟩
      have hi := hA0 i I hI
      subst hi
      simp [Ctx.blk, hI, hg]
    · intro i I g hI hg
      have hi := hA0 i I hI
      subst hi
      refine .inr ?_
      simp [Ctx.blk, hI, hg]
    · intro t
      simp only [startEnv]
      by_cases ht : t < args.length
      · have e1 : args.getD t .dead = args[t] := by simp [ht]
        have e2 : (vs ++ Array.replicate (fn.ntmps - vs.size) undef).getD t undef = vs[t] := by
          have : t < vs.size := by omega
          simp [Array.getElem?_append, this]
        rw [e1, e2]
        exact hvs.2 t _ _ (List.getElem?_eq_getElem ht) (by simp)
      · have e1 : args.getD t .dead = .dead := by simp [ht]
        rw [e1]
        exact .dead _
  refine calls_of_wp hf hb (wp_mono (acode_sound V (draw_sound V hm) c _ C C _ _ R (.of (Keeps.refl C)) (.of rfl) (WExt.refl _ _ _) h) ?_)
  rintro e a' w' ⟨D, st, rfl, hk, R', KT, hnT, W⟩
  have K := KT (by rw [hmd]; decide)
  have hn := hnT (by rw [hmd]; decide)
  have hk' : (e = .normal ∨ e = .ret) ∧ kEnd G fn.results.toList q out r st := by
    cases e with
    | normal => exact ⟨.inl rfl, hk⟩
    | ret => exact ⟨.inr rfl, hk⟩
    | _ => exact hk.elim
  obtain ⟨he, hres, hout⟩ := hk'
  obtain ⟨raw, hraw, rfl⟩ := Option.map_eq_some_iff.1 hres
  obtain ⟨v, hv, hrv⟩ := res_raw R' hraw
  have has : ∀ (vv : Nat) (e' : TypeId) (es' : List (List AV)), st.mem.arrs q = ⟨vv, true, e', es'⟩ → (∀ q ∈ es', ∀ c ∈ q, AV.Free (· = false) c) → HasArr G.P (D.told q) e' es' ∧ ∀ I g, (D.told q).A 0 = some I → I.val.ownBlock = some g → g ∈ C.blk ∨ C.w.heap.size ≤ g := by
    intro vv e' es' hq hfe'
    obtain ⟨I, xs, hI, y1, y2, y3, y4, y5, y6⟩ := R'.mem.arr q (by rw [hq])
    rw [hq] at y1 y3 y4 y5 y6
    refine ⟨⟨I, xs, by simp [Ctx.told, hI], y1, y2, y3, y4, y5, ?_⟩, ?_⟩
    · intro idx j s c x h1 h2 h3
      exact rv_back (y6 idx j s c x h1 h2 h3) (hfe' s (List.mem_of_getElem? h1) c (List.mem_of_getElem? h2)) rfl fun _ _ hn => told_N hn
    · intro J g hJ hg
      have hJ' : D.A q = some J := by simpa [Ctx.told] using hJ
      exact (R'.mem.lo q J g hJ' hg).symm
  have post : a'.defers = [] ∧ ∃ v, (results fn a'.tmps).run G.P D.w = .ok v D.w ∧ ∃ u C', Ending.returned v = .returned u ∧ C'.w = D.w ∧ (∀ col b, C.N0 col b → C'.N0 col b) ∧ (∀ b, b ∈ C.bx → b ∈ C'.bx) ∧ WExt C.w.heap.size C.blk C.w D.w ∧ C'.ver 0 = 0 ∧ RV C' (finO st.mem q raw) u ∧ OutOK G.P C C' out := by
    refine ⟨R'.defers, v, hv, v, D.told q, rfl, rfl, fun col b h => (show D.N0 col b by rw [hn]; exact h), fun b h => (show b ∈ D.bx by obtain ⟨k, hk, rfl⟩ := List.getElem_of_mem h; exact List.mem_of_getElem? (K.bx k _ (List.getElem?_eq_getElem hk))), W, rfl, finO_rv R'.mem hrv hr, ?_⟩
    cases out with
    | none => trivial
    | some o =>
      obtain ⟨s, e', es'⟩ := o
      cases s with
      | false =>
        obtain ⟨vv, hq⟩ := hout
        obtain ⟨k1, k2⟩ := has vv e' es' hq (hfe _ _ _ rfl)
        exact ⟨k1, k2, fun h => by cases h⟩
      | true =>
        obtain ⟨rfl, hq⟩ := hout
        obtain ⟨k1, k2⟩ := has 0 e' es' hq (hfe _ _ _ rfl)
        refine ⟨k1, k2, fun _ => ?_⟩
        obtain ⟨I, xs, hI, _⟩ := R'.mem.arr 0 (by rw [hq])
        obtain ⟨J, hJ, z1, z2, z3⟩ := K.A 0 I hI (by rw [R'.mem.ver 0, hq, hver 0])
        have := AInf.same z1 z2 z3
        subst this
        simp [Ctx.told, hI, hJ]
  rcases he with rfl | rfl
  · exact post
  · exact post

theorem own_of_code {G : Cfg} (V : G.Vers) (hm : G.P.follows .mixedOrders = true) {f : FuncId} {fn : Func} {c : Code} (hf : G.P.funcs[f]? = some fn) (hb : fn.body = some c) (hnm : fn.name ≠ "runtime.NumGoroutine") {args : List AV} (ha : args.length ≤ fn.ntmps)
    {inp : Option (TypeId × List (List AV))} {out : Option (Bool × TypeId × List (List AV))} {r : AV} (q : Nat) (hr : (strip r).Free (· = false)) (hfe : ∀ s e es, out = some (s, e, es) → ∀ q ∈ es, ∀ c ∈ q, AV.Free (· = false) c)
    (h : acode G fn.ntmps c (kResO G fn.results.toList q out r) ⟨envOf (zipEnv 0 args), ⟨[], inArrs inp⟩⟩) (hmd : G.md = 0 := by rfl) : OCall G.P f inp args out r :=
  own_of_codeB V hm hf hb hnm ha (bs := []) (fun _ _ => Nat.zero_le _) q hr hfe h hmd

/-! ### Functions that turn the caller's own memory -/

/-- What has to hold where such a function ends. -/
def kICE (G : Cfg) (rs : List ResultVar) (Q : AV → Mem → Prop) (st : St) : Prop := ∃ st2, LessS st st2 ∧ ∃ r, rawOf G rs st2 = some r ∧ Q r st2.mem
def kIC (G : Cfg) (rs : List ResultVar) (Q : AV → Mem → Prop) : Exit → St → Prop
  | .normal, st => kICE G rs Q st
  | .ret, st => kICE G rs Q st
  | _, _ => False
theorem kIC_st {G : Cfg} {rs : List ResultVar} {Q : AV → Mem → Prop} {e : Exit} {st st' : St} (h : st = st') : kIC G rs Q e st = kIC G rs Q e st' := by rw [h]
theorem kIC_normal {G : Cfg} {rs : List ResultVar} {Q : AV → Mem → Prop} {st : St} : kIC G rs Q .normal st = kICE G rs Q st := rfl
theorem kIC_ret {G : Cfg} {rs : List ResultVar} {Q : AV → Mem → Prop} {st : St} : kIC G rs Q .ret st = kICE G rs Q st := rfl
theorem kice {G : Cfg} {rs : List ResultVar} {Q : AV → Mem → Prop} {st : St} (r : AV) (h : rawOf G rs st = some r) (hq : Q r st.mem) : kICE G rs Q st := ⟨st, .refl st, r, h, hq⟩
/-- A result, if there is one. -/
def onRes (o : Option AV) (f : AV → Prop) : Prop := match o with
  | some r => f r
  | none => False
theorem onRes_c {o o' : Option AV} {f : AV → Prop} (h : o = o') : onRes o f = onRes o' f := by rw [h]
theorem onRes_some (r : AV) (f : AV → Prop) : onRes (some r) f = f r := rfl
theorem kice_x {G : Cfg} {rs : List ResultVar} {Q : AV → Mem → Prop} {st : St} (h : onRes (rawOf G rs st) fun r => Q r st.mem) : kICE G rs Q st := by
  cases hr : rawOf G rs st with
  | none => rw [hr] at h; exact h.elim
  | some r => rw [hr] at h; exact kice r hr h
theorem kice_g {G : Cfg} {rs : List ResultVar} {Q : AV → Mem → Prop} {st : St} (st2 : St) (hg : LessS st st2) (r : AV) (h : rawOf G rs st2 = some r) (hq : Q r st2.mem) : kICE G rs Q st := ⟨st2, hg, r, h, hq⟩

theorem icall_of_code {G : Cfg} (V : G.Vers) (hm : G.P.follows .mixedOrders = true) {f : FuncId} {fn : Func} {c : Code} (hf : G.P.funcs[f]? = some fn) (hb : fn.body = some c) (hnm : fn.name ≠ "runtime.NumGoroutine") {args : List AV} (ha : args.length ≤ fn.ntmps)
    (hG : G.IcOK) {m : Mem} {Q : AV → Mem → Prop} (h : acode G fn.ntmps c (kIC G fn.results.toList Q) ⟨envOf (zipEnv 0 args), m⟩) : ICall G.P m f args Q := by
  refine ⟨by simp [enters, hf, hb, hnm], ?_⟩
  intro base bx0 C vs M hvs
  have hlen : args.length = vs.size := by simpa using hvs.1
  have R : Rel G fn.ntmps base bx0 C ⟨envOf (zipEnv 0 args), m⟩ { tmps := vs ++ Array.replicate (fn.ntmps - vs.size) undef, defers := [] } := by
    rw [← startEnv_eq]
    refine ⟨M.swap (G := Gi G.P) (G' := G) rfl (icOK_Gi _) hG, ?_, by simp; omega, rfl⟩
    intro t
    simp only [startEnv]
    by_cases ht : t < args.length
    · have e1 : args.getD t .dead = args[t] := by simp [ht]
      have e2 : (vs ++ Array.replicate (fn.ntmps - vs.size) undef).getD t undef = vs[t] := by
        have : t < vs.size := by omega
        simp [Array.getElem?_append, this]
      rw [e1, e2]
      exact hvs.2 t _ _ (List.getElem?_eq_getElem ht) (by simp)
    · have e1 : args.getD t .dead = .dead := by simp [ht]
      rw [e1]
      exact .dead _
  refine calls_of_wp hf hb (wp_mono (acode_sound V (draw_sound V hm) c _ C C _ _ R (.of (Keeps.refl C)) (.of rfl) (WExt.refl _ _ _) h) ?_)
  rintro e a' w' ⟨D, st, rfl, hk, R', KT, hnT, W⟩
  have K := KT hG.one
  have hn := hnT hG.one
  have hk' : (e = .normal ∨ e = .ret) ∧ kICE G fn.results.toList Q st := by
    cases e with
    | normal => exact ⟨.inl rfl, hk⟩
    | ret => exact ⟨.inr rfl, hk⟩
    | _ => exact hk.elim
  obtain ⟨he, st2, hg, r, hr, hq⟩ := hk'
  obtain ⟨E, hw, R2, K2, hn2, W2⟩ := hg _ _ _ _ _ _ R'
  obtain ⟨v, hv, hrv⟩ := res_raw R2 hr
  rw [hw] at hv
  have W3 := W.trans W2
  rw [hw] at W3
  have post : a'.defers = [] ∧ ∃ v, (results fn a'.tmps).run G.P D.w = .ok v D.w ∧ ∃ u r m', Ending.returned v = .returned u ∧ Q r m' ∧ Nxt (Gi G.P) base bx0 C D.w m' fun D => RV D r u :=
    ⟨R2.defers, v, hv, v, r, st2.mem, rfl, hq, E, hw, hn2.trans hn, K.trans K2, R2.mem.swap (G := G) (G' := Gi G.P) rfl hG (icOK_Gi _), W3, hrv⟩
  rcases he with rfl | rfl
  · exact post
  · exact post

/-! ### The rules for calls -/

section
variable {P : Program} {own : Nat → Bool} {verT : TypeId → Bool} {wr : Nat → Bool} {md : Nat} {ic : Bool} {f : FuncId} {as les : List AV} {dst : Option Tmp} {L : St → Prop} {st : St}

/-- A call of a function that turns the caller's own memory. -/
theorem call_ic {m : Mem} {as' : List AV} {Q : AV → Mem → Prop} (hp : ICall P m f as' Q) (hm : st.mem = m) (ha : as = as') (hG : (⟨P, own, verT, wr, md⟩ : Cfg).IcOK) (h : ∀ r m', Q r m' → L (St.put ⟨st.env, m'⟩ dst r)) : onCall ⟨P, own, verT, wr, md⟩ true f as les dst L st :=
  ⟨fun _ => .inr ⟨rfl, hG, Q, by rw [hm, ha]; exact hp, h⟩⟩
/-- Handed the array at place i, hands one back. -/
theorem call_o (i v : Nat) (e : TypeId) (es : List (List AV)) (he : st.mem.arrs i = ⟨v, true, e, es⟩) {las : List AV} {e' : TypeId} {es' : List (List AV)} {r : AV} (hp : OCall P f (some (e, es)) las (some (false, e', es')) r) (ha : as.map (lendO st.mem i) = las)
    (hfree : ∀ a ∈ las, (strip a).Free (fun _ => True)) (hfe : ∀ q ∈ es, ∀ c ∈ q, AV.Free (fun _ => True) c)
    (h : L (St.put ⟨st.env, ⟨st.mem.boxes, fun j => if j = i then ⟨v + 1, true, e', es'⟩ else st.mem.arrs j⟩⟩ dst (ren i (v + 1) r))) : onCall ⟨P, own, verT, wr, md⟩ ic f as les dst L st := by
  refine ⟨fun _ => .inl ⟨_, _, CallStep.handed i (some (false, e', es')) r (by rw [he]) (by rw [he, ha]; exact hp) ?_ (by rw [he]; exact hfe) (by intro a b c; cases c), ?_⟩⟩
  · intro a hm
    exact hfree _ (ha ▸ List.mem_map.2 ⟨a, hm, rfl⟩)
  · simpa [Mem.handed, Mem.handedVer, he] using h
/-- The array at place i is written in place. -/
theorem call_s (i v : Nat) (e : TypeId) (es : List (List AV)) (he : st.mem.arrs i = ⟨v, true, e, es⟩) {las : List AV} {es' : List (List AV)} {r : AV} (hp : OCall P f (some (e, es)) las (some (true, e, es')) r) (ha : as.map (lendO st.mem i) = las)
    (hfree : ∀ a ∈ las, (strip a).Free (fun _ => True)) (hfe : ∀ q ∈ es, ∀ c ∈ q, AV.Free (fun _ => True) c)
    (h : L (St.put ⟨st.env, ⟨st.mem.boxes, fun j => if j = i then ⟨v, true, e, es'⟩ else st.mem.arrs j⟩⟩ dst (ren i v r))) : onCall ⟨P, own, verT, wr, md⟩ ic f as les dst L st := by
  refine ⟨fun _ => .inl ⟨_, _, CallStep.handed i (some (true, e, es')) r (by rw [he]) (by rw [he, ha]; exact hp) ?_ (by rw [he]; exact hfe) (by intro a b c; cases c; rw [he]), ?_⟩⟩
  · intro a hm
    exact hfree _ (ha ▸ List.mem_map.2 ⟨a, hm, rfl⟩)
  · simpa [Mem.handed, Mem.handedVer, he] using h
/-- The array at place i is handed on for good. -/
theorem call_d (i v : Nat) (e : TypeId) (es : List (List AV)) (he : st.mem.arrs i = ⟨v, true, e, es⟩) {las : List AV} {r : AV} (hp : OCall P f (some (e, es)) las none r) (ha : as.map (lendO st.mem i) = las)
    (hfree : ∀ a ∈ las, (strip a).Free (fun _ => True)) (hfe : ∀ q ∈ es, ∀ c ∈ q, AV.Free (fun _ => True) c)
    (h : L (St.put ⟨st.env, ⟨st.mem.boxes, fun j => if j = i then ⟨v, false, e, es⟩ else st.mem.arrs j⟩⟩ dst (ren i v r))) : onCall ⟨P, own, verT, wr, md⟩ ic f as les dst L st := by
  refine ⟨fun _ => .inl ⟨_, _, CallStep.handed i none r (by rw [he]) (by rw [he, ha]; exact hp) ?_ (by rw [he]; exact hfe) (by intro a b c; cases c), ?_⟩⟩
  · intro a hm
    exact hfree _ (ha ▸ List.mem_map.2 ⟨a, hm, rfl⟩)
  · simpa [Mem.handed, Mem.handedVer, he] using h
/-- The same, the boxes lent. -/
theorem call_ob (i v : Nat) (e : TypeId) (es : List (List AV)) (he : st.mem.arrs i = ⟨v, true, e, es⟩) {las : List AV} {bs : List (List AV)} {e' : TypeId} {es' : List (List AV)} {r : AV} (hp : OCallB P f bs (some (e, es)) las (some (false, e', es')) r) (hbs : lentBoxesO st.mem (some i) = bs) (ha : as.map (lendO st.mem i) = las)
    (hfree : ∀ a ∈ las, (strip a).closed) (hcb : ∀ cs ∈ bs, ∀ c ∈ cs, c.closed) (hfe : ∀ q ∈ es, ∀ c ∈ q, AV.closed c)
    (h : L (St.put ⟨st.env, ⟨st.mem.boxes, fun j => if j = i then ⟨v + 1, true, e', es'⟩ else st.mem.arrs j⟩⟩ dst (ren i (v + 1) r))) : onCall ⟨P, own, verT, wr, md⟩ ic f as les dst L st := by
  refine ⟨fun _ => .inl ⟨_, _, CallStep.handedB i (some (false, e', es')) r (by rw [he]) (by rw [he, ha, hbs]; exact hp) ?_ (by rw [hbs]; exact hcb) (by rw [he]; exact hfe) (by intro a b c; cases c), ?_⟩⟩
  · intro a hm
    exact hfree _ (ha ▸ List.mem_map.2 ⟨a, hm, rfl⟩)
  · simpa [Mem.handed, Mem.handedVer, he] using h
theorem call_nb (d : Nat) {e : TypeId} {es : List (List AV)} {r : AV} {bs : List (List AV)} (hp : OCallB P f bs none les (some (false, e, es)) r) (hbs : lentBoxesO st.mem none = bs) (hfree : ∀ a ∈ les, a.closed) (hcb : ∀ cs ∈ bs, ∀ c ∈ cs, c.closed)
    (h : L (St.put ⟨st.env, ⟨st.mem.boxes, fun j => if j = d then ⟨(st.mem.arrs d).ver + 1, true, e, es⟩ else st.mem.arrs j⟩⟩ dst (ren d ((st.mem.arrs d).ver + 1) r))) : onCall ⟨P, own, verT, wr, md⟩ ic f as les dst L st := by
  refine ⟨?_⟩
  rintro rfl
  refine .inl ⟨_, _, CallStep.madeB d e es r (by rw [hbs]; exact hp) (fun a hm => hfree _ (List.mem_map.2 ⟨a, hm, rfl⟩)) (by rw [hbs]; exact hcb), ?_⟩
  simpa [Mem.made] using h
/-- A new array is handed back: it is at place d from now on. -/
theorem call_n (d : Nat) {e : TypeId} {es : List (List AV)} {r : AV} (hp : OCall P f none les (some (false, e, es)) r) (hfree : ∀ a ∈ les, a.Free (fun _ => True))
    (h : L (St.put ⟨st.env, ⟨st.mem.boxes, fun j => if j = d then ⟨(st.mem.arrs d).ver + 1, true, e, es⟩ else st.mem.arrs j⟩⟩ dst (ren d ((st.mem.arrs d).ver + 1) r))) : onCall ⟨P, own, verT, wr, md⟩ ic f as les dst L st := by
  refine ⟨?_⟩
  rintro rfl
  refine .inl ⟨_, _, CallStep.made d e es r hp fun a hm => hfree _ (List.mem_map.2 ⟨a, hm, rfl⟩), ?_⟩
  simpa [Mem.made] using h
theorem call_pN {r : AV} {ns : List AV} (hp : Pure P f ns r) (hns : as.map (lendN st.mem) = ns) (hfree : ∀ a ∈ les, a.Free (fun _ => True)) (h : L (st.put dst r)) : onCall ⟨P, own, verT, wr, md⟩ ic f as les dst L st := by
  refine ⟨?_⟩
  rintro rfl
  exact .inl ⟨_, _, CallStep.pureN r (by rw [hns]; exact hp) (fun a hm => hfree _ (List.mem_map.2 ⟨a, hm, rfl⟩)), h⟩
theorem call_bN {r : AV} {ns : List AV} {bs : List (List AV)} (hp : BCall P f ns bs r) (hns : as.map (lendN st.mem) = ns) (hb : lentBoxes st.mem = bs) (h : L (st.put dst r)) : onCall ⟨P, own, verT, wr, md⟩ ic f as les dst L st := by
  refine ⟨?_⟩
  rintro rfl
  exact .inl ⟨_, _, CallStep.boxesN r (by rw [hns, hb]; exact hp), h⟩
/-- The same, where nil is handed on as nil. -/
theorem call_nN (d : Nat) {e : TypeId} {es : List (List AV)} {r : AV} {ns : List AV} (hp : OCall P f none ns (some (false, e, es)) r) (hns : as.map (lendN st.mem) = ns) (hfree : ∀ a ∈ les, a.Free (fun _ => True))
    (h : L (St.put ⟨st.env, ⟨st.mem.boxes, fun j => if j = d then ⟨(st.mem.arrs d).ver + 1, true, e, es⟩ else st.mem.arrs j⟩⟩ dst (ren d ((st.mem.arrs d).ver + 1) r))) : onCall ⟨P, own, verT, wr, md⟩ ic f as les dst L st := by
  refine ⟨?_⟩
  rintro rfl
  refine .inl ⟨_, _, CallStep.madeN d e es r (by rw [hns]; exact hp) fun a hm => hfree _ (List.mem_map.2 ⟨a, hm, rfl⟩), ?_⟩
  simpa [Mem.made] using h
end

/-! ### Regions in which a new variable is laid at any time -/

section
variable {G : Cfg} {nt : Nat} {st : St} {ops : Array Oper} {L : St → Prop} {dst : Option Tmp} {ty : TypeId} {pos : String} {aft : Array Edge}

def onAlloc (o : Option (Tmp × TypeId)) (K : Tmp → TypeId → Prop) : Prop := match o with
  | some (d, t) => K d t
  | none => False
def onZer (o : Option (List AV)) (K : List AV → Prop) : Prop := match o with
  | some z => K z
  | none => False
theorem onAlloc_some (d : Tmp) (t : TypeId) (K : Tmp → TypeId → Prop) : onAlloc (some (d, t)) K = K d t := rfl
theorem onZer_some (z : List AV) (K : List AV → Prop) : onZer (some z) K = K z := rfl
theorem adraw_f (a : Nat) {l : List Oper} (hok : ((allocAt l.toArray a).isSome && drawF l.toArray a ((idx l 0).take a) ((idx l 0).drop (a + 1))) = true)
    (h2 : onAlloc (allocAt l.toArray a) fun d t => d < nt ∧ G.zerOK t = true ∧ onZer (G.zer t) fun zs =>
      apreF G nt l.toArray ((idx l 0).take a) (fun st1 => asuf G nt l.toArray ((idx l 0).drop (a + 1)) L ⟨fun u => if u = d then .box st.mem.boxes.length 0 else st1.env u, ⟨st.mem.boxes ++ [zs], st.mem.arrs⟩⟩) st) : adraw G nt l.toArray L st := by
  simp only [Bool.and_eq_true] at hok
  cases hal : allocAt l.toArray a with
  | none => rw [hal] at hok; cases hok.1
  | some q =>
    obtain ⟨d, t⟩ := q
    rw [hal] at h2
    obtain ⟨hd, hz, h3⟩ := h2
    cases hzs : G.zer t with
    | none => rw [hzs] at h3; exact h3.elim
    | some zs =>
      rw [hzs] at h3
      exact .inr (.inl ⟨a, _, _, d, t, zs, hok.2, hal, hd, hz, hzs, h3⟩)
/-- A region in which the operations of a chain turn the memory: told with what each yields, and the memories; rg: for each operation how many of the chain are done before it at least, and at most. -/
theorem adraw_r (nums ch : List Nat) (rg : List (Nat × Nat)) (ms : List Mem) (xs : List AV) {l : List Oper} (hok : (drawOK l.toArray nums [] && pairsB (fun i j => ((clos l.toArray l.toArray.size).getD j []).contains i) ch && ch.all (fun i => nums.contains i) && nodupB ch && rgOK l.toArray ch nums rg) = true) (h1 : ms.length = ch.length + 1) (h2 : ms[0]? = some st.mem)
    (h : tellG G nt l.toArray ms ch rg nums xs st.env fun e => ∀ m, ms[ch.length]? = some m → L ⟨e, m⟩) : adraw G nt l.toArray L st := .inr (.inr (.inl ⟨nums, ch, rg, ms, xs, hok, h1, h2, h⟩))
theorem adraw_g (nums ch : List Nat) (ms : List Mem) (xs : List AV) {l : List Oper} (hok : (drawOK l.toArray nums [] && pairsB (fun i j => ((clos l.toArray l.toArray.size).getD j []).contains i) ch && ch.all (fun i => nums.contains i) && nodupB ch && rgOK l.toArray ch nums []) = true) (h1 : ms.length = ch.length + 1) (h2 : ms[0]? = some st.mem)
    (h : tellG G nt l.toArray ms ch [] nums xs st.env fun e => ∀ m, ms[ch.length]? = some m → L ⟨e, m⟩) : adraw G nt l.toArray L st := .inr (.inr (.inl ⟨nums, ch, [], ms, xs, hok, h1, h2, h⟩))
/-- One after the other: what yields the same anywhere, then what turns the memory, then the rest. -/
theorem adraw_i (pre ch suf : List Nat) (MM : Mem → Prop) (xs : List AV) {l : List Oper} (hok : drawIOK l.toArray pre ch suf = true) (h0 : MM st.mem)
    (h : apreM G nt l.toArray MM pre xs st.env fun e => achM G nt l.toArray MM ch (asuf G nt l.toArray suf L) ⟨e, st.mem⟩) : adraw G nt l.toArray L st := .inr (.inr (.inr ⟨pre, ch, suf, MM, xs, hok, h0, h⟩))
/-- One operation of the first kind. -/
def onTellM (G : Cfg) (nt : Nat) (MM : Mem → Prop) (o : Option Oper) (x : AV) (e : Nat → AV) (P : Prop) : Prop := match o with
  | some o => (o.guard = none ∧ dstOK nt o.dst = true) ∧ (∀ m, MM m → yieldsTo G o x e m m) ∧ P
  | none => False
theorem onTellM_c {MM : Mem → Prop} {o o' : Option Oper} {x : AV} {e : Nat → AV} {P : Prop} (h : o = o') : onTellM G nt MM o x e P = onTellM G nt MM o' x e P := by rw [h]
theorem apreM_nil {ops : Array Oper} {MM : Mem → Prop} {xs : List AV} {e : Nat → AV} {K : (Nat → AV) → Prop} : apreM G nt ops MM [] xs e K = K e := by cases xs <;> rfl
theorem apreM_cons {ops : Array Oper} {MM : Mem → Prop} {i : Nat} {l : List Nat} {x : AV} {xs : List AV} {e : Nat → AV} {K : (Nat → AV) → Prop} : apreM G nt ops MM (i :: l) (x :: xs) e K = onTellM G nt MM ops[i]? x e (apreM G nt ops MM l xs (St.put ⟨e, ⟨[], fun _ => ⟨0, false, 0, []⟩⟩⟩ ((ops[i]?).bind (·.dst)) x).env K) := by
  simp only [apreM, onTellM]
  cases ops[i]? <;> rfl
/-- One operation of the chain. -/
def onChM (G : Cfg) (nt : Nat) (MM : Mem → Prop) (o : Option Oper) (L : St → Prop) (st : St) : Prop := match o with
  | some o => (o.guard = none ∧ dstOK nt o.dst = true) ∧ aop G true o (fun s => MM s.mem ∧ L s) st
  | none => False
theorem onChM_c {MM : Mem → Prop} {o o' : Option Oper} (h : o = o') : onChM G nt MM o L st = onChM G nt MM o' L st := by rw [h]
theorem achM_nil {ops : Array Oper} {MM : Mem → Prop} : achM G nt ops MM [] L st = L st := rfl
theorem achM_cons {ops : Array Oper} {MM : Mem → Prop} {i : Nat} {l : List Nat} : achM G nt ops MM (i :: l) L st = onChM G nt MM ops[i]? (achM G nt ops MM l L) st := by
  simp only [achM, onChM]
  cases ops[i]? <;> rfl
theorem achM_st {ops : Array Oper} {MM : Mem → Prop} {l : List Nat} {st' : St} (h : st = st') : achM G nt ops MM l L st = achM G nt ops MM l L st' := by rw [h]
theorem tellG_nil {ms : List Mem} {ch : List Nat} {rg : List (Nat × Nat)} {xs : List AV} {e : Nat → AV} {K : (Nat → AV) → Prop} : tellG G nt ops ms ch rg [] xs e K = K e := rfl
def onTell (G : Cfg) (nt : Nat) (o : Option Oper) (c : Bool) (a b : Option Mem) (ms : List Mem) (x : AV) (e : Nat → AV) (K : Option Tmp → Prop) : Prop := match o with
  | none => False
  | some o => (o.guard = none ∧ dstOK nt o.dst = true) ∧ (if c = true then (match a, b with | some m, some m' => yieldsTo G o x e m m' | _, _ => False) else ∀ m ∈ ms, yieldsTo G o x e m m) ∧ K o.dst
theorem tellG_cons {ms : List Mem} {ch : List Nat} {rg : List (Nat × Nat)} {i : Nat} {nums : List Nat} {x : AV} {xs : List AV} {e : Nat → AV} {K : (Nat → AV) → Prop} :
    tellG G nt ops ms ch rg (i :: nums) (x :: xs) e K = onTell G nt ops[i]? (ch.contains i) ms[ch.idxOf i]? ms[ch.idxOf i + 1]? ((ms.take ((rg.getD i (0, ch.length)).2 + 1)).drop (rg.getD i (0, ch.length)).1) x e fun d => tellG G nt ops ms ch rg nums xs (St.put ⟨e, ⟨[], fun _ => ⟨0, false, 0, []⟩⟩⟩ d x).env K := by
  simp only [tellG, onTell]
  cases ops[i]? <;> rfl
structure onCallF (G : Cfg) (f : FuncId) (xs les : List AV) (dst : Option Tmp) (L : St → Prop) (st : St) : Prop where
  out : les = xs.map (lend st.mem) → ∃ r, Pure G.P f les r ∧ (∀ a ∈ les, a.Free fun _ => True) ∧ L (st.put dst r)
theorem onCallF_c {f : FuncId} {xs xs' les les' : List AV} (h : xs = xs') (h' : les = les') : onCallF G f xs les dst L st = onCallF G f xs' les' dst L st := by rw [h, h']
def onOpF (G : Cfg) (nt : Nat) (o : Option Oper) (L : St → Prop) (st : St) : Prop := match o with
  | some o => o.guard = none ∧ dstOK nt o.dst = true ∧ aopF G o L st
  | none => False
theorem onOpF_c {o o' : Option Oper} (h : o = o') : onOpF G nt o L st = onOpF G nt o' L st := by rw [h]
theorem apreF_st {l : List Nat} {st' : St} (h : st = st') : apreF G nt ops l L st = apreF G nt ops l L st' := by rw [h]
theorem apreF_nil : apreF G nt ops [] L st = L st := rfl
theorem apreF_cons (i : Nat) (l : List Nat) : apreF G nt ops (i :: l) L st = onOpF G nt ops[i]? (apreF G nt ops l L) st := by
  simp only [apreF, onOpF]
  cases ops[i]? <;> rfl
theorem onOpF_move (x : Operand) : onOpF G nt (some ⟨dst, .move x, ty, pos, aft, none⟩) L st = (dstOK nt dst = true ∧ L (st.put dst (st.ev x))) := by simp [onOpF, aopF]
theorem onOpF_load (t : TypeId) (p : Operand) : onOpF G nt (some ⟨dst, .load t p, ty, pos, aft, none⟩) L st = (dstOK nt dst = true ∧ onVal ((st.mem.cellsAt (st.ev p)).bind (G.loadOf t)) dst L st) := by
  simp only [onOpF, aopF, onVal, true_and]
  cases (st.mem.cellsAt (st.ev p)).bind (G.loadOf t) <;> rfl
theorem onOpF_call (f : FuncId) (args : Array Operand) (tys : Array TypeId) : onOpF G nt (some ⟨dst, .call ⟨.value (.func f), args, tys⟩, ty, pos, aft, none⟩) L st =
    (dstOK nt dst = true ∧ onCallF G f (args.toList.map st.ev) ((args.toList.map st.ev).map (lend st.mem)) dst L st) := by
  have e : onCallF G f (args.toList.map st.ev) ((args.toList.map st.ev).map (lend st.mem)) dst L st = ∃ r, Pure G.P f ((args.toList.map st.ev).map (lend st.mem)) r ∧ (∀ a ∈ args.toList.map st.ev, (lend st.mem a).Free fun _ => True) ∧ L (st.put dst r) :=
    propext ⟨fun h => by
      obtain ⟨r, h1, h2, h3⟩ := h.out rfl
      exact ⟨r, h1, fun a ha => h2 _ (List.mem_map.2 ⟨a, ha, rfl⟩), h3⟩, fun ⟨r, h1, h2, h3⟩ => ⟨fun _ => ⟨r, h1, fun a ha => by
      obtain ⟨b, hb, rfl⟩ := List.mem_map.1 ha
      exact h2 b hb, h3⟩⟩⟩
  rw [e]
  simp only [onOpF, aopF, true_and]
theorem call_f {P : Program} {own : Nat → Bool} {verT : TypeId → Bool} {wr : Nat → Bool} {md : Nat} {f : FuncId} {xs les : List AV} {r : AV} (hp : Pure P f les r) (hf : ∀ a ∈ les, a.Free (fun _ => True)) (h : L (st.put dst r)) : onCallF ⟨P, own, verT, wr, md⟩ f xs les dst L st :=
  ⟨fun _ => ⟨r, hp, hf, h⟩⟩
end

attribute [congr] onRes_c onTellM_c onChM_c achM_st kIC_st kResO_st onCallF_c onOpF_c apreF_st
attribute [simp] allocAt onAlloc_some onZer_some apreF_nil apreF_cons onOpF_move onOpF_load onOpF_call
attribute [simp] onRes_some onTellM onChM apreM_nil apreM_cons achM_nil achM_cons kIC_normal kIC_ret kResO_normal kResO_ret kEnd rawOf resVar finO finO1 ren ren1 strip strip1 lendO lendO1

end Go.Proofs.YtokhnmchnfkiiaaDoor.Am

/- The abstract machine: a law's function, and functions that write into what it made, from their code. No conditions. -/
namespace Go.Proofs.YtokhnmchnfkiiaaDoor.Am
open Go Go.RowKit
set_option linter.unusedSimpArgs false
set_option linter.unusedVariables false

/-- A function that writes into the wild region, from its code. -/
theorem mcall_of_code {G : Cfg} (V : G.Vers) (hm : G.P.follows .mixedOrders = true) {f : FuncId} {fn : Func} {c : Code} (hf : G.P.funcs[f]? = some fn) (hb : fn.body = some c) (hnm : fn.name ≠ "runtime.NumGoroutine") {args : List AV} (ha : args.length ≤ fn.ntmps)
    {x : Value} (h : ∀ ver, acode G fn.ntmps c (kRes G fn.results.toList (.v x)) ⟨envOf (zipEnv 0 args), ⟨[], noArrs ver⟩⟩) (hmd : G.md = 2 := by rfl) : MCall G.P f args x := by
  refine ⟨by simp [enters, hf, hb, hnm], ?_⟩
  intro C vs hbx hA hN0 hW hG hvs
  have hlen : args.length = vs.size := by simpa using hvs.1
  classical
  obtain ⟨bx0, hbx0⟩ : ∃ bx0 : List Nat, ∀ b, b ∈ bx0 ↔ (b < C.w.heap.size ∧ C.W b) := ⟨(List.range C.w.heap.size).filter fun b => decide (C.W b), fun b => by simp⟩
  have R : Rel G fn.ntmps C.w.heap.size bx0 C ⟨envOf (zipEnv 0 args), ⟨[], noArrs C.ver⟩⟩ { tmps := vs ++ Array.replicate (fn.ntmps - vs.size) undef, defers := [] } := by
    rw [← startEnv_eq]
    refine ⟨⟨by simp [hbx], by rw [hbx]; exact List.nodup_nil, ?_, Nat.le_refl _, fun b h => (by rw [hN0] at h; exact h.elim), ?_, fun _ => rfl, fun i _ => hA i, fun i hl => (by cases hl), fun i I g hI => (by rw [hA i] at hI; cases hI), fun i I g hI => (by rw [hA i] at hI; cases hI),
      ⟨hW, fun b _ h => (by rw [hbx] at h; cases h), fun b i I _ hI => (by rw [hA i] at hI; cases hI), fun _ b hw => .inr ((hbx0 b).2 ⟨(hW b hw).lt, hw⟩)⟩, fun e => (by rw [hmd] at e; cases e), hG⟩, ?_, by simp; omega, rfl⟩
    · intro k b hk; rw [hbx] at hk; simp at hk
    · intro k b cs hk; rw [hbx] at hk; simp at hk
    · intro t
      simp only [startEnv]
      by_cases ht : t < args.length
      · have e1 : args.getD t .dead = args[t] := by simp [ht]
        have e2 : (vs ++ Array.replicate (fn.ntmps - vs.size) undef).getD t undef = vs[t] := by
          have : t < vs.size := by omega
          simp [Array.getElem?_append, this]
        rw [e1, e2]
        exact hvs.2 t _ _ (List.getElem?_eq_getElem ht) (by simp)
      · have e1 : args.getD t .dead = .dead := by simp [ht]
        rw [e1]
        exact .dead _
  refine calls_of_wp hf hb (wp_mono (acode_sound V (draw_sound V hm) c _ C C _ _ R (.of (Keeps.refl C)) (.of rfl) (WExt.refl _ _ _) (h C.ver)) ?_)
  rintro e a' w' ⟨D, st, rfl, hk, R', KT, hn, W⟩
  have K := KT (by rw [hmd]; decide)
  have hk' : (e = .normal ∨ e = .ret) ∧ resOf G fn.results.toList st = some (.v x) := by
    cases e with
    | normal => exact ⟨.inl rfl, hk⟩
    | ret => exact ⟨.inr rfl, hk⟩
    | _ => exact hk.elim
  obtain ⟨he, hres⟩ := hk'
  obtain ⟨v, hv, hr⟩ := res_sound R' hres
  have hvx := rv_v hr
  subst hvx
  have post : a'.defers = [] ∧ ∃ u, (results fn a'.tmps).run G.P D.w = .ok u D.w ∧ Ending.returned u = .returned v ∧ WildExt C D.w := by
    refine ⟨R'.defers, v, hv, rfl, W.os, W.tape, W.output, W.size, fun k hk hw => W.block k hk fun hm => hw ((hbx0 k).1 hm).2, fun k hw => ⟨K.wild k (hW k hw).lt hw, R'.mem.wild.soft k (by rw [K.W]; exact hw)⟩⟩
  rcases he with rfl | rfl
  · exact post
  · exact post

/-- A law's function, from its code. -/
theorem top_of_code {G : Cfg} (V : G.Vers) (hm : G.P.follows .mixedOrders = true) {f : FuncId} {fn : Func} {c : Code} (hf : G.P.funcs[f]? = some fn) (hb : fn.body = some c) (hnm : fn.name ≠ "runtime.NumGoroutine") {args : List AV} (ha : args.length ≤ fn.ntmps)
    {x : Value} (hfree : ∀ a ∈ args, a.Free (· = true)) (h : ∀ ver, acode G fn.ntmps c (kRes G fn.results.toList (.v x)) ⟨envOf (zipEnv 0 args), ⟨[], noArrs ver⟩⟩) (hmd : G.md = 1 := by rfl) : Pure G.P f args (.v x) := by
  refine ⟨by simp [enters, hf, hb, hnm], .v _, ?_⟩
  intro C0 vs hA0 hB0 hW0 hN0 hvs0
  have hbx0 : C0.bx = [] := List.eq_nil_of_length_eq_zero hB0.len
  obtain ⟨C, hCw, hCN, hbx, hCW, hA⟩ : ∃ C : Ctx, C.w = C0.w ∧ (C.N0 = fun col b => (col = true ∧ C0.w.heap.size ≤ b) ∨ (col = false ∧ b < C0.w.heap.size)) ∧ C.bx = [] ∧ (∀ b, ¬ C.W b) ∧ (∀ i, C.A i = none) :=
    ⟨{ w := C0.w, N0 := fun col b => (col = true ∧ C0.w.heap.size ≤ b) ∨ (col = false ∧ b < C0.w.heap.size), bx := [], W := fun _ => False, ver := fun _ => 0, A := fun _ => none }, rfl, rfl, rfl, fun _ h => h, fun _ => rfl⟩
  have hvs : RVs C args vs.toList := by
    refine ⟨hvs0.1, fun j c y h1 h2 => ?_⟩
    refine rv_move (hvs0.2 j c y h1 h2) (hfree c (List.mem_of_getElem? h1)) hCw ?_
    rintro col b rfl hb0 _ ((h | h) | h | ⟨i, I, h, _⟩)
    · rw [hCN] at h
      rcases h with ⟨_, h⟩ | ⟨h, _⟩
      · omega
      · cases h
    · exact hCW b h
    · rw [hbx] at h; cases h
    · rw [hA i] at h; cases h
  have hlen : args.length = vs.size := by simpa using hvs.1
  have hGl : GlobOK C := hB0.glob.same hCw fun b hb _ h => by
    rcases h with (h | h) | h | ⟨i, I, h, _⟩
    · rw [hCN] at h
      rcases h with ⟨_, h⟩ | ⟨h, _⟩
      · omega
      · cases h
    · exact hCW b h
    · rw [hbx] at h; cases h
    · rw [hA i] at h; cases h
  have R : Rel G fn.ntmps C.w.heap.size [] C ⟨envOf (zipEnv 0 args), ⟨[], noArrs C.ver⟩⟩ { tmps := vs ++ Array.replicate (fn.ntmps - vs.size) undef, defers := [] } := by
    rw [← startEnv_eq]
    refine ⟨⟨by simp [hbx], by rw [hbx]; exact List.nodup_nil, ?_, Nat.le_refl _, ?_, ?_, fun _ => rfl, fun i _ => hA i, fun i hl => (by cases hl), fun i I g hI => (by rw [hA i] at hI; cases hI), fun i I g hI => (by rw [hA i] at hI; cases hI),
      ⟨fun b h => (hCW b h).elim, fun b h => (hCW b h).elim, fun b _ _ h => (hCW b h).elim, fun _ b h => (hCW b h).elim⟩, fun _ => ⟨C.w.heap.size, Nat.le_refl _, ?_, ?_, rfl, fun b h => (hCW b h).elim⟩, hGl⟩, ?_, by simp; omega, rfl⟩
    · intro k b hk; rw [hbx] at hk; simp at hk
    · intro b h
      rw [hCN] at h
      rcases h with ⟨h, _⟩ | ⟨_, h⟩
      · cases h
      · exact ⟨by rw [hCw]; exact h, fun i I hI => (by rw [hA i] at hI; cases hI)⟩
    · intro k b cs hk; rw [hbx] at hk; simp at hk
    · intro b; rw [hCN, hCw]; simp
    · intro b; rw [hCN, hCw]; simp
    · intro t
      simp only [startEnv]
      by_cases ht : t < args.length
      · have e1 : args.getD t .dead = args[t] := by simp [ht]
        have e2 : (vs ++ Array.replicate (fn.ntmps - vs.size) undef).getD t undef = vs[t] := by
          have : t < vs.size := by omega
          simp [Array.getElem?_append, this]
        rw [e1, e2]
        exact hvs.2 t _ _ (List.getElem?_eq_getElem ht) (by simp)
      · have e1 : args.getD t .dead = .dead := by simp [ht]
        rw [e1]
        exact .dead _
  rw [← hCw]
  refine calls_of_wp hf hb (wp_mono (acode_sound V (draw_sound V hm) c _ C C _ _ R (.of (Keeps.refl C)) (.of rfl) (WExt.refl _ _ _) (h C.ver)) ?_)
  rintro e a' w' ⟨D, st, rfl, hk, R', KT, hn, W⟩
  have hk' : (e = .normal ∨ e = .ret) ∧ resOf G fn.results.toList st = some (.v x) := by
    cases e with
    | normal => exact ⟨.inl rfl, hk⟩
    | ret => exact ⟨.inr rfl, hk⟩
    | _ => exact hk.elim
  obtain ⟨he, hres⟩ := hk'
  obtain ⟨v, hv, hr⟩ := res_sound R' hres
  have hvx := rv_v hr
  subst hvx
  have hold : ∀ k, k < C0.w.heap.size → D.w.heap[k]? = C0.w.heap[k]? := fun k hk => by rw [← hCw]; exact W.block k (by rw [hCw]; exact hk) (by simp)
  have post : a'.defers = [] ∧ ∃ u, (results fn a'.tmps).run G.P D.w = .ok u D.w ∧ ∃ z C', Ending.returned u = .returned z ∧ C'.w = D.w ∧ C'.N0 = C0.N0 ∧ Keeps C0 C' ∧ (∀ i, C'.A i = none) ∧ (∃ bs', True ∧ BoxOK C' bs') ∧
      WExt C.w.heap.size ((List.range C0.bx.length).filterMap fun k => if (fun _ : Nat => false) k then C0.bx[k]? else none) C.w D.w ∧ RV C' (.v v) z := by
    have Kt : Keeps C0 { C0 with w := D.w } := ⟨by rw [← hCw]; exact W.size, fun _ _ _ h => h, fun b hb _ => hold b hb, fun _ _ h => h, fun _ => Nat.le_refl _, fun _ I h _ => ⟨I, h, rfl, rfl, rfl⟩, rfl, fun b hb _ => .of_block (hold b hb)⟩
    refine ⟨R'.defers, v, hv, v, { C0 with w := D.w }, rfl, rfl, rfl, Kt, hA0, ⟨[], trivial, ⟨by rw [hbx0]; rfl, by rw [hbx0]; exact List.nodup_nil, fun b h => (by rw [hbx0] at h; cases h), fun k b cs h => (by rw [hbx0] at h; simp at h), hB0.glob.keep Kt⟩⟩, ?_, .v v⟩
    rw [wr_none]
    exact W
  rcases he with rfl | rfl
  · exact post
  · exact post

/-- The array that is handed back, as a plain function hands it back: read alone. -/
def sealR1 (es : List (List AV)) : AV → AV
  | .arr 0 0 0 n => if n = es.length then .sl false es else .dead
  | .arr _ _ _ _ => .dead
  | a => a
def sealR (es : List (List AV)) : AV → AV
  | .agg cs => .agg (cs.map (sealR1 es))
  | .tup cs => .tup (cs.map (sealR1 es))
  | a => sealR1 es a

theorem OCall.pure {P : Program} {f : FuncId} {args : List AV} {e : TypeId} {es : List (List AV)} {r : AV} (hp : OCall P f none args (some (false, e, es)) r) (hfree : ∀ a ∈ args, a.Free (fun _ => True)) (hr : (sealR es r).Free (· = false)) : Pure P f args (sealR es r) := by
  obtain ⟨hen, hf, hfe, hc⟩ := hp
  refine ⟨hen, hr, ?_⟩
  intro C vs hA hB hW hN hvs
  have hbx : C.bx = [] := List.eq_nil_of_length_eq_zero hB.len
  have hlt : ∀ b, C.N false b → b < C.w.heap.size := by
    rintro b ((h | h) | h | ⟨i, I, h, _⟩)
    · exact hN b h
    · exact (hW b h).1.lt
    · rw [hbx] at h; cases h
    · rw [hA i] at h; cases h
  refine (hc { w := C.w, N0 := fun col b => col = false ∧ C.N false b, bx := [], W := fun _ => False, ver := fun _ => 0, A := fun _ => none } vs ⟨rfl, List.nodup_nil, fun b h => (by cases h), fun k b cs h => (by simp at h), hB.glob.same rfl fun b _ _ h => by
    rcases h with (⟨h, _⟩ | h) | h | ⟨_, _, h, _⟩
    · cases h
    · exact h
    · cases h
    · cases h⟩ (fun _ => rfl) (fun _ _ => rfl) rfl (fun _ h => h) (fun b h => by cases h) (fun b h => ⟨hlt b h.2, by simp [Ctx.blk]⟩) ?_).mono ?_
  · refine ⟨hvs.1, fun j c y h1 h2 => rv_move (hvs.2 j c y h1 h2) (hfree c (List.mem_of_getElem? h1)) rfl ?_⟩
    rintro col b _ _ hn ((⟨rfl, h⟩ | h) | h | ⟨_, _, h, _⟩)
    · exact hn h
    · cases h
    · cases h
    · cases h
  · rintro en w' ⟨v, C', rfl, hw, hn, _, W, hv0, hrv, ⟨I, xs, hI, hz, hpos, hlen, hes, ho, hcon⟩, hblk, _⟩
    have hb0 : ∀ D : Ctx, D.A 0 = none → D.blk = [] := fun D h => by simp [Ctx.blk, h]
    rw [hb0 _ rfl] at W hblk
    have K : Keeps C { C with w := w' } := ⟨W.size, fun _ _ _ h => h, fun b hb _ => W.block b hb (by simp), fun _ _ h => h, fun _ => Nat.le_refl _, fun _ I h _ => ⟨I, h, rfl, rfl, rfl⟩, rfl, fun b hb _ => .of_block (W.block b hb (by simp))⟩
    have hNN : ∀ b, b < C'.w.heap.size → ¬ C'.N false b → ¬ Ctx.N { C with w := w' } false b := fun b _ h h2 => h (.inl (.inl (hn _ _ ⟨rfl, h2⟩)))
    have hseal1 : ∀ (a : AV) (y : Value), RV C' a y → (sealR1 es a).Free (· = false) → RV { C with w := w' } (sealR1 es a) y := by
      intro a y ha hfa
      have hsub : ∀ (n : Nat), RV C' (.arr 0 0 0 n) y → n = es.length → RV { C with w := w' } (.sl false es) y := by
        intro n h en
        cases h with
        | arr _ _ _ _ _ h1 hn2 hh =>
          have hs := hh I hI hv0.symm
          have := (sl_of_own (C := { C with w := w' }) hs hlen hes (hw ▸ ho) (fun i' j r c z _ h3 h4 h5 => by
            simp only [Nat.zero_add] at h3 h5
            exact rv_back (hcon i' j r c z h3 h4 h5) (hfe _ _ _ rfl r (List.mem_of_getElem? h3) c (List.mem_of_getElem? h4)) hw.symm hNN) false (fun g hg h => by
              have h1 := hlt g h
              rcases hblk I g hI hg with h2 | h2
              · cases h2
              · have h2' : C.w.heap.size ≤ g := h2
                omega)).1
          rw [List.drop_zero, en, List.take_length] at this
          exact this
      cases a with
      | arr i n off len =>
        by_cases hq : i = 0 ∧ n = 0 ∧ off = 0
        · obtain ⟨rfl, rfl, rfl⟩ := hq
          simp only [sealR1] at hfa ⊢
          split
          · rename_i hlen2
            exact hsub len ha hlen2
          · exact .dead _
        · have e : sealR1 es (.arr i n off len) = .dead := by
            cases i with
            | zero => cases n with
              | zero => cases off with
                | zero => exact (hq ⟨rfl, rfl, rfl⟩).elim
                | succ => rfl
              | succ => rfl
            | succ => rfl
          rw [e]
          exact .dead _
      | _ => exact rv_back ha hfa hw.symm hNN
    refine ⟨v, { C with w := w' }, rfl, rfl, rfl, K, hA, ⟨[], trivial, ⟨by rw [hbx]; rfl, by rw [hbx]; exact List.nodup_nil, fun b h => (by rw [hbx] at h; cases h), fun k b cs h => (by rw [hbx] at h; simp at h), hB.glob.keep K⟩⟩, ?_, ?_⟩
    · rw [wr_none]; exact W
    · cases r with
      | agg cs =>
        cases hrv with
        | agg _ us hl hh =>
          cases hr with
          | agg _ hrr =>
            refine .agg _ _ (by simp [hl]) ?_
            intro j c y h1 h2
            have hm := List.mem_of_getElem? h1
            rw [List.getElem?_map] at h1
            obtain ⟨d, hd, he⟩ := Option.map_eq_some_iff.1 h1
            subst he
            exact hseal1 d y (hh j d y hd h2) (hrr _ hm)
      | tup cs =>
        cases hrv with
        | tup _ us hl hh =>
          cases hr with
          | tup _ hrr =>
            refine .tup _ _ (by simp [hl]) ?_
            intro j c y h1 h2
            have hm := List.mem_of_getElem? h1
            rw [List.getElem?_map] at h1
            obtain ⟨d, hd, he⟩ := Option.map_eq_some_iff.1 h1
            subst he
            exact hseal1 d y (hh j d y hd h2) (hrr _ hm)
      | _ => exact hseal1 _ v hrv hr

end Go.Proofs.YtokhnmchnfkiiaaDoor.Am

/- The abstract machine: what is asked behind code may be weakened; walks cut in two. No conditions. -/
namespace Go.Proofs.YtokhnmchnfkiiaaDoor.Am
open Go Go.RowKit
set_option linter.unusedSimpArgs false
set_option linter.unusedVariables false

theorem aop_mono {G : Cfg} {ic : Bool} {o : Oper} {K L : St → Prop} {st : St} (h : aop G ic o K st) (hk : ∀ s, K s → L s) : aop G ic o L st := by
  unfold aop at h ⊢
  split
  · rename_i x args tys hop
    rw [hop] at h
    simp only at h
    split
    · rename_i f pre post hx
      rw [hx] at h
      rcases h with ⟨r, m', h1, h2⟩ | ⟨q1, q2, Q, q3, q4⟩
      · exact .inl ⟨r, m', h1, hk _ h2⟩
      · exact .inr ⟨q1, q2, Q, q3, fun r m' h => hk _ (q4 r m' h)⟩
    · rename_i hx
      split at h
      · rename_i f pre post hx2
        exact (hx _ _ _ hx2).elim
      · exact h
  · rename_i hop
    split at h
    · rename_i x args tys hop2
      exact (hop _ _ _ hop2).elim
    · split at h
      · exact hk _ h
      · exact h.elim

theorem byGuard_mono {g : Option Bool} {x y x' y' : Prop} (h : byGuard g x y) (h1 : x → x') (h2 : y → y') : byGuard g x' y' := by
  cases g with
  | none => exact h
  | some b => exact ⟨fun e => h1 (h.1 e), fun e => h2 (h.2 e)⟩

theorem aops_mono {G : Cfg} {nt : Nat} {ops : Array Oper} {K L : St → Prop} (hk : ∀ s, K s → L s) : ∀ {l : List Oper} {st : St}, aops G nt ops l K st → aops G nt ops l L st
  | [], st, h => hk st h
  | o :: l, st, h => ⟨h.1, byGuard_mono h.2 (fun q => aop_mono q fun _ => aops_mono hk) (aops_mono hk)⟩

theorem asuf_mono {G : Cfg} {nt : Nat} {ops : Array Oper} {K L : St → Prop} (hk : ∀ s, K s → L s) : ∀ {l : List Nat} {st : St}, asuf G nt ops l K st → asuf G nt ops l L st
  | [], st, h => hk st h
  | i :: l, st, h => by
    simp only [asuf] at h ⊢
    cases ho : ops[i]? with
    | none => rw [ho] at h; exact h
    | some o => rw [ho] at h; exact ⟨h.1, byGuard_mono h.2 (fun q => aop_mono q fun _ => asuf_mono hk) (asuf_mono hk)⟩

theorem apre_mono {G : Cfg} {nt : Nat} {ops : Array Oper} {K L : St → Prop} (hk : ∀ s, K s → L s) : ∀ {l : List Nat} {st : St}, apre G nt ops l K st → apre G nt ops l L st
  | [], st, h => hk st h
  | i :: l, st, h => by
    simp only [apre] at h ⊢
    cases ho : ops[i]? with
    | none => rw [ho] at h; exact h
    | some o => rw [ho] at h; exact ⟨h.1, byGuard_mono h.2 (fun q => aop_mono q fun _ r => ⟨r.1, apre_mono hk r.2⟩) (apre_mono hk)⟩

theorem aopF_mono {G : Cfg} {o : Oper} {K L : St → Prop} {st : St} (h : aopF G o K st) (hk : ∀ s, K s → L s) : aopF G o L st := by
  unfold aopF at h ⊢
  split at h
  · exact hk _ h
  · split at h
    · exact hk _ h
    · exact h.elim
  · obtain ⟨r, h1, h2, h3⟩ := h; exact ⟨r, h1, h2, hk _ h3⟩
  · exact h.elim

theorem apreF_mono {G : Cfg} {nt : Nat} {ops : Array Oper} {K L : St → Prop} (hk : ∀ s, K s → L s) : ∀ {l : List Nat} {st : St}, apreF G nt ops l K st → apreF G nt ops l L st
  | [], st, h => hk st h
  | i :: l, st, h => by
    simp only [apreF] at h ⊢
    cases ho : ops[i]? with
    | none => rw [ho] at h; exact h
    | some o => rw [ho] at h; exact ⟨h.1, h.2.1, aopF_mono h.2.2 fun _ => apreF_mono hk⟩

theorem tellG_mono {G : Cfg} {nt : Nat} {ops : Array Oper} {ms : List Mem} {ch : List Nat} {rg : List (Nat × Nat)} {K L : (Nat → AV) → Prop} (hk : ∀ e, K e → L e) : ∀ {l : List Nat} {xs : List AV} {e : Nat → AV}, tellG G nt ops ms ch rg l xs e K → tellG G nt ops ms ch rg l xs e L
  | [], _, e, h => hk e h
  | _ :: _, [], _, h => h.elim
  | i :: l, x :: xs, e, h => by
    simp only [tellG] at h ⊢
    cases ho : ops[i]? with
    | none => rw [ho] at h; exact h
    | some o =>
      rw [ho] at h
      exact ⟨h.1, h.2.1, tellG_mono hk h.2.2⟩

theorem apreM_mono {G : Cfg} {nt : Nat} {ops : Array Oper} {MM : Mem → Prop} {K L : (Nat → AV) → Prop} (hk : ∀ e, K e → L e) : ∀ {l : List Nat} {xs : List AV} {e : Nat → AV}, apreM G nt ops MM l xs e K → apreM G nt ops MM l xs e L
  | [], _, e, h => hk e h
  | _ :: _, [], _, h => h.elim
  | i :: l, x :: xs, e, h => by
    simp only [apreM] at h ⊢
    cases ho : ops[i]? with
    | none => rw [ho] at h; exact h
    | some o =>
      rw [ho] at h
      exact ⟨h.1, h.2.1, apreM_mono hk h.2.2⟩
theorem achM_mono {G : Cfg} {nt : Nat} {ops : Array Oper} {MM : Mem → Prop} {K L : St → Prop} (hk : ∀ s, K s → L s) : ∀ {l : List Nat} {st : St}, achM G nt ops MM l K st → achM G nt ops MM l L st
  | [], st, h => hk st h
  | i :: l, st, h => by
    simp only [achM] at h ⊢
    cases ho : ops[i]? with
    | none => rw [ho] at h; exact h
    | some o =>
      rw [ho] at h
      exact ⟨h.1, aop_mono h.2 fun _ r => ⟨r.1, achM_mono hk r.2⟩⟩
theorem adraw_mono {G : Cfg} {nt : Nat} {ops : Array Oper} {K L : St → Prop} (hk : ∀ s, K s → L s) {st : St} (h : adraw G nt ops K st) : adraw G nt ops L st := by
  rcases h with ⟨pre, suf, h1, h2⟩ | ⟨a, pre, suf, d, t, zs, h1, h2, h3, h4, h5, h6⟩ | ⟨l, ch, rg, ms, xs, h1, h2, h3, h4⟩ | ⟨pre, ch, suf, MM, xs, h1, h2, h3⟩
  · exact .inl ⟨pre, suf, h1, apre_mono (fun _ => asuf_mono hk) h2⟩
  · exact .inr (.inl ⟨a, pre, suf, d, t, zs, h1, h2, h3, h4, h5, apreF_mono (fun _ => asuf_mono hk) h6⟩)
  · exact .inr (.inr (.inl ⟨l, ch, rg, ms, xs, h1, h2, h3, tellG_mono (fun _ h m hm => hk _ (h m hm)) h4⟩))
  · exact .inr (.inr (.inr ⟨pre, ch, suf, MM, xs, h1, h2, apreM_mono (fun _ => achM_mono fun _ => asuf_mono hk) h3⟩))

theorem amark_mono {G : Cfg} {nt : Nat} {ops : Array Oper} {K L : St → Prop} (hk : ∀ s, K s → L s) : ∀ {k : Nat} {l : List Oper} {st : St}, amark G nt ops k l K st → amark G nt ops k l L st
  | k, [], st, h => by cases k <;> exact h.elim
  | 0, o :: rest, st, h => by
    unfold amark at h ⊢
    split at h
    · obtain ⟨h1, env', bs', x, h2, h3⟩ := h
      exact ⟨h1, env', bs', x, h2, aops_mono hk h3⟩
    · exact h.elim
  | k + 1, o :: rest, st, h => ⟨h.1, h.2.1, aop_mono h.2.2 fun _ => amark_mono hk⟩

theorem aregion_mono {G : Cfg} {nt : Nat} {ops : Array Oper} {K L : St → Prop} (hk : ∀ s, K s → L s) {st : St} (h : aregion G nt ops K st) : aregion G nt ops L st := by
  unfold aregion at h ⊢
  split at h
  · rename_i hm
    rw [if_pos hm]
    obtain ⟨st', h1, h2⟩ := h
    exact ⟨st', h1, h2.imp (aops_mono hk) fun ⟨k, h⟩ => ⟨k, amark_mono hk h⟩⟩
  · rename_i hm
    rw [if_neg hm]
    exact aops_mono hk h

theorem acode_mono {G : Cfg} {nt : Nat} : ∀ (c : Code) {K L : Exit → St → Prop} (_ : ∀ e s, K e s → L e s) {st : St}, acode G nt c K st → acode G nt c L st := by
  intro c
  induction c with
  | skip => intro K L hk st h; exact hk _ _ h
  | label l => intro K L hk st h; exact hk _ _ h
  | exit id => intro K L hk st h; exact hk _ _ h
  | ret => intro K L hk st h; exact hk _ _ h
  | seq a b iha ihb =>
    intro K L hk st h
    refine iha ?_ h
    intro e s hs
    cases e with
    | normal => exact ihb hk hs
    | _ => exact hk _ _ hs
  | cond c x y ihx ihy =>
    intro K L hk st h
    simp only [acode] at h ⊢
    split at h
    · exact ⟨fun e => ihx hk (h.1 e), fun e => ihy hk (h.2 e)⟩
    · exact ⟨ihx hk h.1, ihy hk h.2⟩
    · exact h.elim
  | block id c ih =>
    intro K L hk st h
    refine ih ?_ h
    intro e s hs
    cases e with
    | exit id' =>
      simp only [kBlock] at hs ⊢
      split
      · rename_i e; rw [if_pos e] at hs; exact hk _ _ hs
      · rename_i e; rw [if_neg e] at hs; exact hk _ _ hs
    | _ => exact hk _ _ hs
  | loop c ih =>
    intro K L hk st h
    obtain ⟨R, I, n0, hR, h0, hr⟩ := h
    refine ⟨R, I, n0, hR, h0, fun n st' hI => ih ?_ (hr n st' hI)⟩
    intro e s hs
    cases e with
    | normal => exact hs
    | _ => exact hk _ _ hs
  | region id ops draw =>
    intro K L hk st h
    cases draw with
    | false => exact aregion_mono (hk _) h
    | true => exact adraw_mono (hk _) h
  | scope c ih => intro K L hk st h; exact h.elim
  | goto l => intro K L hk st h; exact h.elim
  | refuse why => intro K L hk st h; exact h.elim
  | rangeFunc f ps x y ihx ihy => intro K L hk st h; exact h.elim

/-- A walk cut behind code that ends normally: from then on this alone is known. -/
theorem acode_cut {G : Cfg} {nt : Nat} {c : Code} {K : Exit → St → Prop} {st : St} (Q : St → Prop) (h : acode G nt c (fun e s => e = .normal ∧ Q s) st) (hk : ∀ s, Q s → K .normal s) : acode G nt c K st :=
  acode_mono c (fun e s hs => by obtain ⟨rfl, hq⟩ := hs; exact hk s hq) h

theorem acode_cutE {G : Cfg} {nt : Nat} {c : Code} {K : Exit → St → Prop} {st : St} (M : Mem) (Q : (Nat → AV) → Prop) (h : acode G nt c (fun e s => e = .normal ∧ s.mem = M ∧ Q s.env) st) (hk : ∀ E, Q E → K .normal ⟨E, M⟩) : acode G nt c K st :=
  acode_mono c (fun e s hs => by
    obtain ⟨rfl, hm, hq⟩ := hs
    cases s with
    | mk E m => cases hm; exact hk E hq) h

end Go.Proofs.YtokhnmchnfkiiaaDoor.Am

/- The abstract machine: what its operations yield, by the shape of the operands. No conditions. -/
namespace Go.Proofs.YtokhnmchnfkiiaaDoor.Am
open Go Go.RowKit
set_option linter.unusedSimpArgs false
set_option linter.unusedVariables false

theorem ev_tmp (st : St) (t : Nat) : st.ev (.tmp t) = st.env t := rfl
theorem ev_int (st : St) (k : IntKind) (n : Int) : st.ev (.const (.int k n)) = .v (.int k n) := rfl
theorem ev_bool (st : St) (b : Bool) : st.ev (.const (.bool b)) = .v (.bool b) := rfl
theorem ev_string (st : St) (s : ByteArray) : st.ev (.const (.string s)) = .v (.string s) := rfl
theorem ev_nil (st : St) : st.ev (.const (.slice none 0 0)) = .nil := rfl
theorem ev_agg (st : St) (cs : Array Value) : st.ev (.const (.agg cs)) = .agg (cs.toList.map .v) := rfl
theorem ev_func (st : St) (f : FuncId) : st.ev (.func f) = .clo f [] [] := rfl

theorem dstOK_some (nt d : Nat) : dstOK nt (some d) = decide (d < nt) := rfl
theorem dstOK_none (nt : Nat) : dstOK nt none = true := rfl

section
variable {G : Cfg} {t : TypeId} {k : IntKind} {a b : Int} {x y : ByteArray} {p q : Bool}
theorem bin_add : G.bin .add t (.v (.int k a)) (.v (.int k b)) = some (.v (.int k (k.wrap (a + b)))) := by simp [Cfg.bin, Cfg.boolOK, abin]
theorem bin_sub : G.bin .sub t (.v (.int k a)) (.v (.int k b)) = some (.v (.int k (k.wrap (a - b)))) := by simp [Cfg.bin, Cfg.boolOK, abin]
theorem bin_mul : G.bin .mul t (.v (.int k a)) (.v (.int k b)) = some (.v (.int k (k.wrap (a * b)))) := by simp [Cfg.bin, Cfg.boolOK, abin]
theorem bin_quo : G.bin .quo t (.v (.int k a)) (.v (.int k b)) = if b = 0 then none else some (.v (.int k (k.wrap (a.tdiv b)))) := by
  simp only [Cfg.bin, Cfg.boolOK, abin, if_true]; split <;> rfl
theorem bin_rem : G.bin .rem t (.v (.int k a)) (.v (.int k b)) = if b = 0 then none else some (.v (.int k (a.tmod b))) := by
  simp only [Cfg.bin, Cfg.boolOK, abin, if_true]; split <;> rfl
theorem bin_and : G.bin .and t (.v (.int k a)) (.v (.int k b)) = some (.v (.int k (andF k a b))) := by simp [Cfg.bin, Cfg.boolOK, abin]
theorem bin_shl {k' : IntKind} : G.bin .shl t (.v (.int k a)) (.v (.int k' b)) = if b < 0 then none else some (.v (.int k (k.wrap (a * 2 ^ (min b.toNat k.bits))))) := by
  simp only [Cfg.bin, Cfg.boolOK, ashift, if_true]; split <;> rfl
theorem bin_shr {k' : IntKind} : G.bin .shr t (.v (.int k a)) (.v (.int k' b)) = if b < 0 then none else some (.v (.int k (a.fdiv (2 ^ (min b.toNat k.bits))))) := by
  simp only [Cfg.bin, Cfg.boolOK, ashift, if_true]; split <;> rfl
theorem bin_eql : G.bin .eql t (.v (.int k a)) (.v (.int k b)) = some (.v (.bool (decide (a = b)))) := by simp [Cfg.bin, Cfg.boolOK, abin]
theorem bin_neq : G.bin .neq t (.v (.int k a)) (.v (.int k b)) = some (.v (.bool (decide (a ≠ b)))) := by simp [Cfg.bin, Cfg.boolOK, abin]
theorem bin_lss : G.bin .lss t (.v (.int k a)) (.v (.int k b)) = some (.v (.bool (decide (a < b)))) := by simp [Cfg.bin, Cfg.boolOK, abin]
theorem bin_leq : G.bin .leq t (.v (.int k a)) (.v (.int k b)) = some (.v (.bool (decide (a ≤ b)))) := by simp [Cfg.bin, Cfg.boolOK, abin]
theorem bin_gtr : G.bin .gtr t (.v (.int k a)) (.v (.int k b)) = some (.v (.bool (decide (b < a)))) := by simp [Cfg.bin, Cfg.boolOK, abin]
theorem bin_geq : G.bin .geq t (.v (.int k a)) (.v (.int k b)) = some (.v (.bool (decide (b ≤ a)))) := by simp [Cfg.bin, Cfg.boolOK, abin]
theorem bin_sadd : G.bin .add t (.v (.string x)) (.v (.string y)) = if x.size + y.size ≤ 140737488355328 then some (.v (.string (x ++ y))) else none := by
  simp only [Cfg.bin, Cfg.boolOK, abin, if_true]; split <;> rfl
theorem bin_seql : G.bin .eql t (.v (.string x)) (.v (.string y)) = some (.v (.bool (decide (x = y)))) := by simp [Cfg.bin, Cfg.boolOK, abin]
theorem bin_sneq : G.bin .neq t (.v (.string x)) (.v (.string y)) = some (.v (.bool (decide (x ≠ y)))) := by simp [Cfg.bin, Cfg.boolOK, abin]
theorem bin_slss : G.bin .lss t (.v (.string x)) (.v (.string y)) = some (.v (.bool (Op.bytesLess x.data.toList y.data.toList))) := by simp [Cfg.bin, Cfg.boolOK, abin]
theorem bin_sgtr : G.bin .gtr t (.v (.string x)) (.v (.string y)) = some (.v (.bool (!(Op.bytesLess x.data.toList y.data.toList || decide (x = y))))) := by simp [Cfg.bin, Cfg.boolOK, abin]
theorem bin_beql (h : G.isBool t = true) : G.bin .eql t (.v (.bool p)) (.v (.bool q)) = some (.v (.bool (p == q))) := by simp [Cfg.bin, Cfg.boolOK, abin, h]
theorem bin_bneq (h : G.isBool t = true) : G.bin .neq t (.v (.bool p)) (.v (.bool q)) = some (.v (.bool (p != q))) := by simp [Cfg.bin, Cfg.boolOK, abin, h]
theorem bin_veql {a1 a2 a3 b1 b2 b3 : Int} (h : G.verT t = true) : G.bin .eql t (.agg [.v (.int .i64 a1), .v (.int .i64 a2), .v (.int .i64 a3)]) (.agg [.v (.int .i64 b1), .v (.int .i64 b2), .v (.int .i64 b3)]) = some (.v (.bool (decide (a1 = b1 ∧ a2 = b2 ∧ a3 = b3)))) := by simp [Cfg.bin, h]
theorem bin_teql {s z : ByteArray} {a1 a2 a3 a4 a5 a6 b1 b2 b3 b4 b5 b6 : Int} (h : isTrmT G.P t = true) : G.bin .eql t (.agg [.v (.string s), .v (.int .i64 a1), .v (.int .i64 a2), .v (.int .i64 a3), .v (.int .i64 a4), .v (.int .i64 a5), .v (.int .i64 a6)]) (.agg [.v (.string z), .v (.int .i64 b1), .v (.int .i64 b2), .v (.int .i64 b3), .v (.int .i64 b4), .v (.int .i64 b5), .v (.int .i64 b6)]) = some (.v (.bool (decide (s = z ∧ (a1 = b1 ∧ a2 = b2 ∧ a3 = b3) ∧ a4 = b4 ∧ a5 = b5 ∧ a6 = b6)))) := by simp [Cfg.bin, h]
theorem bin_vneq {a1 a2 a3 b1 b2 b3 : Int} (h : G.verT t = true) : G.bin .neq t (.agg [.v (.int .i64 a1), .v (.int .i64 a2), .v (.int .i64 a3)]) (.agg [.v (.int .i64 b1), .v (.int .i64 b2), .v (.int .i64 b3)]) = some (.v (.bool (decide (¬ (a1 = b1 ∧ a2 = b2 ∧ a3 = b3))))) := by simp [Cfg.bin, h]

theorem aun_not : aun .not (.v (.bool p)) = some (.v (.bool (!p))) := rfl
theorem aun_neg : aun .neg (.v (.int k a)) = some (.v (.int k (k.wrap (0 - a)))) := rfl
theorem apick_b : apick (.v (.bool p)) (.v (.bool true)) (.v (.bool q)) = some (.v (.bool (p || q))) := by cases p <;> rfl
theorem apick_t (x y : AV) : apick (.v (.bool true)) x y = some x := by
  unfold apick
  simp only
  split <;> simp
theorem apick_f (x y : AV) : apick (.v (.bool false)) x y = some y := by
  unfold apick
  simp only
  split <;> simp
theorem apick_bb (b c : Bool) : apick (.v (.bool p)) (.v (.bool b)) (.v (.bool c)) = some (.v (.bool (bif p then b else c))) := rfl

theorem conv_int {m : Mem} {s d : TypeId} {k' : IntKind} (h : G.intK d = some k') : G.conv m s d (.v (.int k a)) = some (.v (.int k' (k'.wrap a))) := by simp [Cfg.conv, h]
theorem conv_sl {m : Mem} {s d : TypeId} {c : Bool} {es : List (List AV)} (h : G.isStr d = true) (h' : ((G.elemT s).bind G.intK) = some .u8) : G.conv m s d (.sl c es) = (bytesOf es).map fun l => .v (.string ⟨l.toArray⟩) := by simp [Cfg.conv, h, h', Mem.elems]
theorem bytesOf_one {n : Int} : bytesOf [[.v (.int .u8 n)]] = if 0 ≤ n ∧ n < 256 then some [UInt8.ofNat n.toNat] else none := by
  simp only [bytesOf]
  split <;> rfl
theorem conv_str {m : Mem} {s d : TypeId} (h : G.isStr d = true) (h' : G.isStr s = true) : G.conv m s d (.v (.string x)) = some (.v (.string x)) := by simp [Cfg.conv, h, h']

end

theorem one_int (k : IntKind) (n : Int) : (AV.v (.int k n)).one = true := rfl
theorem one_bool (b : Bool) : (AV.v (.bool b)).one = true := rfl
theorem one_string (x : ByteArray) : (AV.v (.string x)).one = true := rfl
theorem one_sl (c : Bool) (es : List (List AV)) : (AV.sl c es).one = true := rfl
theorem one_nil : AV.nil.one = true := rfl

theorem free_v {p : Bool → Prop} {x : Value} : (AV.v x).Free p = True := eq_true (.v x)
theorem free_nil {p : Bool → Prop} : AV.nil.Free p = True := eq_true .nil
theorem free_agg {p : Bool → Prop} {cs : List AV} : (AV.agg cs).Free p = ∀ c ∈ cs, c.Free p := propext ⟨fun h => by cases h with | agg _ h => exact h, .agg cs⟩
theorem free_tup {p : Bool → Prop} {cs : List AV} : (AV.tup cs).Free p = ∀ c ∈ cs, c.Free p := propext ⟨fun h => by cases h with | tup _ h => exact h, .tup cs⟩
theorem free_sl {p : Bool → Prop} {col : Bool} {es : List (List AV)} : (AV.sl col es).Free p = (p col ∧ ∀ e ∈ es, ∀ c ∈ e, c.Free p) := propext ⟨fun h => by cases h with | sl _ _ h h' => exact ⟨h, h'⟩, fun h => .sl col es h.1 h.2⟩
theorem free_el {p : Bool → Prop} {col : Bool} {cs : List AV} : (AV.el col cs).Free p = (p col ∧ ∀ c ∈ cs, c.Free p) := propext ⟨fun h => by cases h with | el _ _ h h' => exact ⟨h, h'⟩, fun h => .el col cs h.1 h.2⟩
theorem free_clo {p : Bool → Prop} {f : FuncId} {pre post : List AV} : (AV.clo f pre post).Free p = ((∀ c ∈ pre, c.Free p) ∧ ∀ c ∈ post, c.Free p) := propext ⟨fun h => by cases h with | clo _ _ _ h h' => exact ⟨h, h'⟩, fun h => .clo f pre post h.1 h.2⟩

theorem in_v {n : Nat} {x : Value} : (AV.v x).In n = True := eq_true (.v x)
theorem in_nil {n : Nat} : AV.nil.In n = True := eq_true .nil
theorem in_agg {n : Nat} {cs : List AV} : (AV.agg cs).In n = ∀ c ∈ cs, c.In n := propext ⟨fun h => by cases h with | agg _ h => exact h, .agg cs⟩
theorem in_tup {n : Nat} {cs : List AV} : (AV.tup cs).In n = ∀ c ∈ cs, c.In n := propext ⟨fun h => by cases h with | tup _ h => exact h, .tup cs⟩
theorem in_sl {n : Nat} {col : Bool} {es : List (List AV)} : (AV.sl col es).In n = ∀ e ∈ es, ∀ c ∈ e, c.In n := propext ⟨fun h => by cases h with | sl _ _ h => exact h, .sl col es⟩
theorem in_box {n k off : Nat} : (AV.box k off).In n = (k < n) := propext ⟨fun h => by cases h with | box _ _ h => exact h, .box k off⟩

attribute [simp] ev_tmp ev_int ev_bool ev_string ev_nil ev_agg ev_func dstOK_some dstOK_none bin_add bin_sub bin_mul bin_quo bin_rem bin_and bin_shl bin_shr bin_eql bin_neq bin_lss bin_leq bin_gtr bin_geq bin_sadd bin_seql bin_sneq bin_slss bin_sgtr bin_beql bin_bneq bin_veql bin_vneq bin_teql aun_not aun_neg apick_b apick_t apick_f apick_bb conv_int conv_str conv_sl bytesOf_one Cfg.binN free_v free_nil free_agg free_tup free_sl free_el free_clo in_v in_nil in_agg in_tup in_sl in_box

theorem one_any (x : Value) : (AV.any x).one = true := rfl
theorem one_wsl (es : List (List AV)) : (AV.wsl es).one = true := rfl

attribute [simp] envStay_at stayA AV.flat sealR sealR1 one_any one_wsl sameKb AV.wl AV.Wf Mem.ok aconv anil afieldA afield aindexA aindex aextract abuild abuildSlice amakeSlice abuiltin aclear aslice aslice0 lowOf upOf Mem.elems Mem.cellsAt Cfg.loadOf Cfg.storeOf Mem.putAt AV.cells one_int one_bool one_string one_sl one_nil splice fillAV lend lend1

/-! Known guards and tests are decided before what hangs on them is looked at. -/
theorem onGuard_tt (x y : Prop) : onGuard (some (.v (.bool true))) true x y = x := by simp [onGuard]
theorem onGuard_tf (x y : Prop) : onGuard (some (.v (.bool false))) true x y = y := by simp [onGuard]
theorem onGuard_ft (x y : Prop) : onGuard (some (.v (.bool true))) false x y = y := by simp [onGuard]
theorem onGuard_ff (x y : Prop) : onGuard (some (.v (.bool false))) false x y = x := by simp [onGuard]
theorem onBool_t (x y : Prop) : onBool (.v (.bool true)) x y = x := by simp [onBool]
theorem onBool_f (x y : Prop) : onBool (.v (.bool false)) x y = y := by simp [onBool]
attribute [simp high] onGuard_tt onGuard_tf onGuard_ft onGuard_ff onBool_t onBool_f

end Go.Proofs.YtokhnmchnfkiiaaDoor.Am
