/- The abstract machine: functions that are handed an array or hand one back, from their code; the rules for calls of them. No conditions. -/
import Derived.Test.YtbmfoijakgccgaaAmR
namespace Go.Proofs.Ytbmfoijakgccgaa.Am
open Go Go.RowKit
set_option linter.unusedSimpArgs false
set_option linter.unusedVariables false

def rawOf (G : Cfg) (rs : List ResultVar) (st : St) : Option AV :=
  match rs with
  | [r] => resVar G st r
  | rs => (rs.mapM (resVar G st)).map AV.tup

theorem res_raw {G : Cfg} {nt base : Nat} {bx0 : List Nat} {C : Ctx} {st : St} {a : Act} (R : Rel G nt base bx0 C st a) {fn : Func} {r : AV} (h : rawOf G fn.results.toList st = some r) :
    ∃ v, (results fn a.tmps).run G.P C.w = .ok v C.w ∧ RV C r v := by
  have one : ∀ (rv : ResultVar) (x : AV), resVar G st rv = some x → ∃ v, (match rv with | .tmp t => pure (a.tmps.getD t undef) | .cell p t => do loadVar t (← asAddr (a.tmps.getD p undef)) : Sem Value).run G.P C.w = .ok v C.w ∧ RV C x v := by
    intro rv x hx
    cases rv with
    | tmp t =>
      simp only [resVar, Option.some.injEq] at hx
      subst hx
      exact ⟨_, rfl, R.env t⟩
    | cell p t =>
      simp only [resVar] at hx
      obtain ⟨cs, hc, hl⟩ := Option.bind_eq_some_iff.1 hx
      obtain ⟨b, off, hp, hcells⟩ := cellsAt_rv R.mem (R.env p) hc
      obtain ⟨v, hv, hr⟩ := loadVar_run hcells hl
      refine ⟨v, ?_, hr⟩
      simp only [hp]
      simp [asAddr, hv]
  have many : ∀ (rs : List ResultVar) (xs : List AV), rs.mapM (resVar G st) = some xs → ∃ vs : List Value, (rs.mapM fun rv => (match rv with | .tmp t => pure (a.tmps.getD t undef) | .cell p t => do loadVar t (← asAddr (a.tmps.getD p undef)) : Sem Value)).run G.P C.w = .ok vs C.w ∧ RVs C xs vs ∧ xs.length = rs.length := by
    intro rs
    induction rs with
    | nil => intro xs h; simp at h; subst h; exact ⟨[], rfl, RVs.nil C, rfl⟩
    | cons rv rs ih =>
      intro xs h
      simp only [List.mapM_cons, Option.bind_eq_bind, Option.pure_def] at h
      obtain ⟨x, hx, h2⟩ := Option.bind_eq_some_iff.1 h
      obtain ⟨ys, hy, h3⟩ := Option.bind_eq_some_iff.1 h2
      cases h3
      obtain ⟨v, hv, hr⟩ := one rv x hx
      obtain ⟨vs, hvs, hrs, hl⟩ := ih ys hy
      refine ⟨v :: vs, ?_, RVs.cons hr hrs, by simp [hl]⟩
      rw [List.mapM_cons]
      simp only [Sem.run_bind, hv, Result.andThen_ok, hvs, Sem.run_pure]
  have eq : ∀ vs : List Value, (fn.results.toList.mapM fun rv => (match rv with | .tmp t => pure (a.tmps.getD t undef) | .cell p t => do loadVar t (← asAddr (a.tmps.getD p undef)) : Sem Value)).run G.P C.w = .ok vs C.w →
      (results fn a.tmps).run G.P C.w = .ok (if h : vs.toArray.size = 1 then vs.toArray[0] else .tuple vs.toArray) C.w := by
    intro vs hvs
    unfold results
    rw [Sem.run_bind, Array.mapM_eq_mapM_toList, Sem.run_map]
    have e2 := congrArg (fun z => Result.andThen (Result.andThen z (fun a w => (Result.ok a.toArray w : Result (Array Value)))) (fun vs w => (Result.ok (if h : vs.size = 1 then vs[0] else .tuple vs) w : Result Value))) hvs
    exact e2
  unfold rawOf at h
  split at h
  · rename_i rv hrs
    obtain ⟨v, hv, hr⟩ := one rv r h
    refine ⟨v, ?_, hr⟩
    have := eq [v] (by rw [hrs]; simp only [List.mapM_cons, List.mapM_nil, Sem.run_bind, hv, Result.andThen_ok, Sem.run_pure])
    rw [this]
    rfl
  · rename_i hne
    obtain ⟨xs, hx, h2⟩ := Option.map_eq_some_iff.1 h
    subst h2
    obtain ⟨vs, hvs, hr, hl⟩ := many _ xs hx
    have hlen : ¬ vs.toArray.size = 1 := by
      intro e
      have e2 : fn.results.toList.length = 1 := by have := hr.1; simp only [List.size_toArray] at e; omega
      match hq : fn.results.toList, e2 with
      | [r0], _ => exact hne r0 hq
    refine ⟨.tuple vs.toArray, by rw [eq vs hvs, dif_neg hlen], .tup _ _ (by simp [hr.1]) ?_⟩
    intro j c y h1 h2
    exact hr.2 j c y h1 (by simpa using h2)

/-- A result as the caller gets it, the array at place q with it. -/
def finO1 (m : Mem) (q : Nat) : AV → AV
  | .arr i n off len => if i = q ∧ m.ok i n = true ∧ off = 0 ∧ len = (m.arrs q).es.length then .arr 0 0 0 len else .dead
  | .nil => .sl false []
  | a => a
def finO (m : Mem) (q : Nat) : AV → AV
  | .agg cs => .agg (cs.map (finO1 m q))
  | .tup cs => .tup (cs.map (finO1 m q))
  | a => finO1 m q a

def Ctx.told (D : Ctx) (q : Nat) : Ctx := { w := D.w, N0 := D.N0, bx := D.bx, ver := fun _ => 0, A := fun j => if j = 0 then D.A q else none }

theorem told_N {D : Ctx} {q : Nat} {b : Nat} (h : ¬ D.N false b) : ¬ (D.told q).N false b := by
  rintro (h1 | h1 | ⟨j, I, h1, h2⟩)
  · exact h (.inl h1)
  · exact h (.inr (.inl h1))
  · have h1' : (if j = 0 then D.A q else none) = some I := h1
    split at h1'
    · exact h (.inr (.inr ⟨q, I, h1', h2⟩))
    · cases h1'

theorem finO1_rv {G : Cfg} {base : Nat} {bx0 : List Nat} {D : Ctx} {m : Mem} (M : MemOK G base bx0 D m) {q : Nat} {a : AV} {x : Value} (h : RV D a x) (hf : (strip1 (finO1 m q a)).Free (· = false)) : RV (D.told q) (finO1 m q a) x := by
  have plain : ∀ b : AV, RV D b x → b.Free (· = false) → RV (D.told q) b x := fun b hb hbf => rv_back hb hbf rfl fun _ _ hn => told_N hn
  cases a with
  | arr i n off len =>
    simp only [finO1] at hf ⊢
    split
    · rename_i hk
      obtain ⟨rfl, hk, rfl, hlen⟩ := hk
      obtain ⟨I, xs, hI, hs, z1, z2, z3, z4, z5, z6⟩ := arr_rv M h hk
      cases h with
      | arr _ _ _ _ _ h1 hn hh =>
        refine .arr 0 0 0 len x h1 (Nat.le_refl _) ?_
        intro J hJ _
        have hJ' : (if (0 : Nat) = 0 then D.A i else none) = some J := hJ
        simp only [if_true] at hJ'
        rw [hI] at hJ'
        cases hJ'
        exact hs
    · exact .dead _
  | nil => cases h with | nil a => exact .sl0 _ _ _
  | v => exact plain _ h hf
  | agg => exact plain _ h hf
  | tup => exact plain _ h hf
  | sl => exact plain _ h hf
  | el => exact plain _ h hf
  | box => exact plain _ h hf
  | ael => exact plain _ h hf
  | clo => exact plain _ h hf
  | dead => exact .dead _

theorem finO_rv {G : Cfg} {base : Nat} {bx0 : List Nat} {D : Ctx} {m : Mem} (M : MemOK G base bx0 D m) {q : Nat} {a : AV} {x : Value} (h : RV D a x) (hf : (strip (finO m q a)).Free (· = false)) : RV (D.told q) (finO m q a) x := by
  cases a with
  | agg cs =>
    cases h with
    | agg _ vs hl hh =>
      cases hf with
      | agg _ hf =>
        refine .agg _ _ (by simp [hl]) ?_
        intro j c y h1 h2
        rw [List.getElem?_map] at h1
        obtain ⟨d, hd, he⟩ := Option.map_eq_some_iff.1 h1
        subst he
        exact finO1_rv M (hh j d y hd h2) (hf _ (List.mem_map.2 ⟨_, List.mem_map.2 ⟨d, List.mem_of_getElem? hd, rfl⟩, rfl⟩))
  | tup cs =>
    cases h with
    | tup _ vs hl hh =>
      cases hf with
      | tup _ hf =>
        refine .tup _ _ (by simp [hl]) ?_
        intro j c y h1 h2
        rw [List.getElem?_map] at h1
        obtain ⟨d, hd, he⟩ := Option.map_eq_some_iff.1 h1
        subst he
        exact finO1_rv M (hh j d y hd h2) (hf _ (List.mem_map.2 ⟨_, List.mem_map.2 ⟨d, List.mem_of_getElem? hd, rfl⟩, rfl⟩))
  | arr i n off len =>
    refine finO1_rv M h ?_
    have : strip (finO1 m q (.arr i n off len)) = strip1 (finO1 m q (.arr i n off len)) := by simp only [finO1]; split <;> rfl
    rw [← this]
    exact hf
  | nil => exact finO1_rv M h hf
  | v => exact finO1_rv M h hf
  | sl => exact finO1_rv M h hf
  | el => exact finO1_rv M h hf
  | box => exact finO1_rv M h hf
  | ael => exact finO1_rv M h hf
  | clo => exact finO1_rv M h hf
  | dead => exact finO1_rv M h hf

def inArrs : Option (TypeId × List (List AV)) → Nat → ArrSt
  | none => fun _ => ⟨0, false, 0, []⟩
  | some (e, es) => fun i => if i = 0 then ⟨0, true, e, es⟩ else ⟨0, false, 0, []⟩

/-- What has to hold where such a function ends. -/
def kEnd (G : Cfg) (rs : List ResultVar) (q : Nat) (out : Option (Bool × TypeId × List (List AV))) (r : AV) (st : St) : Prop :=
  (rawOf G rs st).map (finO st.mem q) = some r ∧ match out with
    | none => True
    | some (false, e, es) => ∃ v, st.mem.arrs q = ⟨v, true, e, es⟩
    | some (true, e, es) => q = 0 ∧ st.mem.arrs 0 = ⟨0, true, e, es⟩
def kResO (G : Cfg) (rs : List ResultVar) (q : Nat) (out : Option (Bool × TypeId × List (List AV))) (r : AV) : Exit → St → Prop
  | .normal, st => kEnd G rs q out r st
  | .ret, st => kEnd G rs q out r st
  | _, _ => False
theorem kResO_st {G : Cfg} {rs : List ResultVar} {q : Nat} {out : Option (Bool × TypeId × List (List AV))} {r : AV} {e : Exit} {st st' : St} (h : st = st') : kResO G rs q out r e st = kResO G rs q out r e st' := by rw [h]
theorem kResO_normal {G : Cfg} {rs : List ResultVar} {q : Nat} {out : Option (Bool × TypeId × List (List AV))} {r : AV} {st : St} : kResO G rs q out r .normal st = kEnd G rs q out r st := rfl
theorem kResO_ret {G : Cfg} {rs : List ResultVar} {q : Nat} {out : Option (Bool × TypeId × List (List AV))} {r : AV} {st : St} : kResO G rs q out r .ret st = kEnd G rs q out r st := rfl

theorem own_of_code {G : Cfg} (V : G.Vers) (hm : G.P.follows .mixedOrders = true) {f : FuncId} {fn : Func} {c : Code} (hf : G.P.funcs[f]? = some fn) (hb : fn.body = some c) (hnm : fn.name ≠ "runtime.NumGoroutine") {args : List AV} (ha : args.length ≤ fn.ntmps)
    {inp : Option (TypeId × List (List AV))} {out : Option (Bool × TypeId × List (List AV))} {r : AV} (q : Nat) (hr : (strip r).Free (· = false)) (hfe : ∀ s e es, out = some (s, e, es) → ∀ q ∈ es, ∀ c ∈ q, AV.Free (· = false) c)
    (h : acode G fn.ntmps c (kResO G fn.results.toList q out r) ⟨envOf (zipEnv 0 args), ⟨[], inArrs inp⟩⟩) : OCall G.P f inp args out r := by
  refine ⟨by simp [enters, hf, hb, hnm], hr, hfe, ?_⟩
  intro C vs hbx hver hA1 hin hN hvs
  have hlen : args.length = vs.size := by simpa using hvs.1
  have hA0 : ∀ i I, C.A i = some I → i = 0 := fun i I hI => by
    by_cases hi : i = 0
    · exact hi
    · rw [hA1 i hi] at hI; cases hI
  have R : Rel G fn.ntmps C.w.heap.size C.blk C ⟨envOf (zipEnv 0 args), ⟨[], inArrs inp⟩⟩ { tmps := vs ++ Array.replicate (fn.ntmps - vs.size) undef, defers := [] } := by
    rw [← startEnv_eq]
    refine ⟨⟨by simp [hbx], by rw [hbx]; exact List.nodup_nil, ?_, Nat.le_refl _, hN, ?_, ?_, ?_, ?_, ?_, ?_⟩, ?_, by simp; omega, rfl⟩
    · intro k b hk; rw [hbx] at hk; simp at hk
    · intro k b cs hk; rw [hbx] at hk; simp at hk
    · intro i
      rw [hver i]
      cases inp with
      | none => rfl
      | some p =>
        show 0 = (if i = 0 then (⟨0, true, p.1, p.2⟩ : ArrSt) else ⟨0, false, 0, []⟩).ver
        split <;> rfl
    · intro i hl
      cases inp with
      | none =>
        by_cases hi : i = 0
        · subst hi; exact hin
        · exact hA1 i hi
      | some p =>
        have hl' : (if i = 0 then (⟨0, true, p.1, p.2⟩ : ArrSt) else ⟨0, false, 0, []⟩).live = false := hl
        by_cases hi : i = 0
        · rw [if_pos hi] at hl'; cases hl'
        · exact hA1 i hi
    · intro i hl
      cases inp with
      | none => cases hl
      | some p =>
        have hl' : (if i = 0 then (⟨0, true, p.1, p.2⟩ : ArrSt) else ⟨0, false, 0, []⟩).live = true := hl
        by_cases hi : i = 0
        · subst hi
          exact hin
        · rw [if_neg hi] at hl'; cases hl'
    · intro i I g hI hg
      refine ⟨by rw [hbx]; simp, fun j J hJ _ => by rw [hA0 i I hI, hA0 j J hJ]⟩
    · intro i I g hI hg
      have hi := hA0 i I hI
      subst hi
      refine .inr ?_
      simp [Ctx.blk, hI, hg]
    · intro t
      simp only [startEnv]
      by_cases ht : t < args.length
      · have e1 : args.getD t .dead = args[t] := by simp [ht]
        have e2 : (vs ++ Array.replicate (fn.ntmps - vs.size) undef).getD t undef = vs[t] := by
          have : t < vs.size := by omega
          simp [Array.getElem?_append, this]
        rw [e1, e2]
        exact hvs.2 t _ _ (List.getElem?_eq_getElem ht) (by simp)
      · have e1 : args.getD t .dead = .dead := by simp [ht]
        rw [e1]
        exact .dead _
  refine calls_of_wp hf hb (wp_mono (acode_sound V (draw_sound V hm) c _ C C _ _ R (Keeps.refl C) rfl (WExt.refl _ _ _) h) ?_)
  rintro e a' w' ⟨D, st, rfl, hk, R', K, hn, W⟩
  have hk' : (e = .normal ∨ e = .ret) ∧ kEnd G fn.results.toList q out r st := by
    cases e with
    | normal => exact ⟨.inl rfl, hk⟩
    | ret => exact ⟨.inr rfl, hk⟩
    | _ => exact hk.elim
  obtain ⟨he, hres, hout⟩ := hk'
  obtain ⟨raw, hraw, rfl⟩ := Option.map_eq_some_iff.1 hres
  obtain ⟨v, hv, hrv⟩ := res_raw R' hraw
  have has : ∀ (vv : Nat) (e' : TypeId) (es' : List (List AV)), st.mem.arrs q = ⟨vv, true, e', es'⟩ → (∀ q ∈ es', ∀ c ∈ q, AV.Free (· = false) c) → HasArr G.P (D.told q) e' es' ∧ ∀ I g, (D.told q).A 0 = some I → I.val.ownBlock = some g → g ∈ C.blk ∨ C.w.heap.size ≤ g := by
    intro vv e' es' hq hfe'
    obtain ⟨I, xs, hI, y1, y2, y3, y4, y5, y6⟩ := R'.mem.arr q (by rw [hq])
    rw [hq] at y1 y3 y4 y5 y6
    refine ⟨⟨I, xs, by simp [Ctx.told, hI], y1, y2, y3, y4, y5, ?_⟩, ?_⟩
    · intro idx j s c x h1 h2 h3
      exact rv_back (y6 idx j s c x h1 h2 h3) (hfe' s (List.mem_of_getElem? h1) c (List.mem_of_getElem? h2)) rfl fun _ _ hn => told_N hn
    · intro J g hJ hg
      have hJ' : D.A q = some J := by simpa [Ctx.told] using hJ
      exact (R'.mem.lo q J g hJ' hg).symm
  have post : a'.defers = [] ∧ ∃ v, (results fn a'.tmps).run G.P D.w = .ok v D.w ∧ ∃ u C', Ending.returned v = .returned u ∧ C'.w = D.w ∧ (∀ col b, C.N0 col b → C'.N0 col b) ∧ WExt C.w.heap.size C.blk C.w D.w ∧ C'.ver 0 = 0 ∧ RV C' (finO st.mem q raw) u ∧ OutOK G.P C C' out := by
    refine ⟨R'.defers, v, hv, v, D.told q, rfl, rfl, fun col b h => (show D.N0 col b by rw [hn]; exact h), W, rfl, finO_rv R'.mem hrv hr, ?_⟩
    cases out with
    | none => trivial
    | some o =>
      obtain ⟨s, e', es'⟩ := o
      cases s with
      | false =>
        obtain ⟨vv, hq⟩ := hout
        obtain ⟨k1, k2⟩ := has vv e' es' hq (hfe _ _ _ rfl)
        exact ⟨k1, k2, fun h => by cases h⟩
      | true =>
        obtain ⟨rfl, hq⟩ := hout
        obtain ⟨k1, k2⟩ := has 0 e' es' hq (hfe _ _ _ rfl)
        refine ⟨k1, k2, fun _ => ?_⟩
        obtain ⟨I, xs, hI, _⟩ := R'.mem.arr 0 (by rw [hq])
        obtain ⟨J, hJ, z1, z2, z3⟩ := K.A 0 I hI (by rw [R'.mem.ver 0, hq, hver 0])
        have := AInf.same z1 z2 z3
        subst this
        simp [Ctx.told, hI, hJ]
  rcases he with rfl | rfl
  · exact post
  · exact post

/-! ### The rules for calls -/

section
variable {P : Program} {own : Nat → Bool} {verT : TypeId → Bool} {wr : Nat → Bool} {f : FuncId} {as les : List AV} {dst : Option Tmp} {L : St → Prop} {st : St}

/-- Handed the array at place i, hands one back. -/
theorem call_o (i v : Nat) (e : TypeId) (es : List (List AV)) (he : st.mem.arrs i = ⟨v, true, e, es⟩) {las : List AV} {e' : TypeId} {es' : List (List AV)} {r : AV} (hp : OCall P f (some (e, es)) las (some (false, e', es')) r) (ha : as.map (lendO st.mem i) = las)
    (hfree : ∀ a ∈ las, (strip a).Free (fun _ => True)) (hfe : ∀ q ∈ es, ∀ c ∈ q, AV.Free (fun _ => True) c)
    (h : L (St.put ⟨st.env, ⟨st.mem.boxes, fun j => if j = i then ⟨v + 1, true, e', es'⟩ else st.mem.arrs j⟩⟩ dst (ren i (v + 1) r))) : onCall ⟨P, own, verT, wr⟩ f as les dst L st := by
  refine ⟨fun _ => ⟨_, _, CallStep.handed i (some (false, e', es')) r (by rw [he]) (by rw [he, ha]; exact hp) ?_ (by rw [he]; exact hfe) (by intro a b c; cases c), ?_⟩⟩
  · intro a hm
    exact hfree _ (ha ▸ List.mem_map.2 ⟨a, hm, rfl⟩)
  · simpa [Mem.handed, Mem.handedVer, he] using h
/-- The array at place i is written in place. -/
theorem call_s (i v : Nat) (e : TypeId) (es : List (List AV)) (he : st.mem.arrs i = ⟨v, true, e, es⟩) {las : List AV} {es' : List (List AV)} {r : AV} (hp : OCall P f (some (e, es)) las (some (true, e, es')) r) (ha : as.map (lendO st.mem i) = las)
    (hfree : ∀ a ∈ las, (strip a).Free (fun _ => True)) (hfe : ∀ q ∈ es, ∀ c ∈ q, AV.Free (fun _ => True) c)
    (h : L (St.put ⟨st.env, ⟨st.mem.boxes, fun j => if j = i then ⟨v, true, e, es'⟩ else st.mem.arrs j⟩⟩ dst (ren i v r))) : onCall ⟨P, own, verT, wr⟩ f as les dst L st := by
  refine ⟨fun _ => ⟨_, _, CallStep.handed i (some (true, e, es')) r (by rw [he]) (by rw [he, ha]; exact hp) ?_ (by rw [he]; exact hfe) (by intro a b c; cases c; rw [he]), ?_⟩⟩
  · intro a hm
    exact hfree _ (ha ▸ List.mem_map.2 ⟨a, hm, rfl⟩)
  · simpa [Mem.handed, Mem.handedVer, he] using h
/-- The array at place i is handed on for good. -/
theorem call_d (i v : Nat) (e : TypeId) (es : List (List AV)) (he : st.mem.arrs i = ⟨v, true, e, es⟩) {las : List AV} {r : AV} (hp : OCall P f (some (e, es)) las none r) (ha : as.map (lendO st.mem i) = las)
    (hfree : ∀ a ∈ las, (strip a).Free (fun _ => True)) (hfe : ∀ q ∈ es, ∀ c ∈ q, AV.Free (fun _ => True) c)
    (h : L (St.put ⟨st.env, ⟨st.mem.boxes, fun j => if j = i then ⟨v, false, e, es⟩ else st.mem.arrs j⟩⟩ dst (ren i v r))) : onCall ⟨P, own, verT, wr⟩ f as les dst L st := by
  refine ⟨fun _ => ⟨_, _, CallStep.handed i none r (by rw [he]) (by rw [he, ha]; exact hp) ?_ (by rw [he]; exact hfe) (by intro a b c; cases c), ?_⟩⟩
  · intro a hm
    exact hfree _ (ha ▸ List.mem_map.2 ⟨a, hm, rfl⟩)
  · simpa [Mem.handed, Mem.handedVer, he] using h
/-- A new array is handed back: it is at place d from now on. -/
theorem call_n (d : Nat) {e : TypeId} {es : List (List AV)} {r : AV} (hp : OCall P f none les (some (false, e, es)) r) (hfree : ∀ a ∈ les, a.Free (fun _ => True))
    (h : L (St.put ⟨st.env, ⟨st.mem.boxes, fun j => if j = d then ⟨(st.mem.arrs d).ver + 1, true, e, es⟩ else st.mem.arrs j⟩⟩ dst (ren d ((st.mem.arrs d).ver + 1) r))) : onCall ⟨P, own, verT, wr⟩ f as les dst L st := by
  refine ⟨?_⟩
  rintro rfl
  refine ⟨_, _, CallStep.made d e es r hp fun a hm => hfree _ (List.mem_map.2 ⟨a, hm, rfl⟩), ?_⟩
  simpa [Mem.made] using h
end

/-! ### Regions in which a new variable is laid at any time -/

section
variable {G : Cfg} {nt : Nat} {st : St} {ops : Array Oper} {L : St → Prop} {dst : Option Tmp} {ty : TypeId} {pos : String} {aft : Array Edge}

def onAlloc (o : Option (Tmp × TypeId)) (K : Tmp → TypeId → Prop) : Prop := match o with
  | some (d, t) => K d t
  | none => False
def onZer (o : Option (List AV)) (K : List AV → Prop) : Prop := match o with
  | some z => K z
  | none => False
theorem onAlloc_some (d : Tmp) (t : TypeId) (K : Tmp → TypeId → Prop) : onAlloc (some (d, t)) K = K d t := rfl
theorem onZer_some (z : List AV) (K : List AV → Prop) : onZer (some z) K = K z := rfl
theorem adraw_f (a : Nat) {l : List Oper} (hok : ((allocAt l.toArray a).isSome && drawF l.toArray a ((idx l 0).take a) ((idx l 0).drop (a + 1))) = true)
    (h2 : onAlloc (allocAt l.toArray a) fun d t => d < nt ∧ G.zerOK t = true ∧ onZer (G.zer t) fun zs =>
      apreF G nt l.toArray ((idx l 0).take a) (fun st1 => asuf G nt l.toArray ((idx l 0).drop (a + 1)) L ⟨fun u => if u = d then .box st.mem.boxes.length 0 else st1.env u, ⟨st.mem.boxes ++ [zs], st.mem.arrs⟩⟩) st) : adraw G nt l.toArray L st := by
  simp only [Bool.and_eq_true] at hok
  cases hal : allocAt l.toArray a with
  | none => rw [hal] at hok; cases hok.1
  | some q =>
    obtain ⟨d, t⟩ := q
    rw [hal] at h2
    obtain ⟨hd, hz, h3⟩ := h2
    cases hzs : G.zer t with
    | none => rw [hzs] at h3; exact h3.elim
    | some zs =>
      rw [hzs] at h3
      exact .inr ⟨a, _, _, d, t, zs, hok.2, hal, hd, hz, hzs, h3⟩
structure onCallF (G : Cfg) (f : FuncId) (xs les : List AV) (dst : Option Tmp) (L : St → Prop) (st : St) : Prop where
  out : les = xs.map (lend st.mem) → ∃ r, Pure G.P f les r ∧ (∀ a ∈ les, a.Free fun _ => True) ∧ L (st.put dst r)
theorem onCallF_c {f : FuncId} {xs xs' les les' : List AV} (h : xs = xs') (h' : les = les') : onCallF G f xs les dst L st = onCallF G f xs' les' dst L st := by rw [h, h']
def onOpF (G : Cfg) (nt : Nat) (o : Option Oper) (L : St → Prop) (st : St) : Prop := match o with
  | some o => o.guard = none ∧ dstOK nt o.dst = true ∧ aopF G o L st
  | none => False
theorem onOpF_c {o o' : Option Oper} (h : o = o') : onOpF G nt o L st = onOpF G nt o' L st := by rw [h]
theorem apreF_st {l : List Nat} {st' : St} (h : st = st') : apreF G nt ops l L st = apreF G nt ops l L st' := by rw [h]
theorem apreF_nil : apreF G nt ops [] L st = L st := rfl
theorem apreF_cons (i : Nat) (l : List Nat) : apreF G nt ops (i :: l) L st = onOpF G nt ops[i]? (apreF G nt ops l L) st := by
  simp only [apreF, onOpF]
  cases ops[i]? <;> rfl
theorem onOpF_move (x : Operand) : onOpF G nt (some ⟨dst, .move x, ty, pos, aft, none⟩) L st = (dstOK nt dst = true ∧ L (st.put dst (st.ev x))) := by simp [onOpF, aopF]
theorem onOpF_load (t : TypeId) (p : Operand) : onOpF G nt (some ⟨dst, .load t p, ty, pos, aft, none⟩) L st = (dstOK nt dst = true ∧ onVal ((st.mem.cellsAt (st.ev p)).bind (G.loadOf t)) dst L st) := by
  simp only [onOpF, aopF, onVal, true_and]
  cases (st.mem.cellsAt (st.ev p)).bind (G.loadOf t) <;> rfl
theorem onOpF_call (f : FuncId) (args : Array Operand) (tys : Array TypeId) : onOpF G nt (some ⟨dst, .call ⟨.value (.func f), args, tys⟩, ty, pos, aft, none⟩) L st =
    (dstOK nt dst = true ∧ onCallF G f (args.toList.map st.ev) ((args.toList.map st.ev).map (lend st.mem)) dst L st) := by
  have e : onCallF G f (args.toList.map st.ev) ((args.toList.map st.ev).map (lend st.mem)) dst L st = ∃ r, Pure G.P f ((args.toList.map st.ev).map (lend st.mem)) r ∧ (∀ a ∈ args.toList.map st.ev, (lend st.mem a).Free fun _ => True) ∧ L (st.put dst r) :=
    propext ⟨fun h => by
      obtain ⟨r, h1, h2, h3⟩ := h.out rfl
      exact ⟨r, h1, fun a ha => h2 _ (List.mem_map.2 ⟨a, ha, rfl⟩), h3⟩, fun ⟨r, h1, h2, h3⟩ => ⟨fun _ => ⟨r, h1, fun a ha => by
      obtain ⟨b, hb, rfl⟩ := List.mem_map.1 ha
      exact h2 b hb, h3⟩⟩⟩
  rw [e]
  simp only [onOpF, aopF, true_and]
theorem call_f {P : Program} {own : Nat → Bool} {verT : TypeId → Bool} {wr : Nat → Bool} {f : FuncId} {xs les : List AV} {r : AV} (hp : Pure P f les r) (hf : ∀ a ∈ les, a.Free (fun _ => True)) (h : L (st.put dst r)) : onCallF ⟨P, own, verT, wr⟩ f xs les dst L st :=
  ⟨fun _ => ⟨r, hp, hf, h⟩⟩
end

attribute [congr] kResO_st onCallF_c onOpF_c apreF_st
attribute [simp] allocAt onAlloc_some onZer_some apreF_nil apreF_cons onOpF_move onOpF_load onOpF_call
attribute [simp] kResO_normal kResO_ret kEnd rawOf resVar finO finO1 ren ren1 strip strip1 lendO lendO1

end Go.Proofs.Ytbmfoijakgccgaa.Am
