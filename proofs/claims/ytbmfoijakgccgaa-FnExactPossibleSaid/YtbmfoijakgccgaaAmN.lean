/- The abstract machine: the precondition of operations in their order, of code, and that it is sound. No conditions. -/
import Derived.Test.YtbmfoijakgccgaaAmMo
namespace Go.Proofs.Ytbmfoijakgccgaa.Am
open Go Go.RowKit
set_option linter.unusedSimpArgs false
set_option linter.unusedVariables false

/-- What a call may leave: r in the slot, m' as memory. -/
inductive CallStep (G : Cfg) (m : Mem) (dst : Option Tmp) (f : FuncId) (args : List AV) : AV → Mem → Prop
  | pure (r : AV) (hp : Pure G.P f (args.map (lend m)) r) (hfree : ∀ a ∈ args, (lend m a).Free (fun _ => True)) : CallStep G m dst f args r m
  | boxes (r : AV) (hp : BCall G.P f (args.map (lend m)) (lentBoxes m) r) : CallStep G m dst f args r m
  | handed (i : Nat) (out : Option (Bool × TypeId × List (List AV))) (r : AV) (hl : (m.arrs i).live = true) (hp : OCall G.P f (some ((m.arrs i).elem, (m.arrs i).es)) (args.map (lendO m i)) out r)
      (hfree : ∀ a ∈ args, (strip (lendO m i a)).Free (fun _ => True)) (hfe0 : ∀ q ∈ (m.arrs i).es, ∀ c ∈ q, AV.Free (fun _ => True) c) (hsame : ∀ e es, out = some (true, e, es) → e = (m.arrs i).elem) : CallStep G m dst f args (ren i (m.handedVer i out) r) (m.handed i out)
  | made (d : Nat) (e : TypeId) (es : List (List AV)) (r : AV) (hp : OCall G.P f none (args.map (lend m)) (some (false, e, es)) r) (hfree : ∀ a ∈ args, (lend m a).Free (fun _ => True)) :
      CallStep G m dst f args (ren d ((m.arrs d).ver + 1) r) (m.made d e es).2

theorem CallStep.enters {G : Cfg} {m m' : Mem} {dst : Option Tmp} {f : FuncId} {args : List AV} {r : AV} (h : CallStep G m dst f args r m') : enters G.P f = true := by
  cases h with
  | pure _ hp _ => exact hp.1
  | boxes _ hp => exact hp.1
  | handed => rename_i hp _ _ _; exact hp.1
  | made => rename_i hp _; exact hp.1

theorem CallStep.sound {G : Cfg} {base : Nat} {bx0 : List Nat} {C : Ctx} {m m' : Mem} (M : MemOK G base bx0 C m) {dst : Option Tmp} {f : FuncId} {args : List AV} {r : AV} (h : CallStep G m dst f args r m') {vs : Array Value} (hv : RVs C args vs.toList) :
    Calls G.P f vs C.w fun e w' => ∃ v, e = .returned v ∧ Nxt G base bx0 C w' m' fun D => RV D r v := by
  cases h with
  | pure _ hp hfree => exact pure_call M hp hfree hv
  | boxes _ hp => exact boxes_call M hp hv
  | handed => rename_i hl hp hfree hfe0 hsame; exact hand_call M hl hp hfree hfe0 hsame hv
  | made => rename_i hp hfree; exact new_call M hp hfree hv _

def dstOK (nt : Nat) : Option Tmp → Bool
  | some d => decide (d < nt)
  | none => true

/-- The guard of an operation: it runs (some true), it is passed by (some false). -/
def runs (ops : Array Oper) (st : St) (o : Oper) : Option Bool :=
  match o.guard with
  | none => some true
  | some (j, want) => match (ops[j]?).bind (·.dst) with
    | some t => match st.env t with
      | .v (.bool b) => some (b == want)
      | .v (.tuple _) => some false
      | _ => none
    | none => none

/-- What is asked where an operation runs, and where it is passed by. -/
def byGuard (g : Option Bool) (x y : Prop) : Prop := match g with
  | some b => (b = true → x) ∧ (b = false → y)
  | none => False

theorem byGuard_cases {g : Option Bool} {x y : Prop} (h : byGuard g x y) : (g = some true ∧ x) ∨ (g = some false ∧ y) := by
  cases g with
  | none => exact h.elim
  | some b => cases b with
    | true => exact .inl ⟨rfl, h.1 rfl⟩
    | false => exact .inr ⟨rfl, h.2 rfl⟩

/-- One operation: what has to hold that K holds behind it. -/
def aop (G : Cfg) (o : Oper) (K : St → Prop) (st : St) : Prop :=
  match o.op with
  | .call { callee := .value x, args := args, .. } => match st.ev x with
    | .clo f pre post => ∃ r m', CallStep G st.mem o.dst f (pre ++ args.toList.map st.ev ++ post) r m' ∧ K ({ st with mem := m' }.put o.dst r)
    | _ => False
  | _ => match aval G o st with
    | some (x, m') => K ({ st with mem := m' }.put o.dst x)
    | none => False

def aops (G : Cfg) (nt : Nat) (ops : Array Oper) : List Oper → (St → Prop) → St → Prop
  | [], K, st => K st
  | o :: rest, K, st => dstOK nt o.dst = true ∧ byGuard (runs ops st o) (aop G o (aops G nt ops rest K) st) (aops G nt ops rest K (st.put o.dst (.v undef)))

/-! ### Which operations have to be behind which -/

def direct (ops : Array Oper) (i : Nat) : List Nat :=
  match ops[i]? with
  | some o => (o.after.toList.filter (Region.binds .any)).map (·.on)
  | none => []

/-- All that is before an operation in every order: by number. -/
def clos (ops : Array Oper) : Nat → List (List Nat)
  | 0 => []
  | n + 1 => clos ops n ++ [(direct ops n).foldr (fun i acc => List.insert i (((clos ops n).getD i []).foldr List.insert acc)) []]

def names (ops : Array Oper) (i : Nat) : List Tmp :=
  match ops[i]? with
  | some o => o.dst.toList ++ o.looksAt ops
  | none => []

def writes (ops : Array Oper) (i : Nat) : Option Tmp := (ops[i]?).bind (·.dst)

def conflict (ops : Array Oper) (i j : Nat) : Bool :=
  (match writes ops i with | some d => (names ops j).contains d | none => false) ||
  (match writes ops j with | some d => (names ops i).contains d | none => false)

def pairsB (f : Nat → Nat → Bool) : List Nat → Bool
  | [] => true
  | i :: l => l.all (f i) && pairsB f l

def nodupB : List Nat → Bool
  | [] => true
  | i :: l => !l.contains i && nodupB l

def drawOK (ops : Array Oper) (pre suf : List Nat) : Bool :=
  let cl := clos ops ops.size
  nodupB (pre ++ suf) && (List.range ops.size).all (fun i => (pre ++ suf).contains i && (direct ops i).all (fun k => decide (k < i))) && (pre ++ suf).all (fun i => decide (i < ops.size)) &&
  pairsB (fun i j => !conflict ops i j || (cl.getD j []).contains i) pre &&
  suf.all (fun j => pre.all fun i => (cl.getD j []).contains i) && pairsB (fun i j => (cl.getD j []).contains i) suf

/-! ### The telling, in one order -/

def kKeep (m : Mem) (K : St → Prop) : St → Prop := fun st => st.mem = m ∧ K st

def apre (G : Cfg) (nt : Nat) (ops : Array Oper) : List Nat → (St → Prop) → St → Prop
  | [], K, st => K st
  | i :: rest, K, st => match ops[i]? with
    | none => False
    | some o => dstOK nt o.dst = true ∧ byGuard (runs ops st o) (aop G o (kKeep st.mem (apre G nt ops rest K)) st) (apre G nt ops rest K (st.put o.dst (.v undef)))

def asuf (G : Cfg) (nt : Nat) (ops : Array Oper) : List Nat → (St → Prop) → St → Prop
  | [], K, st => K st
  | i :: rest, K, st => match ops[i]? with
    | none => False
    | some o => dstOK nt o.dst = true ∧ byGuard (runs ops st o) (aop G o (asuf G nt ops rest K) st) (asuf G nt ops rest K (st.put o.dst (.v undef)))

def adrawS (G : Cfg) (nt : Nat) (ops : Array Oper) (K : St → Prop) (st : St) : Prop :=
  ∃ pre suf, drawOK ops pre suf = true ∧ apre G nt ops pre (asuf G nt ops suf K) st

/-- Operations that are told alike beside a new box. -/
def aopF (G : Cfg) (o : Oper) (K : St → Prop) (st : St) : Prop :=
  match o.op with
  | .move x => K (st.put o.dst (st.ev x))
  | .load t p => match (st.mem.cellsAt (st.ev p)).bind (G.loadOf t) with
    | some x => K (st.put o.dst x)
    | none => False
  | .call { callee := .value (.func f), args := args, .. } => ∃ r, Pure G.P f ((args.toList.map st.ev).map (lend st.mem)) r ∧ (∀ a ∈ args.toList.map st.ev, (lend st.mem a).Free fun _ => True) ∧ K (st.put o.dst r)
  | _ => False

def apreF (G : Cfg) (nt : Nat) (ops : Array Oper) : List Nat → (St → Prop) → St → Prop
  | [], K, st => K st
  | i :: rest, K, st => match ops[i]? with
    | none => False
    | some o => o.guard = none ∧ dstOK nt o.dst = true ∧ aopF G o (apreF G nt ops rest K) st

/-- The number of the operation that lays a new variable, its slot, its type. -/
def allocAt (ops : Array Oper) (a : Nat) : Option (Tmp × TypeId) := match ops[a]? with
  | some ⟨some d, .alloc t, _, _, _, none⟩ => some (d, t)
  | _ => none

def drawF (ops : Array Oper) (a : Nat) (pre suf : List Nat) : Bool := drawOK ops (a :: pre) suf && pre.all fun i => !conflict ops a i

/-- A new variable is laid at any time. -/
def adrawF (G : Cfg) (nt : Nat) (ops : Array Oper) (K : St → Prop) (st : St) : Prop :=
  ∃ a pre suf d t zs, drawF ops a pre suf = true ∧ allocAt ops a = some (d, t) ∧ d < nt ∧ G.zerOK t = true ∧ G.zer t = some zs ∧
    apreF G nt ops pre (fun st1 => asuf G nt ops suf K ⟨fun u => if u = d then .box st.mem.boxes.length 0 else st1.env u, ⟨st.mem.boxes ++ [zs], st.mem.arrs⟩⟩) st

def adraw (G : Cfg) (nt : Nat) (ops : Array Oper) (K : St → Prop) (st : St) : Prop := adrawS G nt ops K st ∨ adrawF G nt ops K st

/-- The frame holds the state. -/
structure Rel (G : Cfg) (nt base : Nat) (bx0 : List Nat) (C : Ctx) (st : St) (a : Act) : Prop where
  mem : MemOK G base bx0 C st.mem
  env : ∀ t, RV C (st.env t) (a.tmps.getD t undef)
  size : a.tmps.size = nt
  defers : a.defers = []

theorem Rel.put {G : Cfg} {nt base : Nat} {bx0 : List Nat} {C D : Ctx} {st : St} {a : Act} {m' : Mem} (R : Rel G nt base bx0 C st a) (K : Keeps C D) (M : MemOK G base bx0 D m') {dst : Option Tmp} (hd : dstOK nt dst = true) {x : AV} {v : Value} (hx : RV D x v) :
    Rel G nt base bx0 D ({ st with mem := m' }.put dst x) (a.put dst v) := by
  cases dst with
  | none => exact ⟨M, fun t => (R.env t).keep K, R.size, R.defers⟩
  | some d =>
    have hlt : d < nt := by simpa [dstOK] using hd
    refine ⟨M, ?_, by simp [Act.put, R.size], R.defers⟩
    intro t
    simp only [St.put, Act.put]
    by_cases h : t = d
    · subst h
      rw [if_pos rfl]
      have : (a.tmps.setIfInBounds t v).getD t undef = v := by simp [R.size, hlt]
      rw [this]
      exact hx
    · rw [if_neg h]
      have : (a.tmps.setIfInBounds d v).getD t undef = a.tmps.getD t undef := by
        simp only [Array.getD_eq_getD_getElem?]
        rw [Array.getElem?_setIfInBounds, if_neg (Ne.symm h)]
      rw [this]
      exact (R.env t).keep K

theorem runs_wanted {G : Cfg} {nt base : Nat} {bx0 : List Nat} {C : Ctx} {st : St} {a : Act} (R : Rel G nt base bx0 C st a) {ops : Array Oper} {o : Oper} {b : Bool} (h : runs ops st o = some b) : Region.wanted o (yielded ops a.tmps) = b := by
  unfold runs at h
  unfold Region.wanted
  split at h
  · rename_i hg
    rw [hg]
    cases h
    rfl
  · rename_i j want hg
    rw [hg]
    split at h
    · rename_i t ht
      have ht' : ∀ v, st.env t = .v v → yielded ops a.tmps j = match v with | .bool b => some b | _ => none := by
        intro v hv0
        have he := R.env t
        rw [hv0] at he
        have hv := rv_v he
        simp only [Array.getD_eq_getD_getElem?] at hv
        simp only [yielded, ht, Option.bind_some]
        cases hq : a.tmps[t]? with
        | none =>
          rw [hq] at hv
          simp only [Option.getD_none] at hv
          subst hv
          rfl
        | some q =>
          rw [hq] at hv
          simp only [Option.getD_some] at hv
          subst hv
          cases q <;> rfl
      split at h
      · rename_i p hp
        cases h
        show (yielded ops a.tmps j == some want) = _
        rw [ht' _ hp]
        cases p <;> cases want <;> rfl
      · rename_i p hp
        cases h
        show (yielded ops a.tmps j == some want) = _
        rw [ht' _ hp]
        cases want <;> rfl
      · cases h
    · cases h

/-- What Oper.wp asks, from aop. -/
theorem aop_sound {G : Cfg} (V : G.Vers) {nt base : Nat} {bx0 : List Nat} {C : Ctx} {st : St} {a : Act} {o : Oper} {K : St → Prop} (R : Rel G nt base bx0 C st a) (hd : dstOK nt o.dst = true) (h : aop G o K st)
    {next : Act → World → Prop} {Q : Exit → Act → World → Prop}
    (hnext : ∀ (D : Ctx) (st' : St) (a' : Act), K st' → Rel G nt base bx0 D st' a' → Keeps C D → D.N0 = C.N0 → WExt base bx0 C.w D.w → next a' D.w) : o.wp G.P a C.w next Q := by
  have general : ∀ (x : AV) (m' : Mem), aval G o st = some (x, m') → K ({ st with mem := m' }.put o.dst x) → o.wp G.P a C.w next Q := by
    intro x m' hv hK
    obtain ⟨nx, w', hrun, D, hw, hn, Kp, M, W, hres⟩ := aval_sound V R.mem R.env hv
    unfold Oper.wp
    rw [hrun]
    rcases hres with ⟨v, rfl, hr⟩ | ⟨rfl, rfl⟩
    · rw [Oper.upon_value]
      have := hnext D _ _ hK (R.put Kp M hd hr) Kp hn (hw ▸ W)
      rw [hw] at this
      exact this
    · rw [Oper.upon_skip]
      have := hnext D _ _ hK (R.put Kp M hd (.dead undef)) Kp hn (hw ▸ W)
      rw [hw] at this
      exact this
  have viaval : (match aval G o st with | some (x, m') => K ({ st with mem := m' }.put o.dst x) | none => False) → o.wp G.P a C.w next Q := by
    intro h
    cases hv : aval G o st with
    | none => rw [hv] at h; exact h.elim
    | some q => obtain ⟨x, m'⟩ := q; rw [hv] at h; exact general x m' hv h
  unfold aop at h
  split at h
  · rename_i x args tys hop
    split at h
    · rename_i f pre post hx
      obtain ⟨r, m', hc, hK⟩ := h
      have hev := rv_ev R.env x
      rw [hx] at hev
      have hent := hc.enters
      generalize hvx : a.eval x = vx at hev
      cases hev with
      | clo _ _ _ ps qs hp hq h1 h2 =>
        have hvs : RVs C (pre ++ args.toList.map st.ev ++ post) (ps ++ args.map a.eval ++ qs).toList := by
          simp only [Array.toList_append, Array.toList_map]
          refine RVs.append (RVs.append ⟨by simp [hp], fun j c y a b => h1 j c y a (by rw [← Array.getElem?_toList]; exact b)⟩ ⟨by simp, ?_⟩) ⟨by simp [hq], fun j c y a b => h2 j c y a (by rw [← Array.getElem?_toList]; exact b)⟩
          intro j c y ha hb
          rw [List.getElem?_map] at ha hb
          cases hj : args.toList[j]? with
          | none => rw [hj] at ha; cases ha
          | some q => rw [hj] at ha hb; cases ha; cases hb; exact rv_ev R.env q
        have hcall := hc.sound R.mem hvs
        have hrun : (execOp a.eval o).run G.P C.w = .ok (.enter f (ps ++ args.map a.eval ++ qs)) C.w := by
          have he : ∃ fn, G.P.funcs[f]? = some fn ∧ ¬ fn.name = "runtime.NumGoroutine" ∧ ¬ fn.body = none := by
            unfold enters at hent
            split at hent
            · rename_i fn hfn
              simp only [Bool.and_eq_true, bne_iff_ne, ne_eq] at hent
              refine ⟨fn, hfn, hent.1, ?_⟩
              have h2 := hent.2
              cases hb : fn.body with
              | none => rw [hb] at h2; cases h2
              | some c => simp
            · cases hent
          obtain ⟨fn, hfn, hnm, hbd⟩ := he
          simp [execOp, hop, resolve, Deferred.ofValue, hvx, invoke, callFunc, hfn, hnm, hbd]
        unfold Oper.wp
        rw [hrun, Oper.upon_enter]
        refine hcall.mono ?_
        rintro e w' ⟨v, rfl, D, hw, hn, Kp, M, W, hr⟩
        have := hnext D _ _ hK (R.put Kp M hd hr) Kp hn (hw ▸ W)
        rw [hw] at this
        exact this
    · exact h.elim
  · exact viaval h

theorem aops_sound {G : Cfg} (V : G.Vers) {nt base : Nat} {bx0 : List Nat} (ops : Array Oper) (Q : Exit → Act → World → Prop) : ∀ (l : List Nat) (rest : List Oper), l.map (ops[·]?) = rest.map some → ∀ (C0 C : Ctx) (st : St) (a : Act) (K : St → Prop), Rel G nt base bx0 C st a → Keeps C0 C → C.N0 = C0.N0 → WExt base bx0 C0.w C.w →
    aops G nt ops rest K st → (∀ (D : Ctx) (st' : St) (a' : Act), K st' → Rel G nt base bx0 D st' a' → Keeps C0 D → D.N0 = C0.N0 → WExt base bx0 C0.w D.w → Q .normal a' D.w) → wpOps G.P ops Q l a C.w
  | [], rest, hl, C0, C, st, a, K, R, K0, hN, W, h, hQ => by
    cases rest with
    | nil => exact hQ C st a h R K0 hN W
    | cons => cases hl
  | i :: l, rest, hl, C0, C, st, a, K, R, K0, hN, W, h, hQ => by
    cases rest with
    | nil => cases hl
    | cons o rest =>
      simp only [List.map_cons, List.cons.injEq] at hl
      obtain ⟨hi, hl⟩ := hl
      obtain ⟨hd, h⟩ := h
      rw [wpOps_cons]
      unfold wpOp
      rw [hi]
      simp only
      rcases byGuard_cases h with ⟨hr, h⟩ | ⟨hr, h⟩
      · rw [runs_wanted R hr]
        simp only [if_true]
        refine .inl (aop_sound V R hd h ?_)
        intro D st' a' hK R' Kp hn W'
        exact aops_sound V ops Q l rest hl C0 D st' a' K R' (K0.trans Kp) (hn.trans hN) (W.trans W') hK hQ
      · rw [runs_wanted R hr]
        simp only [Bool.false_eq_true, if_false]
        exact aops_sound V ops Q l rest hl C0 C _ _ K (R.put (Keeps.refl C) R.mem hd (.v undef)) K0 hN W h hQ


/-- The state is known less well: slots forgotten. -/
structure Less (st st' : St) : Prop where
  env : ∀ t, st'.env t = st.env t ∨ st'.env t = .dead
  boxes : st'.mem.boxes = st.mem.boxes
  arrs : ∀ i, st'.mem.arrs i = st.mem.arrs i

theorem Less.refl (st : St) : Less st st := ⟨fun _ => .inl rfl, rfl, fun _ => rfl⟩

theorem Rel.less {G : Cfg} {nt base : Nat} {bx0 : List Nat} {C : Ctx} {st st' : St} {a : Act} (R : Rel G nt base bx0 C st a) (h : Less st st') : Rel G nt base bx0 C st' a := by
  have e : st'.mem = st.mem := by
    cases hm : st'.mem with
    | mk b a => cases hm2 : st.mem with
      | mk b2 a2 =>
        have h1 := h.boxes
        have h2 := h.arrs
        rw [hm, hm2] at h1 h2
        simp only at h1 h2
        rw [h1, funext h2]
  refine ⟨e ▸ R.mem, ?_, R.size, R.defers⟩
  intro t
  rcases h.env t with h | h
  · rw [h]; exact R.env t
  · rw [h]; exact .dead _

/-- Behind the first of two. -/
def kSeq (f : St → Prop) (K : Exit → St → Prop) : Exit → St → Prop
  | .normal, st => f st
  | e, st => K e st
def kBlock (id : Nat) (K : Exit → St → Prop) : Exit → St → Prop
  | .exit id', st => if id' = id then K .normal st else K (.exit id') st
  | e, st => K e st

/-- What has to hold at the head of code that K holds where it ends. -/
def acode (G : Cfg) (nt : Nat) : Code → (Exit → St → Prop) → St → Prop
  | .skip, K, st => K .normal st
  | .label _, K, st => K .normal st
  | .exit id, K, st => K (.exit id) st
  | .ret, K, st => K .ret st
  | .seq a b, K, st => acode G nt a (kSeq (acode G nt b K) K) st
  | .cond c x y, K, st => match st.ev c with
    | .v (.bool b) => (b = true → acode G nt x K st) ∧ (b = false → acode G nt y K st)
    | _ => False
  | .block id c, K, st => acode G nt c (kBlock id K) st
  | .loop c, K, st => ∃ (I : Nat → St → Prop) (n0 : Nat), (∃ st0, Less st st0 ∧ I n0 st0) ∧ ∀ n st', I n st' → acode G nt c (kSeq (fun st'' => ∃ st3 m, Less st'' st3 ∧ m < n ∧ I m st3) K) st'
  | .region _ ops false, K, st => aops G nt ops ops.toList (K .normal) st
  | .region _ ops true, K, st => adraw G nt ops (K .normal) st
  | _, _, _ => False

/-- The rule for a loop: the states at its head are told by data. -/
theorem aloop {G : Cfg} {nt : Nat} {c : Code} {K : Exit → St → Prop} {st : St} {α : Type} (shape : α → St) (inv : α → Prop) (μ : α → Nat) (d0 : α) (h0 : Less st (shape d0)) (i0 : inv d0)
    (h : ∀ d, inv d → acode G nt c (kSeq (fun st'' => ∃ d', Less st'' (shape d') ∧ inv d' ∧ μ d' < μ d) K) (shape d)) : acode G nt (.loop c) K st := by
  refine ⟨fun n s => ∃ d, inv d ∧ s = shape d ∧ μ d = n, μ d0, ⟨_, h0, d0, i0, rfl, rfl⟩, ?_⟩
  rintro n st' ⟨d, hi, rfl, rfl⟩
  have e : (fun st'' : St => ∃ st3 m, Less st'' st3 ∧ m < μ d ∧ ∃ d', inv d' ∧ st3 = shape d' ∧ μ d' = m) = fun st'' => ∃ d', Less st'' (shape d') ∧ inv d' ∧ μ d' < μ d := by
    funext s
    refine propext ⟨?_, ?_⟩
    · rintro ⟨st3, m, hl, hm, d', hi', rfl, rfl⟩
      exact ⟨d', hl, hi', hm⟩
    · rintro ⟨d', hl, hi', hm⟩
      exact ⟨_, _, hl, hm, d', hi', rfl, rfl⟩
  rw [e]
  exact h d hi

end Go.Proofs.Ytbmfoijakgccgaa.Am
