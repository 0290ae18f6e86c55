/- The abstract machine: the precondition of operations in their order, of code, and that it is sound. No conditions. -/
import Derived.Test.YtokhnmchnfkiiaaDoorAmMw
namespace Go.Proofs.YtokhnmchnfkiiaaDoor.Am
open Go Go.RowKit
set_option linter.unusedSimpArgs false
set_option linter.unusedVariables false

/-- The configuration by which calls are told that turn the caller's own memory. -/
def Gi (P : Program) : Cfg := ⟨P, fun _ => false, fun _ => false, fun _ => true, 0⟩
/-- Where such calls may be made. -/
structure Cfg.IcOK (G : Cfg) : Prop where
  one : G.md ≠ 1
  two : G.md ≠ 2
  wr : ∀ k, G.wr k = true
theorem MemOK.swap {G G' : Cfg} (hP : G.P = G'.P) (h : G.IcOK) (h' : G'.IcOK) {base : Nat} {bx0 : List Nat} {C : Ctx} {m : Mem} (M : MemOK G base bx0 C m) : MemOK G' base bx0 C m := by
  have hz : ∀ t, G'.csz t = G.csz t := fun t => by unfold Cfg.csz; rw [hP]
  refine ⟨M.bxlen, M.nodup, fun k b h1 _ => M.bxlt k b h1 (h.wr k), M.le, M.n0, M.box, M.ver, M.dead, ?_, M.sep, M.lo, ⟨M.wild.soft, M.wild.bx, M.wild.own, fun e => (h'.two e).elim⟩, fun e => (h'.one e).elim, M.glob⟩
  intro i hl
  obtain ⟨I, xs, h1, h2, h3⟩ := M.arr i hl
  exact ⟨I, xs, h1, by rw [hz]; exact h2, h3⟩
theorem icOK_Gi (P : Program) : (Gi P).IcOK := ⟨by simp [Gi], by simp [Gi], fun _ => rfl⟩

/-- A function that turns the caller's own memory (boxes, arrays): where m is held it ends, and Q tells of the result and of the memory behind it. -/
def ICall (P : Program) (m : Mem) (f : FuncId) (args : List AV) (Q : AV → Mem → Prop) : Prop :=
  enters P f = true ∧ ∀ (base : Nat) (bx0 : List Nat) (C : Ctx) (vs : Array Value), MemOK (Gi P) base bx0 C m → RVs C args vs.toList →
    Calls P f vs C.w fun e w' => ∃ v r m', e = .returned v ∧ Q r m' ∧ Nxt (Gi P) base bx0 C w' m' fun D => RV D r v

/-- What a call may leave: r in the slot, m' as memory. -/
inductive CallStep (G : Cfg) (m : Mem) (dst : Option Tmp) (f : FuncId) (args : List AV) : AV → Mem → Prop
  | pure (r : AV) (hp : Pure G.P f (args.map (lend m)) r) (hfree : ∀ a ∈ args, (lend m a).Free (fun _ => True)) : CallStep G m dst f args r m
  | pureN (r : AV) (hp : Pure G.P f (args.map (lendN m)) r) (hfree : ∀ a ∈ args, (lend m a).Free (fun _ => True)) : CallStep G m dst f args r m
  | boxes (r : AV) (hp : BCall G.P f (args.map (lend m)) (lentBoxes m) r) : CallStep G m dst f args r m
  | boxesN (r : AV) (hp : BCall G.P f (args.map (lendN m)) (lentBoxes m) r) : CallStep G m dst f args r m
  | handed (i : Nat) (out : Option (Bool × TypeId × List (List AV))) (r : AV) (hl : (m.arrs i).live = true) (hp : OCall G.P f (some ((m.arrs i).elem, (m.arrs i).es)) (args.map (lendO m i)) out r)
      (hfree : ∀ a ∈ args, (strip (lendO m i a)).Free (fun _ => True)) (hfe0 : ∀ q ∈ (m.arrs i).es, ∀ c ∈ q, AV.Free (fun _ => True) c) (hsame : ∀ e es, out = some (true, e, es) → e = (m.arrs i).elem) : CallStep G m dst f args (ren i (m.handedVer i out) r) (m.handed i out)
  | made (d : Nat) (e : TypeId) (es : List (List AV)) (r : AV) (hp : OCall G.P f none (args.map (lend m)) (some (false, e, es)) r) (hfree : ∀ a ∈ args, (lend m a).Free (fun _ => True)) :
      CallStep G m dst f args (ren d ((m.arrs d).ver + 1) r) (m.made d e es).2
  | handedB (i : Nat) (out : Option (Bool × TypeId × List (List AV))) (r : AV) (hl : (m.arrs i).live = true) (hp : OCallB G.P f (lentBoxesO m (some i)) (some ((m.arrs i).elem, (m.arrs i).es)) (args.map (lendO m i)) out r)
      (hfree : ∀ a ∈ args, (strip (lendO m i a)).closed) (hcb : ∀ cs ∈ lentBoxesO m (some i), ∀ c ∈ cs, c.closed) (hfe0 : ∀ q ∈ (m.arrs i).es, ∀ c ∈ q, AV.closed c) (hsame : ∀ e es, out = some (true, e, es) → e = (m.arrs i).elem) : CallStep G m dst f args (ren i (m.handedVer i out) r) (m.handed i out)
  | madeB (d : Nat) (e : TypeId) (es : List (List AV)) (r : AV) (hp : OCallB G.P f (lentBoxesO m none) none (args.map (lend m)) (some (false, e, es)) r) (hfree : ∀ a ∈ args, (lend m a).closed) (hcb : ∀ cs ∈ lentBoxesO m none, ∀ c ∈ cs, c.closed) :
      CallStep G m dst f args (ren d ((m.arrs d).ver + 1) r) (m.made d e es).2
  | madeN (d : Nat) (e : TypeId) (es : List (List AV)) (r : AV) (hp : OCall G.P f none (args.map (lendN m)) (some (false, e, es)) r) (hfree : ∀ a ∈ args, (lend m a).Free (fun _ => True)) :
      CallStep G m dst f args (ren d ((m.arrs d).ver + 1) r) (m.made d e es).2
  | wild (x : Value) (hmd : G.md = 2) (hp : MCall G.P f args x) (hf : ∀ a ∈ args, a.Wf) : CallStep G m dst f args (.v x) m
  | src (w : Nat → Bool) (bs' : List (List AV)) (r : AV) (hp : SCall G.P f args m.boxes w bs' r) (hw : ∀ k, w k = true → k < m.boxes.length → G.wr k = true) : CallStep G m dst f args r ⟨bs', m.arrs⟩

theorem CallStep.enters {G : Cfg} {m m' : Mem} {dst : Option Tmp} {f : FuncId} {args : List AV} {r : AV} (h : CallStep G m dst f args r m') : enters G.P f = true := by
  cases h with
  | pure _ hp _ => exact hp.1
  | pureN _ hp _ => exact hp.1
  | boxes _ hp => exact hp.1
  | boxesN _ hp => exact hp.1
  | handed => rename_i hp _ _ _; exact hp.1
  | made => rename_i hp _; exact hp.1
  | madeN => rename_i hp _; exact hp.1
  | wild _ _ hp _ => exact hp.1
  | src w bs' _ hp _ => exact hp.1
  | handedB => rename_i hp _ _ _ _; exact hp.1
  | madeB => rename_i hp _ _; exact hp.1

theorem CallStep.sound {G : Cfg} {base : Nat} {bx0 : List Nat} {C : Ctx} {m m' : Mem} (M : MemOK G base bx0 C m) {dst : Option Tmp} {f : FuncId} {args : List AV} {r : AV} (h : CallStep G m dst f args r m') {vs : Array Value} (hv : RVs C args vs.toList) :
    Calls G.P f vs C.w fun e w' => ∃ v, e = .returned v ∧ Nxt G base bx0 C w' m' fun D => RV D r v := by
  cases h with
  | pure _ hp hfree => exact pure_call M hp hfree hv
  | pureN _ hp hfree => exact pure_callN M hp hfree hv
  | boxes _ hp => exact boxes_call M hp hv
  | boxesN _ hp => exact boxes_callN M hp hv
  | handed => rename_i hl hp hfree hfe0 hsame; exact hand_call M hl hp hfree hfe0 hsame hv
  | made => rename_i hp hfree; exact new_call M hp hfree hv _
  | madeN => rename_i hp hfree; exact new_callN M hp hfree hv _
  | wild _ hmd hp hf => exact wild_call M hmd hp hf hv
  | src w bs' _ hp hw => exact src_call M hp hw hv
  | handedB => rename_i hl hp hfree hcb hfe0 hsame; exact hand_callB M hl hp hfree hcb hfe0 hsame hv
  | madeB => rename_i hp hfree hcb; exact new_callB M hp hfree hcb hv _

def dstOK (nt : Nat) : Option Tmp → Bool
  | some d => decide (d < nt)
  | none => true

/-- The guard of an operation: it runs (some true), it is passed by (some false). -/
def runs (ops : Array Oper) (st : St) (o : Oper) : Option Bool :=
  match o.guard with
  | none => some true
  | some (j, want) => match (ops[j]?).bind (·.dst) with
    | some t => match st.env t with
      | .v (.bool b) => some (b == want)
      | .v (.tuple _) => some false
      | _ => none
    | none => none

/-- What is asked where an operation runs, and where it is passed by. -/
def byGuard (g : Option Bool) (x y : Prop) : Prop := match g with
  | some b => (b = true → x) ∧ (b = false → y)
  | none => False

theorem byGuard_cases {g : Option Bool} {x y : Prop} (h : byGuard g x y) : (g = some true ∧ x) ∨ (g = some false ∧ y) := by
  cases g with
  | none => exact h.elim
  | some b => cases b with
    | true => exact .inl ⟨rfl, h.1 rfl⟩
    | false => exact .inr ⟨rfl, h.2 rfl⟩

/-- One operation: what has to hold that K holds behind it ('ic': calls that turn the caller's memory are among them). -/
def aop (G : Cfg) (ic : Bool) (o : Oper) (K : St → Prop) (st : St) : Prop :=
  match o.op with
  | .call { callee := .value x, args := args, .. } => match st.ev x with
    | .clo f pre post => (∃ r m', CallStep G st.mem o.dst f (pre ++ args.toList.map st.ev ++ post) r m' ∧ K ({ st with mem := m' }.put o.dst r)) ∨
      (ic = true ∧ G.IcOK ∧ ∃ Q, ICall G.P st.mem f (pre ++ args.toList.map st.ev ++ post) Q ∧ ∀ r m', Q r m' → K ({ st with mem := m' }.put o.dst r))
    | _ => False
  | _ => match aval G o st with
    | some (x, m') => K ({ st with mem := m' }.put o.dst x)
    | none => False

def aops (G : Cfg) (nt : Nat) (ops : Array Oper) : List Oper → (St → Prop) → St → Prop
  | [], K, st => K st
  | o :: rest, K, st => dstOK nt o.dst = true ∧ byGuard (runs ops st o) (aop G true o (aops G nt ops rest K) st) (aops G nt ops rest K (st.put o.dst (.v undef)))

/-! ### Which operations have to be behind which -/

def direct (ops : Array Oper) (i : Nat) : List Nat :=
  match ops[i]? with
  | some o => (o.after.toList.filter (Region.binds .any)).map (·.on)
  | none => []

/-- All that is before an operation in every order: by number. -/
def clos (ops : Array Oper) : Nat → List (List Nat)
  | 0 => []
  | n + 1 => clos ops n ++ [(direct ops n).foldr (fun i acc => List.insert i (((clos ops n).getD i []).foldr List.insert acc)) []]

def names (ops : Array Oper) (i : Nat) : List Tmp :=
  match ops[i]? with
  | some o => o.dst.toList ++ o.looksAt ops
  | none => []

def writes (ops : Array Oper) (i : Nat) : Option Tmp := (ops[i]?).bind (·.dst)

def conflict (ops : Array Oper) (i j : Nat) : Bool :=
  (match writes ops i with | some d => (names ops j).contains d | none => false) ||
  (match writes ops j with | some d => (names ops i).contains d | none => false)

def pairsB (f : Nat → Nat → Bool) : List Nat → Bool
  | [] => true
  | i :: l => l.all (f i) && pairsB f l

def nodupB : List Nat → Bool
  | [] => true
  | i :: l => !l.contains i && nodupB l

def drawOK (ops : Array Oper) (pre suf : List Nat) : Bool :=
  let cl := clos ops ops.size
  nodupB (pre ++ suf) && (List.range ops.size).all (fun i => (pre ++ suf).contains i && (direct ops i).all (fun k => decide (k < i))) && (pre ++ suf).all (fun i => decide (i < ops.size)) &&
  pairsB (fun i j => !conflict ops i j || (cl.getD j []).contains i) pre &&
  suf.all (fun j => pre.all fun i => (cl.getD j []).contains i) && pairsB (fun i j => (cl.getD j []).contains i) suf

/-! ### The telling, in one order -/

def kKeep (m : Mem) (K : St → Prop) : St → Prop := fun st => st.mem = m ∧ K st

def apre (G : Cfg) (nt : Nat) (ops : Array Oper) : List Nat → (St → Prop) → St → Prop
  | [], K, st => K st
  | i :: rest, K, st => match ops[i]? with
    | none => False
    | some o => dstOK nt o.dst = true ∧ byGuard (runs ops st o) (aop G false o (kKeep st.mem (apre G nt ops rest K)) st) (apre G nt ops rest K (st.put o.dst (.v undef)))

def asuf (G : Cfg) (nt : Nat) (ops : Array Oper) : List Nat → (St → Prop) → St → Prop
  | [], K, st => K st
  | i :: rest, K, st => match ops[i]? with
    | none => False
    | some o => dstOK nt o.dst = true ∧ byGuard (runs ops st o) (aop G true o (asuf G nt ops rest K) st) (asuf G nt ops rest K (st.put o.dst (.v undef)))

def adrawS (G : Cfg) (nt : Nat) (ops : Array Oper) (K : St → Prop) (st : St) : Prop :=
  ∃ pre suf, drawOK ops pre suf = true ∧ apre G nt ops pre (asuf G nt ops suf K) st

/-- Operations that are told alike beside a new box. -/
def aopF (G : Cfg) (o : Oper) (K : St → Prop) (st : St) : Prop :=
  match o.op with
  | .move x => K (st.put o.dst (st.ev x))
  | .load t p => match (st.mem.cellsAt (st.ev p)).bind (G.loadOf t) with
    | some x => K (st.put o.dst x)
    | none => False
  | .call { callee := .value (.func f), args := args, .. } => ∃ r, Pure G.P f ((args.toList.map st.ev).map (lend st.mem)) r ∧ (∀ a ∈ args.toList.map st.ev, (lend st.mem a).Free fun _ => True) ∧ K (st.put o.dst r)
  | _ => False

def apreF (G : Cfg) (nt : Nat) (ops : Array Oper) : List Nat → (St → Prop) → St → Prop
  | [], K, st => K st
  | i :: rest, K, st => match ops[i]? with
    | none => False
    | some o => o.guard = none ∧ dstOK nt o.dst = true ∧ aopF G o (apreF G nt ops rest K) st

/-- The number of the operation that lays a new variable, its slot, its type. -/
def allocAt (ops : Array Oper) (a : Nat) : Option (Tmp × TypeId) := match ops[a]? with
  | some ⟨some d, .alloc t, _, _, _, none⟩ => some (d, t)
  | _ => none

def drawF (ops : Array Oper) (a : Nat) (pre suf : List Nat) : Bool := drawOK ops (a :: pre) suf && pre.all fun i => !conflict ops a i

/-- A new variable is laid at any time. -/
def adrawF (G : Cfg) (nt : Nat) (ops : Array Oper) (K : St → Prop) (st : St) : Prop :=
  ∃ a pre suf d t zs, drawF ops a pre suf = true ∧ allocAt ops a = some (d, t) ∧ d < nt ∧ G.zerOK t = true ∧ G.zer t = some zs ∧
    apreF G nt ops pre (fun st1 => asuf G nt ops suf K ⟨fun u => if u = d then .box st.mem.boxes.length 0 else st1.env u, ⟨st.mem.boxes ++ [zs], st.mem.arrs⟩⟩) st

/-- What an operation yields in a state, and the memory behind it. -/
def yieldsTo (G : Cfg) (o : Oper) (x : AV) (e : Nat → AV) (m m' : Mem) : Prop := aop G false o (fun s => s = St.put ⟨e, m'⟩ o.dst x) ⟨e, m⟩
/-- Between which of the chain's operations each of the others runs. -/
def rgOK (ops : Array Oper) (ch l : List Nat) (rg : List (Nat × Nat)) : Bool := l.all fun i => ch.contains i || (decide ((rg.getD i (0, ch.length)).1 ≤ ch.countP (fun y => ((clos ops ops.size).getD i []).contains y)) && decide (ch.countP (fun y => !((clos ops ops.size).getD y []).contains i) ≤ (rg.getD i (0, ch.length)).2))
/-- The operations told in a list's order: those of the chain turn the memory, one after the other; the others yield the same at every memory that they may meet. -/
def tellG (G : Cfg) (nt : Nat) (ops : Array Oper) (ms : List Mem) (ch : List Nat) (rg : List (Nat × Nat)) : List Nat → List AV → (Nat → AV) → ((Nat → AV) → Prop) → Prop
  | [], _, e, K => K e
  | _ :: _, [], _, _ => False
  | i :: l, x :: xs, e, K => match ops[i]? with
    | none => False
    | some o => (o.guard = none ∧ dstOK nt o.dst = true) ∧ (if ch.contains i = true then (match ms[ch.idxOf i]?, ms[ch.idxOf i + 1]? with | some m, some m' => yieldsTo G o x e m m' | _, _ => False) else ∀ m ∈ (ms.take ((rg.getD i (0, ch.length)).2 + 1)).drop (rg.getD i (0, ch.length)).1, yieldsTo G o x e m m) ∧ tellG G nt ops ms ch rg l xs (St.put ⟨e, ⟨[], fun _ => ⟨0, false, 0, []⟩⟩⟩ o.dst x).env K
/-- Some operations of a region turn the memory, in an order that is fixed; the others go beside them in any order. -/
def adrawH (G : Cfg) (nt : Nat) (ops : Array Oper) (K : St → Prop) (st : St) : Prop :=
  ∃ l ch rg ms xs, (drawOK ops l [] && pairsB (fun i j => ((clos ops ops.size).getD j []).contains i) ch && ch.all (fun i => l.contains i) && nodupB ch && rgOK ops ch l rg) = true ∧ ms.length = ch.length + 1 ∧ ms[0]? = some st.mem ∧
    tellG G nt ops ms ch rg l xs st.env fun e => ∀ m, ms[ch.length]? = some m → K ⟨e, m⟩

/-- Operations that yield the same at each memory of a set, told in a list's order. -/
def apreM (G : Cfg) (nt : Nat) (ops : Array Oper) (MM : Mem → Prop) : List Nat → List AV → (Nat → AV) → ((Nat → AV) → Prop) → Prop
  | [], _, e, K => K e
  | _ :: _, [], _, _ => False
  | i :: l, x :: xs, e, K => match ops[i]? with
    | none => False
    | some o => (o.guard = none ∧ dstOK nt o.dst = true) ∧ (∀ m, MM m → yieldsTo G o x e m m) ∧ apreM G nt ops MM l xs (St.put ⟨e, ⟨[], fun _ => ⟨0, false, 0, []⟩⟩⟩ o.dst x).env K
/-- Operations that turn the memory within that set, one behind the other. -/
def achM (G : Cfg) (nt : Nat) (ops : Array Oper) (MM : Mem → Prop) : List Nat → (St → Prop) → St → Prop
  | [], K, st => K st
  | i :: ch, K, st => match ops[i]? with
    | none => False
    | some o => (o.guard = none ∧ dstOK nt o.dst = true) ∧ aop G true o (fun s => MM s.mem ∧ achM G nt ops MM ch K s) st
def wrIn (ops : Array Oper) (j i : Nat) : Bool := match writes ops j with | some d => (names ops i).contains d | none => false
def drawIOK (ops : Array Oper) (pre ch suf : List Nat) : Bool := drawOK ops (pre ++ ch) suf && pairsB (fun i j => ((clos ops ops.size).getD j []).contains i) ch && pre.all (fun i => ch.all fun j => !((clos ops ops.size).getD i []).contains j && !wrIn ops j i)
/-- Operations of which each turns the memory as it will, in a fixed order (ch); others beside them that yield the same at each memory that may be met (pre); the rest behind all these. -/
def adrawI (G : Cfg) (nt : Nat) (ops : Array Oper) (K : St → Prop) (st : St) : Prop :=
  ∃ pre ch suf MM xs, drawIOK ops pre ch suf = true ∧ MM st.mem ∧ apreM G nt ops MM pre xs st.env fun e => achM G nt ops MM ch (asuf G nt ops suf K) ⟨e, st.mem⟩

def adraw (G : Cfg) (nt : Nat) (ops : Array Oper) (K : St → Prop) (st : St) : Prop := adrawS G nt ops K st ∨ adrawF G nt ops K st ∨ adrawH G nt ops K st ∨ adrawI G nt ops K st

/-- The frame holds the state. -/
structure Rel (G : Cfg) (nt base : Nat) (bx0 : List Nat) (C : Ctx) (st : St) (a : Act) : Prop where
  mem : MemOK G base bx0 C st.mem
  env : ∀ t, RV C (st.env t) (a.tmps.getD t undef)
  size : a.tmps.size = nt
  defers : a.defers = []

theorem Rel.put {G : Cfg} {nt base : Nat} {bx0 : List Nat} {C D : Ctx} {st : St} {a : Act} {m' : Mem} (R : Rel G nt base bx0 C st a) (K : Keeps C D) (M : MemOK G base bx0 D m') {dst : Option Tmp} (hd : dstOK nt dst = true) {x : AV} {v : Value} (hx : RV D x v) :
    Rel G nt base bx0 D ({ st with mem := m' }.put dst x) (a.put dst v) := by
  cases dst with
  | none => exact ⟨M, fun t => (R.env t).keep K, R.size, R.defers⟩
  | some d =>
    have hlt : d < nt := by simpa [dstOK] using hd
    refine ⟨M, ?_, by simp [Act.put, R.size], R.defers⟩
    intro t
    simp only [St.put, Act.put]
    by_cases h : t = d
    · subst h
      rw [if_pos rfl]
      have : (a.tmps.setIfInBounds t v).getD t undef = v := by simp [R.size, hlt]
      rw [this]
      exact hx
    · rw [if_neg h]
      have : (a.tmps.setIfInBounds d v).getD t undef = a.tmps.getD t undef := by
        simp only [Array.getD_eq_getD_getElem?]
        rw [Array.getElem?_setIfInBounds, if_neg (Ne.symm h)]
      rw [this]
      exact (R.env t).keep K

theorem runs_wanted {G : Cfg} {nt base : Nat} {bx0 : List Nat} {C : Ctx} {st : St} {a : Act} (R : Rel G nt base bx0 C st a) {ops : Array Oper} {o : Oper} {b : Bool} (h : runs ops st o = some b) : Region.wanted o (yielded ops a.tmps) = b := by
  unfold runs at h
  unfold Region.wanted
  split at h
  · rename_i hg
    rw [hg]
    cases h
    rfl
  · rename_i j want hg
    rw [hg]
    split at h
    · rename_i t ht
      have ht' : ∀ v, st.env t = .v v → yielded ops a.tmps j = match v with | .bool b => some b | _ => none := by
        intro v hv0
        have he := R.env t
        rw [hv0] at he
        have hv := rv_v he
        simp only [Array.getD_eq_getD_getElem?] at hv
        simp only [yielded, ht, Option.bind_some]
        cases hq : a.tmps[t]? with
        | none =>
          rw [hq] at hv
          simp only [Option.getD_none] at hv
          subst hv
          rfl
        | some q =>
          rw [hq] at hv
          simp only [Option.getD_some] at hv
          subst hv
          cases q <;> rfl
      split at h
      · rename_i p hp
        cases h
        show (yielded ops a.tmps j == some want) = _
        rw [ht' _ hp]
        cases p <;> cases want <;> rfl
      · rename_i p hp
        cases h
        show (yielded ops a.tmps j == some want) = _
        rw [ht' _ hp]
        cases want <;> rfl
      · cases h
    · cases h

/-- What Oper.wp asks, from aop. -/
theorem aop_sound {G : Cfg} (V : G.Vers) {nt base : Nat} {bx0 : List Nat} {C : Ctx} {st : St} {a : Act} {ic : Bool} {o : Oper} {K : St → Prop} (R : Rel G nt base bx0 C st a) (hd : dstOK nt o.dst = true) (h : aop G ic o K st)
    {next : Act → World → Prop} {Q : Exit → Act → World → Prop}
    (hnext : ∀ (D : Ctx) (st' : St) (a' : Act), K st' → Rel G nt base bx0 D st' a' → Keeps C D → D.N0 = C.N0 → WExt base bx0 C.w D.w → next a' D.w) : o.wp G.P a C.w next Q := by
  have general : ∀ (x : AV) (m' : Mem), aval G o st = some (x, m') → K ({ st with mem := m' }.put o.dst x) → o.wp G.P a C.w next Q := by
    intro x m' hv hK
    obtain ⟨nx, w', hrun, D, hw, hn, Kp, M, W, hres⟩ := aval_sound V R.mem R.env hv
    unfold Oper.wp
    rw [hrun]
    rcases hres with ⟨v, rfl, hr⟩ | ⟨rfl, rfl⟩
    · rw [Oper.upon_value]
      have := hnext D _ _ hK (R.put Kp M hd hr) Kp hn (hw ▸ W)
      rw [hw] at this
      exact this
    · rw [Oper.upon_skip]
      have := hnext D _ _ hK (R.put Kp M hd (.dead undef)) Kp hn (hw ▸ W)
      rw [hw] at this
      exact this
  have viaval : (match aval G o st with | some (x, m') => K ({ st with mem := m' }.put o.dst x) | none => False) → o.wp G.P a C.w next Q := by
    intro h
    cases hv : aval G o st with
    | none => rw [hv] at h; exact h.elim
    | some q => obtain ⟨x, m'⟩ := q; rw [hv] at h; exact general x m' hv h
  unfold aop at h
  split at h
  · rename_i x args tys hop
    split at h
    · rename_i f pre post hx
      have hev := rv_ev R.env x
      rw [hx] at hev
      have both : enters G.P f = true ∧ ∀ vs : Array Value, RVs C (pre ++ args.toList.map st.ev ++ post) vs.toList → Calls G.P f vs C.w fun e w' => ∃ v r m', e = .returned v ∧ K ({ st with mem := m' }.put o.dst r) ∧ Nxt G base bx0 C w' m' fun D => RV D r v := by
        rcases h with ⟨r, m', hc, hK⟩ | ⟨_, hG, Qc, hI, hK⟩
        · refine ⟨hc.enters, fun vs hvs => (hc.sound R.mem hvs).mono ?_⟩
          rintro e w' ⟨v, rfl, hN⟩
          exact ⟨v, r, m', rfl, hK, hN⟩
        · refine ⟨hI.1, fun vs hvs => (hI.2 base bx0 C vs (R.mem.swap (G := G) (G' := Gi G.P) rfl hG (icOK_Gi _)) hvs).mono ?_⟩
          rintro e w' ⟨v, r, m', rfl, hq, D, h1, h2, h3, h4, h5, h6⟩
          exact ⟨v, r, m', rfl, hK r m' hq, D, h1, h2, h3, h4.swap (G := Gi G.P) (G' := G) rfl (icOK_Gi _) hG, h5, h6⟩
      obtain ⟨hent, hcall0⟩ := both
      generalize hvx : a.eval x = vx at hev
      cases hev with
      | clo _ _ _ ps qs hp hq h1 h2 =>
        have hvs : RVs C (pre ++ args.toList.map st.ev ++ post) (ps ++ args.map a.eval ++ qs).toList := by
          simp only [Array.toList_append, Array.toList_map]
          refine RVs.append (RVs.append ⟨by simp [hp], fun j c y a b => h1 j c y a (by rw [← Array.getElem?_toList]; exact b)⟩ ⟨by simp, ?_⟩) ⟨by simp [hq], fun j c y a b => h2 j c y a (by rw [← Array.getElem?_toList]; exact b)⟩
          intro j c y ha hb
          rw [List.getElem?_map] at ha hb
          cases hj : args.toList[j]? with
          | none => rw [hj] at ha; cases ha
          | some q => rw [hj] at ha hb; cases ha; cases hb; exact rv_ev R.env q
        have hcall := hcall0 _ hvs
        have hrun : (execOp a.eval o).run G.P C.w = .ok (.enter f (ps ++ args.map a.eval ++ qs)) C.w := by
          have he : ∃ fn, G.P.funcs[f]? = some fn ∧ ¬ fn.name = "runtime.NumGoroutine" ∧ ¬ fn.body = none := by
            unfold enters at hent
            split at hent
            · rename_i fn hfn
              simp only [Bool.and_eq_true, bne_iff_ne, ne_eq] at hent
              refine ⟨fn, hfn, hent.1, ?_⟩
              have h2 := hent.2
              cases hb : fn.body with
              | none => rw [hb] at h2; cases h2
              | some c => simp
            · cases hent
          obtain ⟨fn, hfn, hnm, hbd⟩ := he
          simp [execOp, hop, resolve, Deferred.ofValue, hvx, invoke, callFunc, hfn, hnm, hbd]
        unfold Oper.wp
        rw [hrun, Oper.upon_enter]
        refine hcall.mono ?_
        rintro e w' ⟨v, r, m', rfl, hK, D, hw, hn, Kp, M, W, hr⟩
        have := hnext D _ _ hK (R.put Kp M hd hr) Kp hn (hw ▸ W)
        rw [hw] at this
        exact this
    · exact h.elim
  · exact viaval h

theorem aops_sound {G : Cfg} (V : G.Vers) {nt base : Nat} {bx0 : List Nat} (ops : Array Oper) (Q : Exit → Act → World → Prop) : ∀ (l : List Nat) (rest : List Oper), l.map (ops[·]?) = rest.map some → ∀ (C0 C : Ctx) (st : St) (a : Act) (K : St → Prop), Rel G nt base bx0 C st a → Keeps C0 C → C.N0 = C0.N0 → WExt base bx0 C0.w C.w →
    aops G nt ops rest K st → (∀ (D : Ctx) (st' : St) (a' : Act), K st' → Rel G nt base bx0 D st' a' → Keeps C0 D → D.N0 = C0.N0 → WExt base bx0 C0.w D.w → Q .normal a' D.w) → wpOps G.P ops Q l a C.w
  | [], rest, hl, C0, C, st, a, K, R, K0, hN, W, h, hQ => by
    cases rest with
    | nil => exact hQ C st a h R K0 hN W
    | cons => cases hl
  | i :: l, rest, hl, C0, C, st, a, K, R, K0, hN, W, h, hQ => by
    cases rest with
    | nil => cases hl
    | cons o rest =>
      simp only [List.map_cons, List.cons.injEq] at hl
      obtain ⟨hi, hl⟩ := hl
      obtain ⟨hd, h⟩ := h
      rw [wpOps_cons]
      unfold wpOp
      rw [hi]
      simp only
      rcases byGuard_cases h with ⟨hr, h⟩ | ⟨hr, h⟩
      · rw [runs_wanted R hr]
        simp only [if_true]
        refine .inl (aop_sound V R hd h ?_)
        intro D st' a' hK R' Kp hn W'
        exact aops_sound V ops Q l rest hl C0 D st' a' K R' (K0.trans Kp) (hn.trans hN) (W.trans W') hK hQ
      · rw [runs_wanted R hr]
        simp only [Bool.false_eq_true, if_false]
        exact aops_sound V ops Q l rest hl C0 C _ _ K (R.put (Keeps.refl C) R.mem hd (.v undef)) K0 hN W h hQ


/-- The state is known less well: slots forgotten. -/
structure Less (st st' : St) : Prop where
  env : ∀ t, st'.env t = st.env t ∨ st'.env t = .dead
  boxes : st'.mem.boxes = st.mem.boxes
  arrs : ∀ i, st'.mem.arrs i = st.mem.arrs i

theorem Less.refl (st : St) : Less st st := ⟨fun _ => .inl rfl, rfl, fun _ => rfl⟩

theorem Rel.less {G : Cfg} {nt base : Nat} {bx0 : List Nat} {C : Ctx} {st st' : St} {a : Act} (R : Rel G nt base bx0 C st a) (h : Less st st') : Rel G nt base bx0 C st' a := by
  have e : st'.mem = st.mem := by
    cases hm : st'.mem with
    | mk b a => cases hm2 : st.mem with
      | mk b2 a2 =>
        have h1 := h.boxes
        have h2 := h.arrs
        rw [hm, hm2] at h1 h2
        simp only at h1 h2
        rw [h1, funext h2]
  refine ⟨e ▸ R.mem, ?_, R.size, R.defers⟩
  intro t
  rcases h.env t with h | h
  · rw [h]; exact R.env t
  · rw [h]; exact .dead _

/-- The array in a slot is from now on only read. -/
def sealSlot (t : Nat) (st : St) : St := ⟨fun u => if u = t then (sealCells [st.env t] st.mem).1.headD .dead else st.env u, (sealCells [st.env t] st.mem).2⟩
/-- The array in a slot is known so far alone as the slot's slice goes. -/
def cutSlot (t : Nat) (st : St) : St := match st.env t with
  | .arr i n off len => if st.mem.ok i n = true ∧ off = 0 then ⟨fun u => if u = t then .arr i (n + 1) 0 len else st.env u, { st.mem with arrs := fun j => if j = i then ⟨(st.mem.arrs i).ver + 1, true, (st.mem.arrs i).elem, (st.mem.arrs i).es.take len⟩ else st.mem.arrs j }⟩ else st
  | _ => st
theorem cut_run {G : Cfg} {base : Nat} {bx0 : List Nat} {C : Ctx} {m : Mem} (M : MemOK G base bx0 C m) {i n len : Nat} {x : Value} (hx : RV C (.arr i n 0 len) x) (hk : m.ok i n = true) :
    Nxt G base bx0 C C.w { m with arrs := fun j => if j = i then ⟨(m.arrs i).ver + 1, true, (m.arrs i).elem, (m.arrs i).es.take len⟩ else m.arrs j } fun C' => RV C' (.arr i (n + 1) 0 len) x := by
  obtain ⟨I, xs, hI, hs, z1, z2, z3, z4, z5, z6⟩ := arr_rv M hx hk
  obtain ⟨hle, a, cap, a', hv, rfl, ha⟩ := hs
  have haa : a' = a := by rw [ha (.inr rfl)]; cases a <;> simp [Addr.add]
  subst haa
  have hver : (m.arrs i).ver = n := (ok_parts hk).2
  have hblk : (Value.slice a' len (cap - 0)).ownBlock = I.val.ownBlock := by rw [hv]; cases a' <;> rfl
  have hown : C.w.ownsRow 0 (m.arrs i).elem I.size (.slice a' len (cap - 0)) len (xs.take (len * I.size)) := by
    have hq : len ≤ I.len := by omega
    have hmul : len * I.size ≤ I.len * I.size := Nat.mul_le_mul_right _ hq
    refine ⟨by rw [List.length_take, z5.1]; omega, ?_⟩
    rcases z5.2 with ⟨e0, e1⟩ | ⟨g, cap', cur, e0, b1, b2, b3, b4, b5, b6⟩
    · rw [hv] at e0
      simp only [Value.slice.injEq] at e0
      obtain ⟨rfl, _, rfl⟩ := e0
      have : len = 0 := by omega
      subst this
      exact .inl ⟨rfl, rfl⟩
    · rw [hv] at e0
      simp only [Value.slice.injEq] at e0
      obtain ⟨rfl, _, rfl⟩ := e0
      refine .inr ⟨g, cap, cur, rfl, b1, b2, by omega, b4, b5, ?_⟩
      rw [← b6, List.take_take, Nat.min_eq_left hmul]
  refine Nxt.setArr M i C.w none ⟨rfl, rfl, rfl, Nat.le_refl _, fun _ _ _ => rfl⟩ (fun _ h => by cases h) ⟨I.size, len, .slice a' len (cap - 0)⟩ (xs.take (len * I.size)) (m.arrs i).elem ((m.arrs i).es.take len) z1 z2 (by simp; omega)
    (fun r hr => z4 r (List.mem_of_mem_take hr)) hown (fun g hg => .inr ⟨I, hI, by rw [← hblk]; exact hg⟩) ?_ ?_
  · intro idx j r c y hi hj hx'
    rw [List.getElem?_take] at hi hx'
    split at hi
    · split at hx'
      · exact z6 idx j r c y hi hj hx'
      · cases hx'
    · cases hi
  · intro C' K hw hbx hA hv'
    refine .arr i (n + 1) 0 len _ rfl ?_ ?_
    · rw [hv', M.ver i, hver]; exact Nat.le_refl _
    · intro J hJ _
      rw [hA] at hJ
      cases hJ
      exact ⟨by simp, a', cap, a', rfl, rfl, fun _ => by cases a' <;> simp [Addr.add]⟩
theorem Rel.cut {G : Cfg} {nt base : Nat} {bx0 : List Nat} {C : Ctx} {st : St} {a : Act} (R : Rel G nt base bx0 C st a) (t : Nat) : ∃ D, D.w = C.w ∧ Rel G nt base bx0 D (cutSlot t st) a ∧ Keeps C D ∧ D.N0 = C.N0 ∧ WExt base bx0 C.w D.w := by
  have no : ∃ D, D.w = C.w ∧ Rel G nt base bx0 D st a ∧ Keeps C D ∧ D.N0 = C.N0 ∧ WExt base bx0 C.w D.w := ⟨C, rfl, R, Keeps.refl C, rfl, WExt.refl _ _ _⟩
  cases he : st.env t <;> simp only [cutSlot, he] <;> try exact no
  rename_i i n off len
  by_cases hk : st.mem.ok i n = true ∧ off = 0
  · rw [if_pos hk]
    obtain ⟨hk, rfl⟩ := hk
    have hx := R.env t
    rw [he] at hx
    obtain ⟨D, hw, hn, K, M, W, hr⟩ := cut_run R.mem hx hk
    refine ⟨D, hw, ⟨M, fun u => ?_, R.size, R.defers⟩, K, hn, hw.symm ▸ W⟩
    by_cases hu : u = t
    · subst hu
      simp only [if_pos]
      exact hr
    · simp only [if_neg hu]
      exact (R.env u).keep K
  · rw [if_neg hk]
    exact no
theorem Rel.seal {G : Cfg} {nt base : Nat} {bx0 : List Nat} {C : Ctx} {st : St} {a : Act} (R : Rel G nt base bx0 C st a) (t : Nat) : ∃ D, D.w = C.w ∧ Rel G nt base bx0 D (sealSlot t st) a ∧ Keeps C D ∧ D.N0 = C.N0 ∧ WExt base bx0 C.w D.w := by
  have hv : RVs C [st.env t] [a.tmps.getD t undef] := RVs.cons (R.env t) ⟨rfl, fun j c x h1 h2 => by simp at h1⟩
  obtain ⟨D, hw, hn, K, M, W, hr⟩ := seal_cells (G := G) (base := base) (bx0 := bx0) [st.env t] [a.tmps.getD t undef] R.mem hv
  refine ⟨D, hw, ⟨M, fun u => ?_, R.size, R.defers⟩, K, hn, hw.symm ▸ W⟩
  by_cases hu : u = t
  · subst hu
    have h1 : (sealSlot u st).env u = (sealCells [st.env u] st.mem).1.headD .dead := by simp [sealSlot]
    rw [h1]
    cases hc : (sealCells [st.env u] st.mem).1 with
    | nil => exact .dead _
    | cons y ys =>
      rw [hc] at hr
      exact hr.2 0 y _ rfl rfl
  · have h1 : (sealSlot t st).env u = st.env u := by simp [sealSlot, hu]
    rw [h1]
    exact (R.env u).keep K

/-- A step of the telling alone: the world stays, it is told in another way. -/
def LessS (st st' : St) : Prop := ∀ (G : Cfg) (nt base : Nat) (bx0 : List Nat) (C : Ctx) (a : Act), Rel G nt base bx0 C st a → ∃ D, D.w = C.w ∧ Rel G nt base bx0 D st' a ∧ Keeps C D ∧ D.N0 = C.N0 ∧ WExt base bx0 C.w D.w
theorem LessS.refl (st : St) : LessS st st := fun _ _ _ _ C _ R => ⟨C, rfl, R, Keeps.refl C, rfl, WExt.refl _ _ _⟩
theorem LessS.trans {a b c : St} (h : LessS a b) (k : LessS b c) : LessS a c := fun G nt base bx0 C act R => by
  obtain ⟨D, hw, R1, K, hn, W⟩ := h G nt base bx0 C act R
  obtain ⟨E, hw2, R2, K2, hn2, W2⟩ := k G nt base bx0 D act R1
  exact ⟨E, hw2.trans hw, R2, K.trans K2, hn2.trans hn, W.trans W2⟩
theorem Less.toS {st st' : St} (h : Less st st') : LessS st st' := fun _ _ _ _ C _ R => ⟨C, rfl, R.less h, Keeps.refl C, rfl, WExt.refl _ _ _⟩
theorem ghost_seal (t : Nat) (st : St) : LessS st (sealSlot t st) := fun _ _ _ _ _ _ R => R.seal t
theorem ghost_cut (t : Nat) (st : St) : LessS st (cutSlot t st) := fun _ _ _ _ _ _ R => R.cut t
theorem lessS_seal {st st' : St} (t : Nat) (h : Less (sealSlot t st) st') : LessS st st' := (ghost_seal t st).trans h.toS
theorem lessS_cut {st st' : St} (t u : Nat) (h : Less (cutSlot t (cutSlot u st)) st') : LessS st st' := ((ghost_cut u st).trans (ghost_cut t _)).trans h.toS
theorem Rel.lessS {G : Cfg} {nt base : Nat} {bx0 : List Nat} {C : Ctx} {st st' : St} {a : Act} (R : Rel G nt base bx0 C st a) (h : LessS st st') : ∃ D, D.w = C.w ∧ Rel G nt base bx0 D st' a ∧ Keeps C D ∧ D.N0 = C.N0 ∧ WExt base bx0 C.w D.w := h _ _ _ _ _ _ R

/-- A call from a law's function that writes into what was made: what is known behind it. -/
structure MarkStep (G : Cfg) (st : St) (f : FuncId) (args : List AV) (env' : Nat → AV) (bs' : List (List AV)) (x : Value) : Prop where
  md : G.md = 1
  las : ∃ las, MCall G.P f las x ∧ args.length = las.length ∧ ∀ (j : Nat) (a b : AV), args[j]? = some a → las[j]? = some b → WArg a b
  boxes : BoxStay st.mem.boxes bs'
  arrs : ∀ i, (st.mem.arrs i).live = true → ∀ r ∈ (st.mem.arrs i).es, ∀ c ∈ r, c.Stay
  env : ∀ t, env' t = .dead ∨ (env' t = st.env t ∧ (st.env t).Stay) ∨ (WArg (st.env t) (env' t) ∧ ∀ cs, env' t ≠ .agg cs)

/-- A region in which such a call is the operation number k. -/
def amark (G : Cfg) (nt : Nat) (ops : Array Oper) : Nat → List Oper → (St → Prop) → St → Prop
  | _, [], _, _ => False
  | 0, o :: rest, L, st => match o with
    | ⟨dst, .call ⟨.value (.func f), args, _⟩, _, _, _, none⟩ => dstOK nt dst = true ∧ ∃ env' bs' x, MarkStep G st f (args.toList.map st.ev) env' bs' x ∧ aops G nt ops rest L (St.put ⟨env', ⟨bs', st.mem.arrs⟩⟩ dst (.v x))
    | _ => False
  | k + 1, o :: rest, L, st => o.guard = none ∧ dstOK nt o.dst = true ∧ aop G true o (amark G nt ops k rest L) st

/-- All that is there is old from now on. -/
structure AgeStep (st st' : St) : Prop where
  env : ∀ t, Olds (st.env t) (st'.env t)
  live : ∀ i, (st.mem.arrs i).live = false
  arrs : st'.mem.arrs = st.mem.arrs
  len : st'.mem.boxes.length = st.mem.boxes.length
  box : ∀ (k : Nat) (cs cs' : List AV), st.mem.boxes[k]? = some cs → st'.mem.boxes[k]? = some cs' → cs'.length = cs.length ∧ ∀ (j : Nat) (c c' : AV), cs[j]? = some c → cs'[j]? = some c' → Olds c c'

def aregion (G : Cfg) (nt : Nat) (ops : Array Oper) (L : St → Prop) (st : St) : Prop :=
  if G.md = 1 then ∃ st', (st' = st ∨ AgeStep st st') ∧ (aops G nt ops ops.toList L st' ∨ ∃ k, amark G nt ops k ops.toList L st') else aops G nt ops ops.toList L st

/-- Behind the first of two. -/
def kSeq (f : St → Prop) (K : Exit → St → Prop) : Exit → St → Prop
  | .normal, st => f st
  | e, st => K e st
def kBlock (id : Nat) (K : Exit → St → Prop) : Exit → St → Prop
  | .exit id', st => if id' = id then K .normal st else K (.exit id') st
  | e, st => K e st

/-- What has to hold at the head of code that K holds where it ends. -/
def acode (G : Cfg) (nt : Nat) : Code → (Exit → St → Prop) → St → Prop
  | .skip, K, st => K .normal st
  | .label _, K, st => K .normal st
  | .exit id, K, st => K (.exit id) st
  | .ret, K, st => K .ret st
  | .seq a b, K, st => acode G nt a (kSeq (acode G nt b K) K) st
  | .cond c x y, K, st => match st.ev c with
    | .v (.bool b) => (b = true → acode G nt x K st) ∧ (b = false → acode G nt y K st)
    | .any (.bool _) => acode G nt x K st ∧ acode G nt y K st
    | _ => False
  | .block id c, K, st => acode G nt c (kBlock id K) st
  | .loop c, K, st => ∃ (L : St → St → Prop) (I : Nat → St → Prop) (n0 : Nat), (∀ s s', L s s' → LessS s s') ∧ (∃ st0, L st st0 ∧ I n0 st0) ∧ ∀ n st', I n st' → acode G nt c (kSeq (fun st'' => ∃ st3 m, L st'' st3 ∧ m < n ∧ I m st3) K) st'
  | .region _ ops false, K, st => aregion G nt ops (K .normal) st
  | .region _ ops true, K, st => adraw G nt ops (K .normal) st
  | _, _, _ => False

/-- A loop at whose head the array in one slot may be sealed. -/
theorem aloopS {G : Cfg} {nt : Nat} {c : Code} {K : Exit → St → Prop} {st : St} {α : Type} (shape : α → St) (inv : α → Prop) (μ : α → Nat) (d0 : α) (h0 : LessS st (shape d0)) (i0 : inv d0)
    (h : ∀ d, inv d → acode G nt c (kSeq (fun st'' => ∃ d', LessS st'' (shape d') ∧ inv d' ∧ μ d' < μ d) K) (shape d)) : acode G nt (.loop c) K st := by
  refine ⟨LessS, fun n s => ∃ d, inv d ∧ s = shape d ∧ μ d = n, μ d0, fun _ _ h => h, ⟨_, h0, d0, i0, rfl, rfl⟩, ?_⟩
  rintro n st' ⟨d, hi, rfl, rfl⟩
  have e : (fun st'' : St => ∃ st3 m, LessS st'' st3 ∧ m < μ d ∧ ∃ d', inv d' ∧ st3 = shape d' ∧ μ d' = m) = fun st'' => ∃ d', LessS st'' (shape d') ∧ inv d' ∧ μ d' < μ d := by
    funext s
    refine propext ⟨?_, ?_⟩
    · rintro ⟨st3, m, hl, hm, d', hi', rfl, rfl⟩
      exact ⟨d', hl, hi', hm⟩
    · rintro ⟨d', hl, hi', hm⟩
      exact ⟨_, _, hl, hm, d', hi', rfl, rfl⟩
  rw [e]
  exact h d hi

/-- The rule for a loop: the states at its head are told by data. -/
theorem aloop {G : Cfg} {nt : Nat} {c : Code} {K : Exit → St → Prop} {st : St} {α : Type} (shape : α → St) (inv : α → Prop) (μ : α → Nat) (d0 : α) (h0 : Less st (shape d0)) (i0 : inv d0)
    (h : ∀ d, inv d → acode G nt c (kSeq (fun st'' => ∃ d', Less st'' (shape d') ∧ inv d' ∧ μ d' < μ d) K) (shape d)) : acode G nt (.loop c) K st := by
  refine ⟨Less, fun n s => ∃ d, inv d ∧ s = shape d ∧ μ d = n, μ d0, fun _ _ h => h.toS, ⟨_, h0, d0, i0, rfl, rfl⟩, ?_⟩
  rintro n st' ⟨d, hi, rfl, rfl⟩
  have e : (fun st'' : St => ∃ st3 m, Less st'' st3 ∧ m < μ d ∧ ∃ d', inv d' ∧ st3 = shape d' ∧ μ d' = m) = fun st'' => ∃ d', Less st'' (shape d') ∧ inv d' ∧ μ d' < μ d := by
    funext s
    refine propext ⟨?_, ?_⟩
    · rintro ⟨st3, m, hl, hm, d', hi', rfl, rfl⟩
      exact ⟨d', hl, hi', hm⟩
    · rintro ⟨d', hl, hi', hm⟩
      exact ⟨_, _, hl, hm, d', hi', rfl, rfl⟩
  rw [e]
  exact h d hi

end Go.Proofs.YtokhnmchnfkiiaaDoor.Am

/- The abstract machine: code and functions: the precondition is sound. No conditions. -/
namespace Go.Proofs.YtokhnmchnfkiiaaDoor.Am
open Go Go.RowKit
set_option linter.unusedSimpArgs false
set_option linter.unusedVariables false

/-- Where the machine stands: a context, a state that the frame holds. -/
def Post (G : Cfg) (nt base : Nat) (bx0 : List Nat) (C0 : Ctx) (K : Exit → St → Prop) : Exit → Act → World → Prop :=
  fun e a w => ∃ D st, D.w = w ∧ K e st ∧ Rel G nt base bx0 D st a ∧ Keeps C0 D ∧ D.N0 = C0.N0 ∧ WExt base bx0 C0.w w

/-- A loop, by a measure of the abstract state. -/
theorem wp_rounds {P : Program} {c : Code} {Q : Exit → Act → World → Prop} (I : Nat → Act → World → Prop) (round : ∀ n a w, I n a w → c.wp P (Exit.then (fun a' w' => ∃ m, m < n ∧ I m a' w') Q) a w) {n : Nat} {a : Act} {w : World} (h₀ : I n a w) : (Code.loop c).wp P Q a w := by
  intro b k cs
  have key : ∀ n a w, I n a w → ∃ e a' w', Q e a' w' ∧ Arrives P (lone (b.at a (.code c :: .inLoop c :: k)) cs w) b k cs e a' w' := by
    intro n
    induction n using Nat.strongRecOn with
    | _ n ih =>
      intro a w hI
      obtain ⟨e, a₁, w₁, hq, harr⟩ := round n a w hI b (.inLoop c :: k) cs
      cases e with
      | normal =>
        obtain ⟨m, hlt, hI₁⟩ := hq
        obtain ⟨e₂, a₂, w₂, hq₂, harr₂⟩ := ih m hlt a₁ w₁ hI₁
        exact ⟨e₂, a₂, w₂, hq₂, .of_steps (Steps.trans harr (.one step_inLoop)) harr₂⟩
      | exit id => exact ⟨_, a₁, w₁, hq, .pass (x := .inLoop c) rfl (fun _ _ => .inl (by simp)) harr⟩
      | goto l => exact ⟨_, a₁, w₁, hq, .pass (x := .inLoop c) rfl (fun _ _ => .inl (by simp)) harr⟩
      | ret => exact ⟨_, a₁, w₁, hq, .pass (x := .inLoop c) rfl (fun _ _ => .inl (by simp)) harr⟩
      | panic ch => exact ⟨_, a₁, w₁, hq, .pass (x := .inLoop c) rfl (fun _ _ => .inl (by simp)) harr⟩
      | outgrown => exact ⟨_, a₁, w₁, hq, .pass (x := .inLoop c) rfl (fun _ _ => .inl (by simp)) harr⟩
  obtain ⟨e, a', w', hq, harr⟩ := key n a w h₀
  exact ⟨e, a', w', hq, .of_steps (.one step_loop) harr⟩

/-- Regions that draw their order: sound (proved in the text behind this one's import). -/
def DrawSound (G : Cfg) : Prop := ∀ (nt base : Nat) (bx0 : List Nat) (id : Nat) (ops : Array Oper) (K : St → Prop) (C0 C : Ctx) (st : St) (a : Act), Rel G nt base bx0 C st a → Keeps C0 C → C.N0 = C0.N0 → WExt base bx0 C0.w C.w → adraw G nt ops K st →
  (Code.region id ops true).wp G.P (Post G nt base bx0 C0 fun e st' => e = .normal ∧ K st') a C.w

/-- What is kept; in a law's function nothing is promised. -/
def KeepsT (G : Cfg) (C D : Ctx) : Prop := G.md ≠ 1 → Keeps C D
theorem KeepsT.of {G : Cfg} {C D : Ctx} (h : Keeps C D) : KeepsT G C D := fun _ => h
theorem KeepsT.top {G : Cfg} {C D : Ctx} (h : G.md = 1) : KeepsT G C D := fun e => (e h).elim
theorem KeepsT.trans {G : Cfg} {C D E : Ctx} (h : KeepsT G C D) (k : KeepsT G D E) : KeepsT G C E := fun e => (h e).trans (k e)
/-- What coloured values do not lie in; in a law's function it may turn. -/
def NT (G : Cfg) (C D : Ctx) : Prop := G.md ≠ 1 → D.N0 = C.N0
theorem NT.of {G : Cfg} {C D : Ctx} (h : D.N0 = C.N0) : NT G C D := fun _ => h
theorem NT.top {G : Cfg} {C D : Ctx} (h : G.md = 1) : NT G C D := fun e => (e h).elim
theorem NT.trans {G : Cfg} {C D E : Ctx} (h : NT G C D) (k : NT G D E) : NT G C E := fun e => (k e).trans (h e)
def PostT (G : Cfg) (nt base : Nat) (bx0 : List Nat) (C0 : Ctx) (K : Exit → St → Prop) : Exit → Act → World → Prop :=
  fun e a w => ∃ D st, D.w = w ∧ K e st ∧ Rel G nt base bx0 D st a ∧ KeepsT G C0 D ∧ NT G C0 D ∧ WExt base bx0 C0.w w

theorem amark_sound {G : Cfg} (V : G.Vers) {nt base : Nat} {bx0 : List Nat} (ops : Array Oper) (Q : Exit → Act → World → Prop) (hmd : G.md = 1) : ∀ (k : Nat) (l : List Nat) (rest : List Oper), l.map (ops[·]?) = rest.map some → ∀ (C : Ctx) (st : St) (a : Act) (K : St → Prop), Rel G nt base bx0 C st a →
    amark G nt ops k rest K st → (∀ (D : Ctx) (st' : St) (a' : Act), K st' → Rel G nt base bx0 D st' a' → WExt base bx0 C.w D.w → Q .normal a' D.w) → wpOps G.P ops Q l a C.w
  | k, l, [], hl, C, st, a, K, R, h, hQ => by cases k <;> exact h.elim
  | 0, l, o :: rest, hl, C, st, a, K, R, h, hQ => by
    cases l with
    | nil => cases hl
    | cons i l =>
      simp only [List.map_cons, List.cons.injEq] at hl
      obtain ⟨hi, hl⟩ := hl
      unfold amark at h
      split at h
      · rename_i dst f args tys ty pos aft
        obtain ⟨hd, env', bs', x, ⟨_, ⟨las, hp, hll, hw⟩, hbs, has, henv⟩, hrest⟩ := h
        rw [wpOps_cons]
        unfold wpOp
        rw [hi]
        simp only
        have hwant : Region.wanted ⟨dst, .call ⟨.value (.func f), args, tys⟩, ty, pos, aft, none⟩ (yielded ops a.tmps) = true := rfl
        rw [hwant]
        simp only [if_true]
        refine .inl ?_
        have hvs : RVs C (args.toList.map st.ev) (args.map a.eval).toList := by
          refine ⟨by simp, ?_⟩
          intro j c y ha hb
          rw [Array.toList_map] at hb
          rw [List.getElem?_map] at ha hb
          cases hj : args.toList[j]? with
          | none => rw [hj] at ha; cases ha
          | some q => rw [hj] at ha hb; cases ha; cases hb; exact rv_ev R.env q
        have hcall := mark_call R.mem hmd hp hll hw bs' hbs has hvs
        have he : ∃ fn, G.P.funcs[f]? = some fn ∧ ¬ fn.name = "runtime.NumGoroutine" ∧ ¬ fn.body = none := by
          have hent := hp.1
          unfold enters at hent
          split at hent
          · rename_i fn hfn
            simp only [Bool.and_eq_true, bne_iff_ne, ne_eq] at hent
            refine ⟨fn, hfn, hent.1, ?_⟩
            have h2 := hent.2
            cases hb : fn.body with
            | none => rw [hb] at h2; cases h2
            | some c => simp
          · cases hent
        obtain ⟨fn, hfn, hnm, hbd⟩ := he
        have hrun : (execOp a.eval ⟨dst, .call ⟨.value (.func f), args, tys⟩, ty, pos, aft, none⟩).run G.P C.w = .ok (.enter f (args.map a.eval)) C.w := by
          simp [execOp, resolve, Deferred.ofValue, Act.eval, invoke, callFunc, hfn, hnm, hbd]
        unfold Oper.wp
        rw [hrun, Oper.upon_enter]
        refine hcall.mono ?_
        rintro e w' ⟨rfl, D0, rfl, M', W', hst, hwf⟩
        have R1 : Rel G nt base bx0 D0 ⟨env', ⟨bs', st.mem.arrs⟩⟩ a := by
          refine ⟨M', ?_, R.size, R.defers⟩
          intro t
          show RV _ (env' t) _
          rcases henv t with h | ⟨h, h'⟩ | ⟨h, h'⟩
          · rw [h]; exact .dead _
          · rw [h]; exact hst _ _ (R.env t) h'
          · exact hwf _ _ _ (R.env t) h h'
        have R2 := R1.put (dst := dst) (Keeps.refl _) M' hd (.v x)
        refine aops_sound V ops _ l rest hl D0 D0 _ _ K R2 (Keeps.refl _) rfl (WExt.refl _ _ _) hrest ?_
        intro D st' a' hK R' K' hN' W2
        exact hQ D st' a' hK R' (W'.trans W2)
      · exact h.elim
  | k + 1, l, o :: rest, hl, C, st, a, K, R, h, hQ => by
    cases l with
    | nil => cases hl
    | cons i l =>
      simp only [List.map_cons, List.cons.injEq] at hl
      obtain ⟨hi, hl⟩ := hl
      obtain ⟨hg, hd, h⟩ := h
      rw [wpOps_cons]
      unfold wpOp
      rw [hi]
      simp only
      have hwant : Region.wanted o (yielded ops a.tmps) = true := by unfold Region.wanted; rw [hg]
      rw [hwant]
      simp only [if_true]
      refine .inl (aop_sound V R hd h ?_)
      intro D st' a' hK R' Kp hn W'
      exact amark_sound V ops Q hmd k l rest hl D st' a' K R' hK fun E st2 a2 h2 R2 W2 => hQ E st2 a2 h2 R2 (W'.trans W2)

theorem acode_sound {G : Cfg} (V : G.Vers) (DS : DrawSound G) {nt base : Nat} {bx0 : List Nat} : ∀ (c : Code) (K : Exit → St → Prop) (C0 C : Ctx) (st : St) (a : Act), Rel G nt base bx0 C st a → KeepsT G C0 C → NT G C0 C → WExt base bx0 C0.w C.w → acode G nt c K st →
    c.wp G.P (PostT G nt base bx0 C0 K) a C.w := by
  intro c
  induction c with
  | skip => intro K C0 C st a R K0 hN W h; exact wp_skip ⟨C, st, rfl, h, R, K0, hN, W⟩
  | label l => intro K C0 C st a R K0 hN W h; exact wp_label ⟨C, st, rfl, h, R, K0, hN, W⟩
  | exit id => intro K C0 C st a R K0 hN W h; exact wp_exit ⟨C, st, rfl, h, R, K0, hN, W⟩
  | ret => intro K C0 C st a R K0 hN W h; exact wp_ret ⟨C, st, rfl, h, R, K0, hN, W⟩
  | seq x y ihx ihy =>
    intro K C0 C st a R K0 hN W h
    refine wp_seq (wp_mono (ihx _ C0 C st a R K0 hN W h) ?_)
    rintro e a' w' ⟨D, st', rfl, hK, R', K', hN', W'⟩
    cases e with
    | normal => exact ihy K C0 D st' a' R' K' hN' W' hK
    | _ => exact ⟨D, st', rfl, hK, R', K', hN', W'⟩
  | cond c x y ihx ihy =>
    intro K C0 C st a R K0 hN W h
    simp only [acode] at h
    split at h
    · rename_i b hb
      have he := rv_ev R.env c
      rw [hb] at he
      have hv := rv_v he
      refine wp_cond_split hv (fun ht => ihx K C0 C st a R K0 hN W (h.1 ht)) (fun hf => ihy K C0 C st a R K0 hN W (h.2 hf))
    · rename_i b hb
      have he := rv_ev R.env c
      rw [hb] at he
      obtain ⟨b', hv⟩ : ∃ b', a.eval c = .bool b' := by
        generalize a.eval c = vc at he
        cases he with
        | any _ _ hk => cases vc <;> simp [sameK] at hk; exact ⟨_, rfl⟩
      exact wp_cond_split hv (fun _ => ihx K C0 C st a R K0 hN W h.1) (fun _ => ihy K C0 C st a R K0 hN W h.2)
    · exact h.elim
  | block id c ih =>
    intro K C0 C st a R K0 hN W h
    refine wp_block (wp_mono (ih _ C0 C st a R K0 hN W h) ?_)
    rintro e a' w' ⟨D, st', rfl, hK, R', K', hN', W'⟩
    cases e with
    | exit id' =>
      simp only [Exit.inBlock]
      by_cases hid : id' = id
      · rw [if_pos hid]
        simp only [kBlock, hid, if_true] at hK
        exact ⟨D, st', rfl, hK, R', K', hN', W'⟩
      · rw [if_neg hid]
        simp only [kBlock, hid, if_false] at hK
        exact ⟨D, st', rfl, hK, R', K', hN', W'⟩
    | _ => exact ⟨D, st', rfl, hK, R', K', hN', W'⟩
  | loop c ih =>
    intro K C0 C st a R K0 hN W h
    obtain ⟨L, I, n0, hL, ⟨st0, hl0, h0⟩, hr⟩ := h
    refine wp_rounds (fun n a w => ∃ D st', D.w = w ∧ I n st' ∧ Rel G nt base bx0 D st' a ∧ KeepsT G C0 D ∧ NT G C0 D ∧ WExt base bx0 C0.w w) ?_ (by
      obtain ⟨D0, z1, z2, z3, z4, z5⟩ := R.lessS (hL _ _ hl0)
      exact ⟨D0, st0, z1, h0, z2, K0.trans (.of z3), hN.trans (.of z4), z1 ▸ W⟩)
    rintro n a1 w1 ⟨D, st', rfl, hI, R', K', hN', W'⟩
    refine wp_mono (ih _ C0 D st' a1 R' K' hN' W' (hr n st' hI)) ?_
    rintro e a' w' ⟨E, st2, rfl, hK, R2, K2, hN2, W2⟩
    cases e with
    | normal =>
      obtain ⟨st3, m, hl, hm, h3⟩ := hK
      obtain ⟨D0, z1, z2, z3, z4, z5⟩ := R2.lessS (hL _ _ hl)
      exact ⟨m, hm, D0, st3, z1, h3, z2, K2.trans (.of z3), hN2.trans (.of z4), W2⟩
    | _ => exact ⟨E, st2, rfl, hK, R2, K2, hN2, W2⟩
  | region id ops draw =>
    intro K C0 C st a R K0 hN W h
    cases draw with
    | false =>
      have hmap : (List.range ops.size).map (ops[·]?) = ops.toList.map some := by
        apply List.ext_getElem?
        intro i
        simp only [List.getElem?_map]
        by_cases hi : i < ops.size
        · simp [hi]
        · simp [hi]
      have plain : ∀ (C : Ctx) (st : St), Rel G nt base bx0 C st a → KeepsT G C0 C → NT G C0 C → WExt base bx0 C0.w C.w → aops G nt ops ops.toList (K .normal) st → (Code.region id ops false).wp G.P (PostT G nt base bx0 C0 K) a C.w := fun C st R K0 hN W h => by
        refine wp_region (aops_sound V ops _ (List.range ops.size) ops.toList hmap C C st a (K .normal) R (Keeps.refl C) rfl (WExt.refl _ _ _) h ?_)
        intro D st' a' hK R' K' hN' W'
        exact ⟨D, st', rfl, hK, R', K0.trans (.of K'), hN.trans (.of hN'), W.trans W'⟩
      simp only [acode, aregion] at h
      split at h
      · rename_i hmd
        obtain ⟨st1, hst1, h⟩ := h
        obtain ⟨C1, hC1, R⟩ : ∃ C1 : Ctx, C1.w = C.w ∧ Rel G nt base bx0 C1 st1 a := by
          rcases hst1 with rfl | hag
          · exact ⟨C, rfl, R⟩
          · obtain ⟨q1, q2⟩ := aged_mem R.mem hmd hag.live hag.arrs hag.len hag.box
            exact ⟨C.aged, rfl, q1, fun t => q2 _ _ _ (hag.env t) (R.env t), R.size, R.defers⟩
        have W : WExt base bx0 C0.w C1.w := by rw [hC1]; exact W
        rw [← hC1]
        clear hC1 hst1
        rcases h with h | h
        · exact plain C1 st1 R (.top hmd) (.top hmd) W h
        · obtain ⟨k, h⟩ := h
          refine wp_region (amark_sound V ops _ hmd k (List.range ops.size) ops.toList hmap C1 st1 a (K .normal) R h ?_)
          intro D st' a' hK R' W'
          exact ⟨D, st', rfl, hK, R', .top hmd, .top hmd, W.trans W'⟩
      · exact plain C st R K0 hN W h
    | true =>
      refine wp_mono (DS nt base bx0 id ops (K .normal) C C st a R (Keeps.refl C) rfl (WExt.refl _ _ _) h) ?_
      rintro e a' w' ⟨D, st', rfl, ⟨rfl, hK⟩, R', K', hN', W'⟩
      exact ⟨D, st', rfl, hK, R', K0.trans (.of K'), hN.trans (.of hN'), W.trans W'⟩
  | scope c ih => intro K C0 C st a R K0 hN W h; exact h.elim
  | goto l => intro K C0 C st a R K0 hN W h; exact h.elim
  | refuse why => intro K C0 C st a R K0 hN W h; exact h.elim
  | rangeFunc f ps x y ihx ihy => intro K C0 C st a R K0 hN W h; exact h.elim

/-! ### Functions -/

/-- A value as the caller gets it: arrays of the call's own are let go. -/
def fin1 (m : Mem) : AV → AV
  | .arr i n off len => if m.ok i n = true then .sl false (((m.arrs i).es.drop off).take len) else .dead
  | .nil => .sl false []
  | a => a
def fin (m : Mem) : AV → AV
  | .agg cs => .agg (cs.map (fin1 m))
  | a => fin1 m a

def resVar (G : Cfg) (st : St) : ResultVar → Option AV
  | .tmp t => some (st.env t)
  | .cell p t => (st.mem.cellsAt (st.env p)).bind (G.loadOf t)

/-- What a function returns from a state. -/
def resOf (G : Cfg) (rs : List ResultVar) (st : St) : Option AV :=
  match rs with
  | [r] => (resVar G st r).map (fin st.mem)
  | rs => (rs.mapM (resVar G st)).map fun vs => .tup (vs.map (fin st.mem))

def startEnv (args : List AV) : Nat → AV := fun t => args.getD t .dead

def noArrs (ver : Nat → Nat) : Nat → ArrSt := fun i => ⟨ver i, false, 0, []⟩


/-- The context that is left when the call's own arrays are let go. -/
def Ctx.done (C : Ctx) : Ctx := { C with A := fun _ => none }
theorem done_keeps (C : Ctx) : Keeps C C.done := by
  refine ⟨Nat.le_refl _, ?_, fun _ _ _ => rfl, fun _ _ h => h, fun _ => Nat.le_refl _, fun i I h _ => (by cases h), rfl, fun _ _ _ => .of_block rfl⟩
  rintro col b _ hn (h | h | ⟨_, _, h, _⟩)
  · exact hn (.inl h)
  · exact hn (.inr (.inl h))
  · cases h

theorem fin1_rv {G : Cfg} {base : Nat} {bx0 : List Nat} {C : Ctx} {m : Mem} (M : MemOK G base bx0 C m) {a : AV} {x : Value} (h : RV C a x) : RV C.done (fin1 m a) x := by
  cases a with
  | arr i n off len =>
    simp only [fin1]
    split
    · rename_i hk
      obtain ⟨I, xs, hI, hs, z1, z2, z3, z4, z5, z6⟩ := arr_rv M h hk
      refine (sl_of_own (C := C.done) hs z3 z4 z5 (fun i' j r c y _ hr hc hy => (z6 (off + i') j r c y hr hc hy).keep (done_keeps C)) false ?_).1
      rintro g hg ((h1 | h1) | h1 | ⟨_, _, h1, _⟩)
      · exact (M.n0 _ h1).2 i I hI hg
      · exact M.wild.own g i I h1 hI hg
      · exact (M.sep i I g hI hg).1 h1
      · cases h1
    · exact .dead _
  | nil => cases h with | nil a => exact .sl0 _ _ _
  | _ => exact h.keep (done_keeps C)

theorem fin_rv {G : Cfg} {base : Nat} {bx0 : List Nat} {C : Ctx} {m : Mem} (M : MemOK G base bx0 C m) {a : AV} {x : Value} (h : RV C a x) : RV C.done (fin m a) x := by
  cases a with
  | agg cs =>
    cases h with
    | agg _ vs hl hh =>
      refine .agg _ _ (by simp [hl]) ?_
      intro j c y h1 h2
      rw [List.getElem?_map] at h1
      obtain ⟨d, hd, he⟩ := Option.map_eq_some_iff.1 h1
      subst he
      exact fin1_rv M (hh j d y hd h2)
  | _ => exact fin1_rv M h

theorem mapM_run {α β : Type} (P : Program) (w : World) (g : α → Sem β) : ∀ (l : List α) (ys : List β), l.length = ys.length → (∀ (i : Nat) (x : α) (y : β), l[i]? = some x → ys[i]? = some y → (g x).run P w = .ok y w) → (l.mapM g).run P w = .ok ys w
  | [], ys, hl, _ => by
    cases ys with
    | nil => rfl
    | cons => simp at hl
  | x :: l, ys, hl, h => by
    cases ys with
    | nil => simp at hl
    | cons y ys =>
      rw [List.mapM_cons]
      simp [h 0 x y rfl rfl, mapM_run P w g l ys (by simpa using hl) (fun i a b h1 h2 => h (i + 1) a b (by simpa using h1) (by simpa using h2))]

theorem res_sound {G : Cfg} {nt base : Nat} {bx0 : List Nat} {C : Ctx} {st : St} {a : Act} (R : Rel G nt base bx0 C st a) {fn : Func} {r : AV} (h : resOf G fn.results.toList st = some r) :
    ∃ v, (results fn a.tmps).run G.P C.w = .ok v C.w ∧ RV C.done r v := by
  have one : ∀ (rv : ResultVar) (x : AV), resVar G st rv = some x → ∃ v, (match rv with | .tmp t => pure (a.tmps.getD t undef) | .cell p t => do loadVar t (← asAddr (a.tmps.getD p undef)) : Sem Value).run G.P C.w = .ok v C.w ∧ RV C x v := by
    intro rv x hx
    cases rv with
    | tmp t =>
      simp only [resVar, Option.some.injEq] at hx
      subst hx
      exact ⟨_, rfl, R.env t⟩
    | cell p t =>
      simp only [resVar] at hx
      obtain ⟨cs, hc, hl⟩ := Option.bind_eq_some_iff.1 hx
      obtain ⟨b, off, hp, hcells⟩ := cellsAt_rv R.mem (R.env p) hc
      obtain ⟨v, hv, hr⟩ := loadVar_run hcells hl
      refine ⟨v, ?_, hr⟩
      simp only [hp]
      simp [asAddr, hv]
  have many : ∀ (rs : List ResultVar) (xs : List AV), rs.mapM (resVar G st) = some xs → ∃ vs : List Value, (rs.mapM fun rv => (match rv with | .tmp t => pure (a.tmps.getD t undef) | .cell p t => do loadVar t (← asAddr (a.tmps.getD p undef)) : Sem Value)).run G.P C.w = .ok vs C.w ∧ RVs C xs vs ∧ xs.length = rs.length := by
    intro rs
    induction rs with
    | nil => intro xs h; simp at h; subst h; exact ⟨[], rfl, RVs.nil C, rfl⟩
    | cons rv rs ih =>
      intro xs h
      simp only [List.mapM_cons, Option.bind_eq_bind, Option.pure_def] at h
      obtain ⟨x, hx, h2⟩ := Option.bind_eq_some_iff.1 h
      obtain ⟨ys, hy, h3⟩ := Option.bind_eq_some_iff.1 h2
      cases h3
      obtain ⟨v, hv, hr⟩ := one rv x hx
      obtain ⟨vs, hvs, hrs, hl⟩ := ih ys hy
      refine ⟨v :: vs, ?_, RVs.cons hr hrs, by simp [hl]⟩
      rw [List.mapM_cons]
      simp only [Sem.run_bind, hv, Result.andThen_ok, hvs, Sem.run_pure]
  have eq : ∀ vs : List Value, (fn.results.toList.mapM fun rv => (match rv with | .tmp t => pure (a.tmps.getD t undef) | .cell p t => do loadVar t (← asAddr (a.tmps.getD p undef)) : Sem Value)).run G.P C.w = .ok vs C.w →
      (results fn a.tmps).run G.P C.w = .ok (if h : vs.toArray.size = 1 then vs.toArray[0] else .tuple vs.toArray) C.w := by
    intro vs hvs
    unfold results
    rw [Sem.run_bind, Array.mapM_eq_mapM_toList, Sem.run_map]
    have e2 := congrArg (fun z => Result.andThen (Result.andThen z (fun a w => (Result.ok a.toArray w : Result (Array Value)))) (fun vs w => (Result.ok (if h : vs.size = 1 then vs[0] else .tuple vs) w : Result Value))) hvs
    exact e2
  unfold resOf at h
  split at h
  · rename_i rv hrs
    obtain ⟨x, hx, h2⟩ := Option.map_eq_some_iff.1 h
    subst h2
    obtain ⟨v, hv, hr⟩ := one rv x hx
    refine ⟨v, ?_, fin_rv R.mem hr⟩
    have := eq [v] (by rw [hrs]; simp only [List.mapM_cons, List.mapM_nil, Sem.run_bind, hv, Result.andThen_ok, Sem.run_pure])
    rw [this]
    rfl
  · rename_i hne
    obtain ⟨xs, hx, h2⟩ := Option.map_eq_some_iff.1 h
    subst h2
    obtain ⟨vs, hvs, hr, hl⟩ := many _ xs hx
    have hlen : ¬ vs.toArray.size = 1 := by
      intro e
      have e2 : fn.results.toList.length = 1 := by have := hr.1; simp only [List.size_toArray] at e; omega
      match hq : fn.results.toList, e2 with
      | [r0], _ => exact hne r0 hq
    refine ⟨.tuple vs.toArray, by rw [eq vs hvs, dif_neg hlen], .tup _ _ (by simp [hr.1]) ?_⟩
    intro j c y h1 h2
    rw [List.getElem?_map] at h1
    obtain ⟨d, hd, he⟩ := Option.map_eq_some_iff.1 h1
    subst he
    exact fin_rv R.mem (hr.2 j d y hd (by simpa using h2))

theorem acall_of_code {G : Cfg} (V : G.Vers) (DS : DrawSound G) {f : FuncId} {fn : Func} {c : Code} (hf : G.P.funcs[f]? = some fn) (hb : fn.body = some c) {args : List AV} {bs : List (List AV)} (ha : args.length ≤ fn.ntmps) (hwr : ∀ k, G.wr k = true → bs.length ≤ k) (hmd : G.md = 0) {r : AV}
    (h : ∀ ver, acode G fn.ntmps c (fun e st => (e = .normal ∨ e = .ret) ∧ resOf G fn.results.toList st = some r) ⟨startEnv args, ⟨bs, noArrs ver⟩⟩) : ACall G.P f args bs (fun _ => false) r (fun _ => True) := by
  intro C vs hA hB hW0 hN hvs
  have hlen : args.length = vs.size := by simpa using hvs.1
  have R : Rel G fn.ntmps C.w.heap.size [] C ⟨startEnv args, ⟨bs, noArrs C.ver⟩⟩ { tmps := vs ++ Array.replicate (fn.ntmps - vs.size) undef, defers := [] } := by
    refine ⟨⟨hB.len, hB.nodup, ?_, Nat.le_refl _, fun b h => ⟨hN b h, fun i I hI => (by rw [hA i] at hI; cases hI)⟩, hB.box, fun _ => rfl, fun i _ => hA i, fun i hl => (by cases hl), fun i I g hI => (by rw [hA i] at hI; cases hI), fun i I g hI => (by rw [hA i] at hI; cases hI), ⟨fun b h => (hW0 b h).1, fun b h => (hW0 b h).2, fun b i I _ hI => (by rw [hA i] at hI; cases hI), fun e => (by rw [hmd] at e; cases e)⟩, fun e => (by rw [hmd] at e; cases e), hB.glob⟩, ?_, by simp; omega, rfl⟩
    · intro k b hk hw
      have h1 := hwr k hw
      have h2 := (List.getElem?_eq_some_iff.1 hk).1
      have h3 := hB.len
      omega
    · intro t
      simp only [startEnv]
      by_cases ht : t < args.length
      · have e1 : args.getD t .dead = args[t] := by simp [ht]
        have e2 : (vs ++ Array.replicate (fn.ntmps - vs.size) undef).getD t undef = vs[t] := by
          have : t < vs.size := by omega
          simp [Array.getElem?_append, this]
        rw [e1, e2]
        exact hvs.2 t _ _ (List.getElem?_eq_getElem ht) (by simp)
      · have e1 : args.getD t .dead = .dead := by simp [ht]
        rw [e1]
        exact .dead _
  refine calls_of_wp hf hb (wp_mono (acode_sound V DS c _ C C _ _ R (.of (Keeps.refl C)) (.of rfl) (WExt.refl _ _ _) (h C.ver)) ?_)
  rintro e a' w' ⟨D, st, rfl, ⟨he, hres⟩, R', KT, hnT, W⟩
  have K := KT (by rw [hmd]; decide)
  have hn := hnT (by rw [hmd]; decide)
  obtain ⟨v, hv, hr⟩ := res_sound R' hres
  have post : a'.defers = [] ∧ ∃ v, (results fn a'.tmps).run G.P D.w = .ok v D.w ∧ ∃ u C', Ending.returned v = .returned u ∧ C'.w = D.w ∧ C'.N0 = C.N0 ∧ Keeps C C' ∧ (∀ i, C'.A i = none) ∧ (∃ bs', True ∧ BoxOK C' bs') ∧
      WExt C.w.heap.size ((List.range C.bx.length).filterMap fun k => if (fun _ : Nat => false) k then C.bx[k]? else none) C.w D.w ∧ RV C' r u := by
    refine ⟨R'.defers, v, hv, v, D.done, rfl, rfl, hn, K.trans (done_keeps D), fun _ => rfl, ⟨st.mem.boxes, trivial, R'.mem.bxlen, R'.mem.nodup, fun b hb => R'.mem.bxin hb, ?_, R'.mem.glob.keep (done_keeps D)⟩, ?_, hr⟩
    · intro k b cs h1 h2
      obtain ⟨cur, t, hc, hs, hrr⟩ := R'.mem.box k b cs h1 h2
      exact ⟨cur, t, hc, hs, fun j c x h3 h4 => (hrr j c x h3 h4).keep (done_keeps D)⟩
    · rw [wr_none]
      exact W
  rcases he with rfl | rfl
  · exact post
  · exact post

/-- A function that writes boxes of the caller's, by its code. -/
theorem scall_of_code {G : Cfg} (V : G.Vers) (DS : DrawSound G) {f : FuncId} {fn : Func} {c : Code} (hf : G.P.funcs[f]? = some fn) (hb : fn.body = some c) {args : List AV} {bs bs' : List (List AV)} {w : Nat → Bool} (ha : args.length ≤ fn.ntmps)
    (hwr : ∀ k, G.wr k = true → k < bs.length → w k = true) (hwr2 : ∀ k, bs.length ≤ k → G.wr k = true) (hmd : G.md = 0) {r : AV}
    (h : ∀ ver, acode G fn.ntmps c (fun e st => (e = .normal ∨ e = .ret) ∧ resOf G fn.results.toList st = some r ∧ st.mem.boxes.take bs'.length = bs') ⟨startEnv args, ⟨bs, noArrs ver⟩⟩) :
    ∀ (C : Ctx) (vs : Array Value), (∀ i, C.A i = none) → BoxOK C bs → (∀ b, C.W b → soft C.w b ∧ b ∉ C.bx) → (∀ b, C.N0 false b → b < C.w.heap.size) → RVs C args vs.toList →
    Calls G.P f vs C.w fun e w' => ∃ v C' bs2, e = .returned v ∧ C'.w = w' ∧ C'.N0 = C.N0 ∧ Keeps C C' ∧ bs2.take bs'.length = bs' ∧ BoxOK C' bs2 ∧ (∀ (k b : Nat), C.bx.length ≤ k → C'.bx[k]? = some b → C.w.heap.size ≤ b) ∧
      WExt C.w.heap.size (wrBlk C.bx w) C.w w' ∧ RV C' r v := by
  intro C vs hA hB hW0 hN hvs
  have hlen : args.length = vs.size := by simpa using hvs.1
  have R : Rel G fn.ntmps C.w.heap.size (wrBlk C.bx w) C ⟨startEnv args, ⟨bs, noArrs C.ver⟩⟩ { tmps := vs ++ Array.replicate (fn.ntmps - vs.size) undef, defers := [] } := by
    refine ⟨⟨hB.len, hB.nodup, ?_, Nat.le_refl _, fun b h => ⟨hN b h, fun i I hI => (by rw [hA i] at hI; cases hI)⟩, hB.box, fun _ => rfl, fun i _ => hA i, fun i hl => (by cases hl), fun i I g hI => (by rw [hA i] at hI; cases hI), fun i I g hI => (by rw [hA i] at hI; cases hI), ⟨fun b h => (hW0 b h).1, fun b h => (hW0 b h).2, fun b i I _ hI => (by rw [hA i] at hI; cases hI), fun e => (by rw [hmd] at e; cases e)⟩, fun e => (by rw [hmd] at e; cases e), hB.glob⟩, ?_, by simp; omega, rfl⟩
    · intro k b hk hw
      refine .inl (wrBlk_mem (hwr k hw ?_) hk)
      have h2 := (List.getElem?_eq_some_iff.1 hk).1
      have h3 := hB.len
      omega
    · intro t
      simp only [startEnv]
      by_cases ht : t < args.length
      · have e1 : args.getD t .dead = args[t] := by simp [ht]
        have e2 : (vs ++ Array.replicate (fn.ntmps - vs.size) undef).getD t undef = vs[t] := by
          have : t < vs.size := by omega
          simp [Array.getElem?_append, this]
        rw [e1, e2]
        exact hvs.2 t _ _ (List.getElem?_eq_getElem ht) (by simp)
      · have e1 : args.getD t .dead = .dead := by simp [ht]
        rw [e1]
        exact .dead _
  refine calls_of_wp hf hb (wp_mono (acode_sound V DS c _ C C _ _ R (.of (Keeps.refl C)) (.of rfl) (WExt.refl _ _ _) (h C.ver)) ?_)
  rintro e a' w' ⟨D, st, rfl, ⟨he, hres, htk⟩, R', KT, hnT, W⟩
  have K := KT (by rw [hmd]; decide)
  have hn := hnT (by rw [hmd]; decide)
  obtain ⟨v, hv, hr⟩ := res_sound R' hres
  have post : a'.defers = [] ∧ ∃ v, (results fn a'.tmps).run G.P D.w = .ok v D.w ∧ ∃ u C' bs2, Ending.returned v = .returned u ∧ C'.w = D.w ∧ C'.N0 = C.N0 ∧ Keeps C C' ∧ bs2.take bs'.length = bs' ∧ BoxOK C' bs2 ∧ (∀ (k b : Nat), C.bx.length ≤ k → C'.bx[k]? = some b → C.w.heap.size ≤ b) ∧
      WExt C.w.heap.size (wrBlk C.bx w) C.w D.w ∧ RV C' r u := by
    refine ⟨R'.defers, v, hv, v, D.done, st.mem.boxes, rfl, rfl, hn, K.trans (done_keeps D), htk, ⟨R'.mem.bxlen, R'.mem.nodup, fun b hb => R'.mem.bxin hb, ?_, R'.mem.glob.keep (done_keeps D)⟩, ?_, W, hr⟩
    · intro k b cs h1 h2
      obtain ⟨cur, t, hc, hs, hrr⟩ := R'.mem.box k b cs h1 h2
      exact ⟨cur, t, hc, hs, fun j c x h3 h4 => (hrr j c x h3 h4).keep (done_keeps D)⟩
    · intro k b hk h1
      have h1' : D.bx[k]? = some b := h1
      rcases R'.mem.bxlt k b h1' (hwr2 k (by rw [← hB.len]; exact hk)) with h | h
      · obtain ⟨j, hj, _, hb⟩ := mem_wrBlk h
        have h2 := K.bx j b hb
        have := (List.getElem?_inj (List.getElem?_eq_some_iff.1 h2).1 R'.mem.nodup).1 (h2.trans h1'.symm)
        omega
      · exact h
  rcases he with rfl | rfl
  · exact post
  · exact post

end Go.Proofs.YtokhnmchnfkiiaaDoor.Am

/- The abstract machine: regions that draw their order: told once, in one order; sound in every order. No conditions. -/
namespace Go.Proofs.YtokhnmchnfkiiaaDoor.Am
open Go Go.RowKit
set_option linter.unusedSimpArgs false
set_option linter.unusedVariables false

theorem ev_congr {st : St} {env : Nat → AV} {x : Operand} (h : ∀ t, x = .tmp t → env t = st.env t) : St.ev ⟨env, st.mem⟩ x = st.ev x := by
  cases x <;> simp only [St.ev]
  exact h _ rfl

theorem aval_congr (G : Cfg) (o : Oper) (st : St) (env : Nat → AV) (h : ∀ x ∈ o.op.operands, St.ev ⟨env, st.mem⟩ x = st.ev x) : aval G o ⟨env, st.mem⟩ = aval G o st := by
  obtain ⟨dst, op, type, pos, after, guard⟩ := o
  have pairs : ∀ ps : Array (Nat × Operand), (∀ x ∈ ps.map (·.2), St.ev ⟨env, st.mem⟩ x = st.ev x) →
      (ps.toList.map fun p => (p.1, St.ev ⟨env, st.mem⟩ p.2)) = (ps.toList.map fun p => (p.1, st.ev p.2)) := fun ps hp =>
    List.map_congr_left fun p hm => by
      rw [hp p.2 (Array.mem_map.2 ⟨p, Array.mem_toList_iff.1 hm, rfl⟩)]
  have pairs2 : ∀ ps : Array (Nat × Operand), (∀ x ∈ ps.map (·.2), St.ev ⟨env, st.mem⟩ x = st.ev x) →
      (ps.toList.map fun p => (St.ev ⟨env, st.mem⟩ p.2).cells) = (ps.toList.map fun p => (st.ev p.2).cells) := fun ps hp =>
    List.map_congr_left fun p hm => by
      rw [hp p.2 (Array.mem_map.2 ⟨p, Array.mem_toList_iff.1 hm, rfl⟩)]
  have arr : ∀ ps : Array Operand, (∀ x ∈ ps, St.ev ⟨env, st.mem⟩ x = st.ev x) → ps.toList.map (St.ev ⟨env, st.mem⟩) = ps.toList.map st.ev := fun ps hp =>
    List.map_congr_left fun p hm => hp p (Array.mem_toList_iff.1 hm)
  cases op <;> simp only [Op.operands] at h <;> simp only [aval]
  case build t ps => rw [pairs ps fun x hx => h x (by simpa using hx)]
  case buildSlice t n ps => rw [pairs2 ps fun x hx => h x (by simpa using hx)]
  case makeFunc fn first captured =>
    cases fn with
    | func f => simp only; rw [arr first fun x hx => h x (by simp [hx]), arr captured fun x hx => h x (by simp [hx])]
    | _ => rfl
  case call c =>
    cases hc : c.callee with
    | builtin b => rw [arr c.args fun x hx => h x (by simp [Call.operands, hx])]
    | _ => rfl
  case binOp op t x y yt =>
    have hx := h x (by simp)
    have hy := h y (by simp)
    by_cases hq : y = .const (.slice none 0 0)
    · subst hq
      simp only [hx]
    · simp only [hx, hy]
  case slice t x lo hi mx =>
    cases mx with
    | some m => cases lo <;> cases hi <;> first | rfl | simp_all
    | none =>
      cases lo <;> cases hi <;> simp_all
  all_goals (first | rfl | (simp_all; done))

/-- What an operation yields, and the memory behind it. -/
def Yields (G : Cfg) (o : Oper) (st : St) (x : AV) (m' : Mem) : Prop := aop G false o (fun st' => st' = { st with mem := m' }.put o.dst x) st

theorem Yields.mk {G : Cfg} {o : Oper} {st : St} {K : St → Prop} (h : aop G false o K st) : ∃ x m', (∀ env, (∀ y ∈ o.op.operands, St.ev ⟨env, st.mem⟩ y = st.ev y) → ∀ K', K' (St.put ⟨env, m'⟩ o.dst x) → aop G false o K' ⟨env, st.mem⟩) ∧ K ({ st with mem := m' }.put o.dst x) := by
  have viaval : (match aval G o st with | some (x, m') => K ({ st with mem := m' }.put o.dst x) | none => False) →
      ∃ x m', (∀ env, (∀ y ∈ o.op.operands, St.ev ⟨env, st.mem⟩ y = st.ev y) → ∀ K' : St → Prop, K' (St.put ⟨env, m'⟩ o.dst x) → (match aval G o ⟨env, st.mem⟩ with | some (x, m') => K' (({ (⟨env, st.mem⟩ : St) with mem := m' } : St).put o.dst x) | none => False)) ∧ K ({ st with mem := m' }.put o.dst x) := by
    intro h
    split at h
    · rename_i x m' hv
      refine ⟨x, m', ?_, h⟩
      intro env he K' hK
      rw [aval_congr G o st env he, hv]
      exact hK
    · exact h.elim
  obtain ⟨dst, op, type, pos, after, guard⟩ := o
  cases op
  case call c =>
    obtain ⟨callee, args, tys⟩ := c
    cases callee with
    | value y =>
      simp only [aop] at h ⊢
      split at h
      · rename_i f pre post hy
        rcases h with ⟨r, m', hc, hK⟩ | ⟨h, _⟩
        case inr => cases h
        refine ⟨r, m', ?_, hK⟩
        intro env he K' hK'
        have hx : St.ev ⟨env, st.mem⟩ y = st.ev y := he y (by simp [Op.operands, Call.operands])
        have ha : args.toList.map (St.ev ⟨env, st.mem⟩) = args.toList.map st.ev := List.map_congr_left fun p hm => he p (by simp [Op.operands, Call.operands, Array.mem_toList_iff.1 hm])
        rw [hx, hy]
        exact .inl ⟨r, m', by rw [ha]; exact hc, hK'⟩
      · exact h.elim
    | invoke y m => exact viaval h
    | builtin b => exact viaval h
  all_goals exact viaval h

theorem aop_env {G : Cfg} {ic : Bool} {o : Oper} {e e' : Nat → AV} {m : Mem} {K : St → Prop} (h : aop G ic o K ⟨e, m⟩) (he : ∀ y ∈ o.op.operands, St.ev ⟨e', m⟩ y = St.ev ⟨e, m⟩ y) : aop G ic o (fun s => ∃ x m', s = St.put ⟨e', m'⟩ o.dst x ∧ K (St.put ⟨e, m'⟩ o.dst x)) ⟨e', m⟩ := by
  have viaval : (match aval G o ⟨e, m⟩ with | some (x, m') => K (({ (⟨e, m⟩ : St) with mem := m' } : St).put o.dst x) | none => False) →
      (match aval G o ⟨e', m⟩ with | some (x, m') => (fun s : St => ∃ x m', s = St.put ⟨e', m'⟩ o.dst x ∧ K (St.put ⟨e, m'⟩ o.dst x)) (({ (⟨e', m⟩ : St) with mem := m' } : St).put o.dst x) | none => False) := by
    intro h
    rw [aval_congr G o ⟨e, m⟩ e' he]
    split at h
    · rename_i x m' hv
      exact ⟨x, m', rfl, h⟩
    · exact h.elim
  obtain ⟨dst, op, type, pos, after, guard⟩ := o
  cases op
  case call c =>
    obtain ⟨callee, args, tys⟩ := c
    cases callee with
    | value y =>
      simp only [aop] at h ⊢
      have hx : St.ev ⟨e', m⟩ y = St.ev ⟨e, m⟩ y := he y (by simp [Op.operands, Call.operands])
      have ha : args.toList.map (St.ev ⟨e', m⟩) = args.toList.map (St.ev ⟨e, m⟩) := List.map_congr_left fun p hm => he p (by simp [Op.operands, Call.operands, Array.mem_toList_iff.1 hm])
      rw [hx, ha]
      split at h
      · rename_i f pre post hy
        rcases h with ⟨r, m', hc, hK⟩ | ⟨h1, h2, Q, h3, h4⟩
        · exact .inl ⟨r, m', hc, r, m', rfl, hK⟩
        · exact .inr ⟨h1, h2, Q, h3, fun r m' hq => ⟨r, m', rfl, h4 r m' hq⟩⟩
      · exact h.elim
    | invoke y m => exact viaval h
    | builtin b => exact viaval h
  all_goals exact viaval h

theorem pairsB_split {f : Nat → Nat → Bool} : ∀ {l : List Nat}, pairsB f l = true → ∀ l1 i l2, l = l1 ++ i :: l2 → (∀ k ∈ l1, f k i = true) ∧ (∀ k ∈ l2, f i k = true)
  | [], _, l1, i, l2, e => by simp at e
  | a :: l, h, l1, i, l2, e => by
    simp only [pairsB, Bool.and_eq_true, List.all_eq_true] at h
    cases l1 with
    | nil =>
      simp only [List.nil_append, List.cons.injEq] at e
      obtain ⟨rfl, rfl⟩ := e
      exact ⟨by simp, h.1⟩
    | cons b l1 =>
      simp only [List.cons_append, List.cons.injEq] at e
      obtain ⟨rfl, rfl⟩ := e
      have := pairsB_split h.2 l1 i l2 rfl
      refine ⟨?_, this.2⟩
      intro k hk
      rcases List.mem_cons.1 hk with rfl | hk
      · exact h.1 i (by simp)
      · exact this.1 k hk

theorem nodupB_iff : ∀ {l : List Nat}, nodupB l = true → l.Nodup
  | [], _ => List.nodup_nil
  | i :: l, h => by
    simp only [nodupB, Bool.and_eq_true, Bool.not_eq_true', List.contains_eq_mem, decide_eq_false_iff_not] at h
    exact List.nodup_cons.2 ⟨h.1, nodupB_iff h.2⟩

theorem clos_length (ops : Array Oper) : ∀ n, (clos ops n).length = n
  | 0 => rfl
  | n + 1 => by simp [clos, clos_length ops n]

theorem mem_foldr_insert {x : Nat} {acc : List Nat} : ∀ {l : List Nat}, x ∈ l.foldr List.insert acc → x ∈ l ∨ x ∈ acc
  | [], h => .inr h
  | a :: l, h => by
    simp only [List.foldr_cons, List.mem_insert_iff] at h
    rcases h with rfl | h
    · exact .inl (by simp)
    · rcases mem_foldr_insert h with h | h
      · exact .inl (by simp [h])
      · exact .inr h

theorem clos_spec (ops : Array Oper) {L : Nat → Prop} (hL : ∀ k, L k → ∀ i ∈ direct ops k, L i) : ∀ n j, (∀ i ∈ direct ops j, L i) → ∀ x ∈ (clos ops n).getD j [], L x
  | 0, j, _, x, hx => by simp [clos] at hx
  | n + 1, j, hj, x, hx => by
    have ih := clos_spec ops hL n
    simp only [clos] at hx
    rcases Nat.lt_trichotomy j n with h | h | h
    · have e : (clos ops n ++ [(direct ops n).foldr (fun i acc => List.insert i (((clos ops n).getD i []).foldr List.insert acc)) []]).getD j [] = (clos ops n).getD j [] := by
        simp only [List.getD_eq_getElem?_getD]
        rw [List.getElem?_append_left (by rw [clos_length]; exact h)]
      rw [e] at hx
      exact ih j hj x hx
    · subst h
      have e : (clos ops j ++ [(direct ops j).foldr (fun i acc => List.insert i (((clos ops j).getD i []).foldr List.insert acc)) []]).getD j [] = (direct ops j).foldr (fun i acc => List.insert i (((clos ops j).getD i []).foldr List.insert acc)) [] := by
        simp only [List.getD_eq_getElem?_getD]
        rw [List.getElem?_append_right (by rw [clos_length]; exact Nat.le_refl _), clos_length]
        simp
      rw [e] at hx
      have go : ∀ l : List Nat, (∀ i ∈ l, L i) → x ∈ l.foldr (fun i acc => List.insert i (((clos ops j).getD i []).foldr List.insert acc)) [] → L x := by
        intro l
        induction l with
        | nil => intro _ h; simp at h
        | cons a l ihl =>
          intro hl h
          simp only [List.foldr_cons, List.mem_insert_iff] at h
          rcases h with rfl | h
          · exact hl _ (by simp)
          · rcases mem_foldr_insert h with h | h
            · exact ih a (hL a (hl a (by simp))) x h
            · exact ihl (fun i hi => hl i (by simp [hi])) h
      exact go _ hj hx
    · have e : (clos ops n ++ [(direct ops n).foldr (fun i acc => List.insert i (((clos ops n).getD i []).foldr List.insert acc)) []]).getD j [] = [] := by
        simp only [List.getD_eq_getElem?_getD]
        rw [List.getElem?_eq_none (by simp [clos_length]; omega)]
        rfl
      rw [e] at hx
      simp at hx

def upd (env : Nat → AV) (d : Option Tmp) (x : AV) : Nat → AV :=
  match d with
  | some d => fun t => if t = d then x else env t
  | none => env

theorem put_upd (st : St) (d : Option Tmp) (x : AV) : st.put d x = ⟨upd st.env d x, st.mem⟩ := by
  cases d <;> rfl

/-- The slots when those operations of a list that L picks out have been done. -/
def after (ops : Array Oper) (xs : Nat → AV) (L : Nat → Bool) : List Nat → (Nat → AV) → Nat → AV
  | [], env => env
  | i :: l, env => after ops xs L l (if L i = true then upd env (writes ops i) (xs i) else env)

theorem after_congr {ops : Array Oper} {xs : Nat → AV} {L M : Nat → Bool} {t : Nat} : ∀ {l : List Nat} {e f : Nat → AV}, e t = f t → (∀ i ∈ l, writes ops i = some t → L i = M i) → after ops xs L l e t = after ops xs M l f t
  | [], _, _, h, _ => h
  | i :: l, e, f, h, hw => by
    simp only [after]
    refine after_congr ?_ fun k hk => hw k (by simp [hk])
    by_cases hi : writes ops i = some t
    · rw [hw i (by simp) hi, hi]
      split
      · simp [upd]
      · exact h
    · have h1 : ∀ g : Nat → AV, upd g (writes ops i) (xs i) t = g t := by
        intro g
        cases hd : writes ops i with
        | none => rfl
        | some d => simp only [upd]; rw [if_neg (fun e => hi (by rw [hd, e]))]
      split <;> split <;> simp only [h1, h]

theorem after_none {ops : Array Oper} {xs : Nat → AV} {L : Nat → Bool} {t : Nat} : ∀ {l : List Nat} {e : Nat → AV}, (∀ i ∈ l, writes ops i = some t → L i = false) → after ops xs L l e t = e t
  | [], _, _ => rfl
  | i :: l, e, hw => by
    simp only [after]
    rw [after_none fun k hk => hw k (by simp [hk])]
    by_cases hi : writes ops i = some t
    · rw [hw i (by simp) hi]; simp
    · split
      · cases hd : writes ops i with
        | none => rfl
        | some d => simp only [upd]; rw [if_neg (fun e => hi (by rw [hd, e]))]
      · rfl

theorem after_append {ops : Array Oper} {xs : Nat → AV} {L : Nat → Bool} : ∀ {l l2 : List Nat} {e : Nat → AV}, after ops xs L (l ++ l2) e = after ops xs L l2 (after ops xs L l e)
  | [], _, _ => rfl
  | i :: l, l2, e => by simp only [List.cons_append, after]; exact after_append

theorem after_xs {ops : Array Oper} {xs ys : Nat → AV} {L : Nat → Bool} : ∀ {l : List Nat} {e : Nat → AV}, (∀ i ∈ l, xs i = ys i) → after ops xs L l e = after ops ys L l e
  | [], _, _ => rfl
  | i :: l, e, h => by simp only [after]; rw [h i (by simp)]; exact after_xs fun k hk => h k (by simp [hk])

/-- An operation of the first part, at slots that it cannot tell from those of the telling, yields the value of the telling. -/
def Told (G : Cfg) (nt : Nat) (ops : Array Oper) (i : Nat) (st : St) (x : AV) : Prop :=
  ∃ o, ops[i]? = some o ∧ dstOK nt o.dst = true ∧ ((runs ops st o = some true ∧ ∀ env, (∀ y ∈ o.op.operands, St.ev ⟨env, st.mem⟩ y = st.ev y) → ∀ K' : St → Prop, K' (St.put ⟨env, st.mem⟩ o.dst x) → aop G false o K' ⟨env, st.mem⟩) ∨ (runs ops st o = some false ∧ x = .v undef))

theorem apre_told {G : Cfg} {nt : Nat} {ops : Array Oper} {K : St → Prop} : ∀ {l : List Nat} {st : St}, l.Nodup → apre G nt ops l K st → ∃ xs : Nat → AV,
    (∀ l1 i l2, l = l1 ++ i :: l2 → Told G nt ops i ⟨after ops xs (fun _ => true) l1 st.env, st.mem⟩ (xs i)) ∧ K ⟨after ops xs (fun _ => true) l st.env, st.mem⟩
  | [], st, _, h => ⟨fun _ => .dead, fun l1 i l2 e => by simp at e, h⟩
  | i :: l, st, hn, h => by
    obtain ⟨hni, hn⟩ := List.nodup_cons.1 hn
    simp only [apre] at h
    split at h
    · exact h.elim
    rename_i o ho
    obtain ⟨hd, h⟩ := h
    have hwr : writes ops i = o.dst := by simp [writes, ho]
    have fin : ∀ x, Told G nt ops i st x → apre G nt ops l K ⟨upd st.env o.dst x, st.mem⟩ → ∃ xs : Nat → AV,
        (∀ l1 k l2, i :: l = l1 ++ k :: l2 → Told G nt ops k ⟨after ops xs (fun _ => true) l1 st.env, st.mem⟩ (xs k)) ∧ K ⟨after ops xs (fun _ => true) (i :: l) st.env, st.mem⟩ := by
      intro x ht h
      obtain ⟨xs, h1, h2⟩ := apre_told hn h
      refine ⟨fun k => if k = i then x else xs k, ?_, ?_⟩
      · intro l1 k l2 e
        cases l1 with
        | nil =>
          simp only [List.nil_append, List.cons.injEq] at e
          obtain ⟨rfl, rfl⟩ := e
          simp only [after, if_pos]
          exact ht
        | cons b l1 =>
          simp only [List.cons_append, List.cons.injEq] at e
          obtain ⟨rfl, rfl⟩ := e
          have hk : k ≠ i := fun e => hni (by rw [← e]; simp)
          have := h1 l1 k l2 rfl
          simp only [after, if_neg hk, hwr, if_pos]
          rw [after_xs (ys := xs) (fun j hj => if_neg (fun e => hni (by rw [← e]; simp [hj])))]
          exact this
      · simp only [after, hwr, if_pos]
        rw [after_xs (ys := xs) (fun j hj => if_neg (fun e => hni (by rw [← e]; exact hj)))]
        exact h2
    rcases byGuard_cases h with ⟨hr, h⟩ | ⟨hr, h⟩
    · obtain ⟨x, m', hy, hm, hK⟩ := Yields.mk h
      rw [put_upd] at hm hK
      simp only at hm
      subst hm
      exact fin x ⟨o, ho, hd, .inl ⟨hr, hy⟩⟩ hK
    · rw [put_upd] at h
      exact fin (.v undef) ⟨o, ho, hd, .inr ⟨hr, rfl⟩⟩ h

end Go.Proofs.YtokhnmchnfkiiaaDoor.Am
