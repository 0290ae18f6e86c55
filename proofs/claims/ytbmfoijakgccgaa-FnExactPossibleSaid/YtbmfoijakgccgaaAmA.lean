/- An abstract machine for the walks: its values, and what a value of the model stands for one of them in a world. No conditions. -/
import Derived.WalkKit
import Derived.Orders
import Derived.Laws.AppendOwn
import Derived.Laws.OwnMore
import Derived.Deep.AppendSrc
import Derived.Below
namespace Go.Proofs.Ytbmfoijakgccgaa.Am
open Go Go.RowKit
set_option linter.unusedSimpArgs false
set_option linter.unusedVariables false

/-- An abstract value. Slices are lists that are held inline ('sl'), or arrays of the call's own ('arr'). -/
inductive AV where
  | v (x : Value)
  | agg (cs : List AV)
  | tup (vs : List AV)
  | sl (col : Bool) (es : List (List AV))
  | nil
  | el (col : Bool) (cs : List AV)
  | box (k off : Nat)
  | arr (i n off len : Nat)
  | ael (i n idx off : Nat)
  | clo (f : FuncId) (pre post : List AV)
  | dead

instance : Inhabited AV := ⟨.dead⟩

/-- What is known of an array of the call's own: how many cells an element has, how many elements, the whole slice. -/
structure AInf where
  size : Nat
  len : Nat
  val : Value

structure Ctx where
  w : World
  N0 : Bool → Nat → Prop
  bx : List Nat
  ver : Nat → Nat
  A : Nat → Option AInf

def Ctx.N (C : Ctx) (col : Bool) (b : Nat) : Prop := C.N0 col b ∨ b ∈ C.bx ∨ ∃ i I, C.A i = some I ∧ I.val.ownBlock = some b

/-- v is the part of the whole slice from off on, len elements. -/
def IsSub (I : AInf) (off len : Nat) (v : Value) : Prop :=
  off + len ≤ I.len ∧ ∃ a cap a', I.val = .slice a I.len cap ∧ v = .slice a' len (cap - off) ∧ (off < cap ∨ off = 0 → a' = a.map (·.add (off * I.size)))

def IsEl (I : AInf) (idx off : Nat) (v : Value) : Prop :=
  ∃ g cap, I.val = .slice (some ⟨g, 0, none⟩) I.len cap ∧ v = .pointer (some ⟨g, idx * I.size + off, none⟩)

inductive RV (C : Ctx) : AV → Value → Prop
  | v (x : Value) : RV C (.v x) x
  | agg (cs : List AV) (vs : Array Value) (hl : cs.length = vs.size) (h : ∀ (j : Nat) (c : AV) (x : Value), cs[j]? = some c → vs[j]? = some x → RV C c x) : RV C (.agg cs) (.agg vs)
  | tup (cs : List AV) (vs : Array Value) (hl : cs.length = vs.size) (h : ∀ (j : Nat) (c : AV) (x : Value), cs[j]? = some c → vs[j]? = some x → RV C c x) : RV C (.tup cs) (.tuple vs)
  | nil (a : Option Addr) : RV C .nil (.slice a 0 0)
  | sl0 (col : Bool) (a : Option Addr) (cap : Nat) : RV C (.sl col []) (.slice a 0 cap)
  | sl (col : Bool) (es : List (List AV)) (b off size cap : Nat) (f : Nat → Nat → Value) (hne : es ≠ []) (hs : ∀ e ∈ es, e.length = size) (hN : ¬ C.N col b) (hb : b < C.w.heap.size)
      (hcap : es.length ≤ cap) (hc : ∀ (i j : Nat) (e : List AV) (c : AV), es[i]? = some e → e[j]? = some c → C.w.cell? ⟨b, off + i * size + j, none⟩ = some (f i j))
      (hr : ∀ (i j : Nat) (e : List AV) (c : AV), es[i]? = some e → e[j]? = some c → RV C c (f i j)) : RV C (.sl col es) (.slice (some ⟨b, off, none⟩) es.length cap)
  | el (col : Bool) (cs : List AV) (b off : Nat) (f : Nat → Value) (hN : ¬ C.N col b) (hb : b < C.w.heap.size)
      (hc : ∀ (j : Nat) (c : AV), cs[j]? = some c → C.w.cell? ⟨b, off + j, none⟩ = some (f j)) (hr : ∀ (j : Nat) (c : AV), cs[j]? = some c → RV C c (f j)) : RV C (.el col cs) (.pointer (some ⟨b, off, none⟩))
  | box (k off b : Nat) (h : C.bx[k]? = some b) : RV C (.box k off) (.pointer (some ⟨b, off, none⟩))
  | arr (i n off len : Nat) (x : Value) (h1 : x.oneCell' = true) (hn : n ≤ C.ver i) (h : ∀ I, C.A i = some I → n = C.ver i → IsSub I off len x) : RV C (.arr i n off len) x
  | ael (i n idx off : Nat) (x : Value) (h1 : x.oneCell' = true) (hn : n ≤ C.ver i) (h : ∀ I, C.A i = some I → n = C.ver i → IsEl I idx off x) : RV C (.ael i n idx off) x
  | clo (f : FuncId) (pre post : List AV) (ps qs : Array Value) (hp : pre.length = ps.size) (hq : post.length = qs.size)
      (h : ∀ (j : Nat) (c : AV) (x : Value), pre[j]? = some c → ps[j]? = some x → RV C c x) (h' : ∀ (j : Nat) (c : AV) (x : Value), post[j]? = some c → qs[j]? = some x → RV C c x) : RV C (.clo f pre post) (.func (.func f) ps qs)
  | dead (x : Value) : RV C .dead x

/-- From C to D everything that is held stays held. -/
structure Keeps (C D : Ctx) : Prop where
  size : C.w.heap.size ≤ D.w.heap.size
  N : ∀ col b, b < C.w.heap.size → ¬ C.N col b → ¬ D.N col b
  block : ∀ b, b < C.w.heap.size → (∃ col, ¬ C.N col b) → D.w.heap[b]? = C.w.heap[b]?
  bx : ∀ (k b : Nat), C.bx[k]? = some b → D.bx[k]? = some b
  ver : ∀ i, C.ver i ≤ D.ver i
  A : ∀ i I, D.A i = some I → D.ver i = C.ver i → ∃ J, C.A i = some J ∧ J.val = I.val ∧ J.len = I.len ∧ J.size = I.size

theorem AInf.same {I J : AInf} (h1 : J.val = I.val) (h2 : J.len = I.len) (h3 : J.size = I.size) : J = I := by
  cases I; cases J; simp_all

theorem Keeps.refl (C : Ctx) : Keeps C C := ⟨Nat.le_refl _, fun _ _ _ h => h, fun _ _ _ => rfl, fun _ _ h => h, fun _ => Nat.le_refl _, fun _ I h _ => ⟨I, h, rfl, rfl, rfl⟩⟩

theorem RV.keep {C D : Ctx} (K : Keeps C D) {a : AV} {x : Value} (h : RV C a x) : RV D a x := by
  induction h with
  | v x => exact .v x
  | agg cs vs hl _ ih => exact .agg cs vs hl ih
  | tup cs vs hl _ ih => exact .tup cs vs hl ih
  | nil a => exact .nil a
  | sl0 col a cap => exact .sl0 col a cap
  | sl col es b off size cap f hne hs hN hb hcap hc _ ih =>
    refine .sl col es b off size cap f hne hs (K.N col b hb hN) (Nat.lt_of_lt_of_le hb K.size) hcap ?_ ih
    intro i j e c he hcj
    rw [World.cell?_of_block (w := C.w) (K.block b hb ⟨col, hN⟩)]
    exact hc i j e c he hcj
  | el col cs b off f hN hb hc _ ih =>
    refine .el col cs b off f (K.N col b hb hN) (Nat.lt_of_lt_of_le hb K.size) ?_ ih
    intro j c hcj
    rw [World.cell?_of_block (w := C.w) (K.block b hb ⟨col, hN⟩)]
    exact hc j c hcj
  | box k off b h => exact .box k off b (K.bx k b h)
  | arr i n off len x h1 hn h =>
    refine .arr i n off len x h1 (Nat.le_trans hn (K.ver i)) ?_
    intro I hI e
    have hv : D.ver i = C.ver i := by have := K.ver i; omega
    obtain ⟨J, hJ, h1, h2, h3⟩ := K.A i I hI hv
    have := AInf.same h1 h2 h3
    subst this
    exact h J hJ (by omega)
  | ael i n idx off x h1 hn h =>
    refine .ael i n idx off x h1 (Nat.le_trans hn (K.ver i)) ?_
    intro I hI e
    have hv : D.ver i = C.ver i := by have := K.ver i; omega
    obtain ⟨J, hJ, h1, h2, h3⟩ := K.A i I hI hv
    have := AInf.same h1 h2 h3
    subst this
    exact h J hJ (by omega)
  | clo f pre post ps qs hp hq _ _ ih ih' => exact .clo f pre post ps qs hp hq ih ih'
  | dead x => exact .dead x

/-- An array of the call's own, as the abstract state has it. -/
structure ArrSt where
  ver : Nat
  live : Bool
  elem : TypeId
  es : List (List AV)

structure Mem where
  boxes : List (List AV)
  arrs : Nat → ArrSt

structure St where
  env : Nat → AV
  mem : Mem

def St.put (st : St) (dst : Option Tmp) (a : AV) : St :=
  match dst with
  | some d => { st with env := fun t => if t = d then a else st.env t }
  | none => st

/-- A cell's abstract value is no struct. -/
def AV.one : AV → Bool
  | .v x => x.oneCell'
  | .agg _ | .tup _ | .dead => false
  | _ => true

def AV.cells : AV → List AV
  | .agg cs => cs
  | a => [a]

/-- No reference to an array of the call's own. -/
inductive AV.closed : AV → Prop
  | v (x : Value) : AV.closed (.v x)
  | agg (cs : List AV) (h : ∀ c ∈ cs, AV.closed c) : AV.closed (.agg cs)
  | tup (cs : List AV) (h : ∀ c ∈ cs, AV.closed c) : AV.closed (.tup cs)
  | sl (col : Bool) (es : List (List AV)) (h : ∀ e ∈ es, ∀ c ∈ e, AV.closed c) : AV.closed (.sl col es)
  | nil : AV.closed .nil
  | el (col : Bool) (cs : List AV) (h : ∀ c ∈ cs, AV.closed c) : AV.closed (.el col cs)
  | box (k off : Nat) : AV.closed (.box k off)
  | clo (f : FuncId) (pre post : List AV) (h : ∀ c ∈ pre, AV.closed c) (h' : ∀ c ∈ post, AV.closed c) : AV.closed (.clo f pre post)
  | dead : AV.closed .dead

end Go.Proofs.Ytbmfoijakgccgaa.Am
