/- An abstract machine for the walks: its values, and what a value of the model stands for one of them in a world. No conditions. -/
import Derived.Test.YtokhnmchnfkiiaaDoorAmG
import Derived.WalkKit
import Derived.Orders
import Derived.Laws.AppendOwn
import Derived.Laws.OwnMore
import Derived.Deep.AppendSrc
import Derived.Below
namespace Go.Proofs.YtokhnmchnfkiiaaDoor.Am
open Go Go.RowKit
set_option linter.unusedSimpArgs false
set_option linter.unusedVariables false

/-- An abstract value. Slices are lists that are held inline ('sl'), or arrays of the call's own ('arr'). -/
inductive AV where
  | v (x : Value)
  | agg (cs : List AV)
  | tup (vs : List AV)
  | sl (col : Bool) (es : List (List AV))
  | nil
  | el (col : Bool) (cs : List AV)
  | box (k off : Nat)
  | arr (i n off len : Nat)
  | ael (i n idx off : Nat)
  | clo (f : FuncId) (pre post : List AV)
  | dead
  | any (x : Value)
  | wsl (es : List (List AV))
  | wel (cs : List AV)

instance : Inhabited AV := ⟨.dead⟩

/-- What is known of an array of the call's own: how many cells an element has, how many elements, the whole slice. -/
structure AInf where
  size : Nat
  len : Nat
  val : Value

/-- Two numbers of a kind, or two strings, or two bools. -/
def sameK : Value → Value → Prop
  | .int k _, .int k' _ => k = k'
  | .string _, .string _ => True
  | .bool _, .bool _ => True
  | _, _ => False
theorem sameK_trans {x y z : Value} (h : sameK x y) (k : sameK y z) : sameK x z := by
  cases x <;> cases y <;> simp only [sameK] at h <;> cases z <;> simp only [sameK] at k ⊢ <;> first | trivial | exact h.trans k

def sameKb : Value → Value → Bool
  | .int k _, .int k' _ => k == k'
  | .string _, .string _ => true
  | .bool _, .bool _ => true
  | _, _ => false
theorem sameK_of {x y : Value} (h : sameKb x y = true) : sameK x y := by
  cases x <;> cases y <;> simp_all [sameK, sameKb]
theorem sameK_symm {x y : Value} (h : sameK x y) : sameK y x := by
  cases x <;> cases y <;> simp_all [sameK]
theorem sameK_one {x y : Value} (h : sameK x y) : y.oneCell' = true := by
  cases x <;> simp only [sameK] at h <;> cases y <;> first | rfl | (simp only [sameK] at h)

/-- What may lie in the wild region: numbers and strings of which only the kind is known, slices of the region. -/
def AV.wl : AV → Bool
  | .any _ => true
  | .wsl _ => true
  | _ => false

/-- A block of cells that may be written. -/
def soft (w : World) (b : Nat) : Prop := ∃ cur t, w.heap[b]? = some (.cells cur t (0, 0))
theorem soft.lt {w : World} {b : Nat} (h : soft w b) : b < w.heap.size := by
  obtain ⟨cur, t, h⟩ := h
  exact (Array.getElem?_eq_some_iff.1 h).1
theorem soft.of_block {w w' : World} {b : Nat} (h : w'.heap[b]? = w.heap[b]?) (k : soft w b) : soft w' b := by
  obtain ⟨cur, t, k⟩ := k
  exact ⟨cur, t, h.trans k⟩

structure Ctx where
  w : World
  N0 : Bool → Nat → Prop
  W : Nat → Prop
  bx : List Nat
  ver : Nat → Nat
  A : Nat → Option AInf

def Ctx.N (C : Ctx) (col : Bool) (b : Nat) : Prop := (C.N0 col b ∨ C.W b) ∨ b ∈ C.bx ∨ ∃ i I, C.A i = some I ∧ I.val.ownBlock = some b

/-- Every cell of the block holds what it held, or a value of the same kind, number or string. -/
def SameCells (w w' : World) (b : Nat) : Prop := ∀ off x, w.cell? ⟨b, off, none⟩ = some x → ∃ y, w'.cell? ⟨b, off, none⟩ = some y ∧ (y = x ∨ sameK x y)
theorem SameCells.of_block {w w' : World} {b : Nat} (h : w'.heap[b]? = w.heap[b]?) : SameCells w w' b := fun off x hx => ⟨x, by rw [World.cell?_of_block (w := w) h]; exact hx, .inl rfl⟩
theorem SameCells.trans {a b c : World} {k : Nat} (h : SameCells a b k) (g : SameCells b c k) : SameCells a c k := by
  intro off x hx
  obtain ⟨y, hy, e⟩ := h off x hx
  obtain ⟨z, hz, e2⟩ := g off y hy
  refine ⟨z, hz, ?_⟩
  rcases e with rfl | e
  · exact e2
  · rcases e2 with rfl | e2
    · exact .inr e
    · exact .inr (sameK_trans e e2)

/-- v is the part of the whole slice from off on, len elements. -/
def IsSub (I : AInf) (off len : Nat) (v : Value) : Prop :=
  off + len ≤ I.len ∧ ∃ a cap a', I.val = .slice a I.len cap ∧ v = .slice a' len (cap - off) ∧ (off < cap ∨ off = 0 → a' = a.map (·.add (off * I.size)))

def IsEl (I : AInf) (idx off : Nat) (v : Value) : Prop :=
  ∃ g cap, I.val = .slice (some ⟨g, 0, none⟩) I.len cap ∧ v = .pointer (some ⟨g, idx * I.size + off, none⟩)

inductive RV (C : Ctx) : AV → Value → Prop
  | v (x : Value) : RV C (.v x) x
  | agg (cs : List AV) (vs : Array Value) (hl : cs.length = vs.size) (h : ∀ (j : Nat) (c : AV) (x : Value), cs[j]? = some c → vs[j]? = some x → RV C c x) : RV C (.agg cs) (.agg vs)
  | tup (cs : List AV) (vs : Array Value) (hl : cs.length = vs.size) (h : ∀ (j : Nat) (c : AV) (x : Value), cs[j]? = some c → vs[j]? = some x → RV C c x) : RV C (.tup cs) (.tuple vs)
  | nil (a : Option Addr) : RV C .nil (.slice a 0 0)
  | sl0 (col : Bool) (a : Option Addr) (cap : Nat) : RV C (.sl col []) (.slice a 0 cap)
  | sl (col : Bool) (es : List (List AV)) (b off size cap : Nat) (f : Nat → Nat → Value) (hne : es ≠ []) (hs : ∀ e ∈ es, e.length = size) (hN : ¬ C.N col b) (hz : col = false → soft C.w b) (hb : b < C.w.heap.size)
      (hcap : es.length ≤ cap) (hc : ∀ (i j : Nat) (e : List AV) (c : AV), es[i]? = some e → e[j]? = some c → C.w.cell? ⟨b, off + i * size + j, none⟩ = some (f i j))
      (hr : ∀ (i j : Nat) (e : List AV) (c : AV), es[i]? = some e → e[j]? = some c → RV C c (f i j)) : RV C (.sl col es) (.slice (some ⟨b, off, none⟩) es.length cap)
  | el (col : Bool) (cs : List AV) (b off : Nat) (f : Nat → Value) (hN : ¬ C.N col b) (hb : b < C.w.heap.size)
      (hc : ∀ (j : Nat) (c : AV), cs[j]? = some c → C.w.cell? ⟨b, off + j, none⟩ = some (f j)) (hr : ∀ (j : Nat) (c : AV), cs[j]? = some c → RV C c (f j)) : RV C (.el col cs) (.pointer (some ⟨b, off, none⟩))
  | box (k off b : Nat) (h : C.bx[k]? = some b) : RV C (.box k off) (.pointer (some ⟨b, off, none⟩))
  | arr (i n off len : Nat) (x : Value) (h1 : x.oneCell' = true) (hn : n ≤ C.ver i) (h : ∀ I, C.A i = some I → n = C.ver i → IsSub I off len x) : RV C (.arr i n off len) x
  | ael (i n idx off : Nat) (x : Value) (h1 : x.oneCell' = true) (hn : n ≤ C.ver i) (h : ∀ I, C.A i = some I → n = C.ver i → IsEl I idx off x) : RV C (.ael i n idx off) x
  | clo (f : FuncId) (pre post : List AV) (ps qs : Array Value) (hp : pre.length = ps.size) (hq : post.length = qs.size)
      (h : ∀ (j : Nat) (c : AV) (x : Value), pre[j]? = some c → ps[j]? = some x → RV C c x) (h' : ∀ (j : Nat) (c : AV) (x : Value), post[j]? = some c → qs[j]? = some x → RV C c x) : RV C (.clo f pre post) (.func (.func f) ps qs)
  | dead (x : Value) : RV C .dead x
  | any (x y : Value) (h : sameK x y) : RV C (.any x) y
  | wsl0 (a : Option Addr) (cap : Nat) : RV C (.wsl []) (.slice a 0 cap)
  | wsl (es : List (List AV)) (b off size cap : Nat) (f : Nat → Nat → Value) (hne : es ≠ []) (hs : ∀ e ∈ es, e.length = size) (hW : C.W b) (hb : b < C.w.heap.size)
      (hcap : es.length ≤ cap) (hc : ∀ (i j : Nat) (e : List AV) (c : AV), es[i]? = some e → e[j]? = some c → C.w.cell? ⟨b, off + i * size + j, none⟩ = some (f i j))
      (hl : ∀ e ∈ es, ∀ c ∈ e, c.wl = true)
      (hr : ∀ (i j : Nat) (e : List AV) (c : AV), es[i]? = some e → e[j]? = some c → RV C c (f i j)) : RV C (.wsl es) (.slice (some ⟨b, off, none⟩) es.length cap)
  | wel (cs : List AV) (b off : Nat) (f : Nat → Value) (hW : C.W b) (hb : b < C.w.heap.size)
      (hc : ∀ (j : Nat) (c : AV), cs[j]? = some c → C.w.cell? ⟨b, off + j, none⟩ = some (f j)) (hl : ∀ c ∈ cs, c.wl = true) (hr : ∀ (j : Nat) (c : AV), cs[j]? = some c → RV C c (f j)) : RV C (.wel cs) (.pointer (some ⟨b, off, none⟩))

/-- What lies in the wild region is known no less when a value of the same kind has come there. -/
theorem RV.sameK {C : Ctx} {c : AV} {x y : Value} (hl : c.wl = true) (h : RV C c x) (k : sameK x y) : RV C c y := by
  cases h with
  | any z _ h => exact .any z _ (sameK_trans h k)
  | wsl0 a cap => cases y <;> simp [Am.sameK] at k
  | wsl es b off size cap f hne hs hW hb hcap hc hl hr => cases y <;> simp [Am.sameK] at k
  | _ => cases hl

/-- From C to D everything that is held stays held. -/
structure Keeps (C D : Ctx) : Prop where
  size : C.w.heap.size ≤ D.w.heap.size
  N : ∀ col b, b < C.w.heap.size → ¬ C.N col b → ¬ D.N col b
  block : ∀ b, b < C.w.heap.size → (∃ col, ¬ C.N col b) → D.w.heap[b]? = C.w.heap[b]?
  bx : ∀ (k b : Nat), C.bx[k]? = some b → D.bx[k]? = some b
  ver : ∀ i, C.ver i ≤ D.ver i
  A : ∀ i I, D.A i = some I → D.ver i = C.ver i → ∃ J, C.A i = some J ∧ J.val = I.val ∧ J.len = I.len ∧ J.size = I.size
  W : D.W = C.W
  wild : ∀ b, b < C.w.heap.size → C.W b → SameCells C.w D.w b

/-- The known package variables hold what they held. -/
def GlobOK (C : Ctx) : Prop := ∀ p ∈ tabs, p.1 < C.w.heap.size ∧ ¬ C.N true p.1 ∧ ∃ cs t fr, C.w.heap[p.1]? = some (.cells cs t fr) ∧ p.2 cs
theorem GlobOK.keep {C D : Ctx} (h : GlobOK C) (K : Keeps C D) : GlobOK D := fun p hp => by
  obtain ⟨a, b, c⟩ := h p hp
  exact ⟨Nat.lt_of_lt_of_le a K.size, K.N true p.1 a b, by rw [K.block p.1 a ⟨true, b⟩]; exact c⟩
theorem GlobOK.same {C D : Ctx} (h : GlobOK C) (hw : D.w = C.w) (hN : ∀ b, b < C.w.heap.size → ¬ C.N true b → ¬ D.N true b) : GlobOK D := fun p hp => by
  obtain ⟨a, b, c⟩ := h p hp
  exact ⟨hw ▸ a, hN _ a b, hw ▸ c⟩

theorem AInf.same {I J : AInf} (h1 : J.val = I.val) (h2 : J.len = I.len) (h3 : J.size = I.size) : J = I := by
  cases I; cases J; simp_all

theorem Keeps.refl (C : Ctx) : Keeps C C := ⟨Nat.le_refl _, fun _ _ _ h => h, fun _ _ _ => rfl, fun _ _ h => h, fun _ => Nat.le_refl _, fun _ I h _ => ⟨I, h, rfl, rfl, rfl⟩, rfl, fun _ _ _ => .of_block rfl⟩

theorem RV.keep {C D : Ctx} (K : Keeps C D) {a : AV} {x : Value} (h : RV C a x) : RV D a x := by
  induction h with
  | v x => exact .v x
  | agg cs vs hl _ ih => exact .agg cs vs hl ih
  | tup cs vs hl _ ih => exact .tup cs vs hl ih
  | nil a => exact .nil a
  | sl0 col a cap => exact .sl0 col a cap
  | sl col es b off size cap f hne hs hN hz hb hcap hc _ ih =>
    refine .sl col es b off size cap f hne hs (K.N col b hb hN) (fun e => (hz e).of_block (K.block b hb ⟨col, hN⟩)) (Nat.lt_of_lt_of_le hb K.size) hcap ?_ ih
    intro i j e c he hcj
    rw [World.cell?_of_block (w := C.w) (K.block b hb ⟨col, hN⟩)]
    exact hc i j e c he hcj
  | el col cs b off f hN hb hc _ ih =>
    refine .el col cs b off f (K.N col b hb hN) (Nat.lt_of_lt_of_le hb K.size) ?_ ih
    intro j c hcj
    rw [World.cell?_of_block (w := C.w) (K.block b hb ⟨col, hN⟩)]
    exact hc j c hcj
  | box k off b h => exact .box k off b (K.bx k b h)
  | arr i n off len x h1 hn h =>
    refine .arr i n off len x h1 (Nat.le_trans hn (K.ver i)) ?_
    intro I hI e
    have hv : D.ver i = C.ver i := by have := K.ver i; omega
    obtain ⟨J, hJ, h1, h2, h3⟩ := K.A i I hI hv
    have := AInf.same h1 h2 h3
    subst this
    exact h J hJ (by omega)
  | ael i n idx off x h1 hn h =>
    refine .ael i n idx off x h1 (Nat.le_trans hn (K.ver i)) ?_
    intro I hI e
    have hv : D.ver i = C.ver i := by have := K.ver i; omega
    obtain ⟨J, hJ, h1, h2, h3⟩ := K.A i I hI hv
    have := AInf.same h1 h2 h3
    subst this
    exact h J hJ (by omega)
  | clo f pre post ps qs hp hq _ _ ih ih' => exact .clo f pre post ps qs hp hq ih ih'
  | dead x => exact .dead x
  | any x y h => exact .any x y h
  | wsl0 a cap => exact .wsl0 a cap
  | wsl es b off size cap f hne hs hW hb hcap hc hl hr ih =>
    refine .wsl es b off size cap (fun i j => (D.w.cell? ⟨b, off + i * size + j, none⟩).getD (f i j)) hne hs (K.W ▸ hW) (Nat.lt_of_lt_of_le hb K.size) hcap ?_ hl ?_
    · intro i j e c he hcj
      obtain ⟨y, hy, _⟩ := K.wild b hb hW _ _ (hc i j e c he hcj)
      rw [hy]; rfl
    · intro i j e c he hcj
      obtain ⟨y, hy, e2⟩ := K.wild b hb hW _ _ (hc i j e c he hcj)
      simp only [hy, Option.getD_some]
      rcases e2 with rfl | e2
      · exact ih i j e c he hcj
      · exact (ih i j e c he hcj).sameK (hl e (List.mem_of_getElem? he) c (List.mem_of_getElem? hcj)) e2
  | wel cs b off f hW hb hc hl hr ih =>
    refine .wel cs b off (fun j => (D.w.cell? ⟨b, off + j, none⟩).getD (f j)) (K.W ▸ hW) (Nat.lt_of_lt_of_le hb K.size) ?_ hl ?_
    · intro j c hcj
      obtain ⟨y, hy, _⟩ := K.wild b hb hW _ _ (hc j c hcj)
      rw [hy]; rfl
    · intro j c hcj
      obtain ⟨y, hy, e2⟩ := K.wild b hb hW _ _ (hc j c hcj)
      simp only [hy, Option.getD_some]
      rcases e2 with rfl | e2
      · exact ih j c hcj
      · exact (ih j c hcj).sameK (hl c (List.mem_of_getElem? hcj)) e2

/-- An array of the call's own, as the abstract state has it. -/
structure ArrSt where
  ver : Nat
  live : Bool
  elem : TypeId
  es : List (List AV)

structure Mem where
  boxes : List (List AV)
  arrs : Nat → ArrSt

structure St where
  env : Nat → AV
  mem : Mem

def St.put (st : St) (dst : Option Tmp) (a : AV) : St :=
  match dst with
  | some d => { st with env := fun t => if t = d then a else st.env t }
  | none => st

/-- A cell's abstract value is no struct. -/
def AV.one : AV → Bool
  | .v x => x.oneCell'
  | .agg _ | .tup _ | .dead => false
  | _ => true

def AV.cells : AV → List AV
  | .agg cs => cs
  | a => [a]

/-- No reference to an array of the call's own. -/
inductive AV.closed : AV → Prop
  | v (x : Value) : AV.closed (.v x)
  | agg (cs : List AV) (h : ∀ c ∈ cs, AV.closed c) : AV.closed (.agg cs)
  | tup (cs : List AV) (h : ∀ c ∈ cs, AV.closed c) : AV.closed (.tup cs)
  | sl (col : Bool) (es : List (List AV)) (h : ∀ e ∈ es, ∀ c ∈ e, AV.closed c) : AV.closed (.sl col es)
  | nil : AV.closed .nil
  | el (col : Bool) (cs : List AV) (h : ∀ c ∈ cs, AV.closed c) : AV.closed (.el col cs)
  | box (k off : Nat) : AV.closed (.box k off)
  | clo (f : FuncId) (pre post : List AV) (h : ∀ c ∈ pre, AV.closed c) (h' : ∀ c ∈ post, AV.closed c) : AV.closed (.clo f pre post)
  | dead : AV.closed .dead
  | any (x : Value) : AV.closed (.any x)

end Go.Proofs.YtokhnmchnfkiiaaDoor.Am

/- The abstract machine: what an operation of the model's code does to an abstract state, and the precondition of code over abstract states. No conditions. -/
namespace Go.Proofs.YtokhnmchnfkiiaaDoor.Am
open Go Go.RowKit
set_option linter.unusedSimpArgs false
set_option linter.unusedVariables false

/-- What the walk of one function is told: the program, the places (by the slot that is written) whose new slice becomes an array of the call's own, the types that are three i64 and nothing else, the boxes that may be written; the mode (1: a law's function, that calls functions which write into what it made; 2: such a function). -/
structure Cfg where
  P : Program
  own : Nat → Bool
  verT : TypeId → Bool
  wr : Nat → Bool
  md : Nat

/-- The place of a new array that a slot gets: the slot's number, in the modes above 2 moved by the mode. -/
def Cfg.pld (G : Cfg) (d : Option Tmp) : Option Nat := if G.md ≤ 2 then d else d.map (G.md + ·)

def Cfg.isAg (G : Cfg) (t : TypeId) : Option Bool := (G.P.underlying t).map fun d => match d with | .struct _ | .array _ _ => true | _ => false
def Cfg.csz (G : Cfg) (t : TypeId) : Option Nat := (G.P.info? t).map (·.size)
def Cfg.bts (G : Cfg) (t : TypeId) : Option Nat := (G.P.info? t).map (·.bytes)
def Cfg.foff (G : Cfg) (t : TypeId) (f : Nat) : Option (Nat × TypeId) := match G.P.underlying t with | some (.struct fs) => (fs[f]?).map fun x => (x.offset, x.type) | _ => none
def Cfg.elemT (G : Cfg) (t : TypeId) : Option TypeId := match G.P.underlying t with | some (.slice e) => some e | _ => none
def Cfg.arrT (G : Cfg) (t : TypeId) : Option (Nat × TypeId) := match G.P.underlying t with | some (.array n e) => some (n, e) | _ => none
def Cfg.isStr (G : Cfg) (t : TypeId) : Bool := match G.P.underlying t with | some .string => true | _ => false
def Cfg.isBool (G : Cfg) (t : TypeId) : Bool := match G.P.underlying t with | some .bool => true | _ => false
def Cfg.boolOK (G : Cfg) (t : TypeId) : Value → Bool | .bool _ => G.isBool t | _ => true
def Cfg.intK (G : Cfg) (t : TypeId) : Option IntKind := match G.P.underlying t with | some (.int k) => some k | _ => none

/-- The abstract value of a cell of a zero value, or of a constant. -/
def ofVal : Value → AV
  | .slice none 0 0 => .nil
  | .agg cs => .agg (cs.toList.map .v)
  | x => .v x
def ofCell : Value → AV
  | .slice none 0 0 => .nil
  | x => .v x
/-- The fields of a struct: where each begins, how many cells it has. -/
def Cfg.flds (G : Cfg) (t : TypeId) : Option (List (Nat × Nat)) := match G.P.underlying t with | some (.struct fs) => fs.toList.mapM (fun f => (G.P.info? f.type).map fun i => (f.offset, i.size)) | some (.array _ e) => if (G.P.info? e).isSome = true then some [] else none | _ => none
/-- What is asked of a type: a zero value is there, of the type's size. -/
def Cfg.zerOK (G : Cfg) (t : TypeId) : Bool := match G.P.info? t with | some i => (match i.zero with | some z => z.cells.size == i.size && z.cells.all (·.oneCell') | none => false) | none => false
def Cfg.zer (G : Cfg) (t : TypeId) : Option (List AV) := (G.P.info? t).bind fun i => i.zero.map fun z => z.cells.toList.map ofCell

def St.ev (st : St) : Operand → AV
  | .tmp t => st.env t
  | .const x => ofVal x
  | .func f => .clo f [] []
  | .global _ => .dead

/-- An array is what version n of place i was. -/
def Mem.ok (m : Mem) (i n : Nat) : Bool := (m.arrs i).live && (m.arrs i).ver == n

/-- The elements of a slice. -/
def Mem.elems (m : Mem) : AV → Option (List (List AV))
  | .sl _ es => some es
  | .nil => some []
  | .arr i n off len => if m.ok i n = true then some (((m.arrs i).es.drop off).take len) else none
  | _ => none

/-- The cells from a pointed place on. -/
def Mem.cellsAt (m : Mem) : AV → Option (List AV)
  | .box k off => (m.boxes[k]?).map (·.drop off)
  | .el _ cs => some cs
  | .wel cs => some cs
  | .ael i n idx off => if m.ok i n then ((m.arrs i).es[idx]?).map (·.drop off) else none
  | _ => none

def Cfg.loadOf (G : Cfg) (t : TypeId) (cs : List AV) : Option AV :=
  match G.isAg t with
  | some true => (G.csz t).bind fun n => if n ≤ cs.length then some (.agg (cs.take n)) else none
  | some false => cs.head?
  | none => none

def splice (cs vs : List AV) (off : Nat) : List AV := cs.take off ++ vs ++ cs.drop (off + vs.length)

/-- The value that is stored is of the type's size, its cells are cells. -/
def Cfg.storeOf (G : Cfg) (t : TypeId) (a : AV) : Option (List AV) :=
  if G.csz t = some a.cells.length ∧ a.cells.all AV.one = true then some a.cells else none

def Mem.putAt (G : Cfg) (m : Mem) (p : AV) (vs : List AV) : Option Mem :=
  match p with
  | .box k off => (m.boxes[k]?).bind fun cs => if off + vs.length ≤ cs.length ∧ G.wr k = true then some { m with boxes := m.boxes.set k (splice cs vs off) } else none
  | .ael i n idx off => if m.ok i n then ((m.arrs i).es[idx]?).bind fun cs => if off + vs.length ≤ cs.length then
      some { m with arrs := fun j => if j = i then { m.arrs i with es := (m.arrs i).es.set idx (splice cs vs off) } else m.arrs j } else none else none
  | .wel (.any x :: _) => match vs with
    | [.v y] => if G.md = 2 ∧ sameKb x y = true then some m else none
    | _ => none
  | _ => none

/-- A new array at place d. -/
def Mem.made (m : Mem) (d : Nat) (e : TypeId) (es : List (List AV)) : AV × Mem :=
  (.arr d ((m.arrs d).ver + 1) 0 es.length, { m with arrs := fun j => if j = d then ⟨(m.arrs d).ver + 1, true, e, es⟩ else m.arrs j })

/-- Arrays of the call's own that are stored somewhere are from then on read alone. -/
def sealCells : List AV → Mem → List AV × Mem
  | [], m => ([], m)
  | .arr i n off len :: cs, m =>
    if m.ok i n then
      let m' : Mem := { m with arrs := fun j => if j = i then { m.arrs i with live := false } else m.arrs j }
      let r := sealCells cs m'
      (.sl false (((m.arrs i).es.drop off).take len) :: r.1, r.2)
    else let r := sealCells cs m; (.dead :: r.1, r.2)
  | c :: cs, m => let r := sealCells cs m; (c :: r.1, r.2)
def sealRows : List (List AV) → Mem → List (List AV) × Mem
  | [], m => ([], m)
  | e :: es, m => let r := sealCells e m; let q := sealRows es r.2; (r.1 :: q.1, q.2)

def bAt (s : ByteArray) (i : Nat) : Int := ((s.data.toList.getD i 0).toNat : Int)

/-- The bits that both numbers have. -/
def andF (k : IntKind) (a b : Int) : Int := k.wrap ((BitVec.ofInt k.bits a &&& BitVec.ofInt k.bits b).toNat : Int)

/-- Numbers, strings, bools. -/
def abin (op : BinOp) : Value → Value → Option Value
  | .int k a, .int k' b =>
    if k = k' then
      match op with
      | .add => some (.int k (k.wrap (a + b)))
      | .sub => some (.int k (k.wrap (a - b)))
      | .mul => some (.int k (k.wrap (a * b)))
      | .quo => if b = 0 then none else some (.int k (k.wrap (a.tdiv b)))
      | .rem => if b = 0 then none else some (.int k (a.tmod b))
      | .eql => some (.bool (decide (a = b)))
      | .neq => some (.bool (decide (a ≠ b)))
      | .lss => some (.bool (decide (a < b)))
      | .leq => some (.bool (decide (a ≤ b)))
      | .gtr => some (.bool (decide (a > b)))
      | .geq => some (.bool (decide (a ≥ b)))
      | .and => some (.int k (andF k a b))
      | _ => none
    else none
  | .string a, .string b =>
    match op with
    | .add => if a.size + b.size ≤ 140737488355328 then some (.string (a ++ b)) else none
    | .eql => some (.bool (decide (a = b)))
    | .neq => some (.bool (decide (a ≠ b)))
    | .lss => some (.bool (Op.bytesLess a.data.toList b.data.toList))
    | .gtr => some (.bool (!(Op.bytesLess a.data.toList b.data.toList || decide (a = b))))
    | _ => none
  | .bool a, .bool b =>
    match op with
    | .eql => some (.bool (a == b))
    | .neq => some (.bool (a != b))
    | _ => none
  | _, _ => none

/-- Shifts, and bits by a mask of ones: the two kinds of a shift's operands may differ. -/
def ashift (op : BinOp) : Value → Value → Option Value
  | .int k a, .int _ b =>
    match op with
    | .shl => if b < 0 then none else some (.int k (k.wrap (a * 2 ^ (min b.toNat k.bits))))
    | .shr => if b < 0 then none else some (.int k (a.fdiv (2 ^ (min b.toNat k.bits))))
    | _ => none
  | _, _ => none

def isI64T (P : Program) (t : TypeId) : Bool := match P.underlying t with | some (.int .i64) => true | _ => false
def isStrT (P : Program) (t : TypeId) : Bool := match P.underlying t with | some .string => true | _ => false
/-- A struct of three i64, told from the program. -/
def isVerT (P : Program) (t : TypeId) : Bool :=
  match P.underlying t with
  | some (.struct fs) => match fs.toList with
    | [f0, f1, f2] => !P.stoodInHeld t && !(f0.name == "_") && !(f1.name == "_") && !(f2.name == "_") && decide (f0.offset = 0) && decide (f1.offset = 1) && decide (f2.offset = 2) && isI64T P f0.type && isI64T P f1.type && isI64T P f2.type
    | _ => false
  | _ => false
/-- A struct of a text and two structs of three i64, told from the program. -/
def isTrmT (P : Program) (t : TypeId) : Bool :=
  match P.underlying t with
  | some (.struct fs) => match fs.toList with
    | [f0, f1, f2] => !P.stoodInHeld t && !P.eqGuardType P.depth t && !(f0.name == "_") && !(f1.name == "_") && !(f2.name == "_") && decide (f0.offset = 0) && decide (f1.offset = 1) && decide (f2.offset = 4) && isStrT P f0.type && isVerT P f1.type && isVerT P f2.type && decide ((P.info? f1.type).map (·.size) = some 3) && decide ((P.info? f2.type).map (·.size) = some 3)
    | _ => false
  | _ => false

def Cfg.bin (G : Cfg) (op : BinOp) (t : TypeId) (a b : AV) : Option AV :=
  match a, b with
  | .v x, .v y => if G.boolOK t x = true then (match op with | .shl | .shr => ashift op x y | _ => abin op x y).map .v else none
  | .agg [.v (.int .i64 a1), .v (.int .i64 a2), .v (.int .i64 a3)], .agg [.v (.int .i64 b1), .v (.int .i64 b2), .v (.int .i64 b3)] =>
    if G.verT t then
      match op with
      | .eql => some (.v (.bool (decide (a1 = b1 ∧ a2 = b2 ∧ a3 = b3))))
      | .neq => some (.v (.bool (decide (¬ (a1 = b1 ∧ a2 = b2 ∧ a3 = b3)))))
      | _ => none
    else none
  | .agg [.v (.string x), .v (.int .i64 a1), .v (.int .i64 a2), .v (.int .i64 a3), .v (.int .i64 a4), .v (.int .i64 a5), .v (.int .i64 a6)], .agg [.v (.string y), .v (.int .i64 b1), .v (.int .i64 b2), .v (.int .i64 b3), .v (.int .i64 b4), .v (.int .i64 b5), .v (.int .i64 b6)] =>
    if isTrmT G.P t then
      match op with
      | .eql => some (.v (.bool (decide (x = y ∧ (a1 = b1 ∧ a2 = b2 ∧ a3 = b3) ∧ a4 = b4 ∧ a5 = b5 ∧ a6 = b6))))
      | _ => none
    else none
  | _, _ => none

/-- A slice beside nil: whether an empty one is nil is not known. -/
def Cfg.binN (G : Cfg) (op : BinOp) (t : TypeId) (a : AV) : Option AV :=
  (G.elemT t).bind fun _ => match op, a with
  | .eql, .nil => some (.any (.bool true))
  | .neq, .nil => some (.any (.bool true))
  | .eql, .sl _ [] => some (.any (.bool true))
  | .neq, .sl _ [] => some (.any (.bool true))
  | .eql, .sl _ (_ :: _) => some (.v (.bool false))
  | .neq, .sl _ (_ :: _) => some (.v (.bool true))
  | _, _ => none

def aun (op : UnOp) : AV → Option AV
  | .v (.bool b) => match op with | .not => some (.v (.bool (!b))) | _ => none
  | .v (.int k n) => match op with | .neg => some (.v (.int k (k.wrap (0 - n)))) | _ => none
  | _ => none

def apick (c a b : AV) : Option AV :=
  match c with
  | .v (.bool t) =>
    match a, b with
    | .v (.bool x), .v (.bool y) => some (.v (.bool (bif t then x else y)))
    | x, y => some (bif t then x else y)
  | _ => none

def lowOf : Option AV → Option Nat
  | none => some 0
  | some (.v (.int _ n)) => if 0 ≤ n then some n.toNat else none
  | _ => none
def upOf (len : Nat) : Option AV → Option Nat
  | none => some len
  | some (.v (.int _ n)) => if 0 ≤ n ∧ n ≤ len then some n.toNat else none
  | _ => none

/-- A part of a slice: from lo on, up to hi (of a slice within its length). -/
def aslice (G : Cfg) (dst : Option Tmp) (t : TypeId) (m : Mem) (x : AV) (lo hi : Option AV) : Option (AV × Mem) :=
  match x with
  | .v (.string s) => if G.isStr t = true then (lowOf lo).bind fun l => (upOf s.size hi).bind fun h => if l ≤ h then some (.v (.string (s.extract l h)), m) else none else none
  | .sl col es => (G.elemT t).bind fun e => (G.csz e).bind fun n => (lowOf lo).bind fun l => (upOf es.length hi).bind fun h => if l ≤ h ∧ es.all (·.length == n) = true then some (.sl col ((es.drop l).take (h - l)), m) else none
  | .nil => (G.elemT t).bind fun e => (G.csz e).bind fun _ => (lowOf lo).bind fun l => (upOf 0 hi).bind fun h => if l ≤ h then some (.nil, m) else none
  | .arr i n off len =>
    if m.ok i n = true then
      (G.elemT t).bind fun e => (G.csz e).bind fun z => (lowOf lo).bind fun l => (upOf len hi).bind fun h => if l ≤ h ∧ e = (m.arrs i).elem ∧ 0 < z then
        if (dst.map G.own).getD false = true then
          if l = 0 ∧ off = 0 ∧ len = (m.arrs i).es.length then some (.arr i (n + 1) 0 h, { m with arrs := fun j => if j = i then ⟨(m.arrs i).ver + 1, true, e, (m.arrs i).es.take h⟩ else m.arrs j }) else none
        else some (.arr i n (off + l) (h - l), m)
      else none
    else none
  | _ => none

/-- s[:0:0] -/
def aslice0 (G : Cfg) (m : Mem) (t : TypeId) (x hi mx : AV) : Option AV :=
  match hi, mx with
  | .v (.int _ n), .v (.int _ k) => (G.elemT t).bind fun e => (G.csz e).bind fun _ => if n = 0 ∧ k = 0 then (m.elems x).map fun _ => .nil else none
  | _, _ => none

/-- What a struct is built of: the parts laid into the zero value's cells. -/
def fillAV (place : Nat → Option (Nat × Nat)) : List AV → List (Nat × AV) → Option (List AV)
  | cs, [] => some cs
  | cs, (i, a) :: r => match place i with
    | none => none
    | some (off, size) => if a.cells.length = size ∧ off + a.cells.length ≤ cs.length ∧ a.cells.all AV.one = true then fillAV place (splice cs a.cells off) r else none

def bytesOf : List (List AV) → Option (List UInt8)
  | [] => some []
  | [.v (.int .u8 n)] :: r => if 0 ≤ n ∧ n < 256 then (bytesOf r).map (UInt8.ofNat n.toNat :: ·) else none
  | _ => none

def Cfg.conv (G : Cfg) (m : Mem) (s d : TypeId) (a : AV) : Option AV :=
  match a with
  | .v (.int _ n) => (G.intK d).map fun k => .v (.int k (k.wrap n))
  | .v (.string x) => if G.isStr d = true ∧ G.isStr s = true then some (.v (.string x)) else none
  | x => if G.isStr d = true ∧ ((G.elemT s).bind G.intK) = some .u8 then (m.elems x).bind fun es => (bytesOf es).map fun l => .v (.string ⟨l.toArray⟩) else none

/-- append(s, x...): of the call's own arrays and of nil alone. -/
def aappend (G : Cfg) (dst : Option Tmp) (t tx : TypeId) (m : Mem) (s x : AV) : Option (AV × Mem) :=
  (G.elemT t).bind fun e => (G.csz e).bind fun n => (G.bts e).bind fun by_ => (m.elems x).bind fun xs =>
    if tx = t ∧ 0 < n ∧ 0 < by_ ∧ xs.all (·.length == n) = true ∧ xs.all (·.all AV.one) = true ∧ G.zerOK e = true then
      match s with
      | .nil => if xs.length * by_ ≤ 140737488355328 then
          if xs = [] then some (.nil, m) else dst.bind fun d => some ((sealRows xs m).2.made d e (sealRows xs m).1)
        else none
      | .arr i k off len =>
        if (sealRows xs m).2.ok i k = true ∧ off = 0 ∧ len = ((sealRows xs m).2.arrs i).es.length ∧ (len + xs.length) * by_ ≤ 140737488355328 ∧ ((sealRows xs m).2.arrs i).elem = e then
          some (.arr i (k + 1) 0 (len + xs.length), { (sealRows xs m).2 with arrs := fun j => if j = i then ⟨((sealRows xs m).2.arrs i).ver + 1, true, e, ((sealRows xs m).2.arrs i).es ++ (sealRows xs m).1⟩ else (sealRows xs m).2.arrs j })
        else none
      | _ => none
    else none

/-- append(nil, make(..)...): so many zero values. -/
def aappendZ (G : Cfg) (dst : Option Tmp) (t : TypeId) (m : Mem) (s : AV) (n : Int) : Option (AV × Mem) :=
  (G.elemT t).bind fun e => (G.csz e).bind fun z => (G.bts e).bind fun by_ => (G.zer e).bind fun zs => match s with
    | .nil => if 0 < n ∧ n * by_ ≤ 140737488355328 ∧ 0 < z ∧ n ≤ 140737488355328 ∧ G.zerOK e = true then dst.map fun d => m.made d e (List.replicate n.toNat zs) else none
    | _ => none

/-- clear(s) of the call's own array's part. -/
def aclear (G : Cfg) (m : Mem) (t : TypeId) (a : AV) : Option (AV × Mem) :=
  match a with
  | .arr i n off len => (G.elemT t).bind fun e => (G.zer e).bind fun zs => if m.ok i n = true ∧ (m.arrs i).elem = e ∧ G.zerOK e = true then
      some (.tup [], { m with arrs := fun j => if j = i then { m.arrs i with es := (m.arrs i).es.take off ++ List.replicate len zs ++ (m.arrs i).es.drop (off + len) } else m.arrs j }) else none
  | _ => none

def abuiltin (G : Cfg) (dst : Option Tmp) (m : Mem) (b : Builtin) (args : List AV) (tys : List TypeId) : Option (AV × Mem) :=
  match b, args, tys with
  | .len, [.v (.string s)], [t] => if G.isStr t = true then some (.v (.int .i64 s.size), m) else none
  | .len, [.wsl es], [t] => (G.elemT t).map fun _ => (.v (.int .i64 es.length), m)
  | .len, [a], [t] => (G.elemT t).bind fun _ => (m.elems a).map fun es => (.v (.int .i64 es.length), m)
  | .append, [s, .v (.int .i64 n)], [t, tx] => if (G.intK tx).isSome = true then aappendZ G (G.pld dst) t m s n else none
  | .append, [s, x], [t, tx] => aappend G (G.pld dst) t tx m s x
  | .clear, [a], [t] => aclear G m t a
  | .cap, [.nil], [t] => (G.elemT t).map fun _ => (.v (.int .i64 0), m)
  | _, _, _ => none

/-- What an operation that calls no Go function yields. -/
def aval (G : Cfg) (o : Oper) (st : St) : Option (AV × Mem) :=
  let m := st.mem
  let val (a : Option AV) : Option (AV × Mem) := a.map (·, m)
  match o.op with
  | .move x | .assign x => some (st.ev x, m)
  | .pick c a b => val (apick (st.ev c) (st.ev a) (st.ev b))
  | .alloc t => if G.zerOK t = true then (G.zer t).map fun cs => (.box m.boxes.length 0, { m with boxes := m.boxes ++ [cs] }) else none
  | .box _ x => if (st.ev x).cells.all AV.one = true then some (.box m.boxes.length 0, { m with boxes := m.boxes ++ [(st.ev x).cells] }) else none
  | .load t p => val ((m.cellsAt (st.ev p)).bind (G.loadOf t))
  | .store t p x => (G.storeOf t (st.ev x)).bind fun vs => (Mem.putAt G m (st.ev p) vs).map fun m' => (.dead, m')
  | .nilCheck x => match st.ev x with | .box k off => some (.box k off, m) | .el c cs => some (.el c cs, m) | .clo f p q => some (.clo f p q, m) | _ => none
  | .binOp op t x (.const (.slice none 0 0)) _ => val (G.binN op t (st.ev x))
  | .binOp op t x y _ => val (G.bin op t (st.ev x) (st.ev y))
  | .unOp op _ x => val (aun op (st.ev x))
  | .convert s d x => if (G.P.underlying s).isSome = true then val (G.conv m s d (st.ev x)) else none
  | .makeFunc (.func f) first captured => some (.clo f (first.toList.map st.ev) (captured.toList.map st.ev), m)
  | .slice t x lo hi none => aslice G o.dst t m (st.ev x) (lo.map st.ev) (hi.map st.ev)
  | .slice t x none (some hi) (some mx) => val (aslice0 G m t (st.ev x) (st.ev hi) (st.ev mx))
  | .fieldAddr t p f => (G.foff t f).bind fun q => (G.csz q.2).bind fun z => if 0 < z then match st.ev p with
    | .box k off => some (.box k (off + q.1), m)
    | .el c cs => some (.el c (cs.drop q.1), m)
    | .wel cs => some (.wel (cs.drop q.1), m)
    | .ael i n idx off => if m.ok i n = true then some (.ael i n idx (off + q.1), m) else none
    | _ => none
    else none
  | .field t x f => (G.foff t f).bind fun q => match st.ev x with
    | .agg cs => val (G.loadOf q.2 (cs.drop q.1))
    | _ => none
  | .indexAddr t x ix => match st.ev ix with
    | .v (.int _ n) => if 0 ≤ n then match st.ev x with
      | .sl c es => (G.elemT t).bind fun e => (G.csz e).bind fun z => match es[n.toNat]? with
        | some cs => if cs.length = z ∧ es.all (·.length == z) = true then some (.el c cs, m) else none
        | none => none
      | .wsl es => (G.elemT t).bind fun e => (G.csz e).bind fun z => match es[n.toNat]? with
        | some cs => if cs.length = z ∧ es.all (·.length == z) = true then some (.wel cs, m) else none
        | none => none
      | .arr i k off len => (G.elemT t).bind fun e => if m.ok i k = true ∧ n.toNat < len ∧ (m.arrs i).elem = e then some (.ael i k (off + n.toNat) 0, m) else none
      | .box k off => (G.arrT t).bind fun q => (G.csz q.2).bind fun z => if n.toNat < q.1 then some (.box k (off + n.toNat * z), m) else none
      | _ => none
      else none
    | _ => none
  | .index t x ix => match st.ev x, st.ev ix with
    | .v (.string s), .v (.int _ n) => if G.isStr t = true ∧ 0 ≤ n ∧ n < s.size then some (.v (.int .u8 (bAt s n.toNat)), m) else none
    | _, _ => none
  | .extract x k => match st.ev x with | .tup vs => val vs[k]? | _ => none
  | .build t parts => (G.flds t).bind fun places => if G.zerOK t = true then (G.zer t).bind fun z => val ((fillAV (places[·]?) z (parts.toList.map fun p => (p.1, st.ev p.2))).map .agg) else none
  | .buildSlice t len parts => (G.elemT t).bind fun e => (G.csz e).bind fun z =>
    let rows := parts.toList.map fun p => (st.ev p.2).cells
    if parts.toList.map (·.1) = List.range len ∧ rows.all (·.length == z) = true ∧ rows.all (·.all AV.one) = true ∧ 0 < z ∧ len * z ≤ 1000 ∧ G.zerOK e = true then
      if (o.dst.map G.own).getD false = true then (G.pld o.dst).map fun d => (sealRows rows m).2.made d e (sealRows rows m).1
      else if len = 0 then some (.nil, m) else some (.sl false (sealRows rows m).1, (sealRows rows m).2)
    else none
  | .makeSlice t l c => (G.elemT t).bind fun e => (G.csz e).bind fun z => (G.bts e).bind fun by_ => (G.zer e).bind fun zs => match st.ev l, st.ev c with
    | .v (.int .i64 n), .v (.int .i64 k) => if 0 ≤ n ∧ k = n ∧ n * by_ ≤ 140737488355328 ∧ 0 < z ∧ n ≤ 140737488355328 ∧ G.zerOK e = true then (G.pld o.dst).map fun d => m.made d e (List.replicate n.toNat zs) else none
    | _, _ => none
  | .call c => match c.callee with
    | .builtin b => abuiltin G o.dst m b (c.args.toList.map st.ev) c.argTypes.toList
    | _ => none
  | _ => none

end Go.Proofs.YtokhnmchnfkiiaaDoor.Am
