/- The abstract machine: rules by which a walk is told; functions from their code. No conditions. -/
import Derived.Test.YtbmfoijakgccgaaAmQ
namespace Go.Proofs.Ytbmfoijakgccgaa.Am
open Go Go.RowKit
set_option linter.unusedSimpArgs false
set_option linter.unusedVariables false

/-! ### States -/

theorem put_env_self (st : St) (d : Nat) (x : AV) : (St.put st (some d) x).env d = x := by simp [St.put]
theorem put_env_ne (st : St) {d t : Nat} (x : AV) (h : t ≠ d) : (St.put st (some d) x).env t = st.env t := by simp [St.put, h]
theorem put_env_none (st : St) (x : AV) : (St.put st none x) = st := rfl
theorem put_mem (st : St) (d : Option Tmp) (x : AV) : (St.put st d x).mem = st.mem := by cases d <;> rfl
theorem mk_env (e : Nat → AV) (m : Mem) : (St.mk e m).env = e := rfl
theorem mk_mem (e : Nat → AV) (m : Mem) : (St.mk e m).mem = m := rfl

/-- Slots that are listed; the others are forgotten. -/
def envOf : List (Nat × AV) → Nat → AV
  | [], _ => .dead
  | (d, x) :: l, t => if t = d then x else envOf l t

theorem envOf_self (d : Nat) (x : AV) (l : List (Nat × AV)) : envOf ((d, x) :: l) d = x := by simp [envOf]
theorem envOf_ne {d t : Nat} (x : AV) (l : List (Nat × AV)) (h : t ≠ d) : envOf ((d, x) :: l) t = envOf l t := by simp [envOf, h]
theorem envOf_nil (t : Nat) : envOf [] t = .dead := rfl

/-- All that is listed is so. -/
def allSo (e : Nat → AV) : List (Nat × AV) → Prop
  | [] => True
  | (d, x) :: l => e d = x ∧ allSo e l

theorem allSo_nil (e : Nat → AV) : allSo e [] = True := rfl
theorem allSo_cons (e : Nat → AV) (d : Nat) (x : AV) (l : List (Nat × AV)) : allSo e ((d, x) :: l) = (e d = x ∧ allSo e l) := rfl

theorem envOf_so {e : Nat → AV} : ∀ {l : List (Nat × AV)}, allSo e l → ∀ t, envOf l t = e t ∨ envOf l t = .dead
  | [], _, _ => .inr rfl
  | (d, x) :: l, h, t => by
    simp only [envOf]
    split
    · rename_i e2; subst e2; exact .inl h.1.symm
    · exact envOf_so h.2 t

theorem less_envOf {st : St} {l : List (Nat × AV)} {m : Mem} (h : allSo st.env l) (hb : m.boxes = st.mem.boxes) (ha : ∀ i, m.arrs i = st.mem.arrs i) : Less st ⟨envOf l, m⟩ :=
  ⟨envOf_so h, hb, ha⟩

def zipEnv : Nat → List AV → List (Nat × AV)
  | _, [] => []
  | i, a :: l => (i, a) :: zipEnv (i + 1) l

theorem zipEnv_getD : ∀ (l : List AV) (i t : Nat), envOf (zipEnv i l) (i + t) = l.getD t .dead
  | [], i, t => by simp [zipEnv, envOf]
  | a :: l, i, 0 => by simp [zipEnv, envOf]
  | a :: l, i, t + 1 => by
    simp only [zipEnv, envOf]
    rw [if_neg (by omega)]
    have := zipEnv_getD l (i + 1) t
    rw [show i + 1 + t = i + (t + 1) by omega] at this
    simpa using this

theorem startEnv_eq (l : List AV) : startEnv l = envOf (zipEnv 0 l) := by
  funext t
  have := zipEnv_getD l 0 t
  simp only [Nat.zero_add] at this
  rw [this]
  rfl

/-! ### Code -/

section
variable {G : Cfg} {nt : Nat} {K : Exit → St → Prop} {st : St}

theorem acode_st {c : Code} {st' : St} (h : st = st') : acode G nt c K st = acode G nt c K st' := by rw [h]
theorem acode_skip : acode G nt .skip K st = K .normal st := rfl
theorem acode_ret : acode G nt .ret K st = K .ret st := rfl
theorem acode_exit (id : Nat) : acode G nt (.exit id) K st = K (.exit id) st := rfl
theorem acode_seq (a b : Code) : acode G nt (.seq a b) K st = acode G nt a (kSeq (acode G nt b K) K) st := rfl
theorem acode_block (id : Nat) (c : Code) : acode G nt (.block id c) K st = acode G nt c (kBlock id K) st := rfl
theorem acode_region (id : Nat) (l : List Oper) : acode G nt (.region id l.toArray false) K st = aops G nt l.toArray l (K .normal) st := rfl
theorem acode_draw (id : Nat) (ops : Array Oper) : acode G nt (.region id ops true) K st = adraw G nt ops (K .normal) st := rfl

/-- A choice. -/
def onBool (a : AV) (x y : Prop) : Prop := match a with
  | .v (.bool b) => (b = true → x) ∧ (b = false → y)
  | _ => False
theorem onBool_c {a a' : AV} {x y : Prop} (h : a = a') : onBool a x y = onBool a' x y := by rw [h]
theorem onBool_b (b : Bool) (x y : Prop) : onBool (.v (.bool b)) x y = ((b = true → x) ∧ (b = false → y)) := rfl
theorem acode_cond (c : Operand) (x y : Code) : acode G nt (.cond c x y) K st = onBool (st.ev c) (acode G nt x K st) (acode G nt y K st) := rfl

theorem kSeq_st {f : St → Prop} {e : Exit} {st' : St} (h : st = st') : kSeq f K e st = kSeq f K e st' := by rw [h]
theorem kSeq_normal (f : St → Prop) : kSeq f K .normal st = f st := rfl
theorem kSeq_exit (f : St → Prop) (id : Nat) : kSeq f K (.exit id) st = K (.exit id) st := rfl
theorem kSeq_ret (f : St → Prop) : kSeq f K .ret st = K .ret st := rfl
theorem kBlock_st {id : Nat} {e : Exit} {st' : St} (h : st = st') : kBlock id K e st = kBlock id K e st' := by rw [h]
theorem kBlock_normal (id : Nat) : kBlock id K .normal st = K .normal st := rfl
theorem kBlock_same (id : Nat) : kBlock id K (.exit id) st = K .normal st := by simp [kBlock]
theorem kBlock_other (id id' : Nat) (h : id' ≠ id) : kBlock id K (.exit id') st = K (.exit id') st := by simp [kBlock, h]
theorem kBlock_ret (id : Nat) : kBlock id K .ret st = K .ret st := rfl

/-! ### Operations -/

variable {ops : Array Oper} {L : St → Prop} {dst : Option Tmp} {ty : TypeId} {pos : String} {aft : Array Edge}

theorem aops_st {l : List Oper} {st' : St} (h : st = st') : aops G nt ops l L st = aops G nt ops l L st' := by rw [h]
theorem aops_nil : aops G nt ops [] L st = L st := rfl
theorem aops_plain (op : Op) (rest : List Oper) : aops G nt ops (⟨dst, op, ty, pos, aft, none⟩ :: rest) L st = (dstOK nt dst = true ∧ aop G ⟨dst, op, ty, pos, aft, none⟩ (aops G nt ops rest L) st) := by
  simp [aops, runs, byGuard]

/-- The slot of the guard decides. -/
def onGuard (a : Option AV) (want : Bool) (x y : Prop) : Prop := match a with
  | some (.v (.bool b)) => (b = want → x) ∧ (b = !want → y)
  | some (.v (.tuple _)) => y
  | _ => False
theorem onGuard_u (want : Bool) (x y : Prop) : onGuard (some (.v undef)) want x y = y := rfl
theorem onGuard_c {a a' : Option AV} {want : Bool} {x y : Prop} (h : a = a') : onGuard a want x y = onGuard a' want x y := by rw [h]
theorem onGuard_t (b : Bool) (x y : Prop) : onGuard (some (.v (.bool b))) true x y = ((b = true → x) ∧ (b = false → y)) := rfl
theorem onGuard_f (b : Bool) (x y : Prop) : onGuard (some (.v (.bool b))) false x y = ((b = false → x) ∧ (b = true → y)) := rfl
theorem byGuard_some (op : Op) (j : Nat) (want : Bool) (x y : Prop) : byGuard (runs ops st ⟨dst, op, ty, pos, aft, some (j, want)⟩) x y = onGuard (((ops[j]?).bind (·.dst)).map st.env) want x y := by
  simp only [runs]
  cases (ops[j]?).bind (·.dst) with
  | none => rfl
  | some t =>
    simp only [Option.map_some]
    cases st.env t with
    | v z =>
      cases z with
      | bool b => cases b <;> cases want <;> simp [byGuard, onGuard]
      | tuple u => simp [byGuard, onGuard]
      | _ => rfl
    | _ => rfl
theorem aops_guarded (op : Op) (j : Nat) (want : Bool) (rest : List Oper) : aops G nt ops (⟨dst, op, ty, pos, aft, some (j, want)⟩ :: rest) L st =
    (dstOK nt dst = true ∧ onGuard (((ops[j]?).bind (·.dst)).map st.env) want (aop G ⟨dst, op, ty, pos, aft, some (j, want)⟩ (aops G nt ops rest L) st) (aops G nt ops rest L (st.put dst (.v undef)))) := by
  rw [← byGuard_some (dst := dst) (ty := ty) (pos := pos) (aft := aft) op]
  rfl

/-- A value is put into the slot. -/
def onVal (a : Option AV) (dst : Option Tmp) (L : St → Prop) (st : St) : Prop := match a with
  | some x => L (st.put dst x)
  | none => False
theorem onVal_c {a a' : Option AV} (h : a = a') : onVal a dst L st = onVal a' dst L st := by rw [h]
theorem onVal_some (x : AV) : onVal (some x) dst L st = L (st.put dst x) := rfl
/-- A value, and new memory. -/
def onMem (a : Option (AV × Mem)) (dst : Option Tmp) (L : St → Prop) (st : St) : Prop := match a with
  | some (x, m) => L (St.put ⟨st.env, m⟩ dst x)
  | none => False
theorem onMem_c {a a' : Option (AV × Mem)} (h : a = a') : onMem a dst L st = onMem a' dst L st := by rw [h]
theorem onVal_none : onVal none dst L st = False := rfl
theorem onMem_none : onMem none dst L st = False := rfl
theorem onMem_some (x : AV) (m : Mem) : onMem (some (x, m)) dst L st = L (St.put ⟨st.env, m⟩ dst x) := rfl

variable {gd : Option (Nat × Bool)}
theorem aop_st {o : Oper} {st' : St} (h : st = st') : aop G o L st = aop G o L st' := by rw [h]
theorem aop_val {o : Oper} {a : Option AV} (hc : ∀ x args tys, o.op ≠ .call ⟨.value x, args, tys⟩) (h : aval G o st = a.map (·, st.mem)) : aop G o L st = onVal a o.dst L st := by
  have e : aop G o L st = match aval G o st with | some (x, m') => L ({ st with mem := m' }.put o.dst x) | none => False := by
    unfold aop
    split
    · rename_i x args tys hop
      exact (hc _ _ _ hop).elim
    · rfl
  rw [e, h]
  cases a <;> rfl
theorem aop_mem {o : Oper} (hc : ∀ x args tys, o.op ≠ .call ⟨.value x, args, tys⟩) : aop G o L st = onMem (aval G o st) o.dst L st := by
  unfold aop
  split
  · rename_i x args tys hop
    exact (hc _ _ _ hop).elim
  · rfl

theorem aop_move (x : Operand) : aop G ⟨dst, .move x, ty, pos, aft, gd⟩ L st = L (st.put dst (st.ev x)) := rfl
theorem aop_assign (x : Operand) : aop G ⟨dst, .assign x, ty, pos, aft, gd⟩ L st = L (st.put dst (st.ev x)) := rfl
theorem aop_pick (c a b : Operand) : aop G ⟨dst, .pick c a b, ty, pos, aft, gd⟩ L st = onVal (apick (st.ev c) (st.ev a) (st.ev b)) dst L st := aop_val (fun _ _ _ h => by cases h) rfl
theorem aop_load (t : TypeId) (p : Operand) : aop G ⟨dst, .load t p, ty, pos, aft, gd⟩ L st = onVal ((st.mem.cellsAt (st.ev p)).bind (G.loadOf t)) dst L st := aop_val (fun _ _ _ h => by cases h) rfl
theorem aop_binOp (op : BinOp) (t tr : TypeId) (x y : Operand) : aop G ⟨dst, .binOp op t x y tr, ty, pos, aft, gd⟩ L st = onVal (G.bin op t (st.ev x) (st.ev y)) dst L st := aop_val (fun _ _ _ h => by cases h) rfl
theorem aop_unOp (op : UnOp) (t : TypeId) (x : Operand) : aop G ⟨dst, .unOp op t x, ty, pos, aft, gd⟩ L st = onVal (aun op (st.ev x)) dst L st := aop_val (fun _ _ _ h => by cases h) rfl
theorem aop_makeFunc (f : FuncId) (first captured : Array Operand) : aop G ⟨dst, .makeFunc (.func f) first captured, ty, pos, aft, gd⟩ L st = L (st.put dst (.clo f (first.toList.map st.ev) (captured.toList.map st.ev))) := rfl

/-- What a conversion asks. -/
def aconv (G : Cfg) (m : Mem) (s d : TypeId) (a : AV) : Option AV := if (G.P.underlying s).isSome = true then G.conv m s d a else none
theorem aop_convert (s d : TypeId) (x : Operand) : aop G ⟨dst, .convert s d x, ty, pos, aft, gd⟩ L st = onVal (aconv G st.mem s d (st.ev x)) dst L st :=
  aop_val (fun _ _ _ h => by cases h) (by simp only [aval, aconv]; split <;> rfl)

def anil (a : AV) : Option AV := match a with | .box k off => some (.box k off) | .el c cs => some (.el c cs) | .clo f p q => some (.clo f p q) | _ => none
theorem aop_nilCheck (x : Operand) : aop G ⟨dst, .nilCheck x, ty, pos, aft, gd⟩ L st = onVal (anil (st.ev x)) dst L st :=
  aop_val (fun _ _ _ h => by cases h) (by simp only [aval, anil]; split <;> first | rfl | (split <;> simp_all))

def afieldA (G : Cfg) (m : Mem) (t : TypeId) (f : Nat) (a : AV) : Option AV :=
  (G.foff t f).bind fun q => (G.csz q.2).bind fun z => if 0 < z then match a with
    | .box k off => some (.box k (off + q.1))
    | .el c cs => some (.el c (cs.drop q.1))
    | .ael i n idx off => if m.ok i n = true then some (.ael i n idx (off + q.1)) else none
    | _ => none
    else none
theorem aop_fieldAddr (t : TypeId) (p : Operand) (f : Nat) : aop G ⟨dst, .fieldAddr t p f, ty, pos, aft, gd⟩ L st = onVal (afieldA G st.mem t f (st.ev p)) dst L st := by
  refine aop_val (fun _ _ _ h => by cases h) ?_
  simp only [aval, afieldA]
  cases G.foff t f with
  | none => rfl
  | some q =>
    simp only [Option.bind_some]
    cases G.csz q.2 with
    | none => rfl
    | some z =>
      simp only [Option.bind_some]
      split
      · cases st.ev p <;> simp
      · rfl

def afield (G : Cfg) (t : TypeId) (f : Nat) (a : AV) : Option AV :=
  (G.foff t f).bind fun q => match a with
    | .agg cs => G.loadOf q.2 (cs.drop q.1)
    | _ => none
theorem aop_field (t : TypeId) (x : Operand) (f : Nat) : aop G ⟨dst, .field t x f, ty, pos, aft, gd⟩ L st = onVal (afield G t f (st.ev x)) dst L st := by
  refine aop_val (fun _ _ _ h => by cases h) ?_
  simp only [aval, afield]
  cases G.foff t f with
  | none => rfl
  | some q =>
    simp only [Option.bind_some]
    cases st.ev x <;> rfl

def aindexA (G : Cfg) (m : Mem) (t : TypeId) (x ix : AV) : Option AV := match ix with
  | .v (.int _ n) => if 0 ≤ n then match x with
      | .sl c es => (G.elemT t).bind fun e => (G.csz e).bind fun z => match es[n.toNat]? with
        | some cs => if cs.length = z ∧ es.all (·.length == z) = true then some (.el c cs) else none
        | none => none
      | .arr i k off len => (G.elemT t).bind fun e => if m.ok i k = true ∧ n.toNat < len ∧ (m.arrs i).elem = e then some (.ael i k (off + n.toNat) 0) else none
      | .box k off => (G.arrT t).bind fun q => (G.csz q.2).bind fun z => if n.toNat < q.1 then some (.box k (off + n.toNat * z)) else none
      | _ => none
      else none
  | _ => none
theorem aop_indexAddr (t : TypeId) (x ix : Operand) : aop G ⟨dst, .indexAddr t x ix, ty, pos, aft, gd⟩ L st = onVal (aindexA G st.mem t (st.ev x) (st.ev ix)) dst L st := by
  refine aop_val (fun _ _ _ h => by cases h) ?_
  simp only [aval, aindexA]
  cases st.ev ix with
  | v z =>
    cases z with
    | int k n =>
      simp only
      split
      · cases st.ev x with
        | sl c es =>
          simp only
          cases G.elemT t with
          | none => rfl
          | some e =>
            simp only [Option.bind_some]
            cases G.csz e with
            | none => rfl
            | some z =>
              simp only [Option.bind_some]
              cases es[n.toNat]? with
              | none => rfl
              | some cs => simp only; split <;> rfl
        | arr i k off len =>
          simp only
          cases G.elemT t with
          | none => rfl
          | some e => simp only [Option.bind_some]; split <;> rfl
        | box k off =>
          simp only
          cases G.arrT t with
          | none => rfl
          | some q =>
            simp only [Option.bind_some]
            cases G.csz q.2 with
            | none => rfl
            | some z => simp only [Option.bind_some]; split <;> rfl
        | _ => rfl
      · rfl
    | _ => rfl
  | _ => rfl

def aindex (G : Cfg) (t : TypeId) (x ix : AV) : Option AV := match x, ix with
    | .v (.string s), .v (.int _ n) => if G.isStr t = true ∧ 0 ≤ n ∧ n < s.size then some (.v (.int .u8 (bAt s n.toNat))) else none
    | _, _ => none
theorem aop_index (t : TypeId) (x ix : Operand) : aop G ⟨dst, .index t x ix, ty, pos, aft, gd⟩ L st = onVal (aindex G t (st.ev x) (st.ev ix)) dst L st := by
  refine aop_val (fun _ _ _ h => by cases h) ?_
  simp only [aval, aindex]
  cases st.ev x with
  | v z =>
    cases z with
    | string s =>
      cases st.ev ix with
      | v y =>
        cases y with
        | int k n => simp only; split <;> rfl
        | _ => rfl
      | _ => rfl
    | _ => rfl
  | _ => rfl

def aextract (k : Nat) (x : AV) : Option AV := match x with | .tup vs => vs[k]? | _ => none
theorem aop_extract (x : Operand) (k : Nat) : aop G ⟨dst, .extract x k, ty, pos, aft, gd⟩ L st = onVal (aextract k (st.ev x)) dst L st := by
  refine aop_val (fun _ _ _ h => by cases h) ?_
  simp only [aval, aextract]
  cases st.ev x <;> rfl

def abuild (G : Cfg) (t : TypeId) (parts : List (Nat × AV)) : Option AV :=
  (G.flds t).bind fun places => if G.zerOK t = true then (G.zer t).bind fun z => (fillAV (places[·]?) z parts).map .agg else none
theorem aop_build (t : TypeId) (parts : Array (Nat × Operand)) : aop G ⟨dst, .build t parts, ty, pos, aft, gd⟩ L st = onVal (abuild G t (parts.toList.map fun p => (p.1, st.ev p.2))) dst L st := by
  refine aop_val (fun _ _ _ h => by cases h) ?_
  simp only [aval, abuild]
  cases G.flds t with
  | none => rfl
  | some places =>
    simp only [Option.bind_some]
    split
    · cases G.zer t with
      | none => rfl
      | some z => rfl
    · rfl

theorem aop_alloc (t : TypeId) : aop G ⟨dst, .alloc t, ty, pos, aft, gd⟩ L st = onMem (if G.zerOK t = true then (G.zer t).map fun cs => (.box st.mem.boxes.length 0, { st.mem with boxes := st.mem.boxes ++ [cs] }) else none) dst L st := aop_mem (fun _ _ _ h => by cases h)
theorem aop_box (t : TypeId) (x : Operand) : aop G ⟨dst, .box t x, ty, pos, aft, gd⟩ L st = onMem (if (st.ev x).cells.all AV.one = true then some (.box st.mem.boxes.length 0, { st.mem with boxes := st.mem.boxes ++ [(st.ev x).cells] }) else none) dst L st := aop_mem (fun _ _ _ h => by cases h)
theorem aop_store (t : TypeId) (p x : Operand) : aop G ⟨dst, .store t p x, ty, pos, aft, gd⟩ L st = onMem ((G.storeOf t (st.ev x)).bind fun vs => (Mem.putAt G st.mem (st.ev p) vs).map fun m' => (.dead, m')) dst L st := aop_mem (fun _ _ _ h => by cases h)
theorem aop_slice (t : TypeId) (x : Operand) (lo hi : Option Operand) : aop G ⟨dst, .slice t x lo hi none, ty, pos, aft, gd⟩ L st = onMem (aslice G dst t st.mem (st.ev x) (lo.map st.ev) (hi.map st.ev)) dst L st := aop_mem (fun _ _ _ h => by cases h)
theorem aop_builtin (b : Builtin) (args : Array Operand) (tys : Array TypeId) : aop G ⟨dst, .call ⟨.builtin b, args, tys⟩, ty, pos, aft, gd⟩ L st = onMem (abuiltin G dst st.mem b (args.toList.map st.ev) tys.toList) dst L st := aop_mem (fun _ _ _ h => by cases h)

def abuildSlice (G : Cfg) (dst : Option Tmp) (m : Mem) (t : TypeId) (len : Nat) (ix : List Nat) (rows : List (List AV)) : Option (AV × Mem) :=
  (G.elemT t).bind fun e => (G.csz e).bind fun z =>
    if ix = List.range len ∧ rows.all (·.length == z) = true ∧ rows.all (·.all AV.one) = true ∧ 0 < z ∧ len * z ≤ 1000 ∧ G.zerOK e = true then
      if (dst.map G.own).getD false = true then dst.map fun d => (sealRows rows m).2.made d e (sealRows rows m).1
      else if len = 0 then some (.nil, m) else some (.sl false (sealRows rows m).1, (sealRows rows m).2)
    else none
theorem aop_buildSlice (t : TypeId) (len : Nat) (parts : Array (Nat × Operand)) : aop G ⟨dst, .buildSlice t len parts, ty, pos, aft, gd⟩ L st =
    onMem (abuildSlice G dst st.mem t len (parts.toList.map (·.1)) (parts.toList.map fun p => (st.ev p.2).cells)) dst L st := aop_mem (fun _ _ _ h => by cases h)
def amakeSlice (G : Cfg) (dst : Option Tmp) (m : Mem) (t : TypeId) (l c : AV) : Option (AV × Mem) :=
  (G.elemT t).bind fun e => (G.csz e).bind fun z => (G.bts e).bind fun by_ => (G.zer e).bind fun zs => match l, c with
    | .v (.int .i64 n), .v (.int .i64 k) => if 0 ≤ n ∧ k = n ∧ n * by_ ≤ 140737488355328 ∧ 0 < z ∧ n ≤ 140737488355328 ∧ G.zerOK e = true then dst.map fun d => m.made d e (List.replicate n.toNat zs) else none
    | _, _ => none
theorem aop_makeSlice (t : TypeId) (l c : Operand) : aop G ⟨dst, .makeSlice t l c, ty, pos, aft, gd⟩ L st = onMem (amakeSlice G dst st.mem t (st.ev l) (st.ev c)) dst L st := aop_mem (fun _ _ _ h => by cases h)

/-! ### Calls -/

/-- A call of a function with such arguments; 'les' are the arguments as they are lent. -/
structure onCall (G : Cfg) (f : FuncId) (as les : List AV) (dst : Option Tmp) (L : St → Prop) (st : St) : Prop where
  out : les = as.map (lend st.mem) → ∃ r m', CallStep G st.mem dst f as r m' ∧ L (St.put ⟨st.env, m'⟩ dst r)
theorem onCall_lent {G : Cfg} {f : FuncId} {as : List AV} {dst : Option Tmp} {L : St → Prop} {st : St} : onCall G f as (as.map (lend st.mem)) dst L st = ∃ r m', CallStep G st.mem dst f as r m' ∧ L (St.put ⟨st.env, m'⟩ dst r) :=
  propext ⟨fun h => h.out rfl, fun h => ⟨fun _ => h⟩⟩
theorem onCall_c {f : FuncId} {as as' les les' : List AV} (h : as = as') (h' : les = les') : onCall G f as les dst L st = onCall G f as' les' dst L st := by rw [h, h']
theorem aop_call (f : FuncId) (args : Array Operand) (tys : Array TypeId) : aop G ⟨dst, .call ⟨.value (.func f), args, tys⟩, ty, pos, aft, gd⟩ L st = onCall G f (args.toList.map st.ev) ((args.toList.map st.ev).map (lend st.mem)) dst L st := by
  rw [onCall_lent]
  simp only [aop, St.ev, List.nil_append, List.append_nil]
/-- A call by a slot: a closure. -/
def onClo (G : Cfg) (c : AV) (as : List AV) (dst : Option Tmp) (L : St → Prop) (st : St) : Prop := match c with
  | .clo f pre post => onCall G f (pre ++ as ++ post) ((pre ++ as ++ post).map (lend st.mem)) dst L st
  | _ => False
theorem onClo_c {c c' : AV} {as as' : List AV} (h : c = c') (h' : as = as') : onClo G c as dst L st = onClo G c' as' dst L st := by rw [h, h']
theorem onClo_clo (f : FuncId) (pre post as : List AV) : onClo G (.clo f pre post) as dst L st = onCall G f (pre ++ as ++ post) ((pre ++ as ++ post).map (lend st.mem)) dst L st := rfl
theorem aop_clo (t : Tmp) (args : Array Operand) (tys : Array TypeId) : aop G ⟨dst, .call ⟨.value (.tmp t), args, tys⟩, ty, pos, aft, gd⟩ L st = onClo G (st.env t) (args.toList.map st.ev) dst L st := by
  simp only [aop, St.ev, onClo]
  cases st.env t <;> simp only [onCall_lent]

theorem call_pure {f : FuncId} {as les : List AV} {r : AV} (hp : Pure G.P f les r) (hf : ∀ a ∈ les, a.Free (fun _ => True)) (h : L (st.put dst r)) : onCall G f as les dst L st := by
  refine ⟨?_⟩
  rintro rfl
  refine ⟨r, st.mem, .pure r hp ?_, h⟩
  intro a ha
  exact hf _ (List.mem_map.2 ⟨a, ha, rfl⟩)
theorem call_p {P : Program} {own : Nat → Bool} {verT : TypeId → Bool} {wr : Nat → Bool} {f : FuncId} {as les : List AV} {r : AV} (hp : Pure P f les r) (hf : ∀ a ∈ les, a.Free (fun _ => True)) (h : L (st.put dst r)) : onCall ⟨P, own, verT, wr⟩ f as les dst L st :=
  call_pure (G := ⟨P, own, verT, wr⟩) hp hf h
theorem call_boxes {f : FuncId} {as les : List AV} {r : AV} {bs : List (List AV)} (hb : lentBoxes st.mem = bs) (hp : BCall G.P f les bs r) (h : L (st.put dst r)) : onCall G f as les dst L st := by
  refine ⟨?_⟩
  rintro rfl
  subst hb
  exact ⟨r, st.mem, .boxes r hp, h⟩

/-! ### Regions that draw -/

theorem adraw_of (pre suf : List Nat) (h : drawOK ops pre suf = true) (h2 : apre G nt ops pre (asuf G nt ops suf L) st) : adraw G nt ops L st := .inl ⟨pre, suf, h, h2⟩
/-- The numbers of the operations, in their order. -/
def idx : List Oper → Nat → List Nat
  | [], _ => []
  | _ :: l, k => k :: idx l (k + 1)
theorem idx_nil (k : Nat) : idx [] k = [] := rfl
theorem idx_cons (o : Oper) (l : List Oper) (k : Nat) : idx (o :: l) k = k :: idx l (k + 1) := rfl
theorem adraw_all {l : List Oper} (h : drawOK l.toArray (idx l 0) [] = true) (h2 : apre G nt l.toArray (idx l 0) L st) : adraw G nt l.toArray L st := .inl ⟨_, [], h, by
  have e : asuf G nt l.toArray [] L = L := by funext s; rfl
  rw [e]; exact h2⟩
theorem adraw_cut (k : Nat) {l : List Oper} (h : drawOK l.toArray ((idx l 0).take k) ((idx l 0).drop k) = true) (h2 : apre G nt l.toArray ((idx l 0).take k) (asuf G nt l.toArray ((idx l 0).drop k) L) st) : adraw G nt l.toArray L st := .inl ⟨_, _, h, h2⟩
theorem apre_st {l : List Nat} {st' : St} (h : st = st') : apre G nt ops l L st = apre G nt ops l L st' := by rw [h]
theorem asuf_st {l : List Nat} {st' : St} (h : st = st') : asuf G nt ops l L st = asuf G nt ops l L st' := by rw [h]
theorem apre_nil : apre G nt ops [] L st = L st := rfl
theorem asuf_nil : asuf G nt ops [] L st = L st := rfl
/-- One operation of a region. -/
def onOper (G : Cfg) (nt : Nat) (ops : Array Oper) (o : Option Oper) (L L' : St → Prop) (st : St) : Prop := match o with
  | some o => dstOK nt o.dst = true ∧ byGuard (runs ops st o) (aop G o L st) (L' (st.put o.dst (.v undef)))
  | none => False
theorem onOper_c {o o' : Option Oper} {L' : St → Prop} (h : o = o') : onOper G nt ops o L L' st = onOper G nt ops o' L L' st := by rw [h]
theorem onOper_plain (op : Op) (L' : St → Prop) : onOper G nt ops (some ⟨dst, op, ty, pos, aft, none⟩) L L' st = (dstOK nt dst = true ∧ aop G ⟨dst, op, ty, pos, aft, none⟩ L st) := by simp [onOper, runs, byGuard]
theorem onOper_guarded (op : Op) (j : Nat) (want : Bool) (L' : St → Prop) : onOper G nt ops (some ⟨dst, op, ty, pos, aft, some (j, want)⟩) L L' st =
    (dstOK nt dst = true ∧ onGuard (((ops[j]?).bind (·.dst)).map st.env) want (aop G ⟨dst, op, ty, pos, aft, some (j, want)⟩ L st) (L' (st.put dst (.v undef)))) := by
  rw [← byGuard_some (dst := dst) (ty := ty) (pos := pos) (aft := aft) op]
  rfl
theorem apre_cons (i : Nat) (l : List Nat) : apre G nt ops (i :: l) L st = onOper G nt ops ops[i]? (kKeep st.mem (apre G nt ops l L)) (apre G nt ops l L) st := by
  simp only [apre, onOper]
  cases ops[i]? <;> rfl
theorem asuf_cons (i : Nat) (l : List Nat) : asuf G nt ops (i :: l) L st = onOper G nt ops ops[i]? (asuf G nt ops l L) (asuf G nt ops l L) st := by
  simp only [asuf, onOper]
  cases ops[i]? <;> rfl
theorem kKeep_st {m : Mem} {st' : St} (h : st = st') : kKeep m L st = kKeep m L st' := by rw [h]
theorem kKeep_eq (m : Mem) : kKeep m L st = (st.mem = m ∧ L st) := rfl

end

/-! ### Functions -/

/-- What a function returns. -/
def kRes (G : Cfg) (rs : List ResultVar) (r : AV) : Exit → St → Prop
  | .normal, st => resOf G rs st = some r
  | .ret, st => resOf G rs st = some r
  | _, _ => False
theorem kRes_st {G : Cfg} {rs : List ResultVar} {r : AV} {e : Exit} {st st' : St} (h : st = st') : kRes G rs r e st = kRes G rs r e st' := by rw [h]
theorem kRes_normal {G : Cfg} {rs : List ResultVar} {r : AV} {st : St} : kRes G rs r .normal st = (resOf G rs st = some r) := rfl
theorem kRes_ret {G : Cfg} {rs : List ResultVar} {r : AV} {st : St} : kRes G rs r .ret st = (resOf G rs st = some r) := rfl

theorem pure_of_code {G : Cfg} (V : G.Vers) (hm : G.P.follows .mixedOrders = true) {f : FuncId} {fn : Func} {c : Code} (hf : G.P.funcs[f]? = some fn) (hb : fn.body = some c) (hn : fn.name ≠ "runtime.NumGoroutine") {args : List AV} (ha : args.length ≤ fn.ntmps)
    {r : AV} (hr : r.Free (· = false)) (h : ∀ ver, acode G fn.ntmps c (kRes G fn.results.toList r) ⟨envOf (zipEnv 0 args), ⟨[], noArrs ver⟩⟩) : Pure G.P f args r := by
  refine ⟨?_, hr, acall_of_code V (draw_sound V hm) hf hb ha (fun _ _ => Nat.zero_le _) fun ver => ?_⟩
  · simp [enters, hf, hb, hn]
  · rw [startEnv_eq]
    have e : (fun (e : Exit) (st : St) => (e = .normal ∨ e = .ret) ∧ resOf G fn.results.toList st = some r) = kRes G fn.results.toList r := by
      funext e st
      cases e <;> simp [kRes]
    rw [e]
    exact h ver

theorem boxes_of_code {G : Cfg} (V : G.Vers) (hm : G.P.follows .mixedOrders = true) {f : FuncId} {fn : Func} {c : Code} (hf : G.P.funcs[f]? = some fn) (hb : fn.body = some c) (hn : fn.name ≠ "runtime.NumGoroutine") {args : List AV} {bs : List (List AV)} (ha : args.length ≤ fn.ntmps)
    (hwr : ∀ k, G.wr k = true → bs.length ≤ k) {r : AV} (hr : r.Free (· = false)) (h : ∀ ver, acode G fn.ntmps c (kRes G fn.results.toList r) ⟨envOf (zipEnv 0 args), ⟨bs, noArrs ver⟩⟩) : BCall G.P f args bs r := by
  refine ⟨?_, hr, acall_of_code V (draw_sound V hm) hf hb ha hwr fun ver => ?_⟩
  · simp [enters, hf, hb, hn]
  · rw [startEnv_eq]
    have e : (fun (e : Exit) (st : St) => (e = .normal ∨ e = .ret) ∧ resOf G fn.results.toList st = some r) = kRes G fn.results.toList r := by
      funext e st
      cases e <;> simp [kRes]
    rw [e]
    exact h ver

attribute [congr] acode_st onBool_c kSeq_st kBlock_st aops_st onGuard_c onVal_c onMem_c aop_st onCall_c onClo_c apre_st asuf_st onOper_c kKeep_st kRes_st
attribute [simp] put_env_self put_env_ne put_env_none put_mem mk_env mk_mem envOf_self envOf_ne envOf_nil allSo_nil allSo_cons zipEnv acode_skip acode_ret acode_exit acode_seq acode_block acode_region acode_draw idx_nil idx_cons onBool_b acode_cond kSeq_normal kSeq_exit kSeq_ret kBlock_normal kBlock_same kBlock_other kBlock_ret aops_nil aops_plain aops_guarded onGuard_t onGuard_f onGuard_u onVal_some onVal_none onMem_some onMem_none aop_move aop_assign aop_pick aop_load aop_binOp aop_unOp aop_makeFunc aop_convert aop_nilCheck aop_fieldAddr aop_field aop_indexAddr aop_index aop_extract aop_build aop_alloc aop_box aop_store aop_slice aop_builtin aop_buildSlice aop_makeSlice aop_call onClo_clo aop_clo apre_nil asuf_nil onOper_plain onOper_guarded apre_cons asuf_cons kKeep_eq kRes_normal kRes_ret resOf resVar fin fin1

end Go.Proofs.Ytbmfoijakgccgaa.Am
