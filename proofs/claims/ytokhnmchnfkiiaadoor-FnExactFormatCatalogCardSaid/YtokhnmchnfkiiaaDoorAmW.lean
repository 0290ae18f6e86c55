/- Data of the program as abstract values: versions, terms, packages, lists of such; and lists that are filled one by one. No conditions. -/
import Derived.Test.YtokhnmchnfkiiaaDoorAmS
import Derived.DataReads
import Derived.ChangeOld
import Derived.OpenShut
import Derived.ShutString
import Derived.SizedLaws
import Derived.ProofKit
import Derived.Carry
import Derived.Laws.StructEq
namespace Go.Proofs.YtokhnmchnfkiiaaDoor.Am
open Go Go.RowKit
set_option linter.unusedSimpArgs false
set_option linter.unusedVariables false

theorem at_call {G : Cfg} {ic : Bool} {f : FuncId} {as les : List AV} {dst : Option Tmp} {L : St → Prop} {st : St} (h : onCall G ic f as les dst L st) : onCall G ic f as les dst L st := h

structure Ver where
  a : Int
  b : Int
  c : Int
structure Trm where
  n : ByteArray
  lo : Ver
  hi : Ver
structure Pk where
  n : ByteArray
  v : Ver
  s : Int
  pr : List ByteArray
  ne : List (List Trm)
  ba : List Trm

@[simp, reducible] def Ver.av (v : Ver) : AV := .agg [.v (.int .i64 v.a), .v (.int .i64 v.b), .v (.int .i64 v.c)]
@[simp, reducible] def Trm.cells (t : Trm) : List AV := [.v (.string t.n), .v (.int .i64 t.lo.a), .v (.int .i64 t.lo.b), .v (.int .i64 t.lo.c), .v (.int .i64 t.hi.a), .v (.int .i64 t.hi.b), .v (.int .i64 t.hi.c)]
@[simp, reducible] def Trm.av (t : Trm) : AV := .agg [.v (.string t.n), .v (.int .i64 t.lo.a), .v (.int .i64 t.lo.b), .v (.int .i64 t.lo.c), .v (.int .i64 t.hi.a), .v (.int .i64 t.hi.b), .v (.int .i64 t.hi.c)]
@[simp, reducible] def strCells (s : ByteArray) : List AV := [.v (.string s)]
@[simp, reducible] def intCells (n : Int) : List AV := [.v (.int .i64 n)]
@[simp, reducible] def byteCells (n : Int) : List AV := [.v (.int .u8 n)]
/-- Slices: k tells whether they may be handed back. -/
@[simp, reducible] def strsAV (k : Bool) (l : List ByteArray) : AV := .sl k (l.map strCells)
@[simp, reducible] def intsAV (k : Bool) (l : List Int) : AV := .sl k (l.map intCells)
@[simp, reducible] def trmsAV (k : Bool) (l : List Trm) : AV := .sl k (l.map Trm.cells)
@[simp, reducible] def clauseCells (k : Bool) (l : List Trm) : List AV := [.sl k (l.map Trm.cells)]
@[simp, reducible] def clausesAV (k : Bool) (l : List (List Trm)) : AV := .sl k (l.map (clauseCells k))
@[simp, reducible] def Pk.cells (k : Bool) (p : Pk) : List AV := [.v (.string p.n), .v (.int .i64 p.v.a), .v (.int .i64 p.v.b), .v (.int .i64 p.v.c), .v (.int .i64 p.s), .sl k (p.pr.map strCells), .sl k (p.ne.map (clauseCells k)), .sl k (p.ba.map Trm.cells)]
@[simp, reducible] def Pk.av (k : Bool) (p : Pk) : AV := .agg [.v (.string p.n), .v (.int .i64 p.v.a), .v (.int .i64 p.v.b), .v (.int .i64 p.v.c), .v (.int .i64 p.s), .sl k (p.pr.map strCells), .sl k (p.ne.map (clauseCells k)), .sl k (p.ba.map Trm.cells)]
@[simp, reducible] def pksAV (k k' : Bool) (l : List Pk) : AV := .sl k (l.map (Pk.cells k'))

theorem all_map_eq {α : Type} {f : α → List AV} {q : List AV → Bool} (l : List α) (h : ∀ a, q (f a) = true) : (l.map f).all q = true := by
  simp [List.all_map, List.all_eq_true, h]

@[simp] theorem len_trm (l : List Trm) : (l.map Trm.cells).all (fun e => e.length == 7) = true := all_map_eq l fun _ => rfl
@[simp] theorem len_str (l : List ByteArray) : (l.map strCells).all (fun e => e.length == 1) = true := all_map_eq l fun _ => rfl
@[simp] theorem len_int (l : List Int) : (l.map intCells).all (fun e => e.length == 1) = true := all_map_eq l fun _ => rfl
@[simp] theorem len_byte (l : List Int) : (l.map byteCells).all (fun e => e.length == 1) = true := all_map_eq l fun _ => rfl
@[simp] theorem len_clause (k : Bool) (l : List (List Trm)) : (l.map (clauseCells k)).all (fun e => e.length == 1) = true := all_map_eq l fun _ => rfl
@[simp] theorem len_pk (k : Bool) (l : List Pk) : (l.map (Pk.cells k)).all (fun e => e.length == 8) = true := all_map_eq l fun _ => rfl
@[simp] theorem one_trm (l : List Trm) : (l.map Trm.cells).all (fun e => e.all AV.one) = true := all_map_eq l fun _ => rfl
@[simp] theorem one_str (l : List ByteArray) : (l.map strCells).all (fun e => e.all AV.one) = true := all_map_eq l fun _ => rfl
@[simp] theorem one_ints (l : List Int) : (l.map intCells).all (fun e => e.all AV.one) = true := all_map_eq l fun _ => rfl
@[simp] theorem one_bytes (l : List Int) : (l.map byteCells).all (fun e => e.all AV.one) = true := all_map_eq l fun _ => rfl
@[simp] theorem one_clause (k : Bool) (l : List (List Trm)) : (l.map (clauseCells k)).all (fun e => e.all AV.one) = true := all_map_eq l fun _ => rfl
@[simp] theorem one_pk (k : Bool) (l : List Pk) : (l.map (Pk.cells k)).all (fun e => e.all AV.one) = true := all_map_eq l fun _ => rfl

theorem rows_free {α : Type} {f : α → List AV} {p : Bool → Prop} (l : List α) (h : ∀ a, ∀ c ∈ f a, c.Free p) : ∀ e ∈ l.map f, ∀ c ∈ e, c.Free p := by
  intro e he c hc
  obtain ⟨a, _, rfl⟩ := List.mem_map.1 he
  exact h a c hc
theorem fr_trm {p : Bool → Prop} (l : List Trm) : ∀ e ∈ l.map Trm.cells, ∀ c ∈ e, c.Free p := rows_free l fun a c hc => by simp at hc; rcases hc with rfl | rfl | rfl | rfl | rfl | rfl | rfl <;> exact .v _
theorem fr_str {p : Bool → Prop} (l : List ByteArray) : ∀ e ∈ l.map strCells, ∀ c ∈ e, c.Free p := rows_free l fun a c hc => by simp at hc; subst hc; exact .v _
theorem fr_int {p : Bool → Prop} (l : List Int) : ∀ e ∈ l.map intCells, ∀ c ∈ e, c.Free p := rows_free l fun a c hc => by simp at hc; subst hc; exact .v _
theorem fr_byte {p : Bool → Prop} (l : List Int) : ∀ e ∈ l.map byteCells, ∀ c ∈ e, c.Free p := rows_free l fun a c hc => by simp at hc; subst hc; exact .v _
theorem fr_clause {p : Bool → Prop} {k : Bool} (hk : p k) (l : List (List Trm)) : ∀ e ∈ l.map (clauseCells k), ∀ c ∈ e, c.Free p := rows_free l fun a c hc => by simp at hc; subst hc; exact .sl _ _ hk (fr_trm _)
theorem fr_pk {p : Bool → Prop} {k : Bool} (hk : p k) (l : List Pk) : ∀ e ∈ l.map (Pk.cells k), ∀ c ∈ e, c.Free p := rows_free l fun a c hc => by
  simp at hc
  rcases hc with rfl | rfl | rfl | rfl | rfl | rfl | rfl | rfl
  iterate 5 exact .v _
  · exact .sl _ _ hk (fr_str _)
  · exact .sl _ _ hk (fr_clause hk _)
  · exact .sl _ _ hk (fr_trm _)
@[simp] theorem free_trms {p : Bool → Prop} (k : Bool) (l : List Trm) : (AV.sl k (l.map Trm.cells)).Free p = p k := propext ⟨fun h => by cases h with | sl _ _ h => exact h, fun h => .sl _ _ h (fr_trm l)⟩
@[simp] theorem free_strs {p : Bool → Prop} (k : Bool) (l : List ByteArray) : (AV.sl k (l.map strCells)).Free p = p k := propext ⟨fun h => by cases h with | sl _ _ h => exact h, fun h => .sl _ _ h (fr_str l)⟩
@[simp] theorem free_ints {p : Bool → Prop} (k : Bool) (l : List Int) : (AV.sl k (l.map intCells)).Free p = p k := propext ⟨fun h => by cases h with | sl _ _ h => exact h, fun h => .sl _ _ h (fr_int l)⟩
@[simp] theorem free_bytes {p : Bool → Prop} (k : Bool) (l : List Int) : (AV.sl k (l.map byteCells)).Free p = p k := propext ⟨fun h => by cases h with | sl _ _ h => exact h, fun h => .sl _ _ h (fr_byte l)⟩
theorem free_clauses {p : Bool → Prop} {k : Bool} (hk : p k) (l : List (List Trm)) : (AV.sl k (l.map (clauseCells k))).Free p := .sl _ _ hk (fr_clause hk l)
theorem free_pks {p : Bool → Prop} {k k' : Bool} (hk : p k) (hk' : p k') (l : List Pk) : (AV.sl k (l.map (Pk.cells k'))).Free p := .sl _ _ hk (fr_pk hk' l)
@[simp] theorem free_clausesT (k : Bool) (l : List (List Trm)) : (AV.sl k (l.map (clauseCells k))).Free (fun _ => True) = True := eq_true (free_clauses trivial l)
@[simp] theorem free_pksT (k k' : Bool) (l : List Pk) : (AV.sl k (l.map (Pk.cells k'))).Free (fun _ => True) = True := eq_true (free_pks trivial trivial l)
@[simp] theorem free_clausesF (l : List (List Trm)) : (AV.sl false (l.map (clauseCells false))).Free (fun x => x = false) = True := eq_true (free_clauses (p := fun x => x = false) rfl l)
@[simp] theorem free_pksF (l : List Pk) : (AV.sl false (l.map (Pk.cells false))).Free (fun x => x = false) = True := eq_true (free_pks (p := fun x => x = false) rfl rfl l)

/-! ### Lists that are filled one by one -/

def fillR {α : Type} (f : α → List AV) (z : List AV) (l : List α) (k : Nat) : List (List AV) := (l.take k).map f ++ List.replicate (l.length - k) z
theorem fillR_zero {α : Type} (f : α → List AV) (z : List AV) (l : List α) : fillR f z l 0 = List.replicate l.length z := by simp [fillR]
theorem fillR_all {α : Type} (f : α → List AV) (z : List AV) (l : List α) : fillR f z l l.length = l.map f := by simp [fillR]
theorem fillR_length {α : Type} (f : α → List AV) (z : List AV) (l : List α) {k : Nat} (h : k ≤ l.length) : (fillR f z l k).length = l.length := by simp [fillR]; omega
theorem fillR_get {α : Type} (f : α → List AV) (z : List AV) (l : List α) {k : Nat} (h : k < l.length) : (fillR f z l k)[k]? = some z := by
  unfold fillR
  rw [List.getElem?_append_right (by simp; omega)]
  simp [List.getElem?_replicate]
  omega
theorem fillR_set {α : Type} (f : α → List AV) (z : List AV) (l : List α) {k : Nat} (h : k < l.length) : (fillR f z l k).set k (f l[k]) = fillR f z l (k + 1) := by
  unfold fillR
  apply List.ext_getElem?
  intro i
  rw [List.getElem?_set]
  by_cases hi : k = i
  · subst hi
    rw [if_pos rfl, if_pos (by simp; omega), List.getElem?_append_left (by simp; omega)]
    simp [h]
  · rw [if_neg hi]
    by_cases hlt : i < k
    · rw [List.getElem?_append_left (by simp; omega), List.getElem?_append_left (by simp; omega)]
      simp [show i < k + 1 by omega, hlt]
    · rw [List.getElem?_append_right (by simp; omega), List.getElem?_append_right (by simp; omega)]
      simp [List.getElem?_replicate]
      congr 1
      simp
      omega

@[simp] theorem take_map_len {α β : Type} (f : α → β) (l : List α) : List.take l.length (l.map f) = l.map f := by rw [List.take_of_length_le (by simp)]
@[simp] theorem get_app0 {α : Type} (l m : List α) : (l ++ m)[l.length]? = m[0]? := by simp [List.getElem?_append_right]
@[simp] theorem get_app {α : Type} (l m : List α) (k : Nat) : (l ++ m)[l.length + k]? = m[k]? := by
  rw [List.getElem?_append_right (by omega)]
  congr 1
  omega
@[simp] theorem set_app0 {α : Type} (l m : List α) (b : α) : (l ++ m).set l.length b = l ++ m.set 0 b := by
  rw [List.set_append_right _ _ (Nat.le_refl _)]
  simp
@[simp] theorem set_app {α : Type} (l m : List α) (k : Nat) (b : α) : (l ++ m).set (l.length + k) b = l ++ m.set k b := by
  rw [List.set_append_right _ _ (by omega)]
  congr 2
  omega
theorem drop_get {α : Type} {l : List α} {k : Nat} (h : k < l.length) : l.drop k = l[k] :: l.drop (k + 1) := List.drop_eq_getElem_cons h

end Go.Proofs.YtokhnmchnfkiiaaDoor.Am

/- The abstract machine: what is handed in from outside, as abstract values; from a pure law function to what a row asks. No conditions. -/
namespace Go.Proofs.YtokhnmchnfkiiaaDoor.Am
open Go Go.RowKit
set_option linter.unusedSimpArgs false
set_option linter.unusedVariables false

/-- A context at a call from outside: nothing is barred. -/
def Ctx.outer (w : World) : Ctx := ⟨w, fun _ _ => False, fun _ => False, [], fun _ => 0, fun _ => none⟩

/-- The fields of a struct, one behind the other. -/
def TypedFs (T : TypeId → List AV → Prop) (P : Program) : List Field → List AV → Prop
  | [], cs => cs = []
  | f :: fs, cs => ∃ a b, cs = a ++ b ∧ a.length = P.cellsOf f.type ∧ T f.type a ∧ TypedFs T P fs b

/-- The cells of a value of a type (bools, integers, strings, slices and structs of such). -/
def Typed (P : Program) : Nat → TypeId → List AV → Prop
  | 0, _, _ => False
  | n + 1, t, cs => match P.underlying t with
    | some .bool => ∃ b, cs = [.v (.bool b)]
    | some (.int k) => ∃ z, cs = [.v (.int k z)] ∧ (Lit.int k z).wf = true
    | some .string => ∃ s, cs = [.v (.string s)] ∧ s.size ≤ reachBytes
    | some (.slice e) => ∃ es, cs = [.sl true es] ∧ es.length * P.bytesOf e ≤ reachBytes ∧ ∀ c ∈ es, Typed P n e c
    | some (.struct fs) => TypedFs (Typed P n) P fs.toList cs
    | _ => False

def tiles (P : Program) (total : Nat) : Nat → List Field → Bool
  | off, [] => off == total
  | off, f :: fs => f.offset == off && tiles P total (off + P.cellsOf f.type) fs

/-- The types that 'Typed' speaks of. -/
def plainT (P : Program) : Nat → TypeId → Bool
  | 0, _ => false
  | n + 1, t => match P.underlying t with
    | some .bool => true
    | some (.int _) => true
    | some .string => true
    | some (.slice e) => decide (0 < P.cellsOf e) && plainT P n e
    | some (.struct fs) => tiles P (P.cellsOf t) 0 fs.toList && fs.toList.all fun f => plainT P n f.type
    | _ => false

theorem cells?_get {w : World} {base : Nat} {a : Addr} {n : Nat} {row : List Value} (h : w.cells? base a n = some row) : row.length = n ∧ ∀ j, j < n → w.cell? (a.add j) = row[j]? := by
  unfold World.cells? at h
  split at h
  · have hl := mapM_some_length h
    refine ⟨by simpa using hl, ?_⟩
    intro j hj
    exact mapM_some_get h j j (by simp [hj])
  · cases h

section
variable {H : Type} {enc : TypeId × Value → H} {P : Program} {w : World} {sp : Nat → Bool} {held : Bool}

theorem weightsAll_mem {e : TypeId} : ∀ {l : List (DataW H)} {d : DataW H}, d ∈ l → ∀ x ∈ d.weights P e, x ∈ DataW.weightsAll P e l
  | [], _, h, _, _ => by cases h
  | a :: l, d, h, x, hx => by
    simp only [DataW.weightsAll, List.mem_append]
    rcases List.mem_cons.1 h with rfl | h
    · exact .inl hx
    · exact .inr (weightsAll_mem h x hx)

theorem rvs_nil {C : Ctx} : RVs C [] [] := ⟨rfl, fun j c y h => by simp at h⟩

theorem open_fields {T : TypeId → List AV → Prop} {C : Ctx} {vs : List Value} {f : TypeId → List Value → Option (DataW H × List MemPlace)} (hf : ∀ t us x, f t us = some x → (∀ y ∈ x.1.weights P t, y ≤ reachBytes) → ∃ cs, RVs C cs us ∧ T t cs) :
    ∀ (fs : List Field) (xs : List (DataW H × List MemPlace)) (off : Nat), tiles P vs.length off fs = true → off ≤ vs.length → (fs.mapM fun g => f g.type ((vs.drop g.offset).take (P.cellsOf g.type))) = some xs →
      (∀ g ∈ fs, ∀ us x, f g.type us = some x → True) → (∀ y ∈ DataW.weightsEach P (fs.map (·.type)) (xs.map (·.1)), y ≤ reachBytes) → ∃ cs, RVs C cs (vs.drop off) ∧ TypedFs T P fs cs
  | [], xs, off, ht, ho, h, _, hw => by
    simp only [tiles, beq_iff_eq] at ht
    exact ⟨[], by rw [ht, List.drop_length]; exact rvs_nil, rfl⟩
  | g :: fs, xs, off, ht, ho, h, hq, hw => by
    simp only [tiles, Bool.and_eq_true, beq_iff_eq] at ht
    obtain ⟨h1, h2⟩ := ht
    simp only [List.mapM_cons, Option.bind_eq_bind, Option.pure_def] at h
    obtain ⟨x, hx, h3⟩ := Option.bind_eq_some_iff.1 h
    obtain ⟨ys, hy, h4⟩ := Option.bind_eq_some_iff.1 h3
    cases h4
    have hle : off + P.cellsOf g.type ≤ vs.length := by
      have : ∀ (l : List Field) (o : Nat), tiles P vs.length o l = true → o ≤ vs.length := by
        intro l
        induction l with
        | nil => intro o h; simp only [tiles, beq_iff_eq] at h; omega
        | cons b l ih => intro o h; simp only [tiles, Bool.and_eq_true] at h; have := ih _ h.2; omega
      exact this fs _ h2
    obtain ⟨a, ra, ta⟩ := hf _ _ x hx fun y hy => hw y (by simp [DataW.weightsEach, hy])
    obtain ⟨b, rb, tb⟩ := open_fields hf fs ys _ h2 hle hy (fun _ _ _ _ _ => trivial) fun y hy => hw y (by simp [DataW.weightsEach, hy])
    rw [h1] at ra
    have e : vs.drop off = (vs.drop off).take (P.cellsOf g.type) ++ vs.drop (off + P.cellsOf g.type) := by
      rw [← List.drop_drop, List.take_append_drop]
    refine ⟨a ++ b, by rw [e]; exact RVs.append ra rb, a, b, rfl, ?_, ta, tb⟩
    rw [ra.1]
    simp
    omega

theorem rv_cols {C : Ctx} {es : List (List AV)} {len cap b off size : Nat} {row : Nat → List Value} (hl : es.length = len) (hcap : len ≤ cap) (hb : 0 < len → b < C.w.heap.size) (hN : ¬ C.N true b)
    (hrow : ∀ i, i < len → (row i).length = size ∧ ∀ j, j < size → C.w.cell? ⟨b, off + i * size + j, none⟩ = (row i)[j]?) (hes : ∀ (i : Nat) (e : List AV), es[i]? = some e → RVs C e (row i)) : RV C (.sl true es) (.slice (some ⟨b, off, none⟩) len cap) := by
  cases es with
  | nil =>
    simp at hl
    subst hl
    exact .sl0 _ _ _
  | cons e0 es0 =>
    have hlt : ∀ i e, (e0 :: es0)[i]? = some e → i < len := fun i e h => by have := (List.getElem?_eq_some_iff.1 h).1; omega
    have hlen : ∀ (i : Nat) (e : List AV), (e0 :: es0)[i]? = some e → e.length = size := fun i e h => by rw [(hes i e h).1, (hrow i (hlt i e h)).1]
    rw [← hl]
    refine .sl true (e0 :: es0) b off size cap (fun i j => (row i).getD j undef) (by simp) ?_ hN (fun e => by cases e) (hb (by rw [← hl]; simp)) (by omega) ?_ ?_
    · intro e he
      obtain ⟨i, hi⟩ := List.getElem?_of_mem he
      exact hlen i e hi
    · intro i j e c hi hj
      have hjl : j < size := by rw [← hlen i e hi]; exact (List.getElem?_eq_some_iff.1 hj).1
      rw [(hrow i (hlt i e hi)).2 j hjl]
      have : j < (row i).length := by rw [(hrow i (hlt i e hi)).1]; exact hjl
      simp [this]
    · intro i j e c hi hj
      have hjl : j < size := by rw [← hlen i e hi]; exact (List.getElem?_eq_some_iff.1 hj).1
      have : j < (row i).length := by rw [(hrow i (hlt i e hi)).1]; exact hjl
      exact (hes i e hi).2 j c _ hj (by simp [this])

theorem open_rv : ∀ (n fuel : Nat) (t : TypeId) (vs : List Value) (d : DataW H) (ps : List MemPlace), plainT P n t = true → DataW.trod enc P w 0 sp held fuel t vs = some (d, ps) → (∀ x ∈ d.weights P t, x ≤ reachBytes) →
    ∃ cs, RVs (Ctx.outer w) cs vs ∧ Typed P n t cs := by
  intro n
  induction n with
  | zero => intro fuel t vs d ps hp; cases hp
  | succ n ih =>
    intro fuel t vs d ps hp h hw
    cases fuel with
    | zero => simp [DataW.trod] at h
    | succ fuel =>
    have one : ∀ (a : AV) (v : Value), RV (Ctx.outer w) a v → RVs (Ctx.outer w) [a] [v] := fun a v hr => RVs.cons hr rvs_nil
    simp only [plainT] at hp
    simp only [Typed]
    split at hp
    · rename_i ht
      rcases vs with _ | ⟨v, _ | ⟨v2, rest⟩⟩
      · simp [DataW.trod, ht] at h
      · cases v <;> simp [DataW.trod, ht] at h
        rename_i b
        exact ⟨_, one _ _ (.v _), b, rfl⟩
      · simp [DataW.trod, ht] at h
    · rename_i k ht
      rcases vs with _ | ⟨v, _ | ⟨v2, rest⟩⟩
      · simp [DataW.trod, ht] at h
      · cases v <;> simp [DataW.trod, ht] at h
        rename_i k' z
        obtain ⟨⟨rfl, hwf⟩, _⟩ := h
        exact ⟨_, one _ _ (.v _), z, rfl, hwf⟩
      · simp [DataW.trod, ht] at h
    · rename_i ht
      rcases vs with _ | ⟨v, _ | ⟨v2, rest⟩⟩
      · simp [DataW.trod, ht] at h
      · cases v <;> simp [DataW.trod, ht] at h
        rename_i s
        obtain ⟨_, rfl, _⟩ := h
        refine ⟨_, one _ _ (.v _), s, rfl, ?_⟩
        have := hw s.data.toList.length (by simp [DataW.weights])
        simpa using this
      · simp [DataW.trod, ht] at h
    · rename_i e ht
      simp only [Bool.and_eq_true, decide_eq_true_eq] at hp
      rcases vs with _ | ⟨v, _ | ⟨v2, rest⟩⟩
      · simp [DataW.trod, ht] at h
      · cases v with
        | slice a len cap =>
          cases a with
          | none =>
            cases len <;> cases cap <;> simp [DataW.trod, ht] at h
            exact ⟨_, one _ _ (.sl0 true none 0), [], rfl, by simp, by simp⟩
          | some a =>
            simp only [DataW.trod, ht] at h
            split at h
            · rename_i hc
              obtain ⟨elems, he, h2⟩ := Option.bind_eq_some_iff.1 h
              obtain ⟨rest, hr, h3⟩ := Option.map_eq_some_iff.1 h2
              simp only [Prod.mk.injEq] at h3
              obtain ⟨rfl, _⟩ := h3
              have hl := mapM_some_length he
              simp only [List.length_range] at hl
              -- each element
              have each : ∀ i, i < len → ∃ row cs, w.cells? 0 (a.add (i * P.cellsOf e)) (P.cellsOf e) = some row ∧ RVs (Ctx.outer w) cs row ∧ Typed P n e cs := by
                intro i hi
                have h1 := mapM_some_get he i i (by simp [hi])
                rw [List.getElem?_eq_getElem (by omega)] at h1
                obtain ⟨row, hrow, h4⟩ := Option.bind_eq_some_iff.1 h1
                obtain ⟨cs, rc, tc⟩ := ih fuel e row _ _ hp.2 h4 fun x hx => hw x (by
                  simp only [DataW.weights, ht, List.mem_cons, List.mem_append]
                  exact .inr (.inl (weightsAll_mem (List.mem_map.2 ⟨_, List.getElem_mem _, rfl⟩) x hx)))
                exact ⟨row, cs, hrow, rc, tc⟩
              have each2 : ∀ i, ∃ p : List Value × List AV, i < len → w.cells? 0 (a.add (i * P.cellsOf e)) (P.cellsOf e) = some p.1 ∧ RVs (Ctx.outer w) p.2 p.1 ∧ Typed P n e p.2 := by
                intro i
                by_cases hi : i < len
                · obtain ⟨row, cs, h⟩ := each i hi; exact ⟨(row, cs), fun _ => h⟩
                · exact ⟨([], []), fun h => (hi h).elim⟩
              let g : Nat → List Value × List AV := fun i => Classical.choose (each2 i)
              have hg : ∀ i, i < len → w.cells? 0 (a.add (i * P.cellsOf e)) (P.cellsOf e) = some (g i).1 ∧ RVs (Ctx.outer w) (g i).2 (g i).1 ∧ Typed P n e (g i).2 := fun i hi => Classical.choose_spec (each2 i) hi
              have hgetes : ∀ (i : Nat) (c : List AV), ((List.range len).map fun i => (g i).2)[i]? = some c → i < len ∧ c = (g i).2 := by
                intro i c hi
                rw [List.getElem?_map] at hi
                obtain ⟨k, hk, rfl⟩ := Option.map_eq_some_iff.1 hi
                rw [List.getElem?_eq_some_iff] at hk
                obtain ⟨hk1, hk2⟩ := hk
                simp at hk1 hk2
                subst hk2
                exact ⟨hk1, rfl⟩
              obtain ⟨b, off, spot⟩ := a
              have sp0 : 0 < len → spot = none ∧ b < w.heap.size := by
                intro h0
                obtain ⟨q1, q2⟩ := cells?_get (hg 0 h0).1
                have q3 := q2 0 hp.1
                rw [List.getElem?_eq_getElem (by omega)] at q3
                simp only [Nat.zero_mul, Addr.add, if_true] at q3
                unfold World.cell? at q3
                split at q3
                · rename_i c q4 q5 hb
                  split at q3
                  · cases q3
                  · rename_i hs
                    refine ⟨by cases spot <;> simp_all, ?_⟩
                    exact (Array.getElem?_eq_some_iff.1 hb).1
                · cases q3
              have add0 : ∀ k, Addr.add ⟨b, off, none⟩ k = ⟨b, off + k, none⟩ := by
                intro k
                unfold Addr.add
                split
                · rename_i hk; subst hk; rfl
                · rfl
              refine ⟨[.sl true ((List.range len).map fun i => (g i).2)], one _ _ ?_, _, rfl, ?_, ?_⟩
              · by_cases h0 : 0 < len
                · obtain ⟨rfl, hbl⟩ := sp0 h0
                  refine rv_cols (size := P.cellsOf e) (row := fun i => (g i).1) (by simp) hc.2.1 (fun _ => hbl) ?_ ?_ ?_
                  · rintro (hN | hN | ⟨_, _, hN, _⟩)
                    · exact hN.elim id id
                    · cases hN
                    · cases hN
                  · intro i hi
                    obtain ⟨q1, q2⟩ := cells?_get (hg i hi).1
                    refine ⟨q1, fun j hj => ?_⟩
                    have := q2 j hj
                    rw [add0] at this
                    rw [show off + i * P.cellsOf e + j = (off + i * P.cellsOf e) + j from rfl, ← this]
                    congr 1
                    unfold Addr.add
                    split
                    · rename_i hk; subst hk; rfl
                    · rfl
                  · intro i c hi
                    obtain ⟨h1, rfl⟩ := hgetes i c hi
                    exact (hg i h1).2.1
                · have : len = 0 := by omega
                  subst this
                  exact .sl0 _ _ _
              · have := hw ((elems.map (·.1)).length + (rest.map (·.1)).length |>.succ.pred |> (· * P.bytesOf e)) (by simp [DataW.weights, ht])
                simp only [List.length_map, List.length_range] at this ⊢
                refine Nat.le_trans (Nat.mul_le_mul_right _ ?_) this
                simp
                omega
              · intro c hc
                obtain ⟨i, hi⟩ := List.getElem?_of_mem hc
                obtain ⟨h1, rfl⟩ := hgetes i c hi
                exact (hg i h1).2.2
            · cases h
        | _ => simp [DataW.trod, ht] at h
      · simp [DataW.trod, ht] at h
    · rename_i fs ht
      simp only [Bool.and_eq_true, List.all_eq_true] at hp
      simp only [DataW.trod, ht] at h
      split at h
      · rename_i hlen
        obtain ⟨xs, hx, h2⟩ := Option.map_eq_some_iff.1 h
        simp only [Prod.mk.injEq] at h2
        obtain ⟨rfl, _⟩ := h2
        have := open_fields (P := P) (T := fun t cs => plainT P n t = true → Typed P n t cs) (C := Ctx.outer w) (vs := vs) (f := fun t us => DataW.trod enc P w 0 sp held fuel t us) ?_ fs.toList xs 0 (hlen ▸ hp.1) (Nat.zero_le _) hx (fun _ _ _ _ _ => trivial) (fun y hy => hw y (by simp only [DataW.weights, ht]; exact hy))
        · obtain ⟨cs, rc, tc⟩ := this
          refine ⟨cs, by simpa using rc, ?_⟩
          have go : ∀ (l : List Field) (cs : List AV), (∀ f ∈ l, plainT P n f.type = true) → TypedFs (fun t cs => plainT P n t = true → Typed P n t cs) P l cs → TypedFs (Typed P n) P l cs := by
            intro l
            induction l with
            | nil => intro cs _ h; exact h
            | cons f l ihl =>
              rintro cs hh ⟨a, b, rfl, hal, ta, tb⟩
              exact ⟨a, b, rfl, hal, ta (hh f (by simp)), ihl b (fun g hg => hh g (by simp [hg])) tb⟩
          exact go _ _ hp.2 tc
        · intro t us x hx hw2
          by_cases hpt : plainT P n t = true
          · obtain ⟨cs, rc, tc⟩ := ih fuel t us x.1 x.2 hpt hx hw2
            exact ⟨cs, rc, fun _ => tc⟩
          · exact ⟨us.map .v, ⟨by simp, fun j c y h1 h2 => by rw [List.getElem?_map, h2] at h1; cases h1; exact .v _⟩, fun h => (hpt h).elim⟩
      · cases h
    · cases hp
end
end Go.Proofs.YtokhnmchnfkiiaaDoor.Am

/- The abstract machine: the arguments of a law, and what a call of a pure law function leaves. No conditions. -/
namespace Go.Proofs.YtokhnmchnfkiiaaDoor.Am
open Go Go.RowKit
set_option linter.unusedSimpArgs false
set_option linter.unusedVariables false

/-- A value of a type, as an argument. -/
def TypedV (P : Program) (n : Nat) (t : TypeId) (a : AV) : Prop :=
  match P.underlying t with
  | some (.struct _) => ∃ cs, a = .agg cs ∧ Typed P n t cs
  | _ => Typed P n t [a]

def TypedArgs (P : Program) (n : Nat) : List TypeId → List AV → Prop
  | [], as => as = []
  | t :: ts, as => ∃ a bs, as = a :: bs ∧ TypedV P n t a ∧ TypedArgs P n ts bs

section
variable {H : Type} {enc : TypeId × Value → H} {P : Program} {w : World} {sp : Nat → Bool} {held : Bool}

theorem arg_rv {n : Nat} {t : TypeId} {v : Value} {d : DataW H} {ps : List MemPlace} {r : Reach} {b0 : Nat} (hp : plainT P n t = true) (hval : Value.okWide P w r b0 t v) (h : DataW.Trod enc P w 0 sp held t v d ps) (hw : ∀ x ∈ d.weights P t, x ≤ reachBytes) :
    ∃ a, RV (Ctx.outer w) a v ∧ TypedV P n t a := by
  obtain ⟨fuel, h⟩ := h
  obtain ⟨cs, rc, tc⟩ := open_rv n fuel t _ d ps hp h hw
  cases n with
  | zero => cases hp
  | succ n =>
  unfold TypedV
  unfold Value.okWide at hval
  have single : (∀ u, v ≠ .agg u) → ∃ a, RV (Ctx.outer w) a v ∧ Typed P (n + 1) t [a] := by
    intro hne
    have hc : v.cells.toList = [v] := by
      cases v <;> first | rfl | exact (hne _ rfl).elim
    rw [hc] at rc
    match cs, rc with
    | [a], rc => exact ⟨a, rc.2 0 a v rfl rfl, tc⟩
  simp only [plainT] at hp
  split at hp
  · rename_i ht
    simp only [ht, Cell.okWide] at hval ⊢
    exact single fun u e => by subst e; simp [Cell.ok, ht] at hval
  · rename_i k ht
    simp only [ht, Cell.okWide] at hval ⊢
    exact single fun u e => by subst e; simp [Cell.ok, ht] at hval
  · rename_i ht
    simp only [ht, Cell.okWide] at hval ⊢
    exact single fun u e => by subst e; simp [Cell.ok, ht] at hval
  · rename_i e ht
    simp only [ht, Cell.okWide] at hval ⊢
    exact single fun u e => by subst e; simp [Cell.ok, ht] at hval
  · rename_i fs ht
    simp only [ht] at hval ⊢
    obtain ⟨us, rfl, _, _⟩ := hval
    refine ⟨.agg cs, .agg cs us ?_ ?_, cs, rfl, tc⟩
    · have := rc.1; simpa [Value.cells] using this
    · intro j c x h1 h2
      exact rc.2 j c x h1 (by rw [Array.getElem?_toList]; exact h2)
  · cases hp

theorem args_rv {n : Nat} {r : Reach} {b0 : Nat} : ∀ {ts : List TypeId} {vs : List Value} {ds : List (DataW H)} {ps : List MemPlace}, ts.all (plainT P n) = true → (∀ (j : Nat) t v, ts[j]? = some t → vs[j]? = some v → Value.okWide P w r b0 t v) →
    DataW.TrodAll enc P w 0 sp held ts vs ds ps → (∀ x ∈ DataW.weightsEach P ts ds, x ≤ reachBytes) → ∃ as, RVs (Ctx.outer w) as vs ∧ TypedArgs P n ts as
  | [], vs, ds, ps, _, _, h, _ => by
    cases vs with
    | nil => exact ⟨[], rvs_nil, rfl⟩
    | cons v vs => cases ds <;> exact h.elim
  | t :: ts, vs, ds, ps, hp, hval, h, hw => by
    cases vs with
    | nil => exact h.elim
    | cons v vs =>
      cases ds with
      | nil => exact h.elim
      | cons d ds =>
        obtain ⟨p, q, h1, h2, _⟩ := h
        simp only [List.all_cons, Bool.and_eq_true] at hp
        obtain ⟨a, ra, ta⟩ := arg_rv (r := r) (b0 := b0) hp.1 (hval 0 t v rfl rfl) h1 fun x hx => hw x (by simp [DataW.weightsEach, hx])
        obtain ⟨as, rs, tas⟩ := args_rv hp.2 (fun j t v h3 h4 => hval (j + 1) t v (by simpa using h3) (by simpa using h4)) h2 fun x hx => hw x (by simp [DataW.weightsEach, hx])
        exact ⟨a :: as, RVs.cons ra rs, a, as, rfl, ta, tas⟩

theorem trodAll_lt {ts : List TypeId} : ∀ {vs : List Value} {ds : List (DataW H)} {ps : List MemPlace}, DataW.TrodAll enc P w 0 sp held ts vs ds ps → ∀ x ∈ ps, x.block < w.heap.size := by
  induction ts with
  | nil =>
    intro vs ds ps h
    cases vs <;> cases ds <;> first | exact h.elim | skip
    cases h
    simp
  | cons t ts ih =>
    intro vs ds ps h
    cases vs with
    | nil => exact h.elim
    | cons v vs =>
      cases ds with
      | nil => exact h.elim
      | cons d ds =>
        obtain ⟨p, q, ⟨fuel, h1⟩, h2, rfl⟩ := h
        intro x hx
        rcases List.mem_append.1 hx with hx | hx
        · exact DataW.trod_lt _ _ _ _ h1 x hx
        · exact ih h2 x hx

theorem trodAll_below {P : Program} {W W' : World} (hl : laidOutB P = true) (hb : Below W.heap.size W W') : ∀ {ts : List TypeId} {vs : List Value} {ds : List (DataW H)} {ps : List MemPlace}, (ts.all fun t => P.readableRec t && decide (t < P.types.size)) = true →
    DataW.TrodAll enc P W 0 (fun _ => true) true ts vs ds ps → DataW.TrodAll enc P W' 0 (fun b => decide (b < W.heap.size)) true ts vs ds ps
  | [], vs, ds, ps, _, h => by
    cases vs <;> cases ds <;> first | exact h.elim | exact h
  | t :: ts, vs, ds, ps, hr, h => by
    cases vs with
    | nil => exact h.elim
    | cons v vs =>
      cases ds with
      | nil => exact h.elim
      | cons d ds =>
        obtain ⟨p, q, h1, h2, e⟩ := h
        simp only [List.all_cons, Bool.and_eq_true, decide_eq_true_eq] at hr
        have hlt : ∀ x ∈ p, x.block < W.heap.size := by
          obtain ⟨fuel, h3⟩ := h1
          exact DataW.trod_lt _ _ _ _ h3
        exact ⟨p, q, Below.trod hl hr.1.1 hr.1.2 h1 hb hlt, trodAll_below hl hb hr.2 h2, e⟩

end

/-- A law function that is a plain function of its arguments, called from outside. -/
theorem law_calls {P : Program} {f : FuncId} {as : List AV} {args : Array Value} {W : World} (hg : GlobOK (Ctx.outer W)) (hp : Pure P f as (.v (.bool true))) (ha : RVs (Ctx.outer W) as args.toList) :
    Calls P f args W fun e W' => e = .returned (.bool true) ∧ Below W.heap.size W W' := by
  refine (hp.2.2 (Ctx.outer W) args (fun _ => rfl) ⟨rfl, List.nodup_nil, fun b hb => (by cases hb), fun k b cs h => (by simp [Ctx.outer] at h), hg⟩ (fun b h => h.elim) (fun b h => h.elim) ha).mono ?_
  rintro e W' ⟨v, C', rfl, hw, _, _, _, _, hW, hr⟩
  refine ⟨by cases hr; rfl, ⟨hW.os, hW.tape, hW.output, hW.size, fun k hk => hW.block k hk (by simp [Ctx.outer])⟩⟩

end Go.Proofs.YtokhnmchnfkiiaaDoor.Am

/- The abstract machine: structs of three i64 compared. No conditions. -/
namespace Go.Proofs.YtokhnmchnfkiiaaDoor.Am
open Go Go.RowKit
set_option linter.unusedSimpArgs false
set_option linter.unusedVariables false

theorem vers_of {P : Program} {t : TypeId} {f0 f1 f2 : Field} (hu : P.underlying t = some (.struct #[f0, f1, f2])) (hp : P.stoodInHeld t = false) (hg : P.eqGuardType P.depth t = false)
    (n0 : (f0.name == "_") = false) (n1 : (f1.name == "_") = false) (n2 : (f2.name == "_") = false) (o0 : f0.offset = 0) (o1 : f1.offset = 1) (o2 : f2.offset = 2)
    (u0 : P.underlying f0.type = some (.int .i64)) (u1 : P.underlying f1.type = some (.int .i64)) (u2 : P.underlying f2.type = some (.int .i64)) (x y : Operand) (a1 a2 a3 b1 b2 b3 : Int) (w : World) :
    (do eqGuard .eql t x y (.agg #[.int .i64 a1, .int .i64 a2, .int .i64 a3]) (.agg #[.int .i64 b1, .int .i64 b2, .int .i64 b3]); binOp .eql t (.agg #[.int .i64 a1, .int .i64 a2, .int .i64 a3]) (.agg #[.int .i64 b1, .int .i64 b2, .int .i64 b3]) : Sem Value).run P w =
    .ok (.bool (decide (a1 = b1 ∧ a2 = b2 ∧ a3 = b3))) w ∧
    (do eqGuard .neq t x y (.agg #[.int .i64 a1, .int .i64 a2, .int .i64 a3]) (.agg #[.int .i64 b1, .int .i64 b2, .int .i64 b3]); binOp .neq t (.agg #[.int .i64 a1, .int .i64 a2, .int .i64 a3]) (.agg #[.int .i64 b1, .int .i64 b2, .int .i64 b3]) : Sem Value).run P w =
    .ok (.bool (decide (¬ (a1 = b1 ∧ a2 = b2 ∧ a3 = b3)))) w := by
  have hf : P.fieldsOf t = #[f0, f1, f2] := by simp [Program.fieldsOf, hu]
  have pt : ∀ (ty : TypeId) (xs : Array Value) (off : Nat) (v : Value), P.underlying ty = some (.int .i64) → xs[off]? = some v → (part ty xs off).run P w = .ok v w := by
    intro ty xs off v hu hv
    simp [part, isAgg, run_underlying hu, hv]
  have one : ∀ (f : Field) (xs ys : Array Value) (a b : Int) (fs : List Field) (r : Bool), (f.name == "_") = false → P.underlying f.type = some (.int .i64) → xs[f.offset]? = some (.int .i64 a) → ys[f.offset]? = some (.int .i64 b) →
      (Op.eqFields (Op.maxDepth - 1) xs ys fs).run P w = .ok r w → (Op.eqFields (Op.maxDepth - 1) xs ys (f :: fs)).run P w = .ok (a == b && r) w := by
    intro f xs ys a b fs r hn hu hx hy hr
    have hn' : f.name ≠ "_" := by simpa using hn
    rw [Op.eqFields]
    simp only [if_pos hn', Sem.run_bind, pt f.type xs f.offset _ hu hx, pt f.type ys f.offset _ hu hy, Result.andThen_ok]
    rw [show Op.maxDepth - 1 = (Op.maxDepth - 2) + 1 from rfl, run_equalIn_int (P := P) w _ f.type .i64 .i64 a b hu]
    rw [show Op.maxDepth - 1 = (Op.maxDepth - 2) + 1 from rfl] at hr
    simp only [Result.andThen_ok]
    cases hab : (a == b)
    · simp
    · simpa using hr
  have eqr : (Op.equal t (.agg #[.int .i64 a1, .int .i64 a2, .int .i64 a3]) (.agg #[.int .i64 b1, .int .i64 b2, .int .i64 b3])).run P w = .ok (decide (a1 = b1 ∧ a2 = b2 ∧ a3 = b3)) w := by
    unfold Op.equal
    rw [show Op.maxDepth = (Op.maxDepth - 1) + 1 from rfl, run_equalIn_struct (P := P) w _ t _ _ (by rw [hf]; exact hu) hp, hf]
    have h3 := one f2 #[.int .i64 a1, .int .i64 a2, .int .i64 a3] #[.int .i64 b1, .int .i64 b2, .int .i64 b3] a3 b3 [] true n2 u2 (by rw [o2]; rfl) (by rw [o2]; rfl) (by simp [Op.eqFields])
    have h2 := one f1 #[.int .i64 a1, .int .i64 a2, .int .i64 a3] #[.int .i64 b1, .int .i64 b2, .int .i64 b3] a2 b2 _ _ n1 u1 (by rw [o1]; rfl) (by rw [o1]; rfl) h3
    have h1 := one f0 #[.int .i64 a1, .int .i64 a2, .int .i64 a3] #[.int .i64 b1, .int .i64 b2, .int .i64 b3] a1 b1 _ _ n0 u0 (by rw [o0]; rfl) (by rw [o0]; rfl) h2
    refine h1.trans ?_
    congr 1
    by_cases q1 : a1 = b1 <;> by_cases q2 : a2 = b2 <;> by_cases q3 : a3 = b3 <;> simp [q1, q2, q3]
  refine ⟨?_, ?_⟩
  · simp [eqGuard, hg, binOp, eqr]
  · simp [eqGuard, hg, binOp, eqr]

end Go.Proofs.YtokhnmchnfkiiaaDoor.Am
