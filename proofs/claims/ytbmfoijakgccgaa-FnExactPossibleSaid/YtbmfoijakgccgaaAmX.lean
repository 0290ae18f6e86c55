/- Data of the program as abstract values: versions, terms, packages, lists of such; and lists that are filled one by one. No conditions. -/
import Derived.Test.YtbmfoijakgccgaaAmS
namespace Go.Proofs.Ytbmfoijakgccgaa.Am
open Go Go.RowKit
set_option linter.unusedSimpArgs false
set_option linter.unusedVariables false

theorem at_call {G : Cfg} {f : FuncId} {as les : List AV} {dst : Option Tmp} {L : St → Prop} {st : St} (h : onCall G f as les dst L st) : onCall G f as les dst L st := h

structure Ver where
  a : Int
  b : Int
  c : Int
structure Trm where
  n : ByteArray
  lo : Ver
  hi : Ver
structure Pk where
  n : ByteArray
  v : Ver
  s : Int
  pr : List ByteArray
  ne : List (List Trm)
  ba : List Trm

@[simp, reducible] def Ver.av (v : Ver) : AV := .agg [.v (.int .i64 v.a), .v (.int .i64 v.b), .v (.int .i64 v.c)]
@[simp, reducible] def Trm.cells (t : Trm) : List AV := [.v (.string t.n), .v (.int .i64 t.lo.a), .v (.int .i64 t.lo.b), .v (.int .i64 t.lo.c), .v (.int .i64 t.hi.a), .v (.int .i64 t.hi.b), .v (.int .i64 t.hi.c)]
@[simp, reducible] def Trm.av (t : Trm) : AV := .agg [.v (.string t.n), .v (.int .i64 t.lo.a), .v (.int .i64 t.lo.b), .v (.int .i64 t.lo.c), .v (.int .i64 t.hi.a), .v (.int .i64 t.hi.b), .v (.int .i64 t.hi.c)]
@[simp, reducible] def strCells (s : ByteArray) : List AV := [.v (.string s)]
@[simp, reducible] def intCells (n : Int) : List AV := [.v (.int .i64 n)]
@[simp, reducible] def byteCells (n : Int) : List AV := [.v (.int .u8 n)]
/-- Slices: k tells whether they may be handed back. -/
@[simp, reducible] def strsAV (k : Bool) (l : List ByteArray) : AV := .sl k (l.map strCells)
@[simp, reducible] def intsAV (k : Bool) (l : List Int) : AV := .sl k (l.map intCells)
@[simp, reducible] def trmsAV (k : Bool) (l : List Trm) : AV := .sl k (l.map Trm.cells)
@[simp, reducible] def clauseCells (k : Bool) (l : List Trm) : List AV := [.sl k (l.map Trm.cells)]
@[simp, reducible] def clausesAV (k : Bool) (l : List (List Trm)) : AV := .sl k (l.map (clauseCells k))
@[simp, reducible] def Pk.cells (k : Bool) (p : Pk) : List AV := [.v (.string p.n), .v (.int .i64 p.v.a), .v (.int .i64 p.v.b), .v (.int .i64 p.v.c), .v (.int .i64 p.s), .sl k (p.pr.map strCells), .sl k (p.ne.map (clauseCells k)), .sl k (p.ba.map Trm.cells)]
@[simp, reducible] def Pk.av (k : Bool) (p : Pk) : AV := .agg [.v (.string p.n), .v (.int .i64 p.v.a), .v (.int .i64 p.v.b), .v (.int .i64 p.v.c), .v (.int .i64 p.s), .sl k (p.pr.map strCells), .sl k (p.ne.map (clauseCells k)), .sl k (p.ba.map Trm.cells)]
@[simp, reducible] def pksAV (k k' : Bool) (l : List Pk) : AV := .sl k (l.map (Pk.cells k'))

theorem all_map_eq {α : Type} {f : α → List AV} {q : List AV → Bool} (l : List α) (h : ∀ a, q (f a) = true) : (l.map f).all q = true := by
  simp [List.all_map, List.all_eq_true, h]

@[simp] theorem len_trm (l : List Trm) : (l.map Trm.cells).all (fun e => e.length == 7) = true := all_map_eq l fun _ => rfl
@[simp] theorem len_str (l : List ByteArray) : (l.map strCells).all (fun e => e.length == 1) = true := all_map_eq l fun _ => rfl
@[simp] theorem len_int (l : List Int) : (l.map intCells).all (fun e => e.length == 1) = true := all_map_eq l fun _ => rfl
@[simp] theorem len_byte (l : List Int) : (l.map byteCells).all (fun e => e.length == 1) = true := all_map_eq l fun _ => rfl
@[simp] theorem len_clause (k : Bool) (l : List (List Trm)) : (l.map (clauseCells k)).all (fun e => e.length == 1) = true := all_map_eq l fun _ => rfl
@[simp] theorem len_pk (k : Bool) (l : List Pk) : (l.map (Pk.cells k)).all (fun e => e.length == 8) = true := all_map_eq l fun _ => rfl
@[simp] theorem one_trm (l : List Trm) : (l.map Trm.cells).all (fun e => e.all AV.one) = true := all_map_eq l fun _ => rfl
@[simp] theorem one_str (l : List ByteArray) : (l.map strCells).all (fun e => e.all AV.one) = true := all_map_eq l fun _ => rfl
@[simp] theorem one_ints (l : List Int) : (l.map intCells).all (fun e => e.all AV.one) = true := all_map_eq l fun _ => rfl
@[simp] theorem one_bytes (l : List Int) : (l.map byteCells).all (fun e => e.all AV.one) = true := all_map_eq l fun _ => rfl
@[simp] theorem one_clause (k : Bool) (l : List (List Trm)) : (l.map (clauseCells k)).all (fun e => e.all AV.one) = true := all_map_eq l fun _ => rfl
@[simp] theorem one_pk (k : Bool) (l : List Pk) : (l.map (Pk.cells k)).all (fun e => e.all AV.one) = true := all_map_eq l fun _ => rfl

theorem rows_free {α : Type} {f : α → List AV} {p : Bool → Prop} (l : List α) (h : ∀ a, ∀ c ∈ f a, c.Free p) : ∀ e ∈ l.map f, ∀ c ∈ e, c.Free p := by
  intro e he c hc
  obtain ⟨a, _, rfl⟩ := List.mem_map.1 he
  exact h a c hc
theorem fr_trm {p : Bool → Prop} (l : List Trm) : ∀ e ∈ l.map Trm.cells, ∀ c ∈ e, c.Free p := rows_free l fun a c hc => by simp at hc; rcases hc with rfl | rfl | rfl | rfl | rfl | rfl | rfl <;> exact .v _
theorem fr_str {p : Bool → Prop} (l : List ByteArray) : ∀ e ∈ l.map strCells, ∀ c ∈ e, c.Free p := rows_free l fun a c hc => by simp at hc; subst hc; exact .v _
theorem fr_int {p : Bool → Prop} (l : List Int) : ∀ e ∈ l.map intCells, ∀ c ∈ e, c.Free p := rows_free l fun a c hc => by simp at hc; subst hc; exact .v _
theorem fr_byte {p : Bool → Prop} (l : List Int) : ∀ e ∈ l.map byteCells, ∀ c ∈ e, c.Free p := rows_free l fun a c hc => by simp at hc; subst hc; exact .v _
theorem fr_clause {p : Bool → Prop} {k : Bool} (hk : p k) (l : List (List Trm)) : ∀ e ∈ l.map (clauseCells k), ∀ c ∈ e, c.Free p := rows_free l fun a c hc => by simp at hc; subst hc; exact .sl _ _ hk (fr_trm _)
theorem fr_pk {p : Bool → Prop} {k : Bool} (hk : p k) (l : List Pk) : ∀ e ∈ l.map (Pk.cells k), ∀ c ∈ e, c.Free p := rows_free l fun a c hc => by
  simp at hc
  rcases hc with rfl | rfl | rfl | rfl | rfl | rfl | rfl | rfl
  iterate 5 exact .v _
  · exact .sl _ _ hk (fr_str _)
  · exact .sl _ _ hk (fr_clause hk _)
  · exact .sl _ _ hk (fr_trm _)
@[simp] theorem free_trms {p : Bool → Prop} (k : Bool) (l : List Trm) : (AV.sl k (l.map Trm.cells)).Free p = p k := propext ⟨fun h => by cases h with | sl _ _ h => exact h, fun h => .sl _ _ h (fr_trm l)⟩
@[simp] theorem free_strs {p : Bool → Prop} (k : Bool) (l : List ByteArray) : (AV.sl k (l.map strCells)).Free p = p k := propext ⟨fun h => by cases h with | sl _ _ h => exact h, fun h => .sl _ _ h (fr_str l)⟩
@[simp] theorem free_ints {p : Bool → Prop} (k : Bool) (l : List Int) : (AV.sl k (l.map intCells)).Free p = p k := propext ⟨fun h => by cases h with | sl _ _ h => exact h, fun h => .sl _ _ h (fr_int l)⟩
@[simp] theorem free_bytes {p : Bool → Prop} (k : Bool) (l : List Int) : (AV.sl k (l.map byteCells)).Free p = p k := propext ⟨fun h => by cases h with | sl _ _ h => exact h, fun h => .sl _ _ h (fr_byte l)⟩
theorem free_clauses {p : Bool → Prop} {k : Bool} (hk : p k) (l : List (List Trm)) : (AV.sl k (l.map (clauseCells k))).Free p := .sl _ _ hk (fr_clause hk l)
theorem free_pks {p : Bool → Prop} {k k' : Bool} (hk : p k) (hk' : p k') (l : List Pk) : (AV.sl k (l.map (Pk.cells k'))).Free p := .sl _ _ hk (fr_pk hk' l)
@[simp] theorem free_clausesT (k : Bool) (l : List (List Trm)) : (AV.sl k (l.map (clauseCells k))).Free (fun _ => True) = True := eq_true (free_clauses trivial l)
@[simp] theorem free_pksT (k k' : Bool) (l : List Pk) : (AV.sl k (l.map (Pk.cells k'))).Free (fun _ => True) = True := eq_true (free_pks trivial trivial l)
@[simp] theorem free_clausesF (l : List (List Trm)) : (AV.sl false (l.map (clauseCells false))).Free (fun x => x = false) = True := eq_true (free_clauses (p := fun x => x = false) rfl l)
@[simp] theorem free_pksF (l : List Pk) : (AV.sl false (l.map (Pk.cells false))).Free (fun x => x = false) = True := eq_true (free_pks (p := fun x => x = false) rfl rfl l)

/-! ### Lists that are filled one by one -/

def fillR {α : Type} (f : α → List AV) (z : List AV) (l : List α) (k : Nat) : List (List AV) := (l.take k).map f ++ List.replicate (l.length - k) z
theorem fillR_zero {α : Type} (f : α → List AV) (z : List AV) (l : List α) : fillR f z l 0 = List.replicate l.length z := by simp [fillR]
theorem fillR_all {α : Type} (f : α → List AV) (z : List AV) (l : List α) : fillR f z l l.length = l.map f := by simp [fillR]
theorem fillR_length {α : Type} (f : α → List AV) (z : List AV) (l : List α) {k : Nat} (h : k ≤ l.length) : (fillR f z l k).length = l.length := by simp [fillR]; omega
theorem fillR_get {α : Type} (f : α → List AV) (z : List AV) (l : List α) {k : Nat} (h : k < l.length) : (fillR f z l k)[k]? = some z := by
  unfold fillR
  rw [List.getElem?_append_right (by simp; omega)]
  simp [List.getElem?_replicate]
  omega
theorem fillR_set {α : Type} (f : α → List AV) (z : List AV) (l : List α) {k : Nat} (h : k < l.length) : (fillR f z l k).set k (f l[k]) = fillR f z l (k + 1) := by
  unfold fillR
  apply List.ext_getElem?
  intro i
  rw [List.getElem?_set]
  by_cases hi : k = i
  · subst hi
    rw [if_pos rfl, if_pos (by simp; omega), List.getElem?_append_left (by simp; omega)]
    simp [h]
  · rw [if_neg hi]
    by_cases hlt : i < k
    · rw [List.getElem?_append_left (by simp; omega), List.getElem?_append_left (by simp; omega)]
      simp [show i < k + 1 by omega, hlt]
    · rw [List.getElem?_append_right (by simp; omega), List.getElem?_append_right (by simp; omega)]
      simp [List.getElem?_replicate]
      congr 1
      simp
      omega

@[simp] theorem take_map_len {α β : Type} (f : α → β) (l : List α) : List.take l.length (l.map f) = l.map f := by rw [List.take_of_length_le (by simp)]
@[simp] theorem get_app0 {α : Type} (l m : List α) : (l ++ m)[l.length]? = m[0]? := by simp [List.getElem?_append_right]
@[simp] theorem get_app {α : Type} (l m : List α) (k : Nat) : (l ++ m)[l.length + k]? = m[k]? := by
  rw [List.getElem?_append_right (by omega)]
  congr 1
  omega
@[simp] theorem set_app0 {α : Type} (l m : List α) (b : α) : (l ++ m).set l.length b = l ++ m.set 0 b := by
  rw [List.set_append_right _ _ (Nat.le_refl _)]
  simp
@[simp] theorem set_app {α : Type} (l m : List α) (k : Nat) (b : α) : (l ++ m).set (l.length + k) b = l ++ m.set k b := by
  rw [List.set_append_right _ _ (by omega)]
  congr 2
  omega
theorem drop_get {α : Type} {l : List α} {k : Nat} (h : k < l.length) : l.drop k = l[k] :: l.drop (k + 1) := List.drop_eq_getElem_cons h

end Go.Proofs.Ytbmfoijakgccgaa.Am
