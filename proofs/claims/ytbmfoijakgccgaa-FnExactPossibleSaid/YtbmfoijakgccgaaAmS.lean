/- The abstract machine: what its operations yield, by the shape of the operands. No conditions. -/
import Derived.Test.YtbmfoijakgccgaaAmRo
namespace Go.Proofs.Ytbmfoijakgccgaa.Am
open Go Go.RowKit
set_option linter.unusedSimpArgs false
set_option linter.unusedVariables false

theorem ev_tmp (st : St) (t : Nat) : st.ev (.tmp t) = st.env t := rfl
theorem ev_int (st : St) (k : IntKind) (n : Int) : st.ev (.const (.int k n)) = .v (.int k n) := rfl
theorem ev_bool (st : St) (b : Bool) : st.ev (.const (.bool b)) = .v (.bool b) := rfl
theorem ev_string (st : St) (s : ByteArray) : st.ev (.const (.string s)) = .v (.string s) := rfl
theorem ev_nil (st : St) : st.ev (.const (.slice none 0 0)) = .nil := rfl
theorem ev_agg (st : St) (cs : Array Value) : st.ev (.const (.agg cs)) = .agg (cs.toList.map .v) := rfl
theorem ev_func (st : St) (f : FuncId) : st.ev (.func f) = .clo f [] [] := rfl

theorem dstOK_some (nt d : Nat) : dstOK nt (some d) = decide (d < nt) := rfl
theorem dstOK_none (nt : Nat) : dstOK nt none = true := rfl

section
variable {G : Cfg} {t : TypeId} {k : IntKind} {a b : Int} {x y : ByteArray} {p q : Bool}
theorem bin_add : G.bin .add t (.v (.int k a)) (.v (.int k b)) = some (.v (.int k (k.wrap (a + b)))) := by simp [Cfg.bin, Cfg.boolOK, abin]
theorem bin_sub : G.bin .sub t (.v (.int k a)) (.v (.int k b)) = some (.v (.int k (k.wrap (a - b)))) := by simp [Cfg.bin, Cfg.boolOK, abin]
theorem bin_mul : G.bin .mul t (.v (.int k a)) (.v (.int k b)) = some (.v (.int k (k.wrap (a * b)))) := by simp [Cfg.bin, Cfg.boolOK, abin]
theorem bin_quo : G.bin .quo t (.v (.int k a)) (.v (.int k b)) = if b = 0 then none else some (.v (.int k (k.wrap (a.tdiv b)))) := by
  simp only [Cfg.bin, Cfg.boolOK, abin, if_true]; split <;> rfl
theorem bin_rem : G.bin .rem t (.v (.int k a)) (.v (.int k b)) = if b = 0 then none else some (.v (.int k (a.tmod b))) := by
  simp only [Cfg.bin, Cfg.boolOK, abin, if_true]; split <;> rfl
theorem bin_and : G.bin .and t (.v (.int k a)) (.v (.int k b)) = some (.v (.int k (andF k a b))) := by simp [Cfg.bin, Cfg.boolOK, abin]
theorem bin_shl {k' : IntKind} : G.bin .shl t (.v (.int k a)) (.v (.int k' b)) = if b < 0 then none else some (.v (.int k (k.wrap (a * 2 ^ (min b.toNat k.bits))))) := by
  simp only [Cfg.bin, Cfg.boolOK, ashift, if_true]; split <;> rfl
theorem bin_shr {k' : IntKind} : G.bin .shr t (.v (.int k a)) (.v (.int k' b)) = if b < 0 then none else some (.v (.int k (a.fdiv (2 ^ (min b.toNat k.bits))))) := by
  simp only [Cfg.bin, Cfg.boolOK, ashift, if_true]; split <;> rfl
theorem bin_eql : G.bin .eql t (.v (.int k a)) (.v (.int k b)) = some (.v (.bool (decide (a = b)))) := by simp [Cfg.bin, Cfg.boolOK, abin]
theorem bin_neq : G.bin .neq t (.v (.int k a)) (.v (.int k b)) = some (.v (.bool (decide (a ≠ b)))) := by simp [Cfg.bin, Cfg.boolOK, abin]
theorem bin_lss : G.bin .lss t (.v (.int k a)) (.v (.int k b)) = some (.v (.bool (decide (a < b)))) := by simp [Cfg.bin, Cfg.boolOK, abin]
theorem bin_leq : G.bin .leq t (.v (.int k a)) (.v (.int k b)) = some (.v (.bool (decide (a ≤ b)))) := by simp [Cfg.bin, Cfg.boolOK, abin]
theorem bin_gtr : G.bin .gtr t (.v (.int k a)) (.v (.int k b)) = some (.v (.bool (decide (b < a)))) := by simp [Cfg.bin, Cfg.boolOK, abin]
theorem bin_geq : G.bin .geq t (.v (.int k a)) (.v (.int k b)) = some (.v (.bool (decide (b ≤ a)))) := by simp [Cfg.bin, Cfg.boolOK, abin]
theorem bin_sadd : G.bin .add t (.v (.string x)) (.v (.string y)) = if x.size + y.size ≤ 140737488355328 then some (.v (.string (x ++ y))) else none := by
  simp only [Cfg.bin, Cfg.boolOK, abin, if_true]; split <;> rfl
theorem bin_seql : G.bin .eql t (.v (.string x)) (.v (.string y)) = some (.v (.bool (decide (x = y)))) := by simp [Cfg.bin, Cfg.boolOK, abin]
theorem bin_sneq : G.bin .neq t (.v (.string x)) (.v (.string y)) = some (.v (.bool (decide (x ≠ y)))) := by simp [Cfg.bin, Cfg.boolOK, abin]
theorem bin_slss : G.bin .lss t (.v (.string x)) (.v (.string y)) = some (.v (.bool (Op.bytesLess x.data.toList y.data.toList))) := by simp [Cfg.bin, Cfg.boolOK, abin]
theorem bin_sgtr : G.bin .gtr t (.v (.string x)) (.v (.string y)) = some (.v (.bool (!(Op.bytesLess x.data.toList y.data.toList || decide (x = y))))) := by simp [Cfg.bin, Cfg.boolOK, abin]
theorem bin_beql (h : G.isBool t = true) : G.bin .eql t (.v (.bool p)) (.v (.bool q)) = some (.v (.bool (p == q))) := by simp [Cfg.bin, Cfg.boolOK, abin, h]
theorem bin_bneq (h : G.isBool t = true) : G.bin .neq t (.v (.bool p)) (.v (.bool q)) = some (.v (.bool (p != q))) := by simp [Cfg.bin, Cfg.boolOK, abin, h]
theorem bin_veql {a1 a2 a3 b1 b2 b3 : Int} (h : G.verT t = true) : G.bin .eql t (.agg [.v (.int .i64 a1), .v (.int .i64 a2), .v (.int .i64 a3)]) (.agg [.v (.int .i64 b1), .v (.int .i64 b2), .v (.int .i64 b3)]) = some (.v (.bool (decide (a1 = b1 ∧ a2 = b2 ∧ a3 = b3)))) := by simp [Cfg.bin, h]
theorem bin_vneq {a1 a2 a3 b1 b2 b3 : Int} (h : G.verT t = true) : G.bin .neq t (.agg [.v (.int .i64 a1), .v (.int .i64 a2), .v (.int .i64 a3)]) (.agg [.v (.int .i64 b1), .v (.int .i64 b2), .v (.int .i64 b3)]) = some (.v (.bool (decide (¬ (a1 = b1 ∧ a2 = b2 ∧ a3 = b3))))) := by simp [Cfg.bin, h]

theorem aun_not : aun .not (.v (.bool p)) = some (.v (.bool (!p))) := rfl
theorem aun_neg : aun .neg (.v (.int k a)) = some (.v (.int k (k.wrap (0 - a)))) := rfl
theorem apick_b : apick (.v (.bool p)) (.v (.bool true)) (.v (.bool q)) = some (.v (.bool (p || q))) := by cases p <;> rfl
theorem apick_t (x y : AV) : apick (.v (.bool true)) x y = some x := by
  unfold apick
  simp only
  split <;> simp
theorem apick_f (x y : AV) : apick (.v (.bool false)) x y = some y := by
  unfold apick
  simp only
  split <;> simp
theorem apick_bb (b c : Bool) : apick (.v (.bool p)) (.v (.bool b)) (.v (.bool c)) = some (.v (.bool (bif p then b else c))) := rfl

theorem conv_int {m : Mem} {s d : TypeId} {k' : IntKind} (h : G.intK d = some k') : G.conv m s d (.v (.int k a)) = some (.v (.int k' (k'.wrap a))) := by simp [Cfg.conv, h]
theorem conv_str {m : Mem} {s d : TypeId} (h : G.isStr d = true) (h' : G.isStr s = true) : G.conv m s d (.v (.string x)) = some (.v (.string x)) := by simp [Cfg.conv, h, h']

end

theorem one_int (k : IntKind) (n : Int) : (AV.v (.int k n)).one = true := rfl
theorem one_bool (b : Bool) : (AV.v (.bool b)).one = true := rfl
theorem one_string (x : ByteArray) : (AV.v (.string x)).one = true := rfl
theorem one_sl (c : Bool) (es : List (List AV)) : (AV.sl c es).one = true := rfl
theorem one_nil : AV.nil.one = true := rfl

theorem free_v {p : Bool → Prop} {x : Value} : (AV.v x).Free p = True := eq_true (.v x)
theorem free_nil {p : Bool → Prop} : AV.nil.Free p = True := eq_true .nil
theorem free_agg {p : Bool → Prop} {cs : List AV} : (AV.agg cs).Free p = ∀ c ∈ cs, c.Free p := propext ⟨fun h => by cases h with | agg _ h => exact h, .agg cs⟩
theorem free_tup {p : Bool → Prop} {cs : List AV} : (AV.tup cs).Free p = ∀ c ∈ cs, c.Free p := propext ⟨fun h => by cases h with | tup _ h => exact h, .tup cs⟩
theorem free_sl {p : Bool → Prop} {col : Bool} {es : List (List AV)} : (AV.sl col es).Free p = (p col ∧ ∀ e ∈ es, ∀ c ∈ e, c.Free p) := propext ⟨fun h => by cases h with | sl _ _ h h' => exact ⟨h, h'⟩, fun h => .sl col es h.1 h.2⟩
theorem free_el {p : Bool → Prop} {col : Bool} {cs : List AV} : (AV.el col cs).Free p = (p col ∧ ∀ c ∈ cs, c.Free p) := propext ⟨fun h => by cases h with | el _ _ h h' => exact ⟨h, h'⟩, fun h => .el col cs h.1 h.2⟩
theorem free_clo {p : Bool → Prop} {f : FuncId} {pre post : List AV} : (AV.clo f pre post).Free p = ((∀ c ∈ pre, c.Free p) ∧ ∀ c ∈ post, c.Free p) := propext ⟨fun h => by cases h with | clo _ _ _ h h' => exact ⟨h, h'⟩, fun h => .clo f pre post h.1 h.2⟩

attribute [simp] ev_tmp ev_int ev_bool ev_string ev_nil ev_agg ev_func dstOK_some dstOK_none bin_add bin_sub bin_mul bin_quo bin_rem bin_and bin_shl bin_shr bin_eql bin_neq bin_lss bin_leq bin_gtr bin_geq bin_sadd bin_seql bin_sneq bin_slss bin_sgtr bin_beql bin_bneq bin_veql bin_vneq aun_not aun_neg apick_b apick_t apick_f apick_bb conv_int conv_str free_v free_nil free_agg free_tup free_sl free_el free_clo

attribute [simp] Mem.ok aconv anil afieldA afield aindexA aindex aextract abuild abuildSlice amakeSlice abuiltin aslice lowOf upOf Mem.elems Mem.cellsAt Cfg.loadOf Cfg.storeOf Mem.putAt AV.cells one_int one_bool one_string one_sl one_nil splice fillAV lend lend1

end Go.Proofs.Ytbmfoijakgccgaa.Am
