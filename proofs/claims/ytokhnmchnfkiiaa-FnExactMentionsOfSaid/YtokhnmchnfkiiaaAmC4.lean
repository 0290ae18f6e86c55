/- slices.IndexFunc, slices.ContainsFunc: what they return, by what the function handed in returns. No conditions. -/
import Derived.Test.YtokhnmchnfkiiaaAmC2
namespace Go.Proofs.Ytokhnmchnfkiiaa.Am
open Go Go.RowKit Go.Proofs
set_option linter.unusedSimpArgs false
set_option linter.unusedVariables false

/-- For functions that may read the caller's n boxes. -/
noncomputable def Gb (n : Nat) : Cfg := ⟨Try.prog, fun _ => false, fun t => t == 26, fun k => decide (n ≤ k), 0⟩
theorem versb (n : Nat) : (Gb n).Vers := fun t h => vers0 t h
/-- What is handed on is the same when it is handed on again. -/
def Stab (bs : List (List AV)) : Prop := ∀ a, lentBoxes ⟨bs, a⟩ = bs
def StabA (l : List AV) : Prop := ∀ m, l.map (lend m) = l

theorem bcode {f : FuncId} {fn : Func} {c : Code} (hf : Try.prog.funcs[f]? = some fn) (hb : fn.body = some c) (hn : fn.name ≠ "runtime.NumGoroutine") {args : List AV} {bs : List (List AV)} (ha : args.length ≤ fn.ntmps) {r : AV} (hr : r.Free (· = false))
    (h : ∀ ver, acode (Gb bs.length) fn.ntmps c (kRes (Gb bs.length) fn.results.toList r) ⟨envOf (zipEnv 0 args), ⟨bs, noArrs ver⟩⟩) : BCall Try.prog f args bs r :=
  boxes_of_code (G := Gb bs.length) (versb _) mixed0 hf hb hn ha (fun k hk => by simpa [Gb] using hk) hr h

theorem call_b {P : Program} {own : Nat → Bool} {verT : TypeId → Bool} {wr : Nat → Bool} {md : Nat} {dst : Option Tmp} {L : St → Prop} {st : St} {f : FuncId} {xs les : List AV} {r : AV} {bs : List (List AV)} (hp : BCall P f les bs r) (hb : lentBoxes st.mem = bs) (h : L (st.put dst r)) : onCall ⟨P, own, verT, wr, md⟩ f xs les dst L st :=
  call_boxes (G := ⟨P, own, verT, wr, md⟩) hb hp h

def idxQ {α : Type} (q : α → Bool) : List α → Int → Int
  | [], _ => -1
  | a :: l, k => if q a = true then k else idxQ q l (k + 1)
theorem idxQ_any {α : Type} (q : α → Bool) : ∀ (l : List α) (k : Int), 0 ≤ k → decide (0 ≤ idxQ q l k) = l.any q
  | [], k, h => by simp [idxQ]
  | a :: l, k, h => by
    unfold idxQ
    by_cases e : q a = true
    · simp [e, h]
    · simp only [if_neg e]
      rw [idxQ_any q l (k + 1) (by omega)]
      simp [e]

theorem xb_cls (c d : Bool) (l : List (List Trm)) (hl : l.length ≤ 4611686018427387904) (f : FuncId) (pre post : List AV) (bs : List (List AV)) (q : (List Trm) → Bool) (hst : Stab bs) (hs1 : StabA pre) (hs2 : StabA post)
    (h : ∀ a ∈ l, BCall Try.prog f (pre ++ [trmsAV d a] ++ post) bs (.v (.bool (q a)))) : BCall Try.prog 133 [.sl c (l.map (clauseCells d)), .clo f pre post] bs (.v (.int .i64 (idxQ q l 0))) := by
  refine bcode Try.func133 rfl (by decide) (by simp [Try.f133]) (by simp) fun ver => ?_
  simp only [Try.f133, Gb]
  simp
  refine aloop (α := Nat) (fun k => ⟨envOf [(0, .sl c (l.map (clauseCells d))), (1, .clo f pre post), (7, .v (.int .i64 l.length)), (8, .v (.int .i64 k))], ⟨bs, noArrs ver⟩⟩)
    (fun k => k ≤ l.length ∧ idxQ q (l.drop k) k = idxQ q l 0) (fun k => l.length - k) 0 (less_envOf (by simp) rfl fun _ => rfl) (by simp) ?_
  rintro k ⟨hk, hm⟩
  by_cases hlt : k < l.length
  · have hw := wrapS hlt hl
    have hmem : l[k] ∈ l := List.getElem_mem hlt
    rw [drop_get hlt, idxQ] at hm
    have es := hs1
    have es2 := hs2
    unfold StabA at es es2
    simp [hlt]
    simp only [es, es2]
    have h := h
    simp only [List.append_assoc, List.cons_append, List.nil_append, Trm.av, Pk.av, trmsAV] at h
    refine call_b (h _ hmem) (hst _) ?_
    simp (config := { contextual := true }) [-Int.not_lt, -Int.not_le]
    refine And.intro (fun h => ?_) (fun h => ?_)
    · simpa [h] using hm
    · refine ⟨k + 1, less_envOf (by simp [hw]) rfl fun _ => rfl, ⟨by omega, by simpa [h] using hm⟩, by omega⟩
  · rw [List.drop_eq_nil_of_le (by omega)] at hm
    simp [hlt]
    exact hm

theorem cb_cls (c d : Bool) (l : List (List Trm)) (hl : l.length ≤ 4611686018427387904) (f : FuncId) (pre post : List AV) (bs : List (List AV)) (q : (List Trm) → Bool) (hst : Stab bs) (hs1 : StabA pre) (hs2 : StabA post)
    (h : ∀ a ∈ l, BCall Try.prog f (pre ++ [trmsAV d a] ++ post) bs (.v (.bool (q a)))) : BCall Try.prog 110 [.sl c (l.map (clauseCells d)), .clo f pre post] bs (.v (.bool (l.any q))) := by
  rw [← idxQ_any q l 0 (Int.le_refl _)]
  refine bcode Try.func110 rfl (by decide) (by simp [Try.f110]) (by simp) fun ver => ?_
  simp only [Try.f110, Gb]
  simp
  refine call_b (xb_cls c d l hl f pre post bs q hst hs1 hs2 h) (hst _) ?_
  simp

theorem xp_cls (c d : Bool) (l : List (List Trm)) (hl : l.length ≤ 4611686018427387904) (f : FuncId) (pre post : List AV) (q : (List Trm) → Bool) (hs1 : StabA pre) (hs2 : StabA post) (hf1 : ∀ b ∈ pre, AV.Free (fun _ => True) b) (hf2 : ∀ b ∈ post, AV.Free (fun _ => True) b)
    (h : ∀ a ∈ l, Pure Try.prog f (pre ++ [trmsAV d a] ++ post) (.v (.bool (q a)))) : Pure Try.prog 133 [.sl c (l.map (clauseCells d)), .clo f pre post] (.v (.int .i64 (idxQ q l 0))) := by
  refine pure_of_code (G := G0) vers0 mixed0 Try.func133 rfl (by decide) (by simp [Try.f133]) (by simp) fun ver => ?_
  simp only [Try.f133, G0]
  simp
  refine aloop (α := Nat) (fun k => ⟨envOf [(0, .sl c (l.map (clauseCells d))), (1, .clo f pre post), (7, .v (.int .i64 l.length)), (8, .v (.int .i64 k))], ⟨[], noArrs ver⟩⟩)
    (fun k => k ≤ l.length ∧ idxQ q (l.drop k) k = idxQ q l 0) (fun k => l.length - k) 0 (less_envOf (by simp) rfl fun _ => rfl) (by simp) ?_
  rintro k ⟨hk, hm⟩
  by_cases hlt : k < l.length
  · have hw := wrapS hlt hl
    have hmem : l[k] ∈ l := List.getElem_mem hlt
    rw [drop_get hlt, idxQ] at hm
    have es := hs1
    have es2 := hs2
    unfold StabA at es es2
    simp [hlt]
    simp only [es, es2]
    have h := h
    simp only [List.append_assoc, List.cons_append, List.nil_append, Trm.av, Pk.av, trmsAV] at h
    refine call_p (h _ hmem) ?_ ?_
    · intro b hb
      simp only [List.mem_append, List.mem_cons] at hb
      rcases hb with hb | rfl | hb
      · exact hf1 b hb
      · simp
      · exact hf2 b hb
    simp (config := { contextual := true }) [-Int.not_lt, -Int.not_le]
    refine And.intro (fun h => ?_) (fun h => ?_)
    · simpa [h] using hm
    · refine ⟨k + 1, less_envOf (by simp [hw]) rfl fun _ => rfl, ⟨by omega, by simpa [h] using hm⟩, by omega⟩
  · rw [List.drop_eq_nil_of_le (by omega)] at hm
    simp [hlt]
    exact hm

theorem cp_cls (c d : Bool) (l : List (List Trm)) (hl : l.length ≤ 4611686018427387904) (f : FuncId) (pre post : List AV) (q : (List Trm) → Bool) (hs1 : StabA pre) (hs2 : StabA post) (hf1 : ∀ b ∈ pre, AV.Free (fun _ => True) b) (hf2 : ∀ b ∈ post, AV.Free (fun _ => True) b)
    (h : ∀ a ∈ l, Pure Try.prog f (pre ++ [trmsAV d a] ++ post) (.v (.bool (q a)))) : Pure Try.prog 110 [.sl c (l.map (clauseCells d)), .clo f pre post] (.v (.bool (l.any q))) := by
  rw [← idxQ_any q l 0 (Int.le_refl _)]
  refine pure_of_code (G := G0) vers0 mixed0 Try.func110 rfl (by decide) (by simp [Try.f110]) (by simp) fun ver => ?_
  simp only [Try.f110, G0]
  simp
  refine call_p (xp_cls c d l hl f pre post q hs1 hs2 hf1 hf2 h) (by simp; exact ⟨hf1, hf2⟩) ?_
  simp

theorem xb_strs (c : Bool) (l : List ByteArray) (hl : l.length ≤ 4611686018427387904) (f : FuncId) (pre post : List AV) (bs : List (List AV)) (q : ByteArray → Bool) (hst : Stab bs) (hs1 : StabA pre) (hs2 : StabA post)
    (h : ∀ a ∈ l, BCall Try.prog f (pre ++ [.v (.string a)] ++ post) bs (.v (.bool (q a)))) : BCall Try.prog 129 [.sl c (l.map strCells), .clo f pre post] bs (.v (.int .i64 (idxQ q l 0))) := by
  refine bcode Try.func129 rfl (by decide) (by simp [Try.f129]) (by simp) fun ver => ?_
  simp only [Try.f129, Gb]
  simp
  refine aloop (α := Nat) (fun k => ⟨envOf [(0, .sl c (l.map strCells)), (1, .clo f pre post), (7, .v (.int .i64 l.length)), (8, .v (.int .i64 k))], ⟨bs, noArrs ver⟩⟩)
    (fun k => k ≤ l.length ∧ idxQ q (l.drop k) k = idxQ q l 0) (fun k => l.length - k) 0 (less_envOf (by simp) rfl fun _ => rfl) (by simp) ?_
  rintro k ⟨hk, hm⟩
  by_cases hlt : k < l.length
  · have hw := wrapS hlt hl
    have hmem : l[k] ∈ l := List.getElem_mem hlt
    rw [drop_get hlt, idxQ] at hm
    have es := hs1
    have es2 := hs2
    unfold StabA at es es2
    simp [hlt]
    simp only [es, es2]
    have h := h
    simp only [List.append_assoc, List.cons_append, List.nil_append, Trm.av, Pk.av, trmsAV] at h
    refine call_b (h _ hmem) (hst _) ?_
    simp (config := { contextual := true }) [-Int.not_lt, -Int.not_le]
    refine And.intro (fun h => ?_) (fun h => ?_)
    · simpa [h] using hm
    · refine ⟨k + 1, less_envOf (by simp [hw]) rfl fun _ => rfl, ⟨by omega, by simpa [h] using hm⟩, by omega⟩
  · rw [List.drop_eq_nil_of_le (by omega)] at hm
    simp [hlt]
    exact hm

theorem cb_strs (c : Bool) (l : List ByteArray) (hl : l.length ≤ 4611686018427387904) (f : FuncId) (pre post : List AV) (bs : List (List AV)) (q : ByteArray → Bool) (hst : Stab bs) (hs1 : StabA pre) (hs2 : StabA post)
    (h : ∀ a ∈ l, BCall Try.prog f (pre ++ [.v (.string a)] ++ post) bs (.v (.bool (q a)))) : BCall Try.prog 97 [.sl c (l.map strCells), .clo f pre post] bs (.v (.bool (l.any q))) := by
  rw [← idxQ_any q l 0 (Int.le_refl _)]
  refine bcode Try.func97 rfl (by decide) (by simp [Try.f97]) (by simp) fun ver => ?_
  simp only [Try.f97, Gb]
  simp
  refine call_b (xb_strs c l hl f pre post bs q hst hs1 hs2 h) (hst _) ?_
  simp

theorem xp_strs (c : Bool) (l : List ByteArray) (hl : l.length ≤ 4611686018427387904) (f : FuncId) (pre post : List AV) (q : ByteArray → Bool) (hs1 : StabA pre) (hs2 : StabA post) (hf1 : ∀ b ∈ pre, AV.Free (fun _ => True) b) (hf2 : ∀ b ∈ post, AV.Free (fun _ => True) b)
    (h : ∀ a ∈ l, Pure Try.prog f (pre ++ [.v (.string a)] ++ post) (.v (.bool (q a)))) : Pure Try.prog 129 [.sl c (l.map strCells), .clo f pre post] (.v (.int .i64 (idxQ q l 0))) := by
  refine pure_of_code (G := G0) vers0 mixed0 Try.func129 rfl (by decide) (by simp [Try.f129]) (by simp) fun ver => ?_
  simp only [Try.f129, G0]
  simp
  refine aloop (α := Nat) (fun k => ⟨envOf [(0, .sl c (l.map strCells)), (1, .clo f pre post), (7, .v (.int .i64 l.length)), (8, .v (.int .i64 k))], ⟨[], noArrs ver⟩⟩)
    (fun k => k ≤ l.length ∧ idxQ q (l.drop k) k = idxQ q l 0) (fun k => l.length - k) 0 (less_envOf (by simp) rfl fun _ => rfl) (by simp) ?_
  rintro k ⟨hk, hm⟩
  by_cases hlt : k < l.length
  · have hw := wrapS hlt hl
    have hmem : l[k] ∈ l := List.getElem_mem hlt
    rw [drop_get hlt, idxQ] at hm
    have es := hs1
    have es2 := hs2
    unfold StabA at es es2
    simp [hlt]
    simp only [es, es2]
    have h := h
    simp only [List.append_assoc, List.cons_append, List.nil_append, Trm.av, Pk.av, trmsAV] at h
    refine call_p (h _ hmem) ?_ ?_
    · intro b hb
      simp only [List.mem_append, List.mem_cons] at hb
      rcases hb with hb | rfl | hb
      · exact hf1 b hb
      · simp
      · exact hf2 b hb
    simp (config := { contextual := true }) [-Int.not_lt, -Int.not_le]
    refine And.intro (fun h => ?_) (fun h => ?_)
    · simpa [h] using hm
    · refine ⟨k + 1, less_envOf (by simp [hw]) rfl fun _ => rfl, ⟨by omega, by simpa [h] using hm⟩, by omega⟩
  · rw [List.drop_eq_nil_of_le (by omega)] at hm
    simp [hlt]
    exact hm

theorem cp_strs (c : Bool) (l : List ByteArray) (hl : l.length ≤ 4611686018427387904) (f : FuncId) (pre post : List AV) (q : ByteArray → Bool) (hs1 : StabA pre) (hs2 : StabA post) (hf1 : ∀ b ∈ pre, AV.Free (fun _ => True) b) (hf2 : ∀ b ∈ post, AV.Free (fun _ => True) b)
    (h : ∀ a ∈ l, Pure Try.prog f (pre ++ [.v (.string a)] ++ post) (.v (.bool (q a)))) : Pure Try.prog 97 [.sl c (l.map strCells), .clo f pre post] (.v (.bool (l.any q))) := by
  rw [← idxQ_any q l 0 (Int.le_refl _)]
  refine pure_of_code (G := G0) vers0 mixed0 Try.func97 rfl (by decide) (by simp [Try.f97]) (by simp) fun ver => ?_
  simp only [Try.f97, G0]
  simp
  refine call_p (xp_strs c l hl f pre post q hs1 hs2 hf1 hf2 h) (by simp; exact ⟨hf1, hf2⟩) ?_
  simp

theorem xb_pks (c d : Bool) (l : List Pk) (hl : l.length ≤ 4611686018427387904) (f : FuncId) (pre post : List AV) (bs : List (List AV)) (q : Pk → Bool) (hst : Stab bs) (hs1 : StabA pre) (hs2 : StabA post)
    (h : ∀ a ∈ l, BCall Try.prog f (pre ++ [Pk.av d a] ++ post) bs (.v (.bool (q a)))) : BCall Try.prog 113 [.sl c (l.map (Pk.cells d)), .clo f pre post] bs (.v (.int .i64 (idxQ q l 0))) := by
  refine bcode Try.func113 rfl (by decide) (by simp [Try.f113]) (by simp) fun ver => ?_
  simp only [Try.f113, Gb]
  simp
  refine aloop (α := Nat) (fun k => ⟨envOf [(0, .sl c (l.map (Pk.cells d))), (1, .clo f pre post), (7, .v (.int .i64 l.length)), (8, .v (.int .i64 k))], ⟨bs, noArrs ver⟩⟩)
    (fun k => k ≤ l.length ∧ idxQ q (l.drop k) k = idxQ q l 0) (fun k => l.length - k) 0 (less_envOf (by simp) rfl fun _ => rfl) (by simp) ?_
  rintro k ⟨hk, hm⟩
  by_cases hlt : k < l.length
  · have hw := wrapS hlt hl
    have hmem : l[k] ∈ l := List.getElem_mem hlt
    rw [drop_get hlt, idxQ] at hm
    have es := hs1
    have es2 := hs2
    unfold StabA at es es2
    simp [hlt]
    simp only [es, es2]
    have h := h
    simp only [List.append_assoc, List.cons_append, List.nil_append, Trm.av, Pk.av, trmsAV] at h
    refine call_b (h _ hmem) (hst _) ?_
    simp (config := { contextual := true }) [-Int.not_lt, -Int.not_le]
    refine And.intro (fun h => ?_) (fun h => ?_)
    · simpa [h] using hm
    · refine ⟨k + 1, less_envOf (by simp [hw]) rfl fun _ => rfl, ⟨by omega, by simpa [h] using hm⟩, by omega⟩
  · rw [List.drop_eq_nil_of_le (by omega)] at hm
    simp [hlt]
    exact hm

theorem xp_pks (c d : Bool) (l : List Pk) (hl : l.length ≤ 4611686018427387904) (f : FuncId) (pre post : List AV) (q : Pk → Bool) (hs1 : StabA pre) (hs2 : StabA post) (hf1 : ∀ b ∈ pre, AV.Free (fun _ => True) b) (hf2 : ∀ b ∈ post, AV.Free (fun _ => True) b)
    (h : ∀ a ∈ l, Pure Try.prog f (pre ++ [Pk.av d a] ++ post) (.v (.bool (q a)))) : Pure Try.prog 113 [.sl c (l.map (Pk.cells d)), .clo f pre post] (.v (.int .i64 (idxQ q l 0))) := by
  refine pure_of_code (G := G0) vers0 mixed0 Try.func113 rfl (by decide) (by simp [Try.f113]) (by simp) fun ver => ?_
  simp only [Try.f113, G0]
  simp
  refine aloop (α := Nat) (fun k => ⟨envOf [(0, .sl c (l.map (Pk.cells d))), (1, .clo f pre post), (7, .v (.int .i64 l.length)), (8, .v (.int .i64 k))], ⟨[], noArrs ver⟩⟩)
    (fun k => k ≤ l.length ∧ idxQ q (l.drop k) k = idxQ q l 0) (fun k => l.length - k) 0 (less_envOf (by simp) rfl fun _ => rfl) (by simp) ?_
  rintro k ⟨hk, hm⟩
  by_cases hlt : k < l.length
  · have hw := wrapS hlt hl
    have hmem : l[k] ∈ l := List.getElem_mem hlt
    rw [drop_get hlt, idxQ] at hm
    have es := hs1
    have es2 := hs2
    unfold StabA at es es2
    simp [hlt]
    simp only [es, es2]
    have h := h
    simp only [List.append_assoc, List.cons_append, List.nil_append, Trm.av, Pk.av, trmsAV] at h
    refine call_p (h _ hmem) ?_ ?_
    · intro b hb
      simp only [List.mem_append, List.mem_cons] at hb
      rcases hb with hb | rfl | hb
      · exact hf1 b hb
      · simp
      · exact hf2 b hb
    simp (config := { contextual := true }) [-Int.not_lt, -Int.not_le]
    refine And.intro (fun h => ?_) (fun h => ?_)
    · simpa [h] using hm
    · refine ⟨k + 1, less_envOf (by simp [hw]) rfl fun _ => rfl, ⟨by omega, by simpa [h] using hm⟩, by omega⟩
  · rw [List.drop_eq_nil_of_le (by omega)] at hm
    simp [hlt]
    exact hm

theorem xb_ints (c : Bool) (l : List Int) (hl : l.length ≤ 4611686018427387904) (f : FuncId) (pre post : List AV) (bs : List (List AV)) (q : Int → Bool) (hst : Stab bs) (hs1 : StabA pre) (hs2 : StabA post)
    (h : ∀ a ∈ l, BCall Try.prog f (pre ++ [.v (.int .i64 a)] ++ post) bs (.v (.bool (q a)))) : BCall Try.prog 136 [.sl c (l.map intCells), .clo f pre post] bs (.v (.int .i64 (idxQ q l 0))) := by
  refine bcode Try.func136 rfl (by decide) (by simp [Try.f136]) (by simp) fun ver => ?_
  simp only [Try.f136, Gb]
  simp
  refine aloop (α := Nat) (fun k => ⟨envOf [(0, .sl c (l.map intCells)), (1, .clo f pre post), (7, .v (.int .i64 l.length)), (8, .v (.int .i64 k))], ⟨bs, noArrs ver⟩⟩)
    (fun k => k ≤ l.length ∧ idxQ q (l.drop k) k = idxQ q l 0) (fun k => l.length - k) 0 (less_envOf (by simp) rfl fun _ => rfl) (by simp) ?_
  rintro k ⟨hk, hm⟩
  by_cases hlt : k < l.length
  · have hw := wrapS hlt hl
    have hmem : l[k] ∈ l := List.getElem_mem hlt
    rw [drop_get hlt, idxQ] at hm
    have es := hs1
    have es2 := hs2
    unfold StabA at es es2
    simp [hlt]
    simp only [es, es2]
    have h := h
    simp only [List.append_assoc, List.cons_append, List.nil_append, Trm.av, Pk.av, trmsAV] at h
    refine call_b (h _ hmem) (hst _) ?_
    simp (config := { contextual := true }) [-Int.not_lt, -Int.not_le]
    refine And.intro (fun h => ?_) (fun h => ?_)
    · simpa [h] using hm
    · refine ⟨k + 1, less_envOf (by simp [hw]) rfl fun _ => rfl, ⟨by omega, by simpa [h] using hm⟩, by omega⟩
  · rw [List.drop_eq_nil_of_le (by omega)] at hm
    simp [hlt]
    exact hm

theorem cb_ints (c : Bool) (l : List Int) (hl : l.length ≤ 4611686018427387904) (f : FuncId) (pre post : List AV) (bs : List (List AV)) (q : Int → Bool) (hst : Stab bs) (hs1 : StabA pre) (hs2 : StabA post)
    (h : ∀ a ∈ l, BCall Try.prog f (pre ++ [.v (.int .i64 a)] ++ post) bs (.v (.bool (q a)))) : BCall Try.prog 117 [.sl c (l.map intCells), .clo f pre post] bs (.v (.bool (l.any q))) := by
  rw [← idxQ_any q l 0 (Int.le_refl _)]
  refine bcode Try.func117 rfl (by decide) (by simp [Try.f117]) (by simp) fun ver => ?_
  simp only [Try.f117, Gb]
  simp
  refine call_b (xb_ints c l hl f pre post bs q hst hs1 hs2 h) (hst _) ?_
  simp

theorem xp_ints (c : Bool) (l : List Int) (hl : l.length ≤ 4611686018427387904) (f : FuncId) (pre post : List AV) (q : Int → Bool) (hs1 : StabA pre) (hs2 : StabA post) (hf1 : ∀ b ∈ pre, AV.Free (fun _ => True) b) (hf2 : ∀ b ∈ post, AV.Free (fun _ => True) b)
    (h : ∀ a ∈ l, Pure Try.prog f (pre ++ [.v (.int .i64 a)] ++ post) (.v (.bool (q a)))) : Pure Try.prog 136 [.sl c (l.map intCells), .clo f pre post] (.v (.int .i64 (idxQ q l 0))) := by
  refine pure_of_code (G := G0) vers0 mixed0 Try.func136 rfl (by decide) (by simp [Try.f136]) (by simp) fun ver => ?_
  simp only [Try.f136, G0]
  simp
  refine aloop (α := Nat) (fun k => ⟨envOf [(0, .sl c (l.map intCells)), (1, .clo f pre post), (7, .v (.int .i64 l.length)), (8, .v (.int .i64 k))], ⟨[], noArrs ver⟩⟩)
    (fun k => k ≤ l.length ∧ idxQ q (l.drop k) k = idxQ q l 0) (fun k => l.length - k) 0 (less_envOf (by simp) rfl fun _ => rfl) (by simp) ?_
  rintro k ⟨hk, hm⟩
  by_cases hlt : k < l.length
  · have hw := wrapS hlt hl
    have hmem : l[k] ∈ l := List.getElem_mem hlt
    rw [drop_get hlt, idxQ] at hm
    have es := hs1
    have es2 := hs2
    unfold StabA at es es2
    simp [hlt]
    simp only [es, es2]
    have h := h
    simp only [List.append_assoc, List.cons_append, List.nil_append, Trm.av, Pk.av, trmsAV] at h
    refine call_p (h _ hmem) ?_ ?_
    · intro b hb
      simp only [List.mem_append, List.mem_cons] at hb
      rcases hb with hb | rfl | hb
      · exact hf1 b hb
      · simp
      · exact hf2 b hb
    simp (config := { contextual := true }) [-Int.not_lt, -Int.not_le]
    refine And.intro (fun h => ?_) (fun h => ?_)
    · simpa [h] using hm
    · refine ⟨k + 1, less_envOf (by simp [hw]) rfl fun _ => rfl, ⟨by omega, by simpa [h] using hm⟩, by omega⟩
  · rw [List.drop_eq_nil_of_le (by omega)] at hm
    simp [hlt]
    exact hm

theorem cp_ints (c : Bool) (l : List Int) (hl : l.length ≤ 4611686018427387904) (f : FuncId) (pre post : List AV) (q : Int → Bool) (hs1 : StabA pre) (hs2 : StabA post) (hf1 : ∀ b ∈ pre, AV.Free (fun _ => True) b) (hf2 : ∀ b ∈ post, AV.Free (fun _ => True) b)
    (h : ∀ a ∈ l, Pure Try.prog f (pre ++ [.v (.int .i64 a)] ++ post) (.v (.bool (q a)))) : Pure Try.prog 117 [.sl c (l.map intCells), .clo f pre post] (.v (.bool (l.any q))) := by
  rw [← idxQ_any q l 0 (Int.le_refl _)]
  refine pure_of_code (G := G0) vers0 mixed0 Try.func117 rfl (by decide) (by simp [Try.f117]) (by simp) fun ver => ?_
  simp only [Try.f117, G0]
  simp
  refine call_p (xp_ints c l hl f pre post q hs1 hs2 hf1 hf2 h) (by simp; exact ⟨hf1, hf2⟩) ?_
  simp

theorem xb_trms (c : Bool) (l : List Trm) (hl : l.length ≤ 4611686018427387904) (f : FuncId) (pre post : List AV) (bs : List (List AV)) (q : Trm → Bool) (hst : Stab bs) (hs1 : StabA pre) (hs2 : StabA post)
    (h : ∀ a ∈ l, BCall Try.prog f (pre ++ [Trm.av a] ++ post) bs (.v (.bool (q a)))) : BCall Try.prog 142 [.sl c (l.map Trm.cells), .clo f pre post] bs (.v (.int .i64 (idxQ q l 0))) := by
  refine bcode Try.func142 rfl (by decide) (by simp [Try.f142]) (by simp) fun ver => ?_
  simp only [Try.f142, Gb]
  simp
  refine aloop (α := Nat) (fun k => ⟨envOf [(0, .sl c (l.map Trm.cells)), (1, .clo f pre post), (7, .v (.int .i64 l.length)), (8, .v (.int .i64 k))], ⟨bs, noArrs ver⟩⟩)
    (fun k => k ≤ l.length ∧ idxQ q (l.drop k) k = idxQ q l 0) (fun k => l.length - k) 0 (less_envOf (by simp) rfl fun _ => rfl) (by simp) ?_
  rintro k ⟨hk, hm⟩
  by_cases hlt : k < l.length
  · have hw := wrapS hlt hl
    have hmem : l[k] ∈ l := List.getElem_mem hlt
    rw [drop_get hlt, idxQ] at hm
    have es := hs1
    have es2 := hs2
    unfold StabA at es es2
    simp [hlt]
    simp only [es, es2]
    have h := h
    simp only [List.append_assoc, List.cons_append, List.nil_append, Trm.av, Pk.av, trmsAV] at h
    refine call_b (h _ hmem) (hst _) ?_
    simp (config := { contextual := true }) [-Int.not_lt, -Int.not_le]
    refine And.intro (fun h => ?_) (fun h => ?_)
    · simpa [h] using hm
    · refine ⟨k + 1, less_envOf (by simp [hw]) rfl fun _ => rfl, ⟨by omega, by simpa [h] using hm⟩, by omega⟩
  · rw [List.drop_eq_nil_of_le (by omega)] at hm
    simp [hlt]
    exact hm

theorem cb_trms (c : Bool) (l : List Trm) (hl : l.length ≤ 4611686018427387904) (f : FuncId) (pre post : List AV) (bs : List (List AV)) (q : Trm → Bool) (hst : Stab bs) (hs1 : StabA pre) (hs2 : StabA post)
    (h : ∀ a ∈ l, BCall Try.prog f (pre ++ [Trm.av a] ++ post) bs (.v (.bool (q a)))) : BCall Try.prog 137 [.sl c (l.map Trm.cells), .clo f pre post] bs (.v (.bool (l.any q))) := by
  rw [← idxQ_any q l 0 (Int.le_refl _)]
  refine bcode Try.func137 rfl (by decide) (by simp [Try.f137]) (by simp) fun ver => ?_
  simp only [Try.f137, Gb]
  simp
  refine call_b (xb_trms c l hl f pre post bs q hst hs1 hs2 h) (hst _) ?_
  simp

theorem xp_trms (c : Bool) (l : List Trm) (hl : l.length ≤ 4611686018427387904) (f : FuncId) (pre post : List AV) (q : Trm → Bool) (hs1 : StabA pre) (hs2 : StabA post) (hf1 : ∀ b ∈ pre, AV.Free (fun _ => True) b) (hf2 : ∀ b ∈ post, AV.Free (fun _ => True) b)
    (h : ∀ a ∈ l, Pure Try.prog f (pre ++ [Trm.av a] ++ post) (.v (.bool (q a)))) : Pure Try.prog 142 [.sl c (l.map Trm.cells), .clo f pre post] (.v (.int .i64 (idxQ q l 0))) := by
  refine pure_of_code (G := G0) vers0 mixed0 Try.func142 rfl (by decide) (by simp [Try.f142]) (by simp) fun ver => ?_
  simp only [Try.f142, G0]
  simp
  refine aloop (α := Nat) (fun k => ⟨envOf [(0, .sl c (l.map Trm.cells)), (1, .clo f pre post), (7, .v (.int .i64 l.length)), (8, .v (.int .i64 k))], ⟨[], noArrs ver⟩⟩)
    (fun k => k ≤ l.length ∧ idxQ q (l.drop k) k = idxQ q l 0) (fun k => l.length - k) 0 (less_envOf (by simp) rfl fun _ => rfl) (by simp) ?_
  rintro k ⟨hk, hm⟩
  by_cases hlt : k < l.length
  · have hw := wrapS hlt hl
    have hmem : l[k] ∈ l := List.getElem_mem hlt
    rw [drop_get hlt, idxQ] at hm
    have es := hs1
    have es2 := hs2
    unfold StabA at es es2
    simp [hlt]
    simp only [es, es2]
    have h := h
    simp only [List.append_assoc, List.cons_append, List.nil_append, Trm.av, Pk.av, trmsAV] at h
    refine call_p (h _ hmem) ?_ ?_
    · intro b hb
      simp only [List.mem_append, List.mem_cons] at hb
      rcases hb with hb | rfl | hb
      · exact hf1 b hb
      · simp
      · exact hf2 b hb
    simp (config := { contextual := true }) [-Int.not_lt, -Int.not_le]
    refine And.intro (fun h => ?_) (fun h => ?_)
    · simpa [h] using hm
    · refine ⟨k + 1, less_envOf (by simp [hw]) rfl fun _ => rfl, ⟨by omega, by simpa [h] using hm⟩, by omega⟩
  · rw [List.drop_eq_nil_of_le (by omega)] at hm
    simp [hlt]
    exact hm

theorem cp_trms (c : Bool) (l : List Trm) (hl : l.length ≤ 4611686018427387904) (f : FuncId) (pre post : List AV) (q : Trm → Bool) (hs1 : StabA pre) (hs2 : StabA post) (hf1 : ∀ b ∈ pre, AV.Free (fun _ => True) b) (hf2 : ∀ b ∈ post, AV.Free (fun _ => True) b)
    (h : ∀ a ∈ l, Pure Try.prog f (pre ++ [Trm.av a] ++ post) (.v (.bool (q a)))) : Pure Try.prog 137 [.sl c (l.map Trm.cells), .clo f pre post] (.v (.bool (l.any q))) := by
  rw [← idxQ_any q l 0 (Int.le_refl _)]
  refine pure_of_code (G := G0) vers0 mixed0 Try.func137 rfl (by decide) (by simp [Try.f137]) (by simp) fun ver => ?_
  simp only [Try.f137, G0]
  simp
  refine call_p (xp_trms c l hl f pre post q hs1 hs2 hf1 hf2 h) (by simp; exact ⟨hf1, hf2⟩) ?_
  simp

end Go.Proofs.Ytokhnmchnfkiiaa.Am
