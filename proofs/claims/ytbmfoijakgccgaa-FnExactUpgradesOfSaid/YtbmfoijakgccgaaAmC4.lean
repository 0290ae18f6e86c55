/- slices.IndexFunc, slices.ContainsFunc: what they return, by what the function handed in returns. No conditions. -/
import Derived.Test.YtbmfoijakgccgaaAmC2
namespace Go.Proofs.Ytbmfoijakgccgaa.Am
open Go Go.RowKit Go.Proofs
set_option linter.unusedSimpArgs false
set_option linter.unusedVariables false

/-- For functions that may read the caller's n boxes. -/
noncomputable def Gb (n : Nat) : Cfg := ⟨Try.prog, fun _ => false, fun t => t == 31, fun k => decide (n ≤ k), 0⟩
theorem versb (n : Nat) : (Gb n).Vers := fun t h => vers0 t h
/-- What is handed on is the same when it is handed on again. -/
def Stab (bs : List (List AV)) : Prop := ∀ a, lentBoxes ⟨bs, a⟩ = bs
def StabA (l : List AV) : Prop := ∀ m, l.map (lend m) = l

theorem bcode {f : FuncId} {fn : Func} {c : Code} (hf : Try.prog.funcs[f]? = some fn) (hb : fn.body = some c) (hn : fn.name ≠ "runtime.NumGoroutine") {args : List AV} {bs : List (List AV)} (ha : args.length ≤ fn.ntmps) {r : AV} (hr : r.Free (· = false))
    (h : ∀ ver, acode (Gb bs.length) fn.ntmps c (kRes (Gb bs.length) fn.results.toList r) ⟨envOf (zipEnv 0 args), ⟨bs, noArrs ver⟩⟩) : BCall Try.prog f args bs r :=
  boxes_of_code (G := Gb bs.length) (versb _) mixed0 hf hb hn ha (fun k hk => by simpa [Gb] using hk) hr h

theorem call_b {P : Program} {own : Nat → Bool} {verT : TypeId → Bool} {wr : Nat → Bool} {md : Nat} {dst : Option Tmp} {L : St → Prop} {st : St} {f : FuncId} {xs les : List AV} {r : AV} {bs : List (List AV)} (hp : BCall P f les bs r) (hb : lentBoxes st.mem = bs) (h : L (st.put dst r)) : onCall ⟨P, own, verT, wr, md⟩ f xs les dst L st :=
  call_boxes (G := ⟨P, own, verT, wr, md⟩) hb hp h

def idxQ {α : Type} (q : α → Bool) : List α → Int → Int
  | [], _ => -1
  | a :: l, k => if q a = true then k else idxQ q l (k + 1)
theorem idxQ_any {α : Type} (q : α → Bool) : ∀ (l : List α) (k : Int), 0 ≤ k → decide (0 ≤ idxQ q l k) = l.any q
  | [], k, h => by simp [idxQ]
  | a :: l, k, h => by
    unfold idxQ
    by_cases e : q a = true
    · simp [e, h]
    · simp only [if_neg e]
      rw [idxQ_any q l (k + 1) (by omega)]
      simp [e]

theorem xb_cls (c d : Bool) (l : List (List Trm)) (hl : l.length ≤ 4611686018427387904) (f : FuncId) (pre post : List AV) (bs : List (List AV)) (q : (List Trm) → Bool) (hst : Stab bs) (hs1 : StabA pre) (hs2 : StabA post)
    (h : ∀ a ∈ l, BCall Try.prog f (pre ++ [trmsAV d a] ++ post) bs (.v (.bool (q a)))) : BCall Try.prog 152 [.sl c (l.map (clauseCells d)), .clo f pre post] bs (.v (.int .i64 (idxQ q l 0))) := by
  refine bcode Try.func152 rfl (by decide) (by simp [Try.f152]) (by simp) fun ver => ?_
  simp only [Try.f152, Gb]
  simp
  refine aloop (α := Nat) (fun k => ⟨envOf [(0, .sl c (l.map (clauseCells d))), (1, .clo f pre post), (7, .v (.int .i64 l.length)), (8, .v (.int .i64 k))], ⟨bs, noArrs ver⟩⟩)
    (fun k => k ≤ l.length ∧ idxQ q (l.drop k) k = idxQ q l 0) (fun k => l.length - k) 0 (less_envOf (by simp) rfl fun _ => rfl) (by simp) ?_
  rintro k ⟨hk, hm⟩
  by_cases hlt : k < l.length
  · have hw := wrapS hlt hl
    have hmem : l[k] ∈ l := List.getElem_mem hlt
    rw [drop_get hlt, idxQ] at hm
    have es := hs1
    have es2 := hs2
    unfold StabA at es es2
    simp [hlt]
    simp only [es, es2]
    have h := h
    simp only [List.append_assoc, List.cons_append, List.nil_append, Trm.av, Pk.av, trmsAV] at h
    refine call_b (h _ hmem) (hst _) ?_
    simp (config := { contextual := true }) [-Int.not_lt, -Int.not_le]
    refine And.intro (fun h => ?_) (fun h => ?_)
    · simpa [h] using hm
    · refine ⟨k + 1, less_envOf (by simp [hw]) rfl fun _ => rfl, ⟨by omega, by simpa [h] using hm⟩, by omega⟩
  · rw [List.drop_eq_nil_of_le (by omega)] at hm
    simp [hlt]
    exact hm

theorem cb_cls (c d : Bool) (l : List (List Trm)) (hl : l.length ≤ 4611686018427387904) (f : FuncId) (pre post : List AV) (bs : List (List AV)) (q : (List Trm) → Bool) (hst : Stab bs) (hs1 : StabA pre) (hs2 : StabA post)
    (h : ∀ a ∈ l, BCall Try.prog f (pre ++ [trmsAV d a] ++ post) bs (.v (.bool (q a)))) : BCall Try.prog 97 [.sl c (l.map (clauseCells d)), .clo f pre post] bs (.v (.bool (l.any q))) := by
  rw [← idxQ_any q l 0 (Int.le_refl _)]
  refine bcode Try.func97 rfl (by decide) (by simp [Try.f97]) (by simp) fun ver => ?_
  simp only [Try.f97, Gb]
  simp
  refine call_b (xb_cls c d l hl f pre post bs q hst hs1 hs2 h) (hst _) ?_
  simp

theorem xp_cls (c d : Bool) (l : List (List Trm)) (hl : l.length ≤ 4611686018427387904) (f : FuncId) (pre post : List AV) (q : (List Trm) → Bool) (hs1 : StabA pre) (hs2 : StabA post) (hf1 : ∀ b ∈ pre, AV.Free (fun _ => True) b) (hf2 : ∀ b ∈ post, AV.Free (fun _ => True) b)
    (h : ∀ a ∈ l, Pure Try.prog f (pre ++ [trmsAV d a] ++ post) (.v (.bool (q a)))) : Pure Try.prog 152 [.sl c (l.map (clauseCells d)), .clo f pre post] (.v (.int .i64 (idxQ q l 0))) := by
  refine pure_of_code (G := G0) vers0 mixed0 Try.func152 rfl (by decide) (by simp [Try.f152]) (by simp) fun ver => ?_
  simp only [Try.f152, G0]
  simp
  refine aloop (α := Nat) (fun k => ⟨envOf [(0, .sl c (l.map (clauseCells d))), (1, .clo f pre post), (7, .v (.int .i64 l.length)), (8, .v (.int .i64 k))], ⟨[], noArrs ver⟩⟩)
    (fun k => k ≤ l.length ∧ idxQ q (l.drop k) k = idxQ q l 0) (fun k => l.length - k) 0 (less_envOf (by simp) rfl fun _ => rfl) (by simp) ?_
  rintro k ⟨hk, hm⟩
  by_cases hlt : k < l.length
  · have hw := wrapS hlt hl
    have hmem : l[k] ∈ l := List.getElem_mem hlt
    rw [drop_get hlt, idxQ] at hm
    have es := hs1
    have es2 := hs2
    unfold StabA at es es2
    simp [hlt]
    simp only [es, es2]
    have h := h
    simp only [List.append_assoc, List.cons_append, List.nil_append, Trm.av, Pk.av, trmsAV] at h
    refine call_p (h _ hmem) ?_ ?_
    · intro b hb
      simp only [List.mem_append, List.mem_cons] at hb
      rcases hb with hb | rfl | hb
      · exact hf1 b hb
      · simp
      · exact hf2 b hb
    simp (config := { contextual := true }) [-Int.not_lt, -Int.not_le]
    refine And.intro (fun h => ?_) (fun h => ?_)
    · simpa [h] using hm
    · refine ⟨k + 1, less_envOf (by simp [hw]) rfl fun _ => rfl, ⟨by omega, by simpa [h] using hm⟩, by omega⟩
  · rw [List.drop_eq_nil_of_le (by omega)] at hm
    simp [hlt]
    exact hm

theorem cp_cls (c d : Bool) (l : List (List Trm)) (hl : l.length ≤ 4611686018427387904) (f : FuncId) (pre post : List AV) (q : (List Trm) → Bool) (hs1 : StabA pre) (hs2 : StabA post) (hf1 : ∀ b ∈ pre, AV.Free (fun _ => True) b) (hf2 : ∀ b ∈ post, AV.Free (fun _ => True) b)
    (h : ∀ a ∈ l, Pure Try.prog f (pre ++ [trmsAV d a] ++ post) (.v (.bool (q a)))) : Pure Try.prog 97 [.sl c (l.map (clauseCells d)), .clo f pre post] (.v (.bool (l.any q))) := by
  rw [← idxQ_any q l 0 (Int.le_refl _)]
  refine pure_of_code (G := G0) vers0 mixed0 Try.func97 rfl (by decide) (by simp [Try.f97]) (by simp) fun ver => ?_
  simp only [Try.f97, G0]
  simp
  refine call_p (xp_cls c d l hl f pre post q hs1 hs2 hf1 hf2 h) (by simp; exact ⟨hf1, hf2⟩) ?_
  simp

theorem xb_strs (c : Bool) (l : List ByteArray) (hl : l.length ≤ 4611686018427387904) (f : FuncId) (pre post : List AV) (bs : List (List AV)) (q : ByteArray → Bool) (hst : Stab bs) (hs1 : StabA pre) (hs2 : StabA post)
    (h : ∀ a ∈ l, BCall Try.prog f (pre ++ [.v (.string a)] ++ post) bs (.v (.bool (q a)))) : BCall Try.prog 194 [.sl c (l.map strCells), .clo f pre post] bs (.v (.int .i64 (idxQ q l 0))) := by
  refine bcode Try.func194 rfl (by decide) (by simp [Try.f194]) (by simp) fun ver => ?_
  simp only [Try.f194, Gb]
  simp
  refine aloop (α := Nat) (fun k => ⟨envOf [(0, .sl c (l.map strCells)), (1, .clo f pre post), (7, .v (.int .i64 l.length)), (8, .v (.int .i64 k))], ⟨bs, noArrs ver⟩⟩)
    (fun k => k ≤ l.length ∧ idxQ q (l.drop k) k = idxQ q l 0) (fun k => l.length - k) 0 (less_envOf (by simp) rfl fun _ => rfl) (by simp) ?_
  rintro k ⟨hk, hm⟩
  by_cases hlt : k < l.length
  · have hw := wrapS hlt hl
    have hmem : l[k] ∈ l := List.getElem_mem hlt
    rw [drop_get hlt, idxQ] at hm
    have es := hs1
    have es2 := hs2
    unfold StabA at es es2
    simp [hlt]
    simp only [es, es2]
    have h := h
    simp only [List.append_assoc, List.cons_append, List.nil_append, Trm.av, Pk.av, trmsAV] at h
    refine call_b (h _ hmem) (hst _) ?_
    simp (config := { contextual := true }) [-Int.not_lt, -Int.not_le]
    refine And.intro (fun h => ?_) (fun h => ?_)
    · simpa [h] using hm
    · refine ⟨k + 1, less_envOf (by simp [hw]) rfl fun _ => rfl, ⟨by omega, by simpa [h] using hm⟩, by omega⟩
  · rw [List.drop_eq_nil_of_le (by omega)] at hm
    simp [hlt]
    exact hm

theorem cb_strs (c : Bool) (l : List ByteArray) (hl : l.length ≤ 4611686018427387904) (f : FuncId) (pre post : List AV) (bs : List (List AV)) (q : ByteArray → Bool) (hst : Stab bs) (hs1 : StabA pre) (hs2 : StabA post)
    (h : ∀ a ∈ l, BCall Try.prog f (pre ++ [.v (.string a)] ++ post) bs (.v (.bool (q a)))) : BCall Try.prog 157 [.sl c (l.map strCells), .clo f pre post] bs (.v (.bool (l.any q))) := by
  rw [← idxQ_any q l 0 (Int.le_refl _)]
  refine bcode Try.func157 rfl (by decide) (by simp [Try.f157]) (by simp) fun ver => ?_
  simp only [Try.f157, Gb]
  simp
  refine call_b (xb_strs c l hl f pre post bs q hst hs1 hs2 h) (hst _) ?_
  simp

theorem xp_strs (c : Bool) (l : List ByteArray) (hl : l.length ≤ 4611686018427387904) (f : FuncId) (pre post : List AV) (q : ByteArray → Bool) (hs1 : StabA pre) (hs2 : StabA post) (hf1 : ∀ b ∈ pre, AV.Free (fun _ => True) b) (hf2 : ∀ b ∈ post, AV.Free (fun _ => True) b)
    (h : ∀ a ∈ l, Pure Try.prog f (pre ++ [.v (.string a)] ++ post) (.v (.bool (q a)))) : Pure Try.prog 194 [.sl c (l.map strCells), .clo f pre post] (.v (.int .i64 (idxQ q l 0))) := by
  refine pure_of_code (G := G0) vers0 mixed0 Try.func194 rfl (by decide) (by simp [Try.f194]) (by simp) fun ver => ?_
  simp only [Try.f194, G0]
  simp
  refine aloop (α := Nat) (fun k => ⟨envOf [(0, .sl c (l.map strCells)), (1, .clo f pre post), (7, .v (.int .i64 l.length)), (8, .v (.int .i64 k))], ⟨[], noArrs ver⟩⟩)
    (fun k => k ≤ l.length ∧ idxQ q (l.drop k) k = idxQ q l 0) (fun k => l.length - k) 0 (less_envOf (by simp) rfl fun _ => rfl) (by simp) ?_
  rintro k ⟨hk, hm⟩
  by_cases hlt : k < l.length
  · have hw := wrapS hlt hl
    have hmem : l[k] ∈ l := List.getElem_mem hlt
    rw [drop_get hlt, idxQ] at hm
    have es := hs1
    have es2 := hs2
    unfold StabA at es es2
    simp [hlt]
    simp only [es, es2]
    have h := h
    simp only [List.append_assoc, List.cons_append, List.nil_append, Trm.av, Pk.av, trmsAV] at h
    refine call_p (h _ hmem) ?_ ?_
    · intro b hb
      simp only [List.mem_append, List.mem_cons] at hb
      rcases hb with hb | rfl | hb
      · exact hf1 b hb
      · simp
      · exact hf2 b hb
    simp (config := { contextual := true }) [-Int.not_lt, -Int.not_le]
    refine And.intro (fun h => ?_) (fun h => ?_)
    · simpa [h] using hm
    · refine ⟨k + 1, less_envOf (by simp [hw]) rfl fun _ => rfl, ⟨by omega, by simpa [h] using hm⟩, by omega⟩
  · rw [List.drop_eq_nil_of_le (by omega)] at hm
    simp [hlt]
    exact hm

theorem cp_strs (c : Bool) (l : List ByteArray) (hl : l.length ≤ 4611686018427387904) (f : FuncId) (pre post : List AV) (q : ByteArray → Bool) (hs1 : StabA pre) (hs2 : StabA post) (hf1 : ∀ b ∈ pre, AV.Free (fun _ => True) b) (hf2 : ∀ b ∈ post, AV.Free (fun _ => True) b)
    (h : ∀ a ∈ l, Pure Try.prog f (pre ++ [.v (.string a)] ++ post) (.v (.bool (q a)))) : Pure Try.prog 157 [.sl c (l.map strCells), .clo f pre post] (.v (.bool (l.any q))) := by
  rw [← idxQ_any q l 0 (Int.le_refl _)]
  refine pure_of_code (G := G0) vers0 mixed0 Try.func157 rfl (by decide) (by simp [Try.f157]) (by simp) fun ver => ?_
  simp only [Try.f157, G0]
  simp
  refine call_p (xp_strs c l hl f pre post q hs1 hs2 hf1 hf2 h) (by simp; exact ⟨hf1, hf2⟩) ?_
  simp

theorem xb_pks (c d : Bool) (l : List Pk) (hl : l.length ≤ 4611686018427387904) (f : FuncId) (pre post : List AV) (bs : List (List AV)) (q : Pk → Bool) (hst : Stab bs) (hs1 : StabA pre) (hs2 : StabA post)
    (h : ∀ a ∈ l, BCall Try.prog f (pre ++ [Pk.av d a] ++ post) bs (.v (.bool (q a)))) : BCall Try.prog 171 [.sl c (l.map (Pk.cells d)), .clo f pre post] bs (.v (.int .i64 (idxQ q l 0))) := by
  refine bcode Try.func171 rfl (by decide) (by simp [Try.f171]) (by simp) fun ver => ?_
  simp only [Try.f171, Gb]
  simp
  refine aloop (α := Nat) (fun k => ⟨envOf [(0, .sl c (l.map (Pk.cells d))), (1, .clo f pre post), (7, .v (.int .i64 l.length)), (8, .v (.int .i64 k))], ⟨bs, noArrs ver⟩⟩)
    (fun k => k ≤ l.length ∧ idxQ q (l.drop k) k = idxQ q l 0) (fun k => l.length - k) 0 (less_envOf (by simp) rfl fun _ => rfl) (by simp) ?_
  rintro k ⟨hk, hm⟩
  by_cases hlt : k < l.length
  · have hw := wrapS hlt hl
    have hmem : l[k] ∈ l := List.getElem_mem hlt
    rw [drop_get hlt, idxQ] at hm
    have es := hs1
    have es2 := hs2
    unfold StabA at es es2
    simp [hlt]
    simp only [es, es2]
    have h := h
    simp only [List.append_assoc, List.cons_append, List.nil_append, Trm.av, Pk.av, trmsAV] at h
    refine call_b (h _ hmem) (hst _) ?_
    simp (config := { contextual := true }) [-Int.not_lt, -Int.not_le]
    refine And.intro (fun h => ?_) (fun h => ?_)
    · simpa [h] using hm
    · refine ⟨k + 1, less_envOf (by simp [hw]) rfl fun _ => rfl, ⟨by omega, by simpa [h] using hm⟩, by omega⟩
  · rw [List.drop_eq_nil_of_le (by omega)] at hm
    simp [hlt]
    exact hm

theorem xp_pks (c d : Bool) (l : List Pk) (hl : l.length ≤ 4611686018427387904) (f : FuncId) (pre post : List AV) (q : Pk → Bool) (hs1 : StabA pre) (hs2 : StabA post) (hf1 : ∀ b ∈ pre, AV.Free (fun _ => True) b) (hf2 : ∀ b ∈ post, AV.Free (fun _ => True) b)
    (h : ∀ a ∈ l, Pure Try.prog f (pre ++ [Pk.av d a] ++ post) (.v (.bool (q a)))) : Pure Try.prog 171 [.sl c (l.map (Pk.cells d)), .clo f pre post] (.v (.int .i64 (idxQ q l 0))) := by
  refine pure_of_code (G := G0) vers0 mixed0 Try.func171 rfl (by decide) (by simp [Try.f171]) (by simp) fun ver => ?_
  simp only [Try.f171, G0]
  simp
  refine aloop (α := Nat) (fun k => ⟨envOf [(0, .sl c (l.map (Pk.cells d))), (1, .clo f pre post), (7, .v (.int .i64 l.length)), (8, .v (.int .i64 k))], ⟨[], noArrs ver⟩⟩)
    (fun k => k ≤ l.length ∧ idxQ q (l.drop k) k = idxQ q l 0) (fun k => l.length - k) 0 (less_envOf (by simp) rfl fun _ => rfl) (by simp) ?_
  rintro k ⟨hk, hm⟩
  by_cases hlt : k < l.length
  · have hw := wrapS hlt hl
    have hmem : l[k] ∈ l := List.getElem_mem hlt
    rw [drop_get hlt, idxQ] at hm
    have es := hs1
    have es2 := hs2
    unfold StabA at es es2
    simp [hlt]
    simp only [es, es2]
    have h := h
    simp only [List.append_assoc, List.cons_append, List.nil_append, Trm.av, Pk.av, trmsAV] at h
    refine call_p (h _ hmem) ?_ ?_
    · intro b hb
      simp only [List.mem_append, List.mem_cons] at hb
      rcases hb with hb | rfl | hb
      · exact hf1 b hb
      · simp
      · exact hf2 b hb
    simp (config := { contextual := true }) [-Int.not_lt, -Int.not_le]
    refine And.intro (fun h => ?_) (fun h => ?_)
    · simpa [h] using hm
    · refine ⟨k + 1, less_envOf (by simp [hw]) rfl fun _ => rfl, ⟨by omega, by simpa [h] using hm⟩, by omega⟩
  · rw [List.drop_eq_nil_of_le (by omega)] at hm
    simp [hlt]
    exact hm

theorem xb_ints (c : Bool) (l : List Int) (hl : l.length ≤ 4611686018427387904) (f : FuncId) (pre post : List AV) (bs : List (List AV)) (q : Int → Bool) (hst : Stab bs) (hs1 : StabA pre) (hs2 : StabA post)
    (h : ∀ a ∈ l, BCall Try.prog f (pre ++ [.v (.int .i64 a)] ++ post) bs (.v (.bool (q a)))) : BCall Try.prog 189 [.sl c (l.map intCells), .clo f pre post] bs (.v (.int .i64 (idxQ q l 0))) := by
  refine bcode Try.func189 rfl (by decide) (by simp [Try.f189]) (by simp) fun ver => ?_
  simp only [Try.f189, Gb]
  simp
  refine aloop (α := Nat) (fun k => ⟨envOf [(0, .sl c (l.map intCells)), (1, .clo f pre post), (7, .v (.int .i64 l.length)), (8, .v (.int .i64 k))], ⟨bs, noArrs ver⟩⟩)
    (fun k => k ≤ l.length ∧ idxQ q (l.drop k) k = idxQ q l 0) (fun k => l.length - k) 0 (less_envOf (by simp) rfl fun _ => rfl) (by simp) ?_
  rintro k ⟨hk, hm⟩
  by_cases hlt : k < l.length
  · have hw := wrapS hlt hl
    have hmem : l[k] ∈ l := List.getElem_mem hlt
    rw [drop_get hlt, idxQ] at hm
    have es := hs1
    have es2 := hs2
    unfold StabA at es es2
    simp [hlt]
    simp only [es, es2]
    have h := h
    simp only [List.append_assoc, List.cons_append, List.nil_append, Trm.av, Pk.av, trmsAV] at h
    refine call_b (h _ hmem) (hst _) ?_
    simp (config := { contextual := true }) [-Int.not_lt, -Int.not_le]
    refine And.intro (fun h => ?_) (fun h => ?_)
    · simpa [h] using hm
    · refine ⟨k + 1, less_envOf (by simp [hw]) rfl fun _ => rfl, ⟨by omega, by simpa [h] using hm⟩, by omega⟩
  · rw [List.drop_eq_nil_of_le (by omega)] at hm
    simp [hlt]
    exact hm

theorem cb_ints (c : Bool) (l : List Int) (hl : l.length ≤ 4611686018427387904) (f : FuncId) (pre post : List AV) (bs : List (List AV)) (q : Int → Bool) (hst : Stab bs) (hs1 : StabA pre) (hs2 : StabA post)
    (h : ∀ a ∈ l, BCall Try.prog f (pre ++ [.v (.int .i64 a)] ++ post) bs (.v (.bool (q a)))) : BCall Try.prog 144 [.sl c (l.map intCells), .clo f pre post] bs (.v (.bool (l.any q))) := by
  rw [← idxQ_any q l 0 (Int.le_refl _)]
  refine bcode Try.func144 rfl (by decide) (by simp [Try.f144]) (by simp) fun ver => ?_
  simp only [Try.f144, Gb]
  simp
  refine call_b (xb_ints c l hl f pre post bs q hst hs1 hs2 h) (hst _) ?_
  simp

theorem xp_ints (c : Bool) (l : List Int) (hl : l.length ≤ 4611686018427387904) (f : FuncId) (pre post : List AV) (q : Int → Bool) (hs1 : StabA pre) (hs2 : StabA post) (hf1 : ∀ b ∈ pre, AV.Free (fun _ => True) b) (hf2 : ∀ b ∈ post, AV.Free (fun _ => True) b)
    (h : ∀ a ∈ l, Pure Try.prog f (pre ++ [.v (.int .i64 a)] ++ post) (.v (.bool (q a)))) : Pure Try.prog 189 [.sl c (l.map intCells), .clo f pre post] (.v (.int .i64 (idxQ q l 0))) := by
  refine pure_of_code (G := G0) vers0 mixed0 Try.func189 rfl (by decide) (by simp [Try.f189]) (by simp) fun ver => ?_
  simp only [Try.f189, G0]
  simp
  refine aloop (α := Nat) (fun k => ⟨envOf [(0, .sl c (l.map intCells)), (1, .clo f pre post), (7, .v (.int .i64 l.length)), (8, .v (.int .i64 k))], ⟨[], noArrs ver⟩⟩)
    (fun k => k ≤ l.length ∧ idxQ q (l.drop k) k = idxQ q l 0) (fun k => l.length - k) 0 (less_envOf (by simp) rfl fun _ => rfl) (by simp) ?_
  rintro k ⟨hk, hm⟩
  by_cases hlt : k < l.length
  · have hw := wrapS hlt hl
    have hmem : l[k] ∈ l := List.getElem_mem hlt
    rw [drop_get hlt, idxQ] at hm
    have es := hs1
    have es2 := hs2
    unfold StabA at es es2
    simp [hlt]
    simp only [es, es2]
    have h := h
    simp only [List.append_assoc, List.cons_append, List.nil_append, Trm.av, Pk.av, trmsAV] at h
    refine call_p (h _ hmem) ?_ ?_
    · intro b hb
      simp only [List.mem_append, List.mem_cons] at hb
      rcases hb with hb | rfl | hb
      · exact hf1 b hb
      · simp
      · exact hf2 b hb
    simp (config := { contextual := true }) [-Int.not_lt, -Int.not_le]
    refine And.intro (fun h => ?_) (fun h => ?_)
    · simpa [h] using hm
    · refine ⟨k + 1, less_envOf (by simp [hw]) rfl fun _ => rfl, ⟨by omega, by simpa [h] using hm⟩, by omega⟩
  · rw [List.drop_eq_nil_of_le (by omega)] at hm
    simp [hlt]
    exact hm

theorem cp_ints (c : Bool) (l : List Int) (hl : l.length ≤ 4611686018427387904) (f : FuncId) (pre post : List AV) (q : Int → Bool) (hs1 : StabA pre) (hs2 : StabA post) (hf1 : ∀ b ∈ pre, AV.Free (fun _ => True) b) (hf2 : ∀ b ∈ post, AV.Free (fun _ => True) b)
    (h : ∀ a ∈ l, Pure Try.prog f (pre ++ [.v (.int .i64 a)] ++ post) (.v (.bool (q a)))) : Pure Try.prog 144 [.sl c (l.map intCells), .clo f pre post] (.v (.bool (l.any q))) := by
  rw [← idxQ_any q l 0 (Int.le_refl _)]
  refine pure_of_code (G := G0) vers0 mixed0 Try.func144 rfl (by decide) (by simp [Try.f144]) (by simp) fun ver => ?_
  simp only [Try.f144, G0]
  simp
  refine call_p (xp_ints c l hl f pre post q hs1 hs2 hf1 hf2 h) (by simp; exact ⟨hf1, hf2⟩) ?_
  simp

theorem xb_trms (c : Bool) (l : List Trm) (hl : l.length ≤ 4611686018427387904) (f : FuncId) (pre post : List AV) (bs : List (List AV)) (q : Trm → Bool) (hst : Stab bs) (hs1 : StabA pre) (hs2 : StabA post)
    (h : ∀ a ∈ l, BCall Try.prog f (pre ++ [Trm.av a] ++ post) bs (.v (.bool (q a)))) : BCall Try.prog 204 [.sl c (l.map Trm.cells), .clo f pre post] bs (.v (.int .i64 (idxQ q l 0))) := by
  refine bcode Try.func204 rfl (by decide) (by simp [Try.f204]) (by simp) fun ver => ?_
  simp only [Try.f204, Gb]
  simp
  refine aloop (α := Nat) (fun k => ⟨envOf [(0, .sl c (l.map Trm.cells)), (1, .clo f pre post), (7, .v (.int .i64 l.length)), (8, .v (.int .i64 k))], ⟨bs, noArrs ver⟩⟩)
    (fun k => k ≤ l.length ∧ idxQ q (l.drop k) k = idxQ q l 0) (fun k => l.length - k) 0 (less_envOf (by simp) rfl fun _ => rfl) (by simp) ?_
  rintro k ⟨hk, hm⟩
  by_cases hlt : k < l.length
  · have hw := wrapS hlt hl
    have hmem : l[k] ∈ l := List.getElem_mem hlt
    rw [drop_get hlt, idxQ] at hm
    have es := hs1
    have es2 := hs2
    unfold StabA at es es2
    simp [hlt]
    simp only [es, es2]
    have h := h
    simp only [List.append_assoc, List.cons_append, List.nil_append, Trm.av, Pk.av, trmsAV] at h
    refine call_b (h _ hmem) (hst _) ?_
    simp (config := { contextual := true }) [-Int.not_lt, -Int.not_le]
    refine And.intro (fun h => ?_) (fun h => ?_)
    · simpa [h] using hm
    · refine ⟨k + 1, less_envOf (by simp [hw]) rfl fun _ => rfl, ⟨by omega, by simpa [h] using hm⟩, by omega⟩
  · rw [List.drop_eq_nil_of_le (by omega)] at hm
    simp [hlt]
    exact hm

theorem cb_trms (c : Bool) (l : List Trm) (hl : l.length ≤ 4611686018427387904) (f : FuncId) (pre post : List AV) (bs : List (List AV)) (q : Trm → Bool) (hst : Stab bs) (hs1 : StabA pre) (hs2 : StabA post)
    (h : ∀ a ∈ l, BCall Try.prog f (pre ++ [Trm.av a] ++ post) bs (.v (.bool (q a)))) : BCall Try.prog 180 [.sl c (l.map Trm.cells), .clo f pre post] bs (.v (.bool (l.any q))) := by
  rw [← idxQ_any q l 0 (Int.le_refl _)]
  refine bcode Try.func180 rfl (by decide) (by simp [Try.f180]) (by simp) fun ver => ?_
  simp only [Try.f180, Gb]
  simp
  refine call_b (xb_trms c l hl f pre post bs q hst hs1 hs2 h) (hst _) ?_
  simp

theorem xp_trms (c : Bool) (l : List Trm) (hl : l.length ≤ 4611686018427387904) (f : FuncId) (pre post : List AV) (q : Trm → Bool) (hs1 : StabA pre) (hs2 : StabA post) (hf1 : ∀ b ∈ pre, AV.Free (fun _ => True) b) (hf2 : ∀ b ∈ post, AV.Free (fun _ => True) b)
    (h : ∀ a ∈ l, Pure Try.prog f (pre ++ [Trm.av a] ++ post) (.v (.bool (q a)))) : Pure Try.prog 204 [.sl c (l.map Trm.cells), .clo f pre post] (.v (.int .i64 (idxQ q l 0))) := by
  refine pure_of_code (G := G0) vers0 mixed0 Try.func204 rfl (by decide) (by simp [Try.f204]) (by simp) fun ver => ?_
  simp only [Try.f204, G0]
  simp
  refine aloop (α := Nat) (fun k => ⟨envOf [(0, .sl c (l.map Trm.cells)), (1, .clo f pre post), (7, .v (.int .i64 l.length)), (8, .v (.int .i64 k))], ⟨[], noArrs ver⟩⟩)
    (fun k => k ≤ l.length ∧ idxQ q (l.drop k) k = idxQ q l 0) (fun k => l.length - k) 0 (less_envOf (by simp) rfl fun _ => rfl) (by simp) ?_
  rintro k ⟨hk, hm⟩
  by_cases hlt : k < l.length
  · have hw := wrapS hlt hl
    have hmem : l[k] ∈ l := List.getElem_mem hlt
    rw [drop_get hlt, idxQ] at hm
    have es := hs1
    have es2 := hs2
    unfold StabA at es es2
    simp [hlt]
    simp only [es, es2]
    have h := h
    simp only [List.append_assoc, List.cons_append, List.nil_append, Trm.av, Pk.av, trmsAV] at h
    refine call_p (h _ hmem) ?_ ?_
    · intro b hb
      simp only [List.mem_append, List.mem_cons] at hb
      rcases hb with hb | rfl | hb
      · exact hf1 b hb
      · simp
      · exact hf2 b hb
    simp (config := { contextual := true }) [-Int.not_lt, -Int.not_le]
    refine And.intro (fun h => ?_) (fun h => ?_)
    · simpa [h] using hm
    · refine ⟨k + 1, less_envOf (by simp [hw]) rfl fun _ => rfl, ⟨by omega, by simpa [h] using hm⟩, by omega⟩
  · rw [List.drop_eq_nil_of_le (by omega)] at hm
    simp [hlt]
    exact hm

theorem cp_trms (c : Bool) (l : List Trm) (hl : l.length ≤ 4611686018427387904) (f : FuncId) (pre post : List AV) (q : Trm → Bool) (hs1 : StabA pre) (hs2 : StabA post) (hf1 : ∀ b ∈ pre, AV.Free (fun _ => True) b) (hf2 : ∀ b ∈ post, AV.Free (fun _ => True) b)
    (h : ∀ a ∈ l, Pure Try.prog f (pre ++ [Trm.av a] ++ post) (.v (.bool (q a)))) : Pure Try.prog 180 [.sl c (l.map Trm.cells), .clo f pre post] (.v (.bool (l.any q))) := by
  rw [← idxQ_any q l 0 (Int.le_refl _)]
  refine pure_of_code (G := G0) vers0 mixed0 Try.func180 rfl (by decide) (by simp [Try.f180]) (by simp) fun ver => ?_
  simp only [Try.f180, G0]
  simp
  refine call_p (xp_trms c l hl f pre post q hs1 hs2 hf1 hf2 h) (by simp; exact ⟨hf1, hf2⟩) ?_
  simp

end Go.Proofs.Ytbmfoijakgccgaa.Am
