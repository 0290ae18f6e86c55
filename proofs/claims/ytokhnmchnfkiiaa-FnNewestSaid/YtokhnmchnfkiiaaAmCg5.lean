import Derived.Test.YtokhnmchnfkiiaaAmCg4
import Derived.Test.YtokhnmchnfkiiaaAmCg3
/- Functions that write marks into what they are handed. No conditions. -/
namespace Go.Proofs.Ytokhnmchnfkiiaa.Am
open Go Go.RowKit Go.Proofs
set_option linter.unusedSimpArgs false
set_option linter.unusedVariables false

noncomputable def Gw : Cfg := ⟨Try.prog, fun _ => false, fun t => t == 26, fun _ => true, 2⟩
theorem versw : Gw.Vers := fun t h => vers0 t h

/-! ### What is handed on as wild -/

@[simp, reducible] def wintCells (n : Int) : List AV := [.any (.int .i64 n)]
@[simp, reducible] def wstrCells (s : ByteArray) : List AV := [.any (.string s)]
@[simp, reducible] def wtrmCells (t : Trm) : List AV := [.any (.string t.n), .any (.int .i64 t.lo.a), .any (.int .i64 t.lo.b), .any (.int .i64 t.lo.c), .any (.int .i64 t.hi.a), .any (.int .i64 t.hi.b), .any (.int .i64 t.hi.c)]
@[simp, reducible] def wclsCells (l : List Trm) : List AV := [.wsl (l.map wtrmCells)]
@[simp, reducible] def wpkCells (p : Pk) : List AV := [.any (.string p.n), .any (.int .i64 p.v.a), .any (.int .i64 p.v.b), .any (.int .i64 p.v.c), .any (.int .i64 p.s), .wsl (p.pr.map wstrCells), .wsl (p.ne.map wclsCells), .wsl (p.ba.map wtrmCells)]
@[simp, reducible] def wintsAV (l : List Int) : AV := .wsl (l.map wintCells)
@[simp, reducible] def wstrsAV (l : List ByteArray) : AV := .wsl (l.map wstrCells)
@[simp, reducible] def wtrmsAV (l : List Trm) : AV := .wsl (l.map wtrmCells)
@[simp, reducible] def wclsAV (l : List (List Trm)) : AV := .wsl (l.map wclsCells)
@[simp, reducible] def wpksAV (l : List Pk) : AV := .wsl (l.map wpkCells)
@[simp] theorem len_wint (l : List Int) : (l.map wintCells).all (fun e => e.length == 1) = true := all_map_eq l fun _ => rfl
@[simp] theorem len_wstr (l : List ByteArray) : (l.map wstrCells).all (fun e => e.length == 1) = true := all_map_eq l fun _ => rfl
@[simp] theorem len_wtrm (l : List Trm) : (l.map wtrmCells).all (fun e => e.length == 7) = true := all_map_eq l fun _ => rfl
@[simp] theorem len_wcls (l : List (List Trm)) : (l.map wclsCells).all (fun e => e.length == 1) = true := all_map_eq l fun _ => rfl
@[simp] theorem len_wpk (l : List Pk) : (l.map wpkCells).all (fun e => e.length == 8) = true := all_map_eq l fun _ => rfl

theorem wilds_map {α : Type} {f g : α → List AV} (l : List α) (h1 : ∀ a, (g a).length = (f a).length) (h2 : ∀ a, ∀ c ∈ g a, c.wl = true) (h3 : ∀ (a : α) (j : Nat) (c c' : AV), (f a)[j]? = some c → (g a)[j]? = some c' → Wilds c c') : Wilds (.sl false (l.map f)) (.wsl (l.map g)) := by
  refine .sl _ _ (by simp) ?_ ?_ ?_
  · intro i e e' he he'
    rw [List.getElem?_map] at he he'
    cases hl : l[i]? with
    | none => rw [hl] at he; cases he
    | some a => rw [hl] at he he'; cases he; cases he'; exact h1 a
  · intro e' he' c hc
    obtain ⟨a, _, rfl⟩ := List.mem_map.1 he'
    exact h2 a c hc
  · intro i j e e' c c' he he' hc hc'
    rw [List.getElem?_map] at he he'
    cases hl : l[i]? with
    | none => rw [hl] at he; cases he
    | some a => rw [hl] at he he'; cases he; cases he'; exact h3 a j c c' hc hc'

theorem wilds_cells : ∀ {cs cs' : List AV}, cs'.length = cs.length → (∀ p ∈ cs.zip cs', Wilds p.1 p.2) → ∀ (j : Nat) (c c' : AV), cs[j]? = some c → cs'[j]? = some c' → Wilds c c' := by
  intro cs cs' _ h j c c' h1 h2
  refine h (c, c') (List.mem_of_getElem? (i := j) ?_)
  rw [List.getElem?_zip_eq_some]
  exact ⟨h1, h2⟩

theorem wi (k : IntKind) (n : Int) : Wilds (.v (.int k n)) (.any (.int k n)) := .any _ rfl
theorem wst (s : ByteArray) : Wilds (.v (.string s)) (.any (.string s)) := .any _ trivial
theorem wilds_ints (l : List Int) : Wilds (intsAV false l) (wintsAV l) := wilds_map l (fun _ => rfl) (fun _ c hc => by simp at hc; subst hc; rfl) fun a => wilds_cells rfl (by simp [wi])
theorem wilds_strs (l : List ByteArray) : Wilds (strsAV false l) (wstrsAV l) := wilds_map l (fun _ => rfl) (fun _ c hc => by simp at hc; subst hc; rfl) fun a => wilds_cells rfl (by simp [wst])
theorem wilds_trms (l : List Trm) : Wilds (trmsAV false l) (wtrmsAV l) := wilds_map l (fun _ => rfl) (fun _ c hc => by simp at hc; rcases hc with rfl | rfl | rfl | rfl | rfl | rfl | rfl <;> rfl) fun a => wilds_cells rfl (by simp [wi, wst])
theorem wilds_cls (l : List (List Trm)) : Wilds (clausesAV false l) (wclsAV l) := wilds_map l (fun _ => rfl) (fun _ c hc => by simp at hc; subst hc; rfl) fun a => wilds_cells rfl (by simpa using wilds_trms a)
theorem wilds_pk (p : Pk) (j : Nat) (c c' : AV) : (p.cells false)[j]? = some c → (wpkCells p)[j]? = some c' → Wilds c c' := by
  refine wilds_cells (cs := p.cells false) (cs' := wpkCells p) rfl ?_ j c c'
  simp only [Pk.cells, wpkCells, List.zip_cons_cons, List.zip_nil_left, List.mem_cons, List.not_mem_nil, or_false, forall_eq_or_imp, forall_eq]
  exact ⟨wst _, wi _ _, wi _ _, wi _ _, wi _ _, wilds_strs _, wilds_cls _, wilds_trms _⟩
theorem wilds_pks (l : List Pk) : Wilds (pksAV false false l) (wpksAV l) := wilds_map l (fun _ => rfl) (fun _ c hc => by simp at hc; rcases hc with rfl | rfl | rfl | rfl | rfl | rfl | rfl | rfl <;> rfl) fun a => wilds_pk a

/-! ### The marks -/

def mtL (k : Nat) (out : ByteArray) : ByteArray := if h : k = 0 then out else mtL (k / 10) (⟨#[UInt8.ofNat (48 + k % 10)]⟩ ++ out)
termination_by k
decreasing_by omega
/-- The text that marks a number. -/
def markF (k : Int) : ByteArray := if k ≤ 0 then ⟨#[109, 48]⟩ else ⟨#[109]⟩ ++ mtL k.toNat ⟨#[]⟩

theorem p_markText (k : Int) (hk : k ≤ 1099511627776) : Pure Try.prog 82 [.v (.int .i64 k)] (.v (.string (markF k))) := by
  refine pure_of_code (G := (G0)) vers0 mixed0 Try.func82 rfl (by decide) (by simp [Try.f82]) (by simp) fun ver => ?_
  simp only [Try.f82, G0]
  by_cases h0 : k ≤ 0
  · simp [h0, markF]
  have e : markF k = ⟨#[109]⟩ ++ mtL k.toNat ⟨#[]⟩ := by rw [markF, if_neg h0]
  rw [e]
  simp [h0]
  refine aloop (α := Nat × ByteArray) (fun d => ⟨envOf [(0, .v (.int .i64 d.1)), (3, .v (.string d.2))], ⟨[], noArrs ver⟩⟩)
    (fun d => mtL d.1 d.2 = mtL k.toNat ⟨#[]⟩ ∧ d.2.size + d.1 ≤ 1099511627776) (fun d => d.1) (k.toNat, ⟨#[]⟩) (less_envOf (by simp; omega) rfl fun _ => rfl) ⟨rfl, by simp [ByteArray.size]; omega⟩ ?_
  rintro ⟨n, out⟩ ⟨hm, hs⟩
  simp only at hm hs ⊢
  by_cases hn : n = 0
  · subst hn
    rw [mtL, dif_pos rfl] at hm
    have hsz : (⟨#[109]⟩ : ByteArray).size = 1 := rfl
    have hsz2 : 1 + out.size ≤ 140737488355328 := by omega
    simp [hsz, hsz2, ← hm]
  · have hpos : (0 : Int) < n := by omega
    rw [mtL, dif_neg hn] at hm
    have q1 : (n : Int).tmod 10 = (n : Int) % 10 := IntWalk.rem_in _ _ (by omega)
    have q2 : IntKind.i64.wrap ((n : Int).tdiv 10) = (n : Int) / 10 := IntWalk.i64_quo _ _ ⟨by omega, by omega, by omega⟩
    have q2' : IntKind.i64.wrap ((n : Int) / 10) = (n : Int) / 10 := IntWalk.i64_in _ (by omega)
    have q3 : IntKind.i64.wrap (48 + (n : Int) % 10) = 48 + (n : Int) % 10 := IntWalk.i64_in _ (by omega)
    have q4 : IntKind.u8.wrap (48 + (n : Int) % 10) = 48 + (n : Int) % 10 := IntWalk.u8_in _ (by omega)
    have q5 : (0 : Int) ≤ 48 + (n : Int) % 10 ∧ 48 + (n : Int) % 10 < 256 := by omega
    have q6 : (48 + (n : Int) % 10).toNat = 48 + n % 10 := by omega
    have q7 : (⟨#[UInt8.ofNat (48 + n % 10)]⟩ : ByteArray).size + out.size ≤ 140737488355328 := by have : (⟨#[UInt8.ofNat (48 + n % 10)]⟩ : ByteArray).size = 1 := rfl; omega
    have q8 : 0 < n := by omega
    simp [hpos, hn, q1, q2, q2', q3, q4, q5, q6, q7, q8, sealRows, sealCells, List.range_succ, -UInt8.ofNat_add]
    refine ⟨n / 10, ⟨#[UInt8.ofNat (48 + n % 10)]⟩ ++ out, less_envOf (by simp) rfl fun _ => rfl, ⟨hm, ?_⟩, by omega⟩
    rw [ByteArray.size_append]
    have : (⟨#[UInt8.ofNat (48 + n % 10)]⟩ : ByteArray).size = 1 := rfl
    omega

def wloop (n : Nat) : Prop := n ≤ 4611686018427387904
theorem wadd {k : Int} {i j : Nat} (h0 : 0 ≤ k) (h : k + i + j ≤ 1099511627776) : IntKind.i64.wrap (k + (i : Int) + (j : Int)) = k + (i : Int) + (j : Int) := IntWalk.i64_in _ (by omega)

theorem w_ints (l : List Int) (k : Int) (h0 : 0 ≤ k) (hk : k + l.length ≤ 1099511627776) : MCall Try.prog 35 [wintsAV l, .v (.int .i64 k)] (.int .i64 (k + l.length)) := by
  have hl : l.length ≤ 4611686018427387904 := by omega
  refine mcall_of_code (G := Gw) versw mixed0 Try.func35 rfl (by decide) (by simp [Try.f35]) fun ver => ?_
  simp only [Try.f35, Gw]
  simp
  refine aloop (α := Nat) (fun i => ⟨envOf [(0, wintsAV l), (1, .v (.int .i64 (k + i))), (5, .v (.int .i64 i))], ⟨[], noArrs ver⟩⟩)
    (fun i => i ≤ l.length) (fun i => l.length - i) 0 (less_envOf (by simp) rfl fun _ => rfl) (by simp) ?_
  intro i hi
  by_cases hlt : i < l.length
  · have hw := wrapS hlt hl
    have hw2 : IntKind.i64.wrap (k + (i : Int) + 1) = k + ((i + 1 : Nat) : Int) := by rw [IntWalk.i64_in _ (by omega)]; omega
    simp [hlt]
    exact ⟨i + 1, less_envOf (by simp [hw, hw2]) rfl fun _ => rfl, by omega, by omega⟩
  · have e : i = l.length := by omega
    subst e
    simp

theorem w_strs (l : List ByteArray) (k : Int) (h0 : 0 ≤ k) (hk : k + l.length ≤ 1099511627776) : MCall Try.prog 68 [wstrsAV l, .v (.int .i64 k)] (.int .i64 (k + l.length)) := by
  have hl : l.length ≤ 4611686018427387904 := by omega
  refine mcall_of_code (G := Gw) versw mixed0 Try.func68 rfl (by decide) (by simp [Try.f68]) fun ver => ?_
  simp only [Try.f68, Gw]
  simp
  refine aloop (α := Nat) (fun i => ⟨envOf [(0, wstrsAV l), (1, .v (.int .i64 (k + i))), (5, .v (.int .i64 i))], ⟨[], noArrs ver⟩⟩)
    (fun i => i ≤ l.length) (fun i => l.length - i) 0 (less_envOf (by simp) rfl fun _ => rfl) (by simp) ?_
  intro i hi
  by_cases hlt : i < l.length
  · have hw := wrapS hlt hl
    have hw2 : IntKind.i64.wrap (k + (i : Int) + 1) = k + ((i + 1 : Nat) : Int) := by rw [IntWalk.i64_in _ (by omega)]; omega
    simp [hlt]
    refine call_p (p_markText _ (by omega)) (by simp) ?_
    simp [hlt]
    exact ⟨i + 1, less_envOf (by simp [hw, hw2]) rfl fun _ => rfl, by omega, by omega⟩
  · have e : i = l.length := by omega
    subst e
    simp

end Go.Proofs.Ytokhnmchnfkiiaa.Am

/- Slices of numbers: cloned, cut down by a function. No conditions. -/
namespace Go.Proofs.Ytokhnmchnfkiiaa.Am
open Go Go.RowKit Go.Proofs
set_option linter.unusedSimpArgs false
set_option linter.unusedVariables false

/-- As Gb, with one slot whose new slice is the call's own. -/
noncomputable def Gob (n t0 : Nat) : Cfg := ⟨Try.prog, fun t => t == t0, fun t => t == 26, fun k => decide (n ≤ k), 0⟩
theorem versob (n t0 : Nat) : (Gob n t0).Vers := fun t h => vers0 t h

/-- One array of the call's own: at place p, in version v. -/
def arr1 (p v : Nat) (e : TypeId) (es : List (List AV)) : Nat → ArrSt := fun j => if j = p then ⟨v, true, e, es⟩ else ⟨0, false, 0, []⟩
theorem inArrs_some (e : TypeId) (es : List (List AV)) : inArrs (some (e, es)) = arr1 0 0 e es := rfl
@[simp] theorem arr1_self (p v : Nat) (e : TypeId) (es : List (List AV)) : arr1 p v e es p = ⟨v, true, e, es⟩ := by simp [arr1]
theorem arr1_put (p v : Nat) (e : TypeId) (es es' : List (List AV)) (w : Nat) : (fun j => if j = p then (⟨w, true, e, es'⟩ : ArrSt) else arr1 p v e es j) = arr1 p w e es' := by
  funext j
  simp only [arr1]
  by_cases h : j = p <;> simp [h]

@[simp] theorem one_arr (i n o l : Nat) : (AV.arr i n o l).one = true := rfl
@[simp] theorem free_dead {p : Bool → Prop} : AV.dead.Free p = True := eq_true .dead
theorem closed_v (x : Value) : (AV.v x).closed := .v x
theorem closed_box (k off : Nat) : (AV.box k off).closed := .box k off
theorem closed_rows {α : Type} {g : α → List AV} (l : List α) (h : ∀ a, ∀ c ∈ g a, c.closed) : ∀ e ∈ l.map g, ∀ c ∈ e, c.closed := by
  intro e he c hc
  obtain ⟨a, _, rfl⟩ := List.mem_map.1 he
  exact h a c hc
theorem cl_int (l : List Int) : ∀ e ∈ l.map intCells, ∀ c ∈ e, c.closed := closed_rows l fun a c hc => by simp at hc; subst hc; exact .v _
theorem cl_str (l : List ByteArray) : ∀ e ∈ l.map strCells, ∀ c ∈ e, c.closed := closed_rows l fun a c hc => by simp at hc; subst hc; exact .v _
theorem cl_trm (l : List Trm) : ∀ e ∈ l.map Trm.cells, ∀ c ∈ e, c.closed := closed_rows l fun a c hc => by simp at hc; rcases hc with rfl | rfl | rfl | rfl | rfl | rfl | rfl <;> exact .v _
theorem cl_cls (k : Bool) (l : List (List Trm)) : ∀ e ∈ l.map (clauseCells k), ∀ c ∈ e, c.closed := closed_rows l fun a c hc => by simp at hc; subst hc; exact .sl _ _ (cl_trm a)
theorem cl_pkc (k : Bool) (p : Pk) : ∀ c ∈ p.cells k, c.closed := by
  intro c hc
  simp at hc
  rcases hc with rfl | rfl | rfl | rfl | rfl | rfl | rfl | rfl
  iterate 5 exact .v _
  · exact .sl _ _ (cl_str _)
  · exact .sl _ _ (cl_cls _ _)
  · exact .sl _ _ (cl_trm _)
theorem cl_pk (k : Bool) (l : List Pk) : ∀ e ∈ l.map (Pk.cells k), ∀ c ∈ e, c.closed := closed_rows l fun a => cl_pkc k a
theorem closed_ints (k : Bool) (l : List Int) : (intsAV k l).closed := .sl _ _ (cl_int l)
theorem closed_pks (k k' : Bool) (l : List Pk) : (pksAV k k' l).closed := .sl _ _ (cl_pk k' l)

theorem idxQ_none {α : Type} (q : α → Bool) : ∀ (l : List α) (k : Int), 0 ≤ k → idxQ q l k = -1 → ∀ a ∈ l, q a = false
  | [], _, _, _, a, h => by cases h
  | b :: l, k, h0, h, a, ha => by
    unfold idxQ at h
    split at h
    · omega
    · rename_i hb
      rcases List.mem_cons.1 ha with rfl | ha
      · simpa using hb
      · exact idxQ_none q l (k + 1) (by omega) h a ha
theorem idxQ_some {α : Type} (q : α → Bool) : ∀ (l : List α) (k : Int), 0 ≤ k → idxQ q l k ≠ -1 → ∃ i, idxQ q l k = k + (i : Nat) ∧ i < l.length ∧ (∀ a ∈ l.take i, q a = false) ∧ ∀ h : i < l.length, q l[i] = true
  | [], _, _, h => by simp [idxQ] at h
  | b :: l, k, h0, h => by
    unfold idxQ at h ⊢
    split at h
    · rename_i hb
      rw [if_pos hb]
      exact ⟨0, by simp, by simp, by simp, fun _ => hb⟩
    · rename_i hb
      rw [if_neg hb]
      obtain ⟨i, h1, h2, h3, h4⟩ := idxQ_some q l (k + 1) (by omega) h
      refine ⟨i + 1, by rw [h1]; omega, by simpa using h2, ?_, fun h => by simpa using h4 (by simpa using h)⟩
      intro a ha
      rw [List.take_succ_cons] at ha
      rcases List.mem_cons.1 ha with rfl | ha
      · simpa using hb
      · exact h3 a ha

end Go.Proofs.Ytokhnmchnfkiiaa.Am

/- Marks on arrays of the law's own: written, and found again. No conditions. -/
namespace Go.Proofs.Ytokhnmchnfkiiaa.Am
open Go Go.RowKit Go.Proofs
set_option linter.unusedSimpArgs false
set_option linter.unusedVariables false

def mlist (k : Int) (n : Nat) : List Int := (List.range n).map fun i => k + (i : Nat)
@[simp] theorem mlist_length (k : Int) (n : Nat) : (mlist k n).length = n := by simp [mlist]
theorem mlist_get {k : Int} {n i : Nat} (h : i < n) : (mlist k n)[i]'(by simpa using h) = k + (i : Nat) := by simp [mlist]
@[simp] theorem mlist_getElem (k : Int) (n i : Nat) (h : i < (mlist k n).length) : (mlist k n)[i] = k + (i : Nat) := by simp [mlist]
theorem mlist_succ (k : Int) (n : Nat) : mlist k (n + 1) = mlist k n ++ [k + (n : Nat)] := by simp [mlist, List.range_succ]
/-- The first i elements marked. -/
def curI (k : Int) (l : List Int) (i : Nat) : List Int := mlist k i ++ l.drop i
@[simp] theorem curI_length (k : Int) (l : List Int) (i : Nat) (h : i ≤ l.length) : (curI k l i).length = l.length := by simp [curI]; omega
theorem curI_set {k : Int} {l : List Int} {i : Nat} (h : i < l.length) : (curI k l i).set i (k + (i : Nat)) = curI k l (i + 1) := by
  simp only [curI]
  rw [List.set_append, if_neg (by simp), mlist_length, Nat.sub_self, drop_get h, List.set_cons_zero, mlist_succ]
  simp

theorem o_markInts (l : List Int) (k : Int) (h0 : 0 ≤ k) (hk : k + l.length ≤ 1099511627776) :
    OCall Try.prog 35 (some (2, l.map intCells)) [.arr 0 0 0 l.length, .v (.int .i64 k)] (some (true, 2, (mlist k l.length).map intCells)) (.v (.int .i64 (k + l.length))) := by
  have hl : l.length ≤ 4611686018427387904 := by omega
  refine own_of_code (G := G0) vers0 mixed0 Try.func35 rfl (by decide) (by simp [Try.f35]) 0 (.v _) (by intro s e es h; cases h; exact fr_int _) ?_
  simp only [Try.f35, G0, inArrs_some]
  simp
  refine aloop (α := Nat) (fun i => ⟨envOf [(0, .arr 0 0 0 l.length), (1, .v (.int .i64 (k + i))), (5, .v (.int .i64 i))], ⟨[], arr1 0 0 2 ((curI k l i).map intCells)⟩⟩)
    (fun i => i ≤ l.length) (fun i => l.length - i) 0 (less_envOf (by simp) rfl (by simp [curI, mlist])) (by simp) ?_
  intro i hi
  by_cases hlt : i < l.length
  · have hw := wrapS hlt hl
    have hw2 : IntKind.i64.wrap (k + (i : Int) + 1) = k + ((i + 1 : Nat) : Int) := by rw [IntWalk.i64_in _ (by omega)]; omega
    have hc : (curI k l i).length = l.length := curI_length k l i hi
    simp [hlt, hc]
    refine ⟨i + 1, less_envOf (by simp [hw, hw2]) rfl ?_, by omega, by omega⟩
    intro j
    rw [← curI_set hlt]
    by_cases hj : j = 0 <;> simp [hj, arr1]
  · have e : i = l.length := by omega
    subst e
    simp [curI]

theorem p_markInts0 (c : Bool) (k : Int) : Pure Try.prog 35 [.sl c [], .v (.int .i64 k)] (.v (.int .i64 k)) := by
  refine pure_of_code (G := (G0)) vers0 mixed0 Try.func35 rfl (by decide) (by simp [Try.f35]) (by simp) fun ver => ?_
  simp only [Try.f35, G0]
  simp
  refine aloop (α := Unit) (fun _ => ⟨envOf [(0, .sl c []), (1, .v (.int .i64 k)), (5, .v (.int .i64 0))], ⟨[], noArrs ver⟩⟩)
    (fun _ => True) (fun _ => 0) () (less_envOf (by simp) rfl fun _ => rfl) trivial ?_
  intro _ _
  simp

end Go.Proofs.Ytokhnmchnfkiiaa.Am

/- Functions that write marks into what they are handed: terms, packages. No conditions. -/
namespace Go.Proofs.Ytokhnmchnfkiiaa.Am
open Go Go.RowKit Go.Proofs
set_option linter.unusedSimpArgs false
set_option linter.unusedVariables false

theorem cond_t {G : Cfg} {nt : Nat} {c : Operand} {x y : Code} {K : Exit → St → Prop} {st : St} (h : st.ev c = .v (.bool true)) (hx : acode G nt x K st) : acode G nt (.cond c x y) K st := by
  rw [acode_cond, h, onBool_b]
  exact ⟨fun _ => hx, fun e => by cases e⟩

theorem w_trms (l : List Trm) (k : Int) (h0 : 0 ≤ k) (hk : k + mkT l ≤ 1099511627776) : MCall Try.prog 34 [wtrmsAV l, .v (.int .i64 k)] (.int .i64 (k + mkT l)) := by
  unfold mkT at hk ⊢
  have hl : l.length ≤ 4611686018427387904 := by omega
  refine mcall_of_code (G := Gw) versw mixed0 Try.func34 rfl (by decide) (by simp [Try.f34]) fun ver => ?_
  simp only [Try.f34, Gw]
  simp
  refine aloop (α := Nat) (fun i => ⟨envOf [(0, wtrmsAV l), (1, .v (.int .i64 (k + ((7 * i : Nat) : Int)))), (5, .v (.int .i64 i))], ⟨[], noArrs ver⟩⟩)
    (fun i => i ≤ l.length) (fun i => l.length - i) 0 (less_envOf (by simp) rfl fun _ => rfl) (by simp) ?_
  intro i hi
  by_cases hlt : i < l.length
  · have hw := wrapS hlt hl
    have b : ∀ m : Int, 0 ≤ m → m ≤ 1099511627786 → IntKind.i64.wrap (m + 1) = m + 1 := fun m _ _ => IntWalk.i64_in _ (by omega)
    obtain ⟨m, hm⟩ : ∃ m : Int, m = k + ((7 * i : Nat) : Int) := ⟨_, rfl⟩
    rw [← hm]
    repeat first | rw [acode_seq] | rw [acode_block]
    refine acode_cutE ⟨[], noArrs ver⟩ (fun E => E 0 = wtrmsAV l ∧ E 1 = .v (.int .i64 (m)) ∧ E 5 = .v (.int .i64 i) ∧ E 9 = .v (.bool true)) ?_ ?_
    · simp [hlt]
    rintro E ⟨z0, z1, z5, z9⟩
    repeat first | rw [kSeq_normal] | rw [acode_seq]
    refine cond_t z9 ?_
    repeat first | rw [acode_skip] | rw [kSeq_normal] | rw [acode_seq] | rw [acode_block]
    refine acode_cutE ⟨[], noArrs ver⟩ (fun E => E 0 = wtrmsAV l ∧ E 1 = .v (.int .i64 (m)) ∧ E 5 = .v (.int .i64 i)) ?_ ?_
    · simp [z0, z1, z5, hlt]
      refine call_p (p_markText _ (by omega)) (by simp) ?_
      simp [z0, z1, z5, hlt]
    rintro E ⟨z0, z1, z5⟩
    repeat first | rw [kSeq_normal] | rw [acode_seq]
    have hb0 := b m (by omega) (by omega)
    refine acode_cutE ⟨[], noArrs ver⟩ (fun E => E 0 = wtrmsAV l ∧ E 1 = .v (.int .i64 (m + 1)) ∧ E 5 = .v (.int .i64 i)) ?_ ?_
    · simp [z0, z1, z5, hlt, hb0]
    rintro E ⟨z0, z1, z5⟩
    repeat first | rw [kSeq_normal] | rw [acode_seq]
    refine acode_cutE ⟨[], noArrs ver⟩ (fun E => E 0 = wtrmsAV l ∧ E 1 = .v (.int .i64 (m + 1)) ∧ E 5 = .v (.int .i64 i)) ?_ ?_
    · simp [z0, z1, z5, hlt]
    rintro E ⟨z0, z1, z5⟩
    repeat first | rw [kSeq_normal] | rw [acode_seq]
    have hb1 : IntKind.i64.wrap (m + 1 + 1) = m + 2 := by rw [b _ (by omega) (by omega)]; omega
    refine acode_cutE ⟨[], noArrs ver⟩ (fun E => E 0 = wtrmsAV l ∧ E 1 = .v (.int .i64 (m + 2)) ∧ E 5 = .v (.int .i64 i)) ?_ ?_
    · simp [z0, z1, z5, hlt, hb1]
    rintro E ⟨z0, z1, z5⟩
    repeat first | rw [kSeq_normal] | rw [acode_seq]
    refine acode_cutE ⟨[], noArrs ver⟩ (fun E => E 0 = wtrmsAV l ∧ E 1 = .v (.int .i64 (m + 2)) ∧ E 5 = .v (.int .i64 i)) ?_ ?_
    · simp [z0, z1, z5, hlt]
    rintro E ⟨z0, z1, z5⟩
    repeat first | rw [kSeq_normal] | rw [acode_seq]
    have hb2 : IntKind.i64.wrap (m + 2 + 1) = m + 3 := by rw [b _ (by omega) (by omega)]; omega
    refine acode_cutE ⟨[], noArrs ver⟩ (fun E => E 0 = wtrmsAV l ∧ E 1 = .v (.int .i64 (m + 3)) ∧ E 5 = .v (.int .i64 i)) ?_ ?_
    · simp [z0, z1, z5, hlt, hb2]
    rintro E ⟨z0, z1, z5⟩
    repeat first | rw [kSeq_normal] | rw [acode_seq]
    refine acode_cutE ⟨[], noArrs ver⟩ (fun E => E 0 = wtrmsAV l ∧ E 1 = .v (.int .i64 (m + 3)) ∧ E 5 = .v (.int .i64 i)) ?_ ?_
    · simp [z0, z1, z5, hlt]
    rintro E ⟨z0, z1, z5⟩
    repeat first | rw [kSeq_normal] | rw [acode_seq]
    have hb3 : IntKind.i64.wrap (m + 3 + 1) = m + 4 := by rw [b _ (by omega) (by omega)]; omega
    refine acode_cutE ⟨[], noArrs ver⟩ (fun E => E 0 = wtrmsAV l ∧ E 1 = .v (.int .i64 (m + 4)) ∧ E 5 = .v (.int .i64 i)) ?_ ?_
    · simp [z0, z1, z5, hlt, hb3]
    rintro E ⟨z0, z1, z5⟩
    repeat first | rw [kSeq_normal] | rw [acode_seq]
    refine acode_cutE ⟨[], noArrs ver⟩ (fun E => E 0 = wtrmsAV l ∧ E 1 = .v (.int .i64 (m + 4)) ∧ E 5 = .v (.int .i64 i)) ?_ ?_
    · simp [z0, z1, z5, hlt]
    rintro E ⟨z0, z1, z5⟩
    repeat first | rw [kSeq_normal] | rw [acode_seq]
    have hb4 : IntKind.i64.wrap (m + 4 + 1) = m + 5 := by rw [b _ (by omega) (by omega)]; omega
    refine acode_cutE ⟨[], noArrs ver⟩ (fun E => E 0 = wtrmsAV l ∧ E 1 = .v (.int .i64 (m + 5)) ∧ E 5 = .v (.int .i64 i)) ?_ ?_
    · simp [z0, z1, z5, hlt, hb4]
    rintro E ⟨z0, z1, z5⟩
    repeat first | rw [kSeq_normal] | rw [acode_seq]
    refine acode_cutE ⟨[], noArrs ver⟩ (fun E => E 0 = wtrmsAV l ∧ E 1 = .v (.int .i64 (m + 5)) ∧ E 5 = .v (.int .i64 i)) ?_ ?_
    · simp [z0, z1, z5, hlt]
    rintro E ⟨z0, z1, z5⟩
    repeat first | rw [kSeq_normal] | rw [acode_seq]
    have hb5 : IntKind.i64.wrap (m + 5 + 1) = m + 6 := by rw [b _ (by omega) (by omega)]; omega
    refine acode_cutE ⟨[], noArrs ver⟩ (fun E => E 0 = wtrmsAV l ∧ E 1 = .v (.int .i64 (m + 6)) ∧ E 5 = .v (.int .i64 i)) ?_ ?_
    · simp [z0, z1, z5, hlt, hb5]
    rintro E ⟨z0, z1, z5⟩
    repeat first | rw [kSeq_normal] | rw [acode_seq]
    refine acode_cutE ⟨[], noArrs ver⟩ (fun E => E 0 = wtrmsAV l ∧ E 1 = .v (.int .i64 (m + 6)) ∧ E 5 = .v (.int .i64 i)) ?_ ?_
    · simp [z0, z1, z5, hlt]
    rintro E ⟨z0, z1, z5⟩
    repeat first | rw [kSeq_normal] | rw [acode_seq]
    have hb6 : IntKind.i64.wrap (m + 6 + 1) = m + 7 := by rw [b _ (by omega) (by omega)]; omega
    refine acode_cutE ⟨[], noArrs ver⟩ (fun E => E 0 = wtrmsAV l ∧ E 1 = .v (.int .i64 (m + 7)) ∧ E 5 = .v (.int .i64 i)) ?_ ?_
    · simp [z0, z1, z5, hlt, hb6]
    rintro E ⟨z0, z1, z5⟩
    repeat first | rw [kSeq_normal] | rw [acode_seq]
    simp [z5]
    exact ⟨i + 1, less_envOf (by simp [z0, z1, z5, hw, hm]; omega) rfl fun _ => rfl, by omega, by omega⟩
  · have e : i = l.length := by omega
    subst e
    simp

theorem w_cls (l : List (List Trm)) (k : Int) (h0 : 0 ≤ k) (hk : k + mkC l ≤ 1099511627776) (hl : l.length ≤ 4611686018427387904) : MCall Try.prog 69 [wclsAV l, .v (.int .i64 k)] (.int .i64 (k + mkC l)) := by
  refine mcall_of_code (G := Gw) versw mixed0 Try.func69 rfl (by decide) (by simp [Try.f69]) fun ver => ?_
  simp only [Try.f69, Gw]
  simp
  refine aloop (α := Nat × Int) (fun d => ⟨envOf [(0, wclsAV l), (1, .v (.int .i64 d.2)), (5, .v (.int .i64 d.1))], ⟨[], noArrs ver⟩⟩)
    (fun d => d.1 ≤ l.length ∧ 0 ≤ d.2 ∧ d.2 + mkC (l.drop d.1) = k + mkC l) (fun d => l.length - d.1) (0, k) (less_envOf (by simp) rfl fun _ => rfl) ⟨by simp, h0, rfl⟩ ?_
  rintro ⟨i, m⟩ ⟨hi, hm0, hm⟩
  simp only at hi hm0 hm ⊢
  by_cases hlt : i < l.length
  · have hw := wrapS hlt hl
    rw [drop_get hlt, mkC] at hm
    simp [hlt]
    refine call_w (w_trms l[i] m hm0 (by omega)) (by simp) ?_
    simp
    exact ⟨i + 1, m + mkT l[i], less_envOf (by simp [hw]) rfl fun _ => rfl, ⟨by omega, by omega, by omega⟩, by omega⟩
  · rw [List.drop_eq_nil_of_le (by omega), mkC] at hm
    simp [hlt]
    omega

theorem w_pk (p : Pk) (hp : p.Len) (k : Int) (h0 : 0 ≤ k) (hk : k + mkP p ≤ 1099511627776) : MCall Try.prog 20 [.agg (wpkCells p), .v (.int .i64 k)] (.int .i64 (k + mkP p)) := by
  obtain ⟨hp1, hp2, hp3, hp4⟩ := hp
  unfold mkP at hk ⊢
  refine mcall_of_code (G := Gw) versw mixed0 Try.func20 rfl (by decide) (by simp [Try.f20]) fun ver => ?_
  simp only [Try.f20, Gw]
  simp
  refine call_w (w_strs p.pr k h0 (by omega)) (by simp) ?_
  simp
  refine call_w (w_cls p.ne _ (by omega) (by omega) hp2) (by simp) ?_
  simp
  refine call_w (w_trms p.ba _ (by omega) (by omega)) (by simp) ?_
  simp
  omega

theorem w_pks (l : List Pk) (hb : ∀ p ∈ l, p.Len) (hl : l.length ≤ 4611686018427387904) (k : Int) (h0 : 0 ≤ k) (hk : k + mkPs l ≤ 1099511627776) : MCall Try.prog 33 [wpksAV l, .v (.int .i64 k)] (.int .i64 (k + mkPs l)) := by
  refine mcall_of_code (G := Gw) versw mixed0 Try.func33 rfl (by decide) (by simp [Try.f33]) fun ver => ?_
  simp only [Try.f33, Gw]
  simp
  refine aloop (α := Nat × Int) (fun d => ⟨envOf [(0, wpksAV l), (1, .v (.int .i64 d.2)), (5, .v (.int .i64 d.1))], ⟨[], noArrs ver⟩⟩)
    (fun d => d.1 ≤ l.length ∧ 0 ≤ d.2 ∧ d.2 + mkPs (l.drop d.1) = k + mkPs l) (fun d => l.length - d.1) (0, k) (less_envOf (by simp) rfl fun _ => rfl) ⟨by simp, h0, rfl⟩ ?_
  rintro ⟨i, m⟩ ⟨hi, hm0, hm⟩
  simp only at hi hm0 hm ⊢
  by_cases hlt : i < l.length
  · have hw := wrapS hlt hl
    rw [drop_get hlt, mkPs, mkP] at hm
    obtain ⟨hp1, hp2, hp3, hp4⟩ := hb _ (List.getElem_mem hlt)
    have b : ∀ m : Int, 0 ≤ m → m ≤ 1099511627786 → IntKind.i64.wrap (m + 1) = m + 1 := fun m _ _ => IntWalk.i64_in _ (by omega)
    repeat first | rw [acode_seq] | rw [acode_block]
    refine acode_cutE ⟨[], noArrs ver⟩ (fun E => E 0 = wpksAV l ∧ E 1 = .v (.int .i64 (m)) ∧ E 5 = .v (.int .i64 i) ∧ E 9 = .v (.bool true)) ?_ ?_
    · simp [hlt]
    rintro E ⟨z0, z1, z5, z9⟩
    repeat first | rw [kSeq_normal] | rw [acode_seq]
    refine cond_t z9 ?_
    repeat first | rw [acode_skip] | rw [kSeq_normal] | rw [acode_seq] | rw [acode_block]
    refine acode_cutE ⟨[], noArrs ver⟩ (fun E => E 0 = wpksAV l ∧ E 1 = .v (.int .i64 (m)) ∧ E 5 = .v (.int .i64 i)) ?_ ?_
    · simp [z0, z1, z5, hlt]
      refine call_p (p_markText _ (by omega)) (by simp) ?_
      simp [z0, z1, z5, hlt]
    rintro E ⟨z0, z1, z5⟩
    repeat first | rw [kSeq_normal] | rw [acode_seq]
    have hb0 := b m (by omega) (by omega)
    refine acode_cutE ⟨[], noArrs ver⟩ (fun E => E 0 = wpksAV l ∧ E 1 = .v (.int .i64 (m + 1)) ∧ E 5 = .v (.int .i64 i)) ?_ ?_
    · simp [z0, z1, z5, hlt, hb0]
    rintro E ⟨z0, z1, z5⟩
    repeat first | rw [kSeq_normal] | rw [acode_seq]
    refine acode_cutE ⟨[], noArrs ver⟩ (fun E => E 0 = wpksAV l ∧ E 1 = .v (.int .i64 (m + 1)) ∧ E 5 = .v (.int .i64 i)) ?_ ?_
    · simp [z0, z1, z5, hlt]
    rintro E ⟨z0, z1, z5⟩
    repeat first | rw [kSeq_normal] | rw [acode_seq]
    have hb1 : IntKind.i64.wrap (m + 1 + 1) = m + 2 := by rw [b _ (by omega) (by omega)]; omega
    refine acode_cutE ⟨[], noArrs ver⟩ (fun E => E 0 = wpksAV l ∧ E 1 = .v (.int .i64 (m + 2)) ∧ E 5 = .v (.int .i64 i)) ?_ ?_
    · simp [z0, z1, z5, hlt, hb1]
    rintro E ⟨z0, z1, z5⟩
    repeat first | rw [kSeq_normal] | rw [acode_seq]
    refine acode_cutE ⟨[], noArrs ver⟩ (fun E => E 0 = wpksAV l ∧ E 1 = .v (.int .i64 (m + 2)) ∧ E 5 = .v (.int .i64 i)) ?_ ?_
    · simp [z0, z1, z5, hlt]
    rintro E ⟨z0, z1, z5⟩
    repeat first | rw [kSeq_normal] | rw [acode_seq]
    have hb2 : IntKind.i64.wrap (m + 2 + 1) = m + 3 := by rw [b _ (by omega) (by omega)]; omega
    refine acode_cutE ⟨[], noArrs ver⟩ (fun E => E 0 = wpksAV l ∧ E 1 = .v (.int .i64 (m + 3)) ∧ E 5 = .v (.int .i64 i)) ?_ ?_
    · simp [z0, z1, z5, hlt, hb2]
    rintro E ⟨z0, z1, z5⟩
    repeat first | rw [kSeq_normal] | rw [acode_seq]
    refine acode_cutE ⟨[], noArrs ver⟩ (fun E => E 0 = wpksAV l ∧ E 1 = .v (.int .i64 (m + 3)) ∧ E 5 = .v (.int .i64 i)) ?_ ?_
    · simp [z0, z1, z5, hlt]
    rintro E ⟨z0, z1, z5⟩
    repeat first | rw [kSeq_normal] | rw [acode_seq]
    have hb3 : IntKind.i64.wrap (m + 3 + 1) = m + 4 := by rw [b _ (by omega) (by omega)]; omega
    refine acode_cutE ⟨[], noArrs ver⟩ (fun E => E 0 = wpksAV l ∧ E 1 = .v (.int .i64 (m + 4)) ∧ E 5 = .v (.int .i64 i)) ?_ ?_
    · simp [z0, z1, z5, hlt, hb3]
    rintro E ⟨z0, z1, z5⟩
    repeat first | rw [kSeq_normal] | rw [acode_seq]
    refine acode_cutE ⟨[], noArrs ver⟩ (fun E => E 0 = wpksAV l ∧ E 1 = .v (.int .i64 (m + 4)) ∧ E 5 = .v (.int .i64 i)) ?_ ?_
    · simp [z0, z1, z5, hlt]
    rintro E ⟨z0, z1, z5⟩
    repeat first | rw [kSeq_normal] | rw [acode_seq]
    have hb4 : IntKind.i64.wrap (m + 4 + 1) = m + 5 := by rw [b _ (by omega) (by omega)]; omega
    refine acode_cutE ⟨[], noArrs ver⟩ (fun E => E 0 = wpksAV l ∧ E 1 = .v (.int .i64 (m + 5)) ∧ E 5 = .v (.int .i64 i)) ?_ ?_
    · simp [z0, z1, z5, hlt, hb4]
    rintro E ⟨z0, z1, z5⟩
    repeat first | rw [kSeq_normal] | rw [acode_seq]
    refine acode_cutE ⟨[], noArrs ver⟩ (fun E => E 0 = wpksAV l ∧ E 1 = .v (.int .i64 (m + 5 + l[i].pr.length)) ∧ E 5 = .v (.int .i64 i)) ?_ ?_
    · simp [z0, z1, z5, hlt]
      refine call_w (w_strs l[i].pr (m + 5) (by omega) (by omega)) (by simp) ?_
      simp [z0, z1, z5, hlt]
    rintro E ⟨z0, z1, z5⟩
    repeat first | rw [kSeq_normal] | rw [acode_seq]
    refine acode_cutE ⟨[], noArrs ver⟩ (fun E => E 0 = wpksAV l ∧ E 1 = .v (.int .i64 (m + 5 + l[i].pr.length + mkC l[i].ne)) ∧ E 5 = .v (.int .i64 i)) ?_ ?_
    · simp [z0, z1, z5, hlt]
      refine call_w (w_cls l[i].ne _ (by omega) (by omega) hp2) (by simp) ?_
      simp [z0, z1, z5, hlt]
    rintro E ⟨z0, z1, z5⟩
    repeat first | rw [kSeq_normal] | rw [acode_seq]
    refine acode_cutE ⟨[], noArrs ver⟩ (fun E => E 0 = wpksAV l ∧ E 1 = .v (.int .i64 (m + 5 + l[i].pr.length + mkC l[i].ne + mkT l[i].ba)) ∧ E 5 = .v (.int .i64 i)) ?_ ?_
    · simp [z0, z1, z5, hlt]
      refine call_w (w_trms l[i].ba _ (by omega) (by omega)) (by simp) ?_
      simp [z0, z1, z5, hlt]
    rintro E ⟨z0, z1, z5⟩
    repeat first | rw [kSeq_normal] | rw [acode_seq]
    simp [z5]
    exact ⟨i + 1, m + 5 + l[i].pr.length + mkC l[i].ne + mkT l[i].ba, less_envOf (by simp [z0, z1, z5, hw]) rfl fun _ => rfl, ⟨by omega, by omega, by omega⟩, by omega⟩
  · rw [List.drop_eq_nil_of_le (by omega), mkPs] at hm
    simp [hlt]
    omega


end Go.Proofs.Ytokhnmchnfkiiaa.Am
