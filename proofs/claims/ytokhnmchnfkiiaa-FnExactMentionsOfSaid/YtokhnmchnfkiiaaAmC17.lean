/- Functions that write marks into what they are handed. No conditions. -/
import Derived.Test.YtokhnmchnfkiiaaAmC16
namespace Go.Proofs.Ytokhnmchnfkiiaa.Am
open Go Go.RowKit Go.Proofs
set_option linter.unusedSimpArgs false
set_option linter.unusedVariables false

noncomputable def Gw : Cfg := ⟨Try.prog, fun _ => false, fun t => t == 26, fun _ => true, 2⟩
theorem versw : Gw.Vers := fun t h => vers0 t h

/-! ### What is handed on as wild -/

@[simp, reducible] def wintCells (n : Int) : List AV := [.any (.int .i64 n)]
@[simp, reducible] def wstrCells (s : ByteArray) : List AV := [.any (.string s)]
@[simp, reducible] def wtrmCells (t : Trm) : List AV := [.any (.string t.n), .any (.int .i64 t.lo.a), .any (.int .i64 t.lo.b), .any (.int .i64 t.lo.c), .any (.int .i64 t.hi.a), .any (.int .i64 t.hi.b), .any (.int .i64 t.hi.c)]
@[simp, reducible] def wclsCells (l : List Trm) : List AV := [.wsl (l.map wtrmCells)]
@[simp, reducible] def wpkCells (p : Pk) : List AV := [.any (.string p.n), .any (.int .i64 p.v.a), .any (.int .i64 p.v.b), .any (.int .i64 p.v.c), .any (.int .i64 p.s), .wsl (p.pr.map wstrCells), .wsl (p.ne.map wclsCells), .wsl (p.ba.map wtrmCells)]
@[simp, reducible] def wintsAV (l : List Int) : AV := .wsl (l.map wintCells)
@[simp, reducible] def wstrsAV (l : List ByteArray) : AV := .wsl (l.map wstrCells)
@[simp, reducible] def wtrmsAV (l : List Trm) : AV := .wsl (l.map wtrmCells)
@[simp, reducible] def wclsAV (l : List (List Trm)) : AV := .wsl (l.map wclsCells)
@[simp, reducible] def wpksAV (l : List Pk) : AV := .wsl (l.map wpkCells)
@[simp] theorem len_wint (l : List Int) : (l.map wintCells).all (fun e => e.length == 1) = true := all_map_eq l fun _ => rfl
@[simp] theorem len_wstr (l : List ByteArray) : (l.map wstrCells).all (fun e => e.length == 1) = true := all_map_eq l fun _ => rfl
@[simp] theorem len_wtrm (l : List Trm) : (l.map wtrmCells).all (fun e => e.length == 7) = true := all_map_eq l fun _ => rfl
@[simp] theorem len_wcls (l : List (List Trm)) : (l.map wclsCells).all (fun e => e.length == 1) = true := all_map_eq l fun _ => rfl
@[simp] theorem len_wpk (l : List Pk) : (l.map wpkCells).all (fun e => e.length == 8) = true := all_map_eq l fun _ => rfl

theorem wilds_map {α : Type} {f g : α → List AV} (l : List α) (h1 : ∀ a, (g a).length = (f a).length) (h2 : ∀ a, ∀ c ∈ g a, c.wl = true) (h3 : ∀ (a : α) (j : Nat) (c c' : AV), (f a)[j]? = some c → (g a)[j]? = some c' → Wilds c c') : Wilds (.sl false (l.map f)) (.wsl (l.map g)) := by
  refine .sl _ _ (by simp) ?_ ?_ ?_
  · intro i e e' he he'
    rw [List.getElem?_map] at he he'
    cases hl : l[i]? with
    | none => rw [hl] at he; cases he
    | some a => rw [hl] at he he'; cases he; cases he'; exact h1 a
  · intro e' he' c hc
    obtain ⟨a, _, rfl⟩ := List.mem_map.1 he'
    exact h2 a c hc
  · intro i j e e' c c' he he' hc hc'
    rw [List.getElem?_map] at he he'
    cases hl : l[i]? with
    | none => rw [hl] at he; cases he
    | some a => rw [hl] at he he'; cases he; cases he'; exact h3 a j c c' hc hc'

theorem wilds_cells : ∀ {cs cs' : List AV}, cs'.length = cs.length → (∀ p ∈ cs.zip cs', Wilds p.1 p.2) → ∀ (j : Nat) (c c' : AV), cs[j]? = some c → cs'[j]? = some c' → Wilds c c' := by
  intro cs cs' _ h j c c' h1 h2
  refine h (c, c') (List.mem_of_getElem? (i := j) ?_)
  rw [List.getElem?_zip_eq_some]
  exact ⟨h1, h2⟩

theorem wi (k : IntKind) (n : Int) : Wilds (.v (.int k n)) (.any (.int k n)) := .any _ rfl
theorem wst (s : ByteArray) : Wilds (.v (.string s)) (.any (.string s)) := .any _ trivial
theorem wilds_ints (l : List Int) : Wilds (intsAV false l) (wintsAV l) := wilds_map l (fun _ => rfl) (fun _ c hc => by simp at hc; subst hc; rfl) fun a => wilds_cells rfl (by simp [wi])
theorem wilds_strs (l : List ByteArray) : Wilds (strsAV false l) (wstrsAV l) := wilds_map l (fun _ => rfl) (fun _ c hc => by simp at hc; subst hc; rfl) fun a => wilds_cells rfl (by simp [wst])
theorem wilds_trms (l : List Trm) : Wilds (trmsAV false l) (wtrmsAV l) := wilds_map l (fun _ => rfl) (fun _ c hc => by simp at hc; rcases hc with rfl | rfl | rfl | rfl | rfl | rfl | rfl <;> rfl) fun a => wilds_cells rfl (by simp [wi, wst])
theorem wilds_cls (l : List (List Trm)) : Wilds (clausesAV false l) (wclsAV l) := wilds_map l (fun _ => rfl) (fun _ c hc => by simp at hc; subst hc; rfl) fun a => wilds_cells rfl (by simpa using wilds_trms a)
theorem wilds_pk (p : Pk) (j : Nat) (c c' : AV) : (p.cells false)[j]? = some c → (wpkCells p)[j]? = some c' → Wilds c c' := by
  refine wilds_cells (cs := p.cells false) (cs' := wpkCells p) rfl ?_ j c c'
  simp only [Pk.cells, wpkCells, List.zip_cons_cons, List.zip_nil_left, List.mem_cons, List.not_mem_nil, or_false, forall_eq_or_imp, forall_eq]
  exact ⟨wst _, wi _ _, wi _ _, wi _ _, wi _ _, wilds_strs _, wilds_cls _, wilds_trms _⟩
theorem wilds_pks (l : List Pk) : Wilds (pksAV false false l) (wpksAV l) := wilds_map l (fun _ => rfl) (fun _ c hc => by simp at hc; rcases hc with rfl | rfl | rfl | rfl | rfl | rfl | rfl | rfl <;> rfl) fun a => wilds_pk a

/-! ### The marks -/

def mtL (k : Nat) (out : ByteArray) : ByteArray := if h : k = 0 then out else mtL (k / 10) (⟨#[UInt8.ofNat (48 + k % 10)]⟩ ++ out)
termination_by k
decreasing_by omega
/-- The text that marks a number. -/
def markF (k : Int) : ByteArray := if k ≤ 0 then ⟨#[109, 48]⟩ else ⟨#[109]⟩ ++ mtL k.toNat ⟨#[]⟩

theorem p_markText (k : Int) (hk : k ≤ 1099511627776) : Pure Try.prog 82 [.v (.int .i64 k)] (.v (.string (markF k))) := by
  refine pure_of_code (G := (G0)) vers0 mixed0 Try.func82 rfl (by decide) (by simp [Try.f82]) (by simp) fun ver => ?_
  simp only [Try.f82, G0]
  by_cases h0 : k ≤ 0
  · simp [h0, markF]
  have e : markF k = ⟨#[109]⟩ ++ mtL k.toNat ⟨#[]⟩ := by rw [markF, if_neg h0]
  rw [e]
  simp [h0]
  refine aloop (α := Nat × ByteArray) (fun d => ⟨envOf [(0, .v (.int .i64 d.1)), (3, .v (.string d.2))], ⟨[], noArrs ver⟩⟩)
    (fun d => mtL d.1 d.2 = mtL k.toNat ⟨#[]⟩ ∧ d.2.size + d.1 ≤ 1099511627776) (fun d => d.1) (k.toNat, ⟨#[]⟩) (less_envOf (by simp; omega) rfl fun _ => rfl) ⟨rfl, by simp [ByteArray.size]; omega⟩ ?_
  rintro ⟨n, out⟩ ⟨hm, hs⟩
  simp only at hm hs ⊢
  by_cases hn : n = 0
  · subst hn
    rw [mtL, dif_pos rfl] at hm
    have hsz : (⟨#[109]⟩ : ByteArray).size = 1 := rfl
    have hsz2 : 1 + out.size ≤ 140737488355328 := by omega
    simp [hsz, hsz2, ← hm]
  · have hpos : (0 : Int) < n := by omega
    rw [mtL, dif_neg hn] at hm
    have q1 : (n : Int).tmod 10 = (n : Int) % 10 := IntWalk.rem_in _ _ (by omega)
    have q2 : IntKind.i64.wrap ((n : Int).tdiv 10) = (n : Int) / 10 := IntWalk.i64_quo _ _ ⟨by omega, by omega, by omega⟩
    have q2' : IntKind.i64.wrap ((n : Int) / 10) = (n : Int) / 10 := IntWalk.i64_in _ (by omega)
    have q3 : IntKind.i64.wrap (48 + (n : Int) % 10) = 48 + (n : Int) % 10 := IntWalk.i64_in _ (by omega)
    have q4 : IntKind.u8.wrap (48 + (n : Int) % 10) = 48 + (n : Int) % 10 := IntWalk.u8_in _ (by omega)
    have q5 : (0 : Int) ≤ 48 + (n : Int) % 10 ∧ 48 + (n : Int) % 10 < 256 := by omega
    have q6 : (48 + (n : Int) % 10).toNat = 48 + n % 10 := by omega
    have q7 : (⟨#[UInt8.ofNat (48 + n % 10)]⟩ : ByteArray).size + out.size ≤ 140737488355328 := by have : (⟨#[UInt8.ofNat (48 + n % 10)]⟩ : ByteArray).size = 1 := rfl; omega
    have q8 : 0 < n := by omega
    simp [hpos, hn, q1, q2, q2', q3, q4, q5, q6, q7, q8, sealRows, sealCells, List.range_succ, -UInt8.ofNat_add]
    refine ⟨n / 10, ⟨#[UInt8.ofNat (48 + n % 10)]⟩ ++ out, less_envOf (by simp) rfl fun _ => rfl, ⟨hm, ?_⟩, by omega⟩
    rw [ByteArray.size_append]
    have : (⟨#[UInt8.ofNat (48 + n % 10)]⟩ : ByteArray).size = 1 := rfl
    omega

def wloop (n : Nat) : Prop := n ≤ 4611686018427387904
theorem wadd {k : Int} {i j : Nat} (h0 : 0 ≤ k) (h : k + i + j ≤ 1099511627776) : IntKind.i64.wrap (k + (i : Int) + (j : Int)) = k + (i : Int) + (j : Int) := IntWalk.i64_in _ (by omega)

theorem w_ints (l : List Int) (k : Int) (h0 : 0 ≤ k) (hk : k + l.length ≤ 1099511627776) : MCall Try.prog 35 [wintsAV l, .v (.int .i64 k)] (.int .i64 (k + l.length)) := by
  have hl : l.length ≤ 4611686018427387904 := by omega
  refine mcall_of_code (G := Gw) versw mixed0 Try.func35 rfl (by decide) (by simp [Try.f35]) fun ver => ?_
  simp only [Try.f35, Gw]
  simp
  refine aloop (α := Nat) (fun i => ⟨envOf [(0, wintsAV l), (1, .v (.int .i64 (k + i))), (5, .v (.int .i64 i))], ⟨[], noArrs ver⟩⟩)
    (fun i => i ≤ l.length) (fun i => l.length - i) 0 (less_envOf (by simp) rfl fun _ => rfl) (by simp) ?_
  intro i hi
  by_cases hlt : i < l.length
  · have hw := wrapS hlt hl
    have hw2 : IntKind.i64.wrap (k + (i : Int) + 1) = k + ((i + 1 : Nat) : Int) := by rw [IntWalk.i64_in _ (by omega)]; omega
    simp [hlt]
    exact ⟨i + 1, less_envOf (by simp [hw, hw2]) rfl fun _ => rfl, by omega, by omega⟩
  · have e : i = l.length := by omega
    subst e
    simp

theorem w_strs (l : List ByteArray) (k : Int) (h0 : 0 ≤ k) (hk : k + l.length ≤ 1099511627776) : MCall Try.prog 68 [wstrsAV l, .v (.int .i64 k)] (.int .i64 (k + l.length)) := by
  have hl : l.length ≤ 4611686018427387904 := by omega
  refine mcall_of_code (G := Gw) versw mixed0 Try.func68 rfl (by decide) (by simp [Try.f68]) fun ver => ?_
  simp only [Try.f68, Gw]
  simp
  refine aloop (α := Nat) (fun i => ⟨envOf [(0, wstrsAV l), (1, .v (.int .i64 (k + i))), (5, .v (.int .i64 i))], ⟨[], noArrs ver⟩⟩)
    (fun i => i ≤ l.length) (fun i => l.length - i) 0 (less_envOf (by simp) rfl fun _ => rfl) (by simp) ?_
  intro i hi
  by_cases hlt : i < l.length
  · have hw := wrapS hlt hl
    have hw2 : IntKind.i64.wrap (k + (i : Int) + 1) = k + ((i + 1 : Nat) : Int) := by rw [IntWalk.i64_in _ (by omega)]; omega
    simp [hlt]
    refine call_p (p_markText _ (by omega)) (by simp) ?_
    simp [hlt]
    exact ⟨i + 1, less_envOf (by simp [hw, hw2]) rfl fun _ => rfl, by omega, by omega⟩
  · have e : i = l.length := by omega
    subst e
    simp

end Go.Proofs.Ytokhnmchnfkiiaa.Am
