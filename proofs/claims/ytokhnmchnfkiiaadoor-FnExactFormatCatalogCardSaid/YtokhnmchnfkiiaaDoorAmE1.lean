/- Numbers in decimal: the library's FormatInt by the shelf's contract, which reads a table; the reference's own. No conditions. -/
import Derived.Test.YtokhnmchnfkiiaaDoorAmCg1
import Derived.Test.YtokhnmchnfkiiaaDoorAmShelf
import Derived.Lib.LaidTab
import Derived.Lib.ItoaNum
import Derived.Sort.Grow
import Derived.Deep.Draws
namespace Go.Proofs.YtokhnmchnfkiiaaDoor.Am
open Go Go.RowKit Go.Proofs
set_option linter.unusedSimpArgs false
set_option linter.unusedVariables false

/-- The table that the library's formatting reads. -/
theorem tab_of {C : Ctx} (hg : GlobOK C) : Lib.TabIs Tryd.prog C.w "internal/strconv.uint64pow10" .u64 Lib.pow10Tab := by
  obtain ⟨_, _, cs, t, fr, h, e0⟩ := hg (tabPow, fun cs => cs = (Lib.pow10Tab.map fun z => Value.int .u64 z).toArray) (by simp [tabs])
  have e1 : cs = (Lib.pow10Tab.map fun z => Value.int .u64 z).toArray := e0
  subst e1
  have e : Tryd.prog.globalNamed "internal/strconv.uint64pow10" = some tabPow := by kernel_rfl
  unfold Lib.TabIs World.var?
  rw [e]
  simp only [Option.bind_some]
  rw [h]

/-- A function whose contract says that the memory has grown at most. -/
theorem pure_grow {P : Program} {f : FuncId} {args : List AV} {x : Value} (hen : enters P f = true)
    (h : ∀ (C : Ctx) (vs : Array Value), GlobOK C → RVs C args vs.toList → Calls P f vs C.w fun e w' => e = .returned x ∧ ∃ k os, w' = Sort.grow (C.w.drewN k) os) : Pure P f args (.v x) := by
  refine ⟨hen, .v _, ?_⟩
  intro C vs hA hB hW hN hvs
  refine (h C vs hB.glob hvs).mono ?_
  rintro e w' ⟨rfl, k, os, rfl⟩
  have hblk : ∀ b, b < C.w.heap.size → (Sort.grow (C.w.drewN k) os).heap[b]? = C.w.heap[b]? := fun b hb => by
    rw [Sort.heap_grow_old _ _ (by simpa using hb)]
    rfl
  have hsz : C.w.heap.size ≤ (Sort.grow (C.w.drewN k) os).heap.size := by simp [Sort.grow]
  have K : Keeps C { C with w := Sort.grow (C.w.drewN k) os } := ⟨hsz, fun _ _ _ h => h, fun b hb _ => hblk b hb, fun _ _ h => h, fun _ => Nat.le_refl _, fun _ I h _ => ⟨I, h, rfl, rfl, rfl⟩, rfl, fun b hb _ => .of_block (hblk b hb)⟩
  have hbx : C.bx = [] := List.eq_nil_of_length_eq_zero hB.len
  refine ⟨x, { C with w := Sort.grow (C.w.drewN k) os }, rfl, rfl, rfl, K, hA, ⟨[], trivial, ⟨by rw [hbx]; rfl, by rw [hbx]; exact List.nodup_nil, fun b h => (by rw [hbx] at h; cases h), fun k b cs h => (by rw [hbx] at h; simp at h), hB.glob.keep K⟩⟩, ⟨rfl, rfl, rfl, hsz, fun b hb _ => hblk b hb⟩, .v x⟩

def decS (n : Nat) : ByteArray := ⟨(Lib.decDigits n).toArray⟩

theorem q_formatInt (n : Nat) (hn : n ≤ 1000000) : Pure Tryd.prog 115 [.v (.int .i64 n), .v (.int .i64 10)] (.v (.string (decS n))) := by
  refine pure_grow (by kernel_rfl) ?_
  intro C vs hg hvs
  obtain ⟨a, b, hab⟩ : ∃ a b, vs = #[a, b] := by
    have h := hvs.1
    simp at h
    exact ⟨vs[0], vs[1], Array.ext (by simp [← h]) fun i h1 h2 => by
      have : i < 2 := by simpa using h2
      match i, this with
      | 0, _ => rfl
      | 1, _ => rfl⟩
  subst hab
  have ha := rv_v (hvs.2 0 _ a rfl rfl)
  have hb := rv_v (hvs.2 1 _ b rfl rfl)
  subst ha hb
  have := Any.strconv_FormatInt_10 n173 (n : Int) (by omega) (by omega) C.w (tab_of hg)
  refine this.mono ?_
  rintro e w' ⟨rfl, k, os, rfl⟩
  refine ⟨?_, k, os, rfl⟩
  simp [Lib.itoa, decS, show ¬ (n : Int) < 0 by omega]

/-! ### The reference's -/

theorem decS_one {n : Nat} (h : n < 10) : decS n = ⟨#[UInt8.ofNat (48 + n)]⟩ := by rw [decS, Lib.decDigits_one h]
theorem decS_more {n : Nat} (h : ¬ n < 10) : decS n = decS (n / 10) ++ ⟨#[UInt8.ofNat (48 + n % 10)]⟩ := by
  unfold decS
  rw [Lib.decDigits, dif_neg h]
  apply ByteArray.ext
  simp

theorem decS_size : ∀ n, (decS n).size ≤ n + 1 := by
  intro n
  induction n using Nat.strongRecOn with
  | ind n ih =>
    by_cases h : n < 10
    · rw [decS_one h]
      show 1 ≤ n + 1
      omega
    · have := ih (n / 10) (by omega)
      rw [decS_more h, ByteArray.size_append]
      show (decS (n / 10)).size + 1 ≤ n + 1
      omega
theorem digit_wrap {k : Nat} (h : k < 10) : IntKind.u8.wrap (IntKind.i64.wrap (48 + (k : Int))) = ((48 + k : Nat) : Int) := by
  have : k = 0 ∨ k = 1 ∨ k = 2 ∨ k = 3 ∨ k = 4 ∨ k = 5 ∨ k = 6 ∨ k = 7 ∨ k = 8 ∨ k = 9 := by omega
  rcases this with rfl | rfl | rfl | rfl | rfl | rfl | rfl | rfl | rfl | rfl <;> decide
theorem digit_nat {k : Nat} : (48 + (k : Int)).toNat = 48 + k := by omega

set_option maxHeartbeats 2000000 in
theorem p_decimal : ∀ (n : Nat), n ≤ 1000000 → Pure Tryd.prog 43 [.v (.int .i64 n)] (.v (.string (decS n))) := by
  intro n
  induction n using Nat.strongRecOn with
  | ind n ih =>
    intro hn
    by_cases h : n < 10
    · have hi : (n : Int) < 10 := by omega
      have b1 : 0 ≤ 48 + (n : Int) := by omega
      have b2 : 48 + (n : Int) < 256 := by omega
      rw [decS_one h]
      refine pure_of_code (G := (G0)) vers0 mixed0 Tryd.func43 rfl (by decide) (by simp [Tryd.f43]) (by simp) fun ver => ?_
      simp only [Tryd.f43, G0]
      simp [hi, sealRows, sealCells, digit_wrap h, digit_nat, b1, b2]
    · have hi : ¬ (n : Int) < 10 := by omega
      have hr := ih (n / 10) (by omega) (by omega)
      have hq : IntKind.i64.wrap ((n : Int) / 10) = ((n / 10 : Nat) : Int) := by rw [IntWalk.i64_in _ (by omega)]; omega
      have hm : (n : Int).tmod 10 = ((n % 10 : Nat) : Int) := by rw [Int.tmod_eq_emod_of_nonneg (by omega)]; omega
      obtain ⟨d, hd⟩ : ∃ d, d = n % 10 := ⟨_, rfl⟩
      have h10 : d < 10 := by omega
      have b1 : 0 ≤ 48 + (d : Int) := by omega
      have b2 : 48 + (d : Int) < 256 := by omega
      rw [decS_more h]
      rw [← hd] at hm ⊢
      obtain ⟨e, he⟩ : ∃ e, e = n / 10 := ⟨_, rfl⟩
      rw [← he] at hq hr ⊢
      have hsz : (decS e).size + (⟨#[48 + UInt8.ofNat d]⟩ : ByteArray).size ≤ 140737488355328 := by
        have := decS_size e
        show (decS e).size + 1 ≤ _
        omega
      refine pure_of_code (G := (G0)) vers0 mixed0 Tryd.func43 rfl (by decide) (by simp [Tryd.f43]) (by simp) fun ver => ?_
      simp only [Tryd.f43, G0]
      simp [hi]
      refine adraw_all (by kernel_rfl) ?_
      simp [hq, hm]
      refine call_p hr (by simp) ?_
      simp [hm, sealRows, sealCells, digit_wrap h10, digit_nat, b1, b2, hsz]

end Go.Proofs.YtokhnmchnfkiiaaDoor.Am
