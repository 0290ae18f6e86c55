/- What is handed in from outside, as data. No conditions. -/
import Derived.Test.YtokhnmchnfkiiaaAmC2
import Derived.Test.YtokhnmchnfkiiaaAmW
namespace Go.Proofs.Ytokhnmchnfkiiaa.Am
open Go Go.RowKit Go.Proofs
set_option linter.unusedSimpArgs false
set_option linter.unusedVariables false
set_option maxRecDepth 100000

theorem rows_of {α : Type} (f : α → List AV) (q : α → Prop) : ∀ {es : List (List AV)}, (∀ c ∈ es, ∃ a, c = f a ∧ q a) → ∃ l : List α, es = l.map f ∧ ∀ a ∈ l, q a
  | [], _ => ⟨[], rfl, fun a h => by cases h⟩
  | c :: es, h => by
    obtain ⟨a, rfl, ha⟩ := h c (by simp)
    obtain ⟨l, rfl, hl⟩ := rows_of f q (es := es) fun c hc => h c (by simp [hc])
    exact ⟨a :: l, rfl, by simpa using ⟨ha, hl⟩⟩

theorem reach_le : reachBytes ≤ 140737488355328 := by decide

theorem ty_ver {n : Nat} {cs : List AV} (h : Typed Try.prog (n + 2) 45 cs) : ∃ v : Ver, cs = [.v (.int .i64 v.a), .v (.int .i64 v.b), .v (.int .i64 v.c)] := by
  simp [Typed, TypedFs, Try.underlying45, Try.underlying2] at h
  obtain ⟨_, _, rfl, _, ⟨a, rfl, _⟩, _, _, rfl, _, ⟨b, rfl, _⟩, _, _, rfl, _, ⟨c, rfl, _⟩, rfl⟩ := h
  exact ⟨⟨a, b, c⟩, rfl⟩

theorem ty_trm {n : Nat} {cs : List AV} (h : Typed Try.prog (n + 3) 103 cs) : ∃ t : Trm, cs = t.cells := by
  rw [Typed] at h
  simp only [Try.underlying103, TypedFs] at h
  obtain ⟨_, _, rfl, _, hs, _, _, rfl, _, h1, _, _, rfl, _, h2, rfl⟩ := h
  obtain ⟨v, rfl⟩ := ty_ver h1
  obtain ⟨w, rfl⟩ := ty_ver h2
  simp [Typed, Try.underlying9] at hs
  obtain ⟨x, rfl, _⟩ := hs
  exact ⟨⟨x, v, w⟩, rfl⟩

theorem ty_strs {n : Nat} {cs : List AV} (h : Typed Try.prog (n + 2) 34 cs) : ∃ l, cs = [strsAV true l] ∧ BigS l := by
  rw [Typed] at h
  simp only [Try.underlying34] at h
  obtain ⟨es, rfl, hb, hc⟩ := h
  obtain ⟨l, rfl, _⟩ := rows_of strCells (fun _ => True) (es := es) fun c hcm => by
    have := hc c hcm
    simp [Typed, Try.underlying9] at this
    obtain ⟨x, rfl, _⟩ := this
    exact ⟨x, rfl, trivial⟩
  refine ⟨l, rfl, ?_⟩
  have hb' : l.length * 16 ≤ reachBytes := by simpa [show Try.prog.bytesOf 9 = 16 by kernel_rfl] using hb
  exact Nat.le_trans hb' reach_le

theorem ty_ints {n : Nat} {cs : List AV} (h : Typed Try.prog (n + 2) 58 cs) : ∃ l : List Int, cs = [intsAV true l] ∧ BigI l ∧ ∀ a ∈ l, -9223372036854775808 ≤ a ∧ a ≤ 9223372036854775807 := by
  rw [Typed] at h
  simp only [Try.underlying58] at h
  obtain ⟨es, rfl, hb, hc⟩ := h
  obtain ⟨l, rfl, hl⟩ := rows_of intCells (fun a => -9223372036854775808 ≤ a ∧ a ≤ 9223372036854775807) (es := es) fun c hcm => by
    have := hc c hcm
    simp [Typed, Try.underlying2] at this
    obtain ⟨x, rfl, hx⟩ := this
    refine ⟨x, rfl, ?_⟩
    simpa [Lit.wf, IntKind.min, IntKind.max, IntKind.signed, IntKind.bits] using hx
  refine ⟨l, rfl, ?_, hl⟩
  have hb' : l.length * 8 ≤ reachBytes := by simpa [show Try.prog.bytesOf 2 = 8 by kernel_rfl] using hb
  exact Nat.le_trans hb' reach_le

theorem ty_trms {n : Nat} {cs : List AV} (h : Typed Try.prog (n + 4) 47 cs) : ∃ l, cs = [trmsAV true l] ∧ BigT l := by
  rw [Typed] at h
  simp only [Try.underlying47] at h
  obtain ⟨es, rfl, hb, hc⟩ := h
  obtain ⟨l, rfl, _⟩ := rows_of Trm.cells (fun _ => True) (es := es) fun c hcm => by
    obtain ⟨t, rfl⟩ := ty_trm (hc c hcm)
    exact ⟨t, rfl, trivial⟩
  refine ⟨l, rfl, ?_⟩
  have hb' : l.length * 64 ≤ reachBytes := by simpa [show Try.prog.bytesOf 103 = 64 by kernel_rfl] using hb
  exact Nat.le_trans hb' reach_le

theorem ty_cls {n : Nat} {cs : List AV} (h : Typed Try.prog (n + 5) 46 cs) : ∃ l, cs = [clausesAV true l] ∧ BigTT l := by
  rw [Typed] at h
  simp only [Try.underlying46] at h
  obtain ⟨es, rfl, hb, hc⟩ := h
  obtain ⟨l, rfl, hl⟩ := rows_of (clauseCells true) BigT (es := es) fun c hcm => by
    obtain ⟨t, rfl, ht⟩ := ty_trms (hc c hcm)
    exact ⟨t, rfl, ht⟩
  refine ⟨l, rfl, ?_, hl⟩
  have hb' : l.length * 24 ≤ reachBytes := by simpa [show Try.prog.bytesOf 47 = 24 by kernel_rfl] using hb
  exact Nat.le_trans hb' reach_le

theorem ty_pk {n : Nat} {cs : List AV} (h : Typed Try.prog (n + 6) 49 cs) : ∃ p : Pk, cs = p.cells true ∧ p.Big := by
  rw [Typed] at h
  simp only [Try.underlying49, TypedFs] at h
  obtain ⟨_, _, rfl, _, hs, _, _, rfl, _, h1, _, _, rfl, _, h2, _, _, rfl, _, h3, _, _, rfl, _, h4, _, _, rfl, _, h5, rfl⟩ := h
  obtain ⟨v, rfl⟩ := ty_ver h1
  obtain ⟨pr, rfl, b1⟩ := ty_strs h3
  obtain ⟨ne, rfl, b2⟩ := ty_cls h4
  obtain ⟨ba, rfl, b3⟩ := ty_trms h5
  simp [Typed, Try.underlying9] at hs
  obtain ⟨x, rfl, _⟩ := hs
  simp [Typed, Try.underlying2] at h2
  obtain ⟨s, rfl, _⟩ := h2
  exact ⟨⟨x, v, s, pr, ne, ba⟩, rfl, b1, b2, b3⟩

theorem ty_pks {n : Nat} {cs : List AV} (h : Typed Try.prog (n + 7) 57 cs) : ∃ l, cs = [pksAV true true l] ∧ BigP l := by
  rw [Typed] at h
  simp only [Try.underlying57] at h
  obtain ⟨es, rfl, hb, hc⟩ := h
  obtain ⟨l, rfl, hl⟩ := rows_of (Pk.cells true) Pk.Big (es := es) fun c hcm => by
    obtain ⟨t, rfl, ht⟩ := ty_pk (hc c hcm)
    exact ⟨t, rfl, ht⟩
  refine ⟨l, rfl, ?_, hl⟩
  have hb' : l.length * 120 ≤ reachBytes := by simpa [show Try.prog.bytesOf 49 = 120 by kernel_rfl] using hb
  exact Nat.le_trans hb' reach_le

end Go.Proofs.Ytokhnmchnfkiiaa.Am
