/- What is handed in from outside, as data. No conditions. -/
import Derived.Test.YtldbckbldddaaaaAmC2
import Derived.Test.YtldbckbldddaaaaAmV
namespace Go.Proofs.Ytldbckbldddaaaa.Am
open Go Go.RowKit Go.Proofs
set_option linter.unusedSimpArgs false
set_option linter.unusedVariables false
set_option maxRecDepth 100000

theorem rows_of {α : Type} (f : α → List AV) (q : α → Prop) : ∀ {es : List (List AV)}, (∀ c ∈ es, ∃ a, c = f a ∧ q a) → ∃ l : List α, es = l.map f ∧ ∀ a ∈ l, q a
  | [], _ => ⟨[], rfl, fun a h => by cases h⟩
  | c :: es, h => by
    obtain ⟨a, rfl, ha⟩ := h c (by simp)
    obtain ⟨l, rfl, hl⟩ := rows_of f q (es := es) fun c hc => h c (by simp [hc])
    exact ⟨a :: l, rfl, by simpa using ⟨ha, hl⟩⟩

theorem reach_le : reachBytes ≤ 140737488355328 := by decide

theorem ty_ver {n : Nat} {cs : List AV} (h : Typed Try.prog (n + 2) 24 cs) : ∃ v : Ver, cs = [.v (.int .i64 v.a), .v (.int .i64 v.b), .v (.int .i64 v.c)] := by
  simp [Typed, TypedFs, Try.underlying24, Try.underlying2] at h
  obtain ⟨_, _, rfl, _, ⟨a, rfl, _⟩, _, _, rfl, _, ⟨b, rfl, _⟩, _, _, rfl, _, ⟨c, rfl, _⟩, rfl⟩ := h
  exact ⟨⟨a, b, c⟩, rfl⟩

theorem ty_trm {n : Nat} {cs : List AV} (h : Typed Try.prog (n + 3) 43 cs) : ∃ t : Trm, cs = t.cells := by
  rw [Typed] at h
  simp only [Try.underlying43, TypedFs] at h
  obtain ⟨_, _, rfl, _, hs, _, _, rfl, _, h1, _, _, rfl, _, h2, rfl⟩ := h
  obtain ⟨v, rfl⟩ := ty_ver h1
  obtain ⟨w, rfl⟩ := ty_ver h2
  simp [Typed, Try.underlying9] at hs
  obtain ⟨x, rfl, _⟩ := hs
  exact ⟨⟨x, v, w⟩, rfl⟩

end Go.Proofs.Ytldbckbldddaaaa.Am
