/- Terms read from texts: what they are, in plain words; the library's IndexByte and CutPrefix. No conditions. -/
import Derived.Test.YtokhnmchnfkiiaaDoorAmF4
namespace Go.Proofs.YtokhnmchnfkiiaaDoor.Am
open Go Go.RowKit Go.Proofs
set_option linter.unusedSimpArgs false
set_option linter.unusedVariables false

/-- A function whose contract says that the world is as it was. -/
theorem pure_still {P : Program} {f : FuncId} {args : List AV} {r : AV} {x : Value} (hen : enters P f = true) (hfree : r.Free (· = false)) (hrv : ∀ C, RV C r x)
    (h : ∀ (C : Ctx) (vs : Array Value), RVs C args vs.toList → Calls P f vs C.w fun e w' => e = .returned x ∧ w' = C.w) : Pure P f args r := by
  refine ⟨hen, hfree, ?_⟩
  intro C vs hA hB hW hN hvs
  refine (h C vs hvs).mono ?_
  rintro e w' ⟨rfl, rfl⟩
  exact ⟨x, C, rfl, rfl, rfl, Keeps.refl C, hA, ⟨[], trivial, hB⟩, WExt.refl _ _ _, hrv C⟩
theorem two_args {C : Ctx} {x y : Value} {vs : Array Value} (h : RVs C [.v x, .v y] vs.toList) : vs = #[x, y] := by
  obtain ⟨a, b, hab⟩ : ∃ a b, vs = #[a, b] := by
    have h := h.1
    simp at h
    exact ⟨vs[0], vs[1], Array.ext (by simp [← h]) fun i h1 h2 => by
      have : i < 2 := by simpa using h2
      match i, this with
      | 0, _ => rfl
      | 1, _ => rfl⟩
  subst hab
  rw [rv_v (h.2 0 _ a rfl rfl), rv_v (h.2 1 _ b rfl rfl)]
theorem q_indexLt (s : ByteArray) : Pure Tryd.prog 66 [.v (.string s), .v (.int .u8 60)] (.v (.int .i64 (Lib.indexByte s.data.toList 60))) := by
  refine pure_still (x := .int .i64 (Lib.indexByte s.data.toList 60)) (by kernel_rfl) (.v _) (fun _ => .v _) ?_
  intro C vs hvs
  rw [two_args hvs]
  exact Any.strings_IndexByte n137 s 60 C.w
theorem q_cutPrefix (s p : ByteArray) : Pure Tryd.prog 65 [.v (.string s), .v (.string p)] (.tup [.v (.string ⟨(Lib.trimPrefix s.data.toList p.data.toList).toArray⟩), .v (.bool (Lib.hasPrefix s.data.toList p.data.toList))]) := by
  refine pure_still (x := .tuple #[.string ⟨(Lib.trimPrefix s.data.toList p.data.toList).toArray⟩, .bool (Lib.hasPrefix s.data.toList p.data.toList)]) (by kernel_rfl) (by simp) (fun C => .tup _ _ rfl ?_) ?_
  · intro j c x h1 h2
    match j with
    | 0 => cases h1; cases h2; exact .v _
    | 1 => cases h1; cases h2; exact .v _
    | j + 2 => simp at h1
  · intro C vs hvs
    rw [two_args hvs]
    exact Any.strings_CutPrefix n103 s p C.w

/-! ### Where a text is cut -/

def lenW (P : UInt8 → Bool) : List UInt8 → Nat
  | [] => 0
  | b :: l => if P b = true then lenW P l + 1 else 0
theorem lenW_le (P : UInt8 → Bool) : ∀ l, lenW P l ≤ l.length
  | [] => Nat.le_refl _
  | b :: l => by
    have := lenW_le P l
    rw [lenW]
    split <;> simp <;> omega
theorem drop_byte {s : ByteArray} {i : Nat} (h : i < s.size) : ∃ b : UInt8, s.data.toList.drop i = b :: s.data.toList.drop (i + 1) ∧ bAt s i = (b.toNat : Int) := by
  have hi : i < s.data.toList.length := by rw [← Lib.size_eq]; exact h
  refine ⟨s.data.toList[i], List.drop_eq_getElem_cons hi, ?_⟩
  unfold bAt
  rw [List.getD, List.getElem?_eq_getElem hi]
  rfl
def nmW (b : UInt8) : Bool := nameB (b.toNat : Int)
def ltW (b : UInt8) : Bool := !decide (b = 60)
/-- How far the name goes; how far the first '<' lies. -/
def ldN (s : ByteArray) : Nat := lenW nmW s.data.toList
def cutN (s : ByteArray) : Nat := lenW ltW s.data.toList
theorem ldN_le (s : ByteArray) : ldN s ≤ s.size := by rw [Lib.size_eq]; exact lenW_le _ _
theorem cutN_le (s : ByteArray) : cutN s ≤ s.size := by rw [Lib.size_eq]; exact lenW_le _ _
theorem index_lt : ∀ l : List UInt8, Lib.indexByte l 60 = if lenW ltW l = l.length then -1 else (lenW ltW l : Int)
  | [] => rfl
  | b :: l => by
    unfold Lib.indexByte lenW
    have ih := index_lt l
    have hle := lenW_le ltW l
    by_cases hb : b = 60
    · subst hb
      simp [ltW]
    · have h1 : (b == 60) = false := by simpa using hb
      have h2 : ltW b = true := by simp [ltW, hb]
      rw [h1, h2, if_pos rfl]
      by_cases h3 : lenW ltW l = l.length
      · rw [ih, if_pos h3]
        simp [h3]
      · rw [ih, if_neg h3]
        have h4 : ¬ (lenW ltW l : Int) = -1 := by omega
        have h5 : ¬ lenW ltW l + 1 = l.length + 1 := by omega
        simp [h3, h4]
theorem lt_at {s : ByteArray} (h : cutN s < s.size) : ∃ r, s.data.toList.drop (cutN s) = 60 :: r := by
  have key : ∀ l : List UInt8, lenW ltW l < l.length → ∃ r, l.drop (lenW ltW l) = 60 :: r := by
    intro l
    induction l with
    | nil => intro h; simp [lenW] at h
    | cons b l ih =>
      intro h
      rw [lenW] at h ⊢
      by_cases hb : ltW b = true
      · rw [if_pos hb] at h ⊢
        obtain ⟨r, hr⟩ := ih (by simp at h; omega)
        exact ⟨r, by simpa using hr⟩
      · rw [if_neg hb]
        have : b = 60 := by simpa [ltW] using hb
        subst this
        exact ⟨l, rfl⟩
  exact key _ (by rw [← Lib.size_eq]; exact h)

/-! ### What a text's term is -/

abbrev V3 : Type := Int × Int × Int
def ptH (r : ByteArray) : Option V3 := if cutN r < r.size then parseV (r.extract (cutN r + 1) r.size) else some (1000, 0, 0)
def ptL (r : ByteArray) : Option V3 := if cutN r = 0 then some (0, 0, 0) else if Lib.hasPrefix r.data.toList [62, 61] = true then parseV (r.extract 2 (cutN r)) else none
def ptN (s : ByteArray) : ByteArray := s.extract 0 (ldN s)
def ptR (s : ByteArray) : ByteArray := s.extract (ldN s) s.size
/-- A code, a name, two versions. -/
def ptA (s : ByteArray) : Int × ByteArray × V3 × V3 := if nameFault (ptN s) ≠ 0 then (5, ⟨#[]⟩, (0, 0, 0), (0, 0, 0)) else match ptL (ptR s), ptH (ptR s) with
  | some lo, some hi => if termFault (ptN s) lo.1 lo.2.1 lo.2.2 hi.1 hi.2.1 hi.2.2 = 0 then (0, ptN s, lo, hi) else (termFault (ptN s) lo.1 lo.2.1 lo.2.2 hi.1 hi.2.1 hi.2.2, ⟨#[]⟩, (0, 0, 0), (0, 0, 0))
  | _, _ => (5, ⟨#[]⟩, (0, 0, 0), (0, 0, 0))
@[reducible] def ptAV (a : Int × ByteArray × V3 × V3) : AV := .agg [.v (.int .i64 a.1), .v (.string a.2.1), .v (.int .i64 a.2.2.1.1), .v (.int .i64 a.2.2.1.2.1), .v (.int .i64 a.2.2.1.2.2), .v (.int .i64 a.2.2.2.1), .v (.int .i64 a.2.2.2.2.1), .v (.int .i64 a.2.2.2.2.2)]

end Go.Proofs.YtokhnmchnfkiiaaDoor.Am
