/- What packages give; catalogs' faults. No conditions. -/
import Derived.Test.YtokhnmchnfkiiaaAmC7
namespace Go.Proofs.Ytokhnmchnfkiiaa.Am
open Go Go.RowKit Go.Proofs
set_option linter.unusedSimpArgs false
set_option linter.unusedVariables false

theorem sealCells_free : ∀ {cs : List AV} (m : Mem), (∀ c ∈ cs, AV.Free (fun _ => True) c) → sealCells cs m = (cs, m)
  | [], m, _ => rfl
  | c :: cs, m, h => by
    have h1 := h c (by simp)
    have h2 := sealCells_free (cs := cs) m fun a ha => h a (by simp [ha])
    cases h1 <;> simp [sealCells, h2]
theorem sealRows_free : ∀ {es : List (List AV)} (m : Mem), (∀ e ∈ es, ∀ c ∈ e, AV.Free (fun _ => True) c) → sealRows es m = (es, m)
  | [], m, _ => rfl
  | e :: es, m, h => by
    simp only [sealRows]
    rw [sealCells_free m (h e (by simp))]
    simp only
    rw [sealRows_free m fun a ha => h a (by simp [ha])]
@[simp] theorem seal_strs (l : List ByteArray) (m : Mem) : sealRows (l.map strCells) m = (l.map strCells, m) := sealRows_free m (fr_str l)
@[simp] theorem seal_ints (l : List Int) (m : Mem) : sealRows (l.map intCells) m = (l.map intCells, m) := sealRows_free m (fr_int l)
@[simp] theorem seal_bytes (l : List Int) (m : Mem) : sealRows (l.map byteCells) m = (l.map byteCells, m) := sealRows_free m (fr_byte l)
@[simp] theorem seal_trms (l : List Trm) (m : Mem) : sealRows (l.map Trm.cells) m = (l.map Trm.cells, m) := sealRows_free m (fr_trm l)
@[simp] theorem seal_cls (k : Bool) (l : List (List Trm)) (m : Mem) : sealRows (l.map (clauseCells k)) m = (l.map (clauseCells k), m) := sealRows_free m (fr_clause trivial l)
@[simp] theorem seal_pks (k : Bool) (l : List Pk) (m : Mem) : sealRows (l.map (Pk.cells k)) m = (l.map (Pk.cells k), m) := sealRows_free m (fr_pk trivial l)

/-- As G0, with one slot whose new slice is the call's own. -/
noncomputable def Go1 (t0 : Nat) : Cfg := ⟨Try.prog, fun t => t == t0, fun t => t == 26, fun _ => true, 0⟩
theorem verso (t0 : Nat) : (Go1 t0).Vers := fun t h => vers0 t h

theorem q_names (d : Bool) (p : Pk) (hp : p.pr.length ≤ 1000000) : Pure Try.prog 98 [p.av d] (strsAV false (p.n :: p.pr)) := by
  refine pure_of_code (G := (Go1 5)) (verso 5) mixed0 Try.func98 rfl (by decide) (by simp [Try.f98]) (by simp) fun ver => ?_
  simp only [Try.f98, Go1]
  simp [aappend, Mem.made, sealRows, sealCells, List.range_succ, noArrs, show (1 + p.pr.length) * 16 ≤ 140737488355328 by omega]
  rw [List.take_of_length_le (by simp; omega)]

theorem q_givesc (d : Bool) (p : Pk) (t : Trm) (n : ByteArray) : BCall Try.prog 99 [.v (.string n), .box 1 0, .box 0 0] [p.cells d, t.cells] (.v (.bool (inTF t n p.v))) := by
  refine bcode Try.func99 rfl (by decide) (by simp [Try.f99]) (by simp) fun ver => ?_
  simp only [Try.f99, Gb]
  simp
  refine call_p (q_has t n p.v) (by simp) ?_
  simp

theorem any_in (t : Trm) (v : Ver) : ∀ l : List ByteArray, (l.any fun n => inTF t n v) = (memB t.n l && inTF t t.n v)
  | [] => rfl
  | s :: l => by
    simp only [List.any_cons, any_in t v l, memB]
    by_cases h : s = t.n
    · subst h
      cases memB t.n l <;> simp [inTF]
    · have h2 : inTF t s v = false := by simp [inTF, Ne.symm h]
      simp [h, h2]

theorem q_gives (d : Bool) (p : Pk) (hp : p.pr.length ≤ 1000000) (t : Trm) : Pure Try.prog 48 [p.av d, t.av] (.v (.bool (givesF p t))) := by
  have e : ((p.n :: p.pr).any fun n => inTF t n p.v) = givesF p t := by
    rw [any_in, givesF, memB]
    by_cases h : p.n = t.n
    · simp [h]
    · simp [h, Ne.symm h]
  rw [← e]
  refine pure_of_code (G := (G0)) vers0 mixed0 Try.func48 rfl (by decide) (by simp [Try.f48]) (by simp) fun ver => ?_
  simp only [Try.f48, G0]
  simp
  refine call_p (q_names d p hp) (by simp) ?_
  simp
  refine call_b (cb_strs false (p.n :: p.pr) (by simp; omega) 99 [] [.box 1 0, .box 0 0] [p.cells d, t.cells] (fun n => inTF t n p.v) (fun _ => rfl) (fun _ => rfl) (fun _ => rfl) fun a _ => q_givesc d p t a) rfl ?_
  simp

theorem q_givesOne (c d : Bool) (p : Pk) (hp : p.pr.length ≤ 1000000) (l : List Trm) (hl : l.length ≤ 4611686018427387904) : Pure Try.prog 120 [p.av d, trmsAV c l] (.v (.bool (l.any (givesF p)))) := by
  refine pure_of_code (G := (G0)) vers0 mixed0 Try.func120 rfl (by decide) (by simp [Try.f120]) (by simp) fun ver => ?_
  simp only [Try.f120, G0]
  simp
  refine call_p (cp_trms c l hl 48 [p.av d] [] (givesF p) (fun _ => rfl) (fun _ => rfl) (by simp) (by simp) fun a _ => q_gives d p hp a) (by simp) ?_
  simp

def catR : List Pk → List Pk → Int
  | _, [] => 0
  | seen, p :: l => if packF p ≠ 0 then packF p else if 0 ≤ idxQ (isPk p.n p.v) seen 0 then 6 else catR (seen ++ [p]) l
def catF (l : List Pk) : Int := if 24 < l.length then 2 else catR [] l
theorem catR_app {l : List Pk} {k : Nat} (h : k < l.length) : catR (l.take k) (l.drop k) = if packF l[k] ≠ 0 then packF l[k] else if 0 ≤ idxQ (isPk l[k].n l[k].v) (l.take k) 0 then 6 else catR (l.take (k + 1)) (l.drop (k + 1)) := by
  rw [drop_get h, catR, List.take_add_one, List.getElem?_eq_getElem h]
  rfl
theorem catR_ok : ∀ {l seen : List Pk}, catR seen l = 0 → ∀ p ∈ l, packF p = 0
  | [], _, _, p, hp => by cases hp
  | a :: l, seen, h, p, hp => by
    unfold catR at h
    split at h
    · rename_i h1; exact (h1 h).elim
    · rename_i h1
      split at h
      · cases h
      · rcases List.mem_cons.1 hp with rfl | hp
        · simpa using h1
        · exact catR_ok h p hp
theorem catF_ok {l : List Pk} (h : catF l = 0) : l.length ≤ 24 ∧ ∀ p ∈ l, packF p = 0 := by
  unfold catF at h
  split at h
  · cases h
  · exact ⟨by omega, catR_ok h⟩

set_option maxHeartbeats 4000000 in
theorem p_cat (c d : Bool) (l : List Pk) (hl : l.length ≤ 4611686018427387904) (hb : ∀ p ∈ l, p.Len) : Pure Try.prog 50 [pksAV c d l] (.v (.int .i64 (catF l))) := by
  refine pure_of_code (G := (G0)) vers0 mixed0 Try.func50 rfl (by decide) (by simp [Try.f50]) (by simp) fun ver => ?_
  simp only [Try.f50, G0]
  by_cases h24 : 24 < l.length
  · simp [catF, h24, show (24 : Int) < l.length by omega]
  have e : catF l = catR [] l := by rw [catF, if_neg h24]
  rw [e]
  simp [show ¬ (24 : Int) < l.length by omega]
  refine aloop (α := Nat) (fun k => ⟨envOf [(0, pksAV c d l), (3, .v (.int .i64 k))], ⟨[], noArrs ver⟩⟩)
    (fun k => k ≤ l.length ∧ catR (l.take k) (l.drop k) = catR [] l) (fun k => l.length - k) 0 (less_envOf (by simp) rfl fun _ => rfl) (by simp) ?_
  rintro k ⟨hk, hm⟩
  by_cases hlt : k < l.length
  · have hw := wrapS hlt hl
    rw [catR_app hlt] at hm
    have hmem : l[k] ∈ l := List.getElem_mem hlt
    simp [hlt]
    refine call_p (p_pack d l[k] (hb _ hmem)) (by simp) ?_
    simp (config := { contextual := true, maxSteps := 4000000 }) [-Int.not_lt, -Int.not_le]
    refine And.intro (fun h => ?_) (fun h => ?_)
    · rw [if_pos h] at hm
      exact hm
    rw [if_neg (by simp [h])] at hm
    refine adraw_all (by kernel_rfl) ?_
    simp [hlt, show (k : Int) ≤ l.length by omega, Nat.le_of_lt hlt]
    simp only [← List.map_take]
    refine call_p (p_find c d (l.take k) (by simp; omega) l[k].n l[k].v) (by simp [-List.map_take]) ?_
    simp (config := { contextual := true, maxSteps := 4000000 }) [-Int.not_lt, -Int.not_le]
    refine And.intro (fun h2 => ?_) (fun h2 => ?_)
    · rw [if_pos h2] at hm
      exact hm
    · refine ⟨k + 1, less_envOf (by simp [hw]) rfl fun _ => rfl, ⟨by omega, by rw [← hm, if_neg h2]⟩, by omega⟩
  · rw [List.drop_eq_nil_of_le (by omega), catR] at hm
    simp [hlt]
    exact hm

set_option maxHeartbeats 4000000 in
theorem q_cat (c d : Bool) (l : List Pk) (hl : l.length ≤ 4611686018427387904) (hb : ∀ p ∈ l, p.Len) : Pure Try.prog 46 [pksAV c d l] (.v (.int .i64 (catF l))) := by
  refine pure_of_code (G := (G0)) vers0 mixed0 Try.func46 rfl (by decide) (by simp [Try.f46]) (by simp) fun ver => ?_
  simp only [Try.f46, G0]
  by_cases h24 : 24 < l.length
  · simp [catF, h24, show (24 : Int) < l.length by omega]
  have e : catF l = catR [] l := by rw [catF, if_neg h24]
  rw [e]
  simp [show ¬ (24 : Int) < l.length by omega]
  refine aloop (α := Nat × List (List AV)) (fun D => ⟨envOf [(0, pksAV c d l), (9, pksAV c d l), (10, .v (.int .i64 l.length)), (11, .v (.int .i64 D.1))], ⟨D.2, noArrs ver⟩⟩)
    (fun D => D.1 ≤ l.length ∧ catR (l.take D.1) (l.drop D.1) = catR [] l) (fun D => l.length - D.1) (0, []) (less_envOf (by simp) rfl fun _ => rfl) (by simp) ?_
  rintro ⟨k, bs⟩ ⟨hk, hm⟩
  simp only at hk hm ⊢
  by_cases hlt : k < l.length
  · have hw := wrapS hlt hl
    rw [catR_app hlt] at hm
    have hmem : l[k] ∈ l := List.getElem_mem hlt
    simp [hlt]
    refine call_p (q_pack d l[k] (hb _ hmem)) (by simp) ?_
    simp (config := { contextual := true, maxSteps := 4000000 }) [-Int.not_lt, -Int.not_le]
    refine And.intro (fun h => ?_) (fun h => ?_)
    · rw [if_pos h] at hm
      exact hm
    rw [if_neg (by simp [h])] at hm
    refine adraw_all (by kernel_rfl) ?_
    simp [hlt, show (k : Int) ≤ l.length by omega, Nat.le_of_lt hlt]
    simp only [← List.map_take]
    refine call_p (q_find c d (l.take k) (by simp; omega) l[k].n l[k].v) (by simp [-List.map_take]) ?_
    simp (config := { contextual := true, maxSteps := 4000000 }) [-Int.not_lt, -Int.not_le]
    refine And.intro (fun h2 => ?_) (fun h2 => ?_)
    · rw [if_pos h2] at hm
      exact hm
    · refine ⟨k + 1, ⟨_, less_envOf (by simp [hw]) rfl fun _ => rfl⟩, ⟨by omega, by rw [← hm, if_neg h2]⟩, by omega⟩
  · rw [List.drop_eq_nil_of_le (by omega), catR] at hm
    simp [hlt]
    exact hm

end Go.Proofs.Ytokhnmchnfkiiaa.Am
