/- strings.Join by the shelf's contract; words joined. No conditions. -/
import Derived.Test.YtokhnmchnfkiiaaDoorAmE3
import Derived.Test.YtokhnmchnfkiiaaDoorAmCg3
namespace Go.Proofs.YtokhnmchnfkiiaaDoor.Am
open Go Go.RowKit Go.Proofs
set_option linter.unusedSimpArgs false
set_option linter.unusedVariables false

theorem xBuilder : Builder.Extra Tryd.prog n156_ren where
  sizeBuilder := by kernel_rfl
  liesBuilder := by kernel_rfl
  t5 := Tryd.underlying5
  a5 := Tryd.isAgg5
  z5 := Tryd.sizeOf5
  v5 := Tryd.zeroValue5
  infoByte := by kernel_rfl
  cellsByte := by kernel_rfl
  sizeByte := by kernel_rfl
  neB5 := by decide

/-- A function whose contract says that below the heap's end the world is as it was. -/
theorem pure_below {P : Program} {f : FuncId} {args : List AV} {x : Value} (hen : enters P f = true)
    (h : ∀ (C : Ctx) (vs : Array Value), GlobOK C → RVs C args vs.toList → Calls P f vs C.w fun e w' => e = .returned x ∧ Below C.w.heap.size C.w w') : Pure P f args (.v x) := by
  refine ⟨hen, .v _, ?_⟩
  intro C vs hA hB hW hN hvs
  refine (h C vs hB.glob hvs).mono ?_
  rintro e w' ⟨rfl, hb⟩
  have K : Keeps C { C with w := w' } := ⟨hb.size, fun _ _ _ h => h, fun b hb' _ => hb.block b hb', fun _ _ h => h, fun _ => Nat.le_refl _, fun _ I h _ => ⟨I, h, rfl, rfl, rfl⟩, rfl, fun b hb' _ => .of_block (hb.block b hb')⟩
  have hbx : C.bx = [] := List.eq_nil_of_length_eq_zero hB.len
  refine ⟨x, { C with w := w' }, rfl, rfl, rfl, K, hA, ⟨[], trivial, ⟨by rw [hbx]; rfl, by rw [hbx]; exact List.nodup_nil, fun b h => (by rw [hbx] at h; cases h), fun k b cs h => (by rw [hbx] at h; simp at h), hB.glob.keep K⟩⟩, ⟨hb.os, hb.tape, hb.output, hb.size, fun b hb' _ => hb.block b hb'⟩, .v x⟩

/-- Words with a blank between each two. -/
def joinS (l : List ByteArray) : ByteArray := ⟨(Lib.join (l.map (·.data.toList)) [32]).toArray⟩
theorem joinS_two (a b : ByteArray) : joinS [a, b] = a ++ ⟨#[32]⟩ ++ b := by
  unfold joinS
  rw [List.map_cons, List.map_cons, List.map_nil, Lib.join_cons]
  apply ByteArray.ext
  simp [Lib.joinTail]

theorem q_join (c : Bool) (l : List ByteArray) (hne : l ≠ []) (hl : l.length ≤ 140737488355328) (hs : (joinS l).size ≤ 140737488355328) : Pure Tryd.prog 114 [strsAV c l, .v (.string ⟨#[32]⟩)] (.v (.string (joinS l))) := by
  refine pure_below (by kernel_rfl) ?_
  intro C vs _ hvs
  obtain ⟨a, b, hab⟩ : ∃ a b, vs = #[a, b] := by
    have h := hvs.1
    simp at h
    exact ⟨vs[0], vs[1], Array.ext (by simp [← h]) fun i h1 h2 => by
      have : i < 2 := by simpa using h2
      match i, this with
      | 0, _ => rfl
      | 1, _ => rfl⟩
  subst hab
  have ha := hvs.2 0 _ a rfl rfl
  have hb := rv_v (hvs.2 1 _ b rfl rfl)
  subst hb
  have hlen : (Lib.join (l.map (·.data.toList)) [32]).length ≤ 140737488355328 := by
    have e : (joinS l).size = (Lib.join (l.map (·.data.toList)) [32]).length := by rw [Lib.size_eq]; rfl
    omega
  have ha' : RV C (.sl c (l.map strCells)) a := ha
  obtain ⟨es, hes⟩ : ∃ es, es = l.map strCells := ⟨_, rfl⟩
  rw [← hes] at ha'
  cases ha' with
  | sl0 => exact (hne (by simpa using hes)).elim
  | sl _ _ bk off size cap f hn hsz hN hz hbk hcap hc hr =>
    have hl2 : es.length = l.length := by rw [hes]; simp
    rw [hl2] at hcap ⊢
    have hs1 : size = 1 := by
      obtain ⟨x, r, rfl⟩ := List.exists_cons_of_ne_nil hne
      have := hsz (strCells x) (by rw [hes]; simp)
      simpa using this.symm
    subst hs1
    refine Any.strings_Join n156 xBuilder bk off cap l ⟨#[32]⟩ C.w ?_ hbk hl hcap hlen
    intro j x hx
    have he : es[j]? = some (strCells x) := by rw [hes, List.getElem?_map, hx]; rfl
    have h1 := hc j 0 (strCells x) (.v (.string x)) he rfl
    have h2 := rv_v (hr j 0 (strCells x) (.v (.string x)) he rfl)
    rw [h2] at h1
    simpa using h1

theorem q_joined (c : Bool) (l : List ByteArray) (hne : l ≠ []) (hl : l.length ≤ 140737488355328) (hs : (joinS l).size ≤ 140737488355328) : Pure Tryd.prog 82 [strsAV c l] (.v (.string (joinS l))) := by
  refine pure_of_code (G := (G0)) vers0 mixed0 Tryd.func82 rfl (by decide) (by simp [Tryd.f82]) (by simp) fun ver => ?_
  simp only [Tryd.f82, G0]
  simp
  refine call_p (q_join c l hne hl hs) (by simp) ?_
  simp

end Go.Proofs.YtokhnmchnfkiiaaDoor.Am
