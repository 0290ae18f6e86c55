/- Those of a set of which something holds; the packages that give a term. No conditions. -/
import Derived.Test.YtbmfoijakgccgaaAmC18
import Derived.Test.YtbmfoijakgccgaaAmC15
namespace Go.Proofs.Ytbmfoijakgccgaa.Am
open Go Go.RowKit Go.Proofs
set_option linter.unusedSimpArgs false
set_option linter.unusedVariables false

@[simp] theorem tf_ag (own verT wr : Nat → Bool) (md : Nat) : Cfg.isAg ⟨Try.prog, own, verT, wr, md⟩ 146 = some false := by kernel_rfl

theorem stab_O {bs : List (List AV)} (h : Stab bs) (a : Nat → ArrSt) (o : Option Nat) : lentBoxesO ⟨bs, a⟩ o = bs := by
  have h1 := h a
  unfold lentBoxes at h1
  unfold lentBoxesO
  apply List.ext_getElem?
  intro i
  have h2 := congrArg (fun z => z[i]?) h1
  simp only [List.getElem?_map] at h2 ⊢
  cases hb : bs[i]? with
  | none => rfl
  | some r =>
    rw [hb] at h2
    simp only [Option.map_some, Option.some.injEq] at h2 ⊢
    apply List.ext_getElem?
    intro j
    have h3 := congrArg (fun z => z[j]?) h2
    simp only [List.getElem?_map] at h3 ⊢
    cases hc : r[j]? with
    | none => rfl
    | some c =>
      rw [hc] at h3
      simp only [Option.map_some, Option.some.injEq] at h3 ⊢
      cases c with
      | arr i n off len =>
        exfalso
        simp only [lend1] at h3
        split at h3 <;> cases h3
      | _ => exact h3

theorem c_clone (c : Bool) (a : Int) (l : List Int) (hl : (a :: l).length * 8 ≤ 140737488355328) : OCall Try.prog 187 none [intsAV c (a :: l)] (some (false, 2, (a :: l).map intCells)) (.arr 0 0 0 (a :: l).length) := by
  refine own_of_code (G := Go1 5) (verso 5) mixed0 Try.func187 rfl (by decide) (by simp [Try.f187]) 5 .dead (by intro s e es h; cases h; exact fr_int (a :: l)) ?_
  simp only [Try.f187, Go1, inArrs]
  have h2 : (l.length + 1) * 8 ≤ 140737488355328 := by simpa using hl
  have h3 := seal_ints (a :: l)
  simp only [List.map_cons] at h3
  simp [aappend, Mem.made, sealRows, sealCells, h3, h2]

theorem p_clone0 (c : Bool) : Pure Try.prog 187 [.sl c []] (.sl false []) := by
  refine pure_of_code (G := (G0)) vers0 mixed0 Try.func187 rfl (by decide) (by simp [Try.f187]) (by simp) fun ver => ?_
  simp only [Try.f187, G0]
  simp [aappend, sealRows]

theorem d_ints0 (c : Bool) (f : FuncId) (post : List AV) (bs : List (List AV)) (hst : Stab bs) (hs2 : StabA post) : BCall Try.prog 186 [.sl false [], .clo f [] post] bs (.sl false []) := by
  refine bcode Try.func186 rfl (by decide) (by simp [Try.f186]) (by simp) fun ver => ?_
  simp only [Try.f186, Gb]
  have es := hs2
  unfold StabA at es
  simp
  try simp only [es]
  refine call_b (xb_ints false [] (by simp) f [] post bs (fun _ => false) hst (fun _ => rfl) hs2 (by simp)) (hst _) ?_
  simp [idxQ]

theorem q_those1 (x : Int) (f : FuncId) (post : List AV) (bs : List (List AV)) (q : Bool) (hst : Stab (bs ++ [[AV.clo f [] post]])) (hs2 : StabA post) (h : BCall Try.prog f ([.v (.int .i64 x)] ++ post) (bs ++ [[AV.clo f [] post]]) (.v (.bool q))) :
    BCall Try.prog 188 [.v (.int .i64 x), .box bs.length 0] (bs ++ [[AV.clo f [] post]]) (.v (.bool (!q))) := by
  refine bcode Try.func188 rfl (by decide) (by simp [Try.f188]) (by simp) fun ver => ?_
  simp only [Try.f188, Gb]
  have es := hs2
  unfold StabA at es
  simp
  try simp only [es]
  refine call_b (by simpa using h) (hst _) ?_
  simp

theorem q_those0 (k : Bool) (f : FuncId) (post : List AV) (bs : List (List AV)) (hst : Stab (bs ++ [[AV.clo f [] post]])) (hs2 : StabA post) : BCall Try.prog 139 [.sl k [], .clo f [] post] bs (.sl false []) := by
  refine bcode Try.func139 rfl (by decide) (by simp [Try.f139]) (by simp) fun ver => ?_
  simp only [Try.f139, Gb]
  simp [AV.one]
  refine call_p (p_clone0 k) (by simp) ?_
  simp
  refine call_b (d_ints0 false 188 [.box bs.length 0] (bs ++ [[AV.clo f [] post]]) hst (fun _ => rfl)) (by simpa using hst _) ?_
  simp

theorem q_those (k : Bool) (a : Int) (l : List Int) (hl : (a :: l).length * 8 ≤ 140737488355328) (f : FuncId) (post : List AV) (bs : List (List AV)) (q : Int → Bool) (hst : Stab (bs ++ [[AV.clo f [] post]])) (hs2 : StabA post)
    (hcl : ∀ cs ∈ bs, ∀ c ∈ cs, c.closed) (hcp : ∀ c ∈ post, c.closed) (h : ∀ x ∈ a :: l, BCall Try.prog f ([.v (.int .i64 x)] ++ post) (bs ++ [[AV.clo f [] post]]) (.v (.bool (q x)))) :
    OCallB Try.prog 139 bs none [intsAV k (a :: l), .clo f [] post] (some (false, 2, ((a :: l).filter q).map intCells)) (.arr 0 0 0 ((a :: l).filter q).length) := by
  refine own_of_codeB (G := Gob bs.length 6) (versob _ _) mixed0 Try.func139 rfl (by decide) (by simp [Try.f139]) (fun k hk => by simpa [Gob] using hk) 6 .dead (by intro s e es h; cases h; exact fr_int _) ?_
  simp only [Try.f139, Gob, inArrs]
  simp [AV.one]
  refine call_n 6 (c_clone k a l hl) (by simp) ?_
  simp
  have hq : ((a :: l).filter fun x => !!q x) = (a :: l).filter q := by simp
  have hd := d_ints (a :: l) (by omega) 188 [.box bs.length 0] (bs ++ [[AV.clo f [] post]]) (fun x => !q x) hst (fun _ => rfl) fun x hx => q_those1 x f post bs (q x) hst hs2 (h x hx)
  rw [hq] at hd
  refine call_ob 6 1 2 ((a :: l).map intCells) (by simp) hd (stab_O hst _ _) (by simp) ?_ ?_ (cl_int (a :: l)) ?_
  · intro c hc
    simp at hc
    rcases hc with rfl | rfl
    · exact .dead
    · exact .clo _ _ _ (by simp) (by simp; exact .box _ _)
  · intro cs hcs c hc
    rcases List.mem_append.1 hcs with h | h
    · exact hcl cs h c hc
    · simp at h
      subst h
      simp at hc
      subst hc
      exact .clo _ _ _ (by simp) hcp
  · simp

end Go.Proofs.Ytbmfoijakgccgaa.Am
