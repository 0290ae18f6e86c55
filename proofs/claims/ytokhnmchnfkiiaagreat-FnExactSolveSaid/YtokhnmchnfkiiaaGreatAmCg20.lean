import Derived.Test.YtokhnmchnfkiiaaGreatAmCg19
import Derived.Test.YtokhnmchnfkiiaaGreatAmCg17
import Derived.Test.YtokhnmchnfkiiaaGreatAmCg5
/- Solve, as the program goes. No conditions. -/
namespace Go.Proofs.YtokhnmchnfkiiaaGreat.Am
open Go Go.RowKit Go.Proofs
set_option linter.unusedSimpArgs false
set_option linter.unusedVariables false

/-- Three arrays of the call's own. -/
def ar3 (ver : Nat → Nat) (v1 v2 v3 : Nat) (e1 e2 e3 : TypeId) (r1 r2 r3 : List (List AV)) : Nat → ArrSt := fun j => if j = 27 then ⟨v1, true, e1, r1⟩ else if j = 28 then ⟨v2, true, e2, r2⟩ else if j = 29 then ⟨v3, true, e3, r3⟩ else ⟨ver j, false, 0, []⟩
section
variable (ver : Nat → Nat) (v1 v2 v3 v : Nat) (e1 e2 e3 e : TypeId) (r1 r2 r3 r : List (List AV))
theorem ar3_27 : ar3 ver v1 v2 v3 e1 e2 e3 r1 r2 r3 27 = ⟨v1, true, e1, r1⟩ := by simp [ar3]
theorem ar3_28 : ar3 ver v1 v2 v3 e1 e2 e3 r1 r2 r3 28 = ⟨v2, true, e2, r2⟩ := by simp [ar3]
theorem ar3_29 : ar3 ver v1 v2 v3 e1 e2 e3 r1 r2 r3 29 = ⟨v3, true, e3, r3⟩ := by simp [ar3]
theorem ar3_p27 : (fun j => if j = 27 then (⟨v, true, e, r⟩ : ArrSt) else ar3 ver v1 v2 v3 e1 e2 e3 r1 r2 r3 j) = ar3 ver v v2 v3 e e2 e3 r r2 r3 := by
  funext j
  by_cases h : j = 27 <;> simp [ar3, h]
theorem ar3_p28 : (fun j => if j = 28 then (⟨v, true, e, r⟩ : ArrSt) else ar3 ver v1 v2 v3 e1 e2 e3 r1 r2 r3 j) = ar3 ver v1 v v3 e1 e e3 r1 r r3 := by
  funext j
  by_cases h : j = 28
  · simp [ar3, h]
  · by_cases h2 : j = 27 <;> simp [ar3, h, h2]
theorem ar3_p29 : (fun j => if j = 29 then (⟨v, true, e, r⟩ : ArrSt) else ar3 ver v1 v2 v3 e1 e2 e3 r1 r2 r3 j) = ar3 ver v1 v2 v e1 e2 e r1 r2 r := by
  funext j
  by_cases h : j = 29
  · simp [ar3, h]
  · by_cases h2 : j = 27
    · simp [ar3, h, h2]
    · by_cases h3 : j = 28 <;> simp [ar3, h, h2, h3]
end
abbrev SolE : Type := Nat × List (Int × List Int) × List Int × Int × Nat × Nat × Nat
def solMuE (q : SolE) : Nat := q.1
/-- What holds at the head of the program's loop. -/
structure SolP (c : List Pk) (l : List Trm) (like : List Int) (bud : Int) (K0 : Nat) (R : Int × Int × List Int) (q : SolE) : Prop where
  i : SolI c.length bud K0 q.1 q.2.1 q.2.2.1 q.2.2.2.1
  r : solG (solU c l) (fun q ch dn => candF c q ch dn like) bud q.1 q.2.1 q.2.2.1 q.2.2.2.1 = R
def mrk (fr : List (Int × List Int)) : List Int := fr.map fun p => (p.2.length : Int)
theorem mrk_len (fr : List (Int × List Int)) : (mrk fr).length = fr.length := by simp [mrk]
theorem mrk_app (fr : List (Int × List Int)) (p : Int × List Int) : mrk (fr ++ [p]) = mrk fr ++ [(p.2.length : Int)] := by simp [mrk]
def chs (fr : List (Int × List Int)) : List Int := fr.map Prod.fst
theorem chs_len (fr : List (Int × List Int)) : (chs fr).length = fr.length := by simp [chs]
theorem chs_app (fr : List (Int × List Int)) (p : Int × List Int) : chs (fr ++ [p]) = chs fr ++ [p.1] := by simp [chs]

set_option maxHeartbeats 8000000 in
set_option maxRecDepth 10000 in
theorem q_solveA (c : List Pk) (hc : c.length ≤ 4611686018427387904) (hlen : ∀ p ∈ c, p.Len) (l : List Trm) (hl : l.length ≤ 1048576) (like : List Int) (hlk : like.length ≤ 4611686018427387904) (bud : Int) (h : (solO c l like bud).1 ≠ 0) :
    Pure Tryz.prog 20 [pksAV false false c, trmsAV false l, intsAV false like, .v (.int .i64 bud)] (.agg [.v (.int .i64 (solO c l like bud).1), .v (.int .i64 (solO c l like bud).2.1), .sl false []]) := by
  obtain ⟨O, hO⟩ : ∃ O, O = solO c l like bud := ⟨_, rfl⟩
  rw [← hO] at h ⊢
  refine pure_of_code (G := (Go4 27 28 29 83)) (verso4 27 28 29 83) mixed0 Tryz.func20 rfl (by decide) (by simp [Tryz.f20]) (by simp) fun ver => ?_
  simp only [Tryz.f20, Go4]
  simp
  refine call_p (q_solveFault c hc hlen l (by omega) like hlk bud) (by simp) ?_
  by_cases h1 : solC c l like bud = 0
  case neg =>
    rw [solO, if_pos h1] at hO
    simp [h1, hO]
  obtain ⟨hcat, f2, hb0, hb1, f5⟩ := sol_facts h1
  rw [solO, if_neg (by simp [h1])] at hO
  obtain ⟨R, hR⟩ : ∃ R, R = solS c l like bud := ⟨_, rfl⟩
  rw [← hR] at hO
  rw [hO] at h
  simp only at h
  simp only [hO]
  clear hO
  have hb : CatOk c := fun p hp => packF_ok ((catF_ok hcat).2 p hp)
  have hcl := (catF_ok hcat).1
  unfold solS at hR
  obtain ⟨K0, hK0⟩ : ∃ K0, K0 = 2 * bud.toNat + 1 := ⟨_, rfl⟩
  rw [← hK0] at hR
  have hK1 : K0 ≤ 2001 := by omega
  simp [h1, Mem.made, sealRows]
  refine aloopS (α := SolE) (fun q => ⟨envOf [(0, pksAV false false c), (1, trmsAV false l), (2, intsAV false like), (3, .v (.int .i64 bud)), (8, .box 0 0), (10, .arr 27 q.2.2.2.2.1 0 q.2.1.length), (11, .arr 28 q.2.2.2.2.2.1 0 q.2.2.1.length), (12, .arr 29 q.2.2.2.2.2.2 0 q.2.1.length), (13, .v (.int .i64 q.2.2.2.1))],
      ⟨[[.v (.int .i64 0), .v (.int .i64 0), .nil]], ar3 ver q.2.2.2.2.1 q.2.2.2.2.2.1 q.2.2.2.2.2.2 2 2 3 ((chs q.2.1).map intCells) (q.2.2.1.map intCells) ((mrk q.2.1).map intCells)⟩⟩)
    (SolP c l like bud K0 R) solMuE (K0, [], [], 0, ver 27 + 1, ver 28 + 1, ver 29 + 1)
    (.inl (.inl (less_envOf (by simp) (by simp) (by intro j; by_cases z1 : j = 27 <;> by_cases z2 : j = 28 <;> by_cases z3 : j = 29 <;> simp [ar3, chs, mrk, noArrs, z1, z2, z3])))) ⟨by rw [hK0]; exact SolI.start _ hb0, hR.symm⟩ ?_
  rintro ⟨k, fr, dn, n, v1, v2, v3⟩ ⟨hi, hr⟩
  simp only at hi hr ⊢
  obtain ⟨j, rfl⟩ := hi.pos
  have hp : Places c.length (chs fr) := hi.places
  have hfl := hi.fl
  have hdl := hi.dl
  obtain ⟨S, hS⟩ : ∃ S, S = chs fr := ⟨_, rfl⟩
  have hSl : S.length = fr.length := by rw [hS, chs_len]
  rw [← hS] at hp
  have hfs : List.take fr.length ((chs fr).map intCells) = S.map intCells := by rw [← hS]; exact List.take_of_length_le (by simp [hSl])
  have hunm : Pure Tryz.prog 75 [pksAV false false c, trmsAV false l, intsAV true S] (.tup [trmsAV false (unmL c l S), .v (.bool (solU c l S).isSome)]) := q_unmet c hb l hl S (by omega) hp
  simp [ar3_27, ar3_28, ar3_29, hfs]
  refine call_p hunm (by simp) ?_
  cases hU : solU c l S with
  | none =>
    rw [hS] at hU
    rw [solG_done (fr := fr) hU] at hr
    rw [← hr] at h
    exact absurd rfl h
  | some q =>
    have hql : q.length ≤ 4 := by
      have := unmL_len (l := l) hb hp
      rw [unmL_eq, hU] at this
      exact this
    have hu : unmL c l S = q := by rw [unmL_eq, hU]; rfl
    have hcand : Pure Tryz.prog 77 [pksAV false false c, trmsAV false q, intsAV true S, intsAV true dn, intsAV false like] (intsAV false (candF c q S dn like)) := by
      have := OCall.pure (q_candO false false true true false c hb (by omega) q (by omega) S dn like hp (by omega) (by omega) hlk) (by simp) (by simp)
      simpa using this
    have hdk : List.take dn.length (dn.map intCells) = dn.map intCells := List.take_of_length_le (by simp)
    rw [hu]
    simp [ar3_27, ar3_28, ar3_29, hfs, hdk]
    refine call_p hcand (by simp) ?_
    cases hk : candF c q S dn like with
    | cons x r =>
      by_cases hn : n = bud
      · rw [hS] at hU hk
        rw [solG_busy (fr := fr) hU hk hn] at hr
        simp [hn, ← hr]
      · have hn0 := hi.n0
        have hnb := hi.nb
        have hwn : IntKind.i64.wrap (n + 1) = n + 1 := IntWalk.i64_in _ (by omega)
        have hx := candF_pl c q S dn like x (by rw [hk]; simp)
        rw [hS] at hU hk
        rw [solG_push (fr := fr) hU hk hn] at hr
        have hro : (fr.length + 1) * 8 ≤ 140737488355328 := by omega
        simp [hn, hwn, ar3_27, ar3_28, ar3_29, ar3_p27, ar3_p29, aappend, sealRows, sealCells, hro, chs_len, mrk_len]
        refine ⟨j, fr ++ [(x, dn)], dn, n + 1, v1 + 1, v2, v3 + 1, .inl (.inl (less_envOf (by simp) (by simp) (by intro z; simp [chs_app, mrk_app]))), ⟨hi.push hx hn, hr⟩, Nat.lt_succ_self _⟩
    | nil =>
      rcases List.eq_nil_or_concat fr with rfl | ⟨fr', p, rfl⟩
      · rw [hS] at hU hk
        rw [solG_none hU hk] at hr
        simp [← hr, ar3_27]
      · simp only [List.concat_eq_append] at *
        rw [hS] at hU hk
        rw [solG_pop hU hk] at hr
        have hi2 := hi.pop
        have hpre := hi.pf p (by simp)
        have hpl := hpre.length_le
        have hpt : dn.take p.2.length = p.2 := (List.prefix_iff_eq_take.1 hpre).symm
        have hpt2 : List.take p.2.length (dn.map intCells) = p.2.map intCells := by rw [← List.map_take, hpt]
        have hlf : fr'.length + 1 ≤ K0 := by simp at hfl; omega
        have hwf : IntKind.i64.wrap (fr'.length : Int) = (fr'.length : Int) := IntWalk.i64_in _ (by omega)
        have hf0 : ¬ (fr'.length : Int) + 1 = 0 := by omega
        have hf1 : (fr'.length : Int) < (fr'.length : Int) + 1 := by omega
        have hf2 : (fr'.length : Int) ≤ (fr'.length : Int) + 1 := by omega
        have g1 : ((chs (fr' ++ [p])).map intCells)[fr'.length]? = some [.v (.int .i64 p.1)] := by simp [chs_app, chs_len]
        have g2 : ((mrk (fr' ++ [p])).map intCells)[fr'.length]? = some [.v (.int .i64 p.2.length)] := by simp [mrk_app, mrk_len]
        obtain ⟨C1, hC1⟩ : ∃ C1, C1 = (chs (fr' ++ [p])).map intCells := ⟨_, rfl⟩
        obtain ⟨M1, hM1⟩ : ∃ M1, M1 = (mrk (fr' ++ [p])).map intCells := ⟨_, rfl⟩
        rw [← hC1] at g1
        rw [← hM1] at g2
        simp only [← hC1, ← hM1]
        have hCl : C1.length = fr'.length + 1 := by rw [hC1]; simp [chs_len]
        have hMl : M1.length = fr'.length + 1 := by rw [hM1]; simp [mrk_len]
        have hCn : ¬ C1 = [] := by intro e; rw [e] at hCl; simp at hCl
        have hCt : C1.take fr'.length = (chs fr').map intCells := by rw [hC1, chs_app, List.map_append, List.take_append_of_le_length (by simp [chs_len]), List.take_of_length_le (by simp [chs_len])]
        have hMt : M1.take fr'.length = (mrk fr').map intCells := by rw [hM1, mrk_app, List.map_append, List.take_append_of_le_length (by simp [mrk_len]), List.take_of_length_le (by simp [mrk_len])]
        clear hC1 hM1
        simp [ar3_27, hwf, hf0, hf1, hf2, hCl, hCn]
        have hro : p.2.length * 8 ≤ 140737488355328 := by omega
        have hro2 : (p.2.length + 1) * 8 ≤ 140737488355328 := by omega
        have g3 : C1[fr'.length]'(by omega) = [.v (.int .i64 p.1)] := by rw [List.getElem?_eq_getElem (by omega)] at g1; exact Option.some.inj g1
        have g4 : M1[fr'.length]'(by omega) = [.v (.int .i64 p.2.length)] := by rw [List.getElem?_eq_getElem (by omega)] at g2; exact Option.some.inj g2
        have x6 : List.idxOf 6 [6, 13] = 0 := by decide
        have x13 : List.idxOf 13 [6, 13] = 1 := by decide
        refine adraw_g [0, 1, 2, 3, 4, 5, 6, 7, 8, 9, 10, 11, 12, 13, 14] [6, 13] [⟨[[.v (.int .i64 0), .v (.int .i64 0), .nil]], ar3 ver v1 v2 v3 2 2 3 C1 (dn.map intCells) M1⟩, ⟨[[.v (.int .i64 0), .v (.int .i64 0), .nil]], ar3 ver v1 (v2 + 1) v3 2 2 3 C1 (p.2.map intCells) M1⟩, ⟨[[.v (.int .i64 0), .v (.int .i64 0), .nil]], ar3 ver v1 (v2 + 1 + 1) v3 2 2 3 C1 ((p.2 ++ [p.1]).map intCells) M1⟩]
          [.arr 28 v2 0 dn.length, .arr 29 v3 0 (fr'.length + 1), .v (.int .i64 ((fr'.length : Int) + 1)), .v (.int .i64 fr'.length), .ael 29 v3 fr'.length 0, .v (.int .i64 p.2.length), .arr 28 (v2 + 1) 0 p.2.length, .arr 27 v1 0 (fr'.length + 1), .v (.int .i64 ((fr'.length : Int) + 1)), .v (.int .i64 fr'.length), .ael 27 v1 fr'.length 0, .v (.int .i64 p.1), .sl false [[.v (.int .i64 p.1)]], .arr 28 (v2 + 1 + 1) 0 (p.2.length + 1), .arr 28 (v2 + 1 + 1) 0 (p.2.length + 1)] (by decide +kernel) rfl rfl ?_
        simp [tellG_cons, tellG_nil, onTell, yieldsTo, x6, x13, ar3_27, ar3_28, ar3_29, ar3_p28, aappend, sealRows, sealCells, hwf, hf1, hpl, hpt2, g3, g4, hro, hro2, hCl, hMl]
        refine adraw_all (by kernel_rfl) ?_
        simp [ar3_27, ar3_28, ar3_29, hwf, hf1, hf2, hCl, hMl]
        have htl : List.take (p.2.length + 1) (p.2.map intCells ++ [[AV.v (.int .i64 p.1)]]) = p.2.map intCells ++ [[AV.v (.int .i64 p.1)]] := List.take_of_length_le (by simp)
        refine ⟨j, fr', p.2 ++ [p.1], n, v1 + 1, v2 + 1 + 1, v3 + 1, lessS_cut 10 12 (less_envOf (by simp [cutSlot, ar3_27, ar3_28, ar3_29, ar3_p27, ar3_p29]) (by simp [cutSlot, ar3_27, ar3_28, ar3_29, ar3_p27, ar3_p29]) (by intro z; simp [cutSlot, ar3_27, ar3_28, ar3_29, ar3_p27, ar3_p29, hCt, hMt])), ⟨hi2, hr⟩, Nat.lt_succ_self _⟩

set_option maxHeartbeats 8000000 in
set_option maxRecDepth 10000 in
theorem q_solveB (c : List Pk) (hc : c.length ≤ 4611686018427387904) (hlen : ∀ p ∈ c, p.Len) (l : List Trm) (hl : l.length ≤ 1048576) (like : List Int) (hlk : like.length ≤ 4611686018427387904) (bud : Int) (h : (solO c l like bud).1 = 0) :
    OCall Tryz.prog 20 none [pksAV false false c, trmsAV false l, intsAV false like, .v (.int .i64 bud)] (some (false, 2, (solO c l like bud).2.2.map intCells)) (.agg [.v (.int .i64 0), .v (.int .i64 (solO c l like bud).2.1), .arr 0 0 0 (solO c l like bud).2.2.length]) := by
  have h1 : solC c l like bud = 0 := by
    rw [solO] at h
    by_cases h1 : solC c l like bud = 0
    · exact h1
    · rw [if_pos h1] at h
      exact absurd h h1
  have hO : solO c l like bud = ((solS c l like bud).1, (solS c l like bud).2.1, sortI (solS c l like bud).2.2) := by rw [solO, if_neg (by simp [h1])]
  obtain ⟨hcat, f2, hb0, hb1, f5⟩ := sol_facts h1
  obtain ⟨R, hR⟩ : ∃ R, R = solS c l like bud := ⟨_, rfl⟩
  rw [← hR] at hO
  rw [hO] at h ⊢
  simp only at h ⊢
  have hsl := sortI_length R.2.2
  refine own_of_code (G := Go4 27 28 29 83) (verso4 27 28 29 83) mixed0 Tryz.func20 rfl (by decide) (by simp [Tryz.f20]) 27 (by simp) (by intro s' e es h; cases h; exact fr_int _) ?_
  obtain ⟨ver, hver⟩ : ∃ ver : Nat → Nat, ver = fun _ => 0 := ⟨_, rfl⟩
  have hin : inArrs none = noArrs ver := by rw [hver]; rfl
  rw [hin]
  clear hin hver
  simp only [Tryz.f20, Go4]
  simp
  refine call_p (q_solveFault c hc hlen l (by omega) like hlk bud) (by simp) ?_
  clear hO
  have hb : CatOk c := fun p hp => packF_ok ((catF_ok hcat).2 p hp)
  have hcl := (catF_ok hcat).1
  unfold solS at hR
  obtain ⟨K0, hK0⟩ : ∃ K0, K0 = 2 * bud.toNat + 1 := ⟨_, rfl⟩
  rw [← hK0] at hR
  have hK1 : K0 ≤ 2001 := by omega
  simp [h1, Mem.made, sealRows]
  refine aloopS (α := SolE) (fun q => ⟨envOf [(0, pksAV false false c), (1, trmsAV false l), (2, intsAV false like), (3, .v (.int .i64 bud)), (8, .box 0 0), (10, .arr 27 q.2.2.2.2.1 0 q.2.1.length), (11, .arr 28 q.2.2.2.2.2.1 0 q.2.2.1.length), (12, .arr 29 q.2.2.2.2.2.2 0 q.2.1.length), (13, .v (.int .i64 q.2.2.2.1))],
      ⟨[[.v (.int .i64 0), .v (.int .i64 0), .nil]], ar3 ver q.2.2.2.2.1 q.2.2.2.2.2.1 q.2.2.2.2.2.2 2 2 3 ((chs q.2.1).map intCells) (q.2.2.1.map intCells) ((mrk q.2.1).map intCells)⟩⟩)
    (SolP c l like bud K0 R) solMuE (K0, [], [], 0, ver 27 + 1, ver 28 + 1, ver 29 + 1)
    (.inl (.inl (less_envOf (by simp) (by simp) (by intro j; by_cases z1 : j = 27 <;> by_cases z2 : j = 28 <;> by_cases z3 : j = 29 <;> simp [ar3, chs, mrk, noArrs, z1, z2, z3])))) ⟨by rw [hK0]; exact SolI.start _ hb0, hR.symm⟩ ?_
  rintro ⟨k, fr, dn, n, v1, v2, v3⟩ ⟨hi, hr⟩
  simp only at hi hr ⊢
  obtain ⟨j, rfl⟩ := hi.pos
  have hp : Places c.length (chs fr) := hi.places
  have hfl := hi.fl
  have hdl := hi.dl
  obtain ⟨S, hS⟩ : ∃ S, S = chs fr := ⟨_, rfl⟩
  have hSl : S.length = fr.length := by rw [hS, chs_len]
  rw [← hS] at hp
  have hfs : List.take fr.length ((chs fr).map intCells) = S.map intCells := by rw [← hS]; exact List.take_of_length_le (by simp [hSl])
  have hunm : Pure Tryz.prog 75 [pksAV false false c, trmsAV false l, intsAV true S] (.tup [trmsAV false (unmL c l S), .v (.bool (solU c l S).isSome)]) := q_unmet c hb l hl S (by omega) hp
  simp [ar3_27, ar3_28, ar3_29, hfs]
  refine call_p hunm (by simp) ?_
  cases hU : solU c l S with
  | none =>
    rw [hS] at hU
    rw [solG_done (fr := fr) hU] at hr
    simp
    refine call_s 27 v1 2 (S.map intCells) (by simp [ar3_27, hS]) (o_sortInt S (by omega)) (by simp [ar3_27, hS, chs_len]) (by simp) (fr_int _) ?_
    have hr3 : R.2.2 = S := by rw [← hr, hS]; rfl
    have hr2 : R.2.1 = n := by rw [← hr]
    simp [hr2, hr3, sortI_length, hSl]
  | some q =>
    have hql : q.length ≤ 4 := by
      have := unmL_len (l := l) hb hp
      rw [unmL_eq, hU] at this
      exact this
    have hu : unmL c l S = q := by rw [unmL_eq, hU]; rfl
    have hcand : Pure Tryz.prog 77 [pksAV false false c, trmsAV false q, intsAV true S, intsAV true dn, intsAV false like] (intsAV false (candF c q S dn like)) := by
      have := OCall.pure (q_candO false false true true false c hb (by omega) q (by omega) S dn like hp (by omega) (by omega) hlk) (by simp) (by simp)
      simpa using this
    have hdk : List.take dn.length (dn.map intCells) = dn.map intCells := List.take_of_length_le (by simp)
    rw [hu]
    simp [ar3_27, ar3_28, ar3_29, hfs, hdk]
    refine call_p hcand (by simp) ?_
    cases hk : candF c q S dn like with
    | cons x r =>
      by_cases hn : n = bud
      · rw [hS] at hU hk
        rw [solG_busy (fr := fr) hU hk hn] at hr
        rw [← hr] at h
        cases h
      · have hn0 := hi.n0
        have hnb := hi.nb
        have hwn : IntKind.i64.wrap (n + 1) = n + 1 := IntWalk.i64_in _ (by omega)
        have hx := candF_pl c q S dn like x (by rw [hk]; simp)
        rw [hS] at hU hk
        rw [solG_push (fr := fr) hU hk hn] at hr
        have hro : (fr.length + 1) * 8 ≤ 140737488355328 := by omega
        simp [hn, hwn, ar3_27, ar3_28, ar3_29, ar3_p27, ar3_p29, aappend, sealRows, sealCells, hro, chs_len, mrk_len]
        refine ⟨j, fr ++ [(x, dn)], dn, n + 1, v1 + 1, v2, v3 + 1, .inl (.inl (less_envOf (by simp) (by simp) (by intro z; simp [chs_app, mrk_app]))), ⟨hi.push hx hn, hr⟩, Nat.lt_succ_self _⟩
    | nil =>
      rcases List.eq_nil_or_concat fr with rfl | ⟨fr', p, rfl⟩
      · rw [hS] at hU hk
        rw [solG_none hU hk] at hr
        rw [← hr] at h
        cases h
      · simp only [List.concat_eq_append] at *
        rw [hS] at hU hk
        rw [solG_pop hU hk] at hr
        have hi2 := hi.pop
        have hpre := hi.pf p (by simp)
        have hpl := hpre.length_le
        have hpt : dn.take p.2.length = p.2 := (List.prefix_iff_eq_take.1 hpre).symm
        have hpt2 : List.take p.2.length (dn.map intCells) = p.2.map intCells := by rw [← List.map_take, hpt]
        have hlf : fr'.length + 1 ≤ K0 := by simp at hfl; omega
        have hwf : IntKind.i64.wrap (fr'.length : Int) = (fr'.length : Int) := IntWalk.i64_in _ (by omega)
        have hf0 : ¬ (fr'.length : Int) + 1 = 0 := by omega
        have hf1 : (fr'.length : Int) < (fr'.length : Int) + 1 := by omega
        have hf2 : (fr'.length : Int) ≤ (fr'.length : Int) + 1 := by omega
        have g1 : ((chs (fr' ++ [p])).map intCells)[fr'.length]? = some [.v (.int .i64 p.1)] := by simp [chs_app, chs_len]
        have g2 : ((mrk (fr' ++ [p])).map intCells)[fr'.length]? = some [.v (.int .i64 p.2.length)] := by simp [mrk_app, mrk_len]
        obtain ⟨C1, hC1⟩ : ∃ C1, C1 = (chs (fr' ++ [p])).map intCells := ⟨_, rfl⟩
        obtain ⟨M1, hM1⟩ : ∃ M1, M1 = (mrk (fr' ++ [p])).map intCells := ⟨_, rfl⟩
        rw [← hC1] at g1
        rw [← hM1] at g2
        simp only [← hC1, ← hM1]
        have hCl : C1.length = fr'.length + 1 := by rw [hC1]; simp [chs_len]
        have hMl : M1.length = fr'.length + 1 := by rw [hM1]; simp [mrk_len]
        have hCn : ¬ C1 = [] := by intro e; rw [e] at hCl; simp at hCl
        have hCt : C1.take fr'.length = (chs fr').map intCells := by rw [hC1, chs_app, List.map_append, List.take_append_of_le_length (by simp [chs_len]), List.take_of_length_le (by simp [chs_len])]
        have hMt : M1.take fr'.length = (mrk fr').map intCells := by rw [hM1, mrk_app, List.map_append, List.take_append_of_le_length (by simp [mrk_len]), List.take_of_length_le (by simp [mrk_len])]
        clear hC1 hM1
        simp [ar3_27, hwf, hf0, hf1, hf2, hCl, hCn]
        have hro : p.2.length * 8 ≤ 140737488355328 := by omega
        have hro2 : (p.2.length + 1) * 8 ≤ 140737488355328 := by omega
        have g3 : C1[fr'.length]'(by omega) = [.v (.int .i64 p.1)] := by rw [List.getElem?_eq_getElem (by omega)] at g1; exact Option.some.inj g1
        have g4 : M1[fr'.length]'(by omega) = [.v (.int .i64 p.2.length)] := by rw [List.getElem?_eq_getElem (by omega)] at g2; exact Option.some.inj g2
        have x6 : List.idxOf 6 [6, 13] = 0 := by decide
        have x13 : List.idxOf 13 [6, 13] = 1 := by decide
        refine adraw_g [0, 1, 2, 3, 4, 5, 6, 7, 8, 9, 10, 11, 12, 13, 14] [6, 13] [⟨[[.v (.int .i64 0), .v (.int .i64 0), .nil]], ar3 ver v1 v2 v3 2 2 3 C1 (dn.map intCells) M1⟩, ⟨[[.v (.int .i64 0), .v (.int .i64 0), .nil]], ar3 ver v1 (v2 + 1) v3 2 2 3 C1 (p.2.map intCells) M1⟩, ⟨[[.v (.int .i64 0), .v (.int .i64 0), .nil]], ar3 ver v1 (v2 + 1 + 1) v3 2 2 3 C1 ((p.2 ++ [p.1]).map intCells) M1⟩]
          [.arr 28 v2 0 dn.length, .arr 29 v3 0 (fr'.length + 1), .v (.int .i64 ((fr'.length : Int) + 1)), .v (.int .i64 fr'.length), .ael 29 v3 fr'.length 0, .v (.int .i64 p.2.length), .arr 28 (v2 + 1) 0 p.2.length, .arr 27 v1 0 (fr'.length + 1), .v (.int .i64 ((fr'.length : Int) + 1)), .v (.int .i64 fr'.length), .ael 27 v1 fr'.length 0, .v (.int .i64 p.1), .sl false [[.v (.int .i64 p.1)]], .arr 28 (v2 + 1 + 1) 0 (p.2.length + 1), .arr 28 (v2 + 1 + 1) 0 (p.2.length + 1)] (by decide +kernel) rfl rfl ?_
        simp [tellG_cons, tellG_nil, onTell, yieldsTo, x6, x13, ar3_27, ar3_28, ar3_29, ar3_p28, aappend, sealRows, sealCells, hwf, hf1, hpl, hpt2, g3, g4, hro, hro2, hCl, hMl]
        refine adraw_all (by kernel_rfl) ?_
        simp [ar3_27, ar3_28, ar3_29, hwf, hf1, hf2, hCl, hMl]
        have htl : List.take (p.2.length + 1) (p.2.map intCells ++ [[AV.v (.int .i64 p.1)]]) = p.2.map intCells ++ [[AV.v (.int .i64 p.1)]] := List.take_of_length_le (by simp)
        refine ⟨j, fr', p.2 ++ [p.1], n, v1 + 1, v2 + 1 + 1, v3 + 1, lessS_cut 10 12 (less_envOf (by simp [cutSlot, ar3_27, ar3_28, ar3_29, ar3_p27, ar3_p29]) (by simp [cutSlot, ar3_27, ar3_28, ar3_29, ar3_p27, ar3_p29]) (by intro z; simp [cutSlot, ar3_27, ar3_28, ar3_29, ar3_p27, ar3_p29, hCt, hMt])), ⟨hi2, hr⟩, Nat.lt_succ_self _⟩

end Go.Proofs.YtokhnmchnfkiiaaGreat.Am

/- How the laws' helpers meet what Solve answers. No conditions. -/
namespace Go.Proofs.YtokhnmchnfkiiaaGreat.Am
open Go Go.RowKit Go.Proofs
set_option linter.unusedSimpArgs false
set_option linter.unusedVariables false

theorem o_markSol (l : List Int) (k a b : Int) (h0 : 0 ≤ k) (hk : k + l.length ≤ 1099511627776) :
    OCall Tryz.prog 28 (some (2, l.map intCells)) [.agg [.v (.int .i64 a), .v (.int .i64 b), .arr 0 0 0 l.length], .v (.int .i64 k)] (some (true, 2, (mlist k l.length).map intCells)) (.v (.int .i64 (k + l.length))) := by
  refine own_of_code (G := G0) vers0 mixed0 Tryz.func28 rfl (by decide) (by simp [Tryz.f28]) 0 (.v _) (by intro s e es h; cases h; exact fr_int _) ?_
  simp only [Tryz.f28, G0, inArrs_some]
  simp
  refine call_s 0 0 2 (l.map intCells) (by simp) (o_markInts l k h0 hk) (by simp) (by simp) (fr_int _) ?_
  simp [arr1_put]

theorem p_markSol0 (c : Bool) (k a b : Int) : Pure Tryz.prog 28 [.agg [.v (.int .i64 a), .v (.int .i64 b), .sl c []], .v (.int .i64 k)] (.v (.int .i64 k)) := by
  refine pure_of_code (G := (G0)) vers0 mixed0 Tryz.func28 rfl (by decide) (by simp [Tryz.f28]) (by simp) fun ver => ?_
  simp only [Tryz.f28, G0]
  simp
  refine call_p (p_markInts0 c k) (by simp) ?_
  simp

theorem p_heldSol (c : Bool) (n : Nat) (k a b : Int) (h0 : 0 ≤ k) (hk : k + n ≤ 1099511627776) : Pure Tryz.prog 29 [.agg [.v (.int .i64 a), .v (.int .i64 b), intsAV c (mlist k n)], .v (.int .i64 k)] (.v (.int .i64 (k + n))) := by
  refine pure_of_code (G := (G0)) vers0 mixed0 Tryz.func29 rfl (by decide) (by simp [Tryz.f29]) (by simp) fun ver => ?_
  simp only [Tryz.f29, G0]
  simp
  refine call_p (p_heldInts c n k h0 hk) (by simp) ?_
  simp [show ¬ k + (n : Int) < 0 by omega]

theorem p_heldSol0 (c : Bool) (k a b : Int) (h0 : 0 ≤ k) (hk : k ≤ 1099511627776) : Pure Tryz.prog 29 [.agg [.v (.int .i64 a), .v (.int .i64 b), .sl c []], .v (.int .i64 k)] (.v (.int .i64 k)) := by
  have := p_heldSol c 0 k a b h0 (by simpa using hk)
  simpa [mlist] using this

theorem e_sol (c d : Bool) (l : List Int) (hl : l.length ≤ 4611686018427387904) (a b : Int) : Pure Tryz.prog 21 [.agg [.v (.int .i64 a), .v (.int .i64 b), intsAV c l], .agg [.v (.int .i64 a), .v (.int .i64 b), intsAV d l]] (.v (.bool true)) := by
  refine pure_of_code (G := (G0)) vers0 mixed0 Tryz.func21 rfl (by decide) (by simp [Tryz.f21]) (by simp) fun ver => ?_
  simp only [Tryz.f21, G0]
  simp
  refine call_p (e_ints c d l hl) (by simp) ?_
  simp

theorem solS_set {c : List Pk} {l : List Trm} {like : List Int} {bud : Int} (h0 : 0 ≤ bud) (h1 : bud ≤ 1000) : (solS c l like bud).2.2.length ≤ 2001 ∧ ((solS c l like bud).1 ≠ 0 → (solS c l like bud).2.2 = []) := by
  obtain ⟨g1, g2⟩ := solG_set (N := c.length) (U := solU c l) (K := fun q ch dn => candF c q ch dn like) (fun q ch dn x hx => candF_pl c q ch dn like x hx) _ _ _ _ (SolI.start c.length h0)
  refine ⟨?_, g2⟩
  have : (solS c l like bud).2.2.length ≤ 2 * bud.toNat + 1 := g1
  omega
theorem solO_nil {c : List Pk} {l : List Trm} {like : List Int} {bud : Int} (h : (solO c l like bud).1 ≠ 0) : (solO c l like bud).2.2 = [] := by
  by_cases h1 : solC c l like bud = 0
  · obtain ⟨_, _, b0, b1, _⟩ := sol_facts h1
    rw [solO, if_neg (by simp [h1])] at h ⊢
    simp only at h ⊢
    rw [(solS_set b0 b1).2 h]
    exact sortI_nil
  · rw [solO, if_pos h1]
theorem solO_len {c : List Pk} {l : List Trm} {like : List Int} {bud : Int} (h : (solO c l like bud).1 = 0) : (solO c l like bud).2.2.length ≤ 2001 := by
  by_cases h1 : solC c l like bud = 0
  · obtain ⟨_, _, b0, b1, _⟩ := sol_facts h1
    rw [solO, if_neg (by simp [h1])]
    simp only
    rw [sortI_length]
    exact (solS_set b0 b1).1
  · rw [solO, if_pos h1]
    exact Nat.zero_le _

end Go.Proofs.YtokhnmchnfkiiaaGreat.Am
