/- InTerm of the program returns what the reference's returns, for all arguments: the row of the law. No conditions. -/
import Derived.Test.YtldbckbldddaaaaRows
import Derived.Test.YtldbckbldddaaaaAmL1
import Derived.Test.YtldbckbldddaaaaAmV
import Derived.Test.YtldbckbldddaaaaAmC9
import Derived.WalkKit
import Derived.OpenShut
import Derived.ShutString
import Derived.ChangeOld
import Derived.Below
import Derived.SizedLaws
namespace Go.Proofs.Ytldbckbldddaaaa.Am.RowFnExactInTerm
open Go Go.ChangeShapes Go.WideShapes Go.ChangeAt Go.RowKit Go.Proofs

theorem pure (xs : List AV) (h : TypedArgs Try.prog 8 [43, 9, 24] xs) : Pure Try.prog 10 xs (.v (.bool true)) := by
  simp only [TypedArgs, TypedV, Try.underlying43, Try.underlying24, Try.underlying9] at h
  obtain ⟨_, _, rfl, ⟨_, rfl, h⟩, _, _, rfl, h1, _, _, rfl, ⟨_, rfl, h2⟩, rfl⟩ := h
  obtain ⟨t, rfl⟩ := ty_trm h
  obtain ⟨v, rfl⟩ := ty_ver h2
  simp [Typed, Try.underlying9] at h1
  obtain ⟨x, rfl, _⟩ := h1
  exact l_inTerm t x v
theorem own : ownKnob Try.prog.godebug = none := by kernel_rfl
theorem laidOut : laidOutB Try.prog = true := by kernel_rfl
set_option linter.unusedVariables false
set_option maxRecDepth 100000 in
theorem lifted (os : Os) (started : os.Started) (H : Type) (enc : TypeId × Value → H) :
    ReturnsInHanded {} Try.checked os 10 .any (Rows.fnExactInTermSpec.pre6 enc Try.prog Try.f10 Rows.fnExactInTermRow.domain false) (Rows.fnExactInTermSpec.post enc Try.prog Try.f10 false true false false) := by
  refine returnsInHanded_of_change_sized (C := Try.checked) own started (by kernel_rfl) Try.func10
    (ChangeSpec.witness6 (enc := enc) (C := Try.checked) false ⟨#[], #[.agg #[.string ByteArray.empty, .int .i64 0, .int .i64 0, .int .i64 0, .int .i64 0, .int .i64 0, .int .i64 0], .string ByteArray.empty, .agg #[.int .i64 0, .int .i64 0, .int .i64 0]], []⟩ 8 (by kernel_rfl) (by kernel_rfl) (by kernel_rfl) (by kernel_rfl)) ?_
  intro W base args ds gs before hval0 hW hcnd hsz0 _
  have hsz : (DataW.weightsEach Try.prog (Try.f10.params.toList ++ Rows.fnExactInTermSpec.plain.varTypes Try.prog) (ds ++ gs)).all (· ≤ reachBytes) = true := hsz0
  have hval : ∀ (j : Nat) t v, Try.f10.params[j]? = some t → args[j]? = some v → Value.okWide Try.prog W .any base t v := hval0
  have hW' := hW
  obtain ⟨p, q, hA0, hV, rfl, hfz, hnd⟩ := hW
  have hA : DataW.TrodAll enc Try.prog W 0 (fun _ => true) true Try.f10.params.toList args.toList ds p := hA0
  rw [Try.params10] at hA hval hsz
  have hA2 := hA
  obtain ⟨v0, vs0, d0, ds0, p0, q0, hargs, rfl, rfl, h0, r0⟩ := trodAll_cons hA
  obtain ⟨v1, vs1, d1, ds1, p1, q1, rfl, rfl, rfl, h1, r1⟩ := trodAll_cons r0
  obtain ⟨v2, vs2, d2, ds2, p2, q2, rfl, rfl, rfl, h2, r2⟩ := trodAll_cons r1
  obtain ⟨rfl, rfl, rfl⟩ := trodAll_nil r2
  obtain ⟨rfl, rfl⟩ := trodVars_none hV
  obtain ⟨xs, rxs, txs⟩ := args_rv (n := 8) (by kernel_rfl) (fun j t v h1 h2 => hval j t v (by simpa using h1) (by simpa using h2)) hA2 (fun x hx => of_decide_eq_true (List.all_eq_true.1 hsz x hx))
  refine (law_calls (pure xs txs) rxs).mono fun e W' ⟨he, bel⟩ => ?_
  subst he
  exact ⟨_, rfl, _, _, _, [], _, [], hW', trodAll_mk1 (shut_bool Try.underlying4 _), trodAll_below laidOut bel (by kernel_rfl) hA2, rfl, bel.frame _, fun h => by cases h⟩
theorem over : Rows.fnExactInTermRow.holds Try.pinned (OpenSpec.ofChange Rows.fnExactInTermSpec) :=
  OpenClaim.holds_of_wide 10 Try.f10 rfl rfl rfl rfl rfl rfl rfl ⟨rfl, rfl, rfl, rfl, rfl⟩ rfl rfl rfl rfl rfl (by kernel_rfl) Try.func10 (by kernel_rfl)
    (of_decide_eq_true (by kernel_rfl)) (by unfold Func.isWrapper; first | (rw [if_pos (by decide +kernel)]; kernel_rfl) | (rw [if_neg (by decide +kernel)]; exact ⟨rfl, rfl⟩))
    (fun os started H enc _ => lifted os started H enc)
theorem proved : Rows.FnExactInTermSaid := over
#print axioms proved
end Go.Proofs.Ytldbckbldddaaaa.Am.RowFnExactInTerm
namespace Go.Proofs.Ytldbckbldddaaaa
/-- The row, under a short name, for the claim. -/
theorem fnExactInTerm_holds : Rows.FnExactInTermSaid := Am.RowFnExactInTerm.proved
end Go.Proofs.Ytldbckbldddaaaa
