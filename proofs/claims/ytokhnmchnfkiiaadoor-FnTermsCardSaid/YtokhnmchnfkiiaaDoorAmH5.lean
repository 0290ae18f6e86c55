/- Terms met: plain laws. No conditions. -/
import Derived.Test.YtokhnmchnfkiiaaDoorAmH4
namespace Go.Proofs.YtokhnmchnfkiiaaDoor.Am
open Go Go.RowKit Go.Proofs
set_option linter.unusedSimpArgs false
set_option linter.unusedVariables false

theorem cmpF_flip (a b c x y z : Int) : cmpF a b c x y z = - cmpF x y z a b c ∧ -1 ≤ cmpF x y z a b c ∧ cmpF x y z a b c ≤ 1 := by
  unfold cmpF signF
  (repeat' split) <;> omega
theorem cmp_lt (a b c x y z : Int) : cmpF a b c x y z < 0 ↔ (a < x ∨ (a = x ∧ (b < y ∨ (b = y ∧ c < z)))) := by
  unfold cmpF signF
  (repeat' split) <;> omega
def cV (u v : Ver) : Int := cmpF u.a u.b u.c v.a v.b v.c
theorem cV_lt (u v : Ver) : cV u v < 0 ↔ (u.a < v.a ∨ (u.a = v.a ∧ (u.b < v.b ∨ (u.b = v.b ∧ u.c < v.c)))) := cmp_lt _ _ _ _ _ _
theorem cV_flip (u v : Ver) : cV u v = - cV v u := (cmpF_flip _ _ _ _ _ _).1
theorem cV_self (u : Ver) : cV u u = 0 := by have := cV_flip u u; omega
theorem cV_trans {u v w : Ver} (h1 : 0 ≤ cV v u) (h2 : 0 ≤ cV w v) : 0 ≤ cV w u := by
  have a1 := cV_lt v u
  have a2 := cV_lt w v
  have a3 := cV_lt w u
  omega
theorem tF_zero (t : Trm) : tF t = 0 ↔ (nameFault t.n = 0 ∧ versionFault t.lo.a t.lo.b t.lo.c = 0 ∧ ((t.hi.a = 1000 ∧ t.hi.b = 0 ∧ t.hi.c = 0) ∨ versionFault t.hi.a t.hi.b t.hi.c = 0) ∧ cV t.lo t.hi < 0) := by
  unfold tF termFault cV
  by_cases h1 : nameFault t.n = 0
  case neg => simp [h1]
  by_cases h2 : versionFault t.lo.a t.lo.b t.lo.c = 0
  case neg => simp [h1, h2]
  by_cases h3 : t.hi.a = 1000 ∧ t.hi.b = 0 ∧ t.hi.c = 0
  · by_cases h4 : 0 ≤ cmpF t.lo.a t.lo.b t.lo.c t.hi.a t.hi.b t.hi.c
    · simp [h1, h2, h3]
    · simp [h1, h2, h3]
  · by_cases h5 : versionFault t.hi.a t.hi.b t.hi.c = 0
    · by_cases h4 : 0 ≤ cmpF t.lo.a t.lo.b t.lo.c t.hi.a t.hi.b t.hi.c
      · rw [if_neg (by omega), if_neg (by omega), if_neg (by simp [h5]), if_pos h4]
        constructor
        · intro h; omega
        · rintro ⟨_, _, _, h⟩; omega
      · rw [if_neg (by omega), if_neg (by omega), if_neg (by simp [h5]), if_neg h4]
        exact ⟨fun _ => ⟨h1, h2, .inr h5, by omega⟩, fun _ => rfl⟩
    · rw [if_neg (by omega), if_neg (by omega), if_pos ⟨h3, h5⟩]
      constructor
      · intro h; omega
      · rintro ⟨_, _, h, _⟩
        rcases h with h | h
        · exact (h3 h).elim
        · exact (h5 h).elim
theorem inF_iff (t : Trm) (n : ByteArray) (v : Ver) : inTermF t n v = true ↔ (tF t = 0 ∧ versionFault v.a v.b v.c = 0 ∧ t.n = n ∧ 0 ≤ cV v t.lo ∧ cV v t.hi < 0) := by
  unfold inTermF inTF tF cV
  simp [and_assoc]
theorem mx_le (a b v : Ver) : 0 ≤ cV v (mxV a b) ↔ (0 ≤ cV v a ∧ 0 ≤ cV v b) := by
  unfold mxV
  have f := cV_flip a b
  split
  · rename_i h
    have h : 0 < cV b a := h
    exact ⟨fun q => ⟨cV_trans (v := b) (by omega) q, q⟩, fun q => q.2⟩
  · rename_i h
    have h : ¬ 0 < cV b a := h
    exact ⟨fun q => ⟨q, cV_trans (v := a) (by omega) q⟩, fun q => q.1⟩
theorem mn_lt (a b v : Ver) : cV v (mnV a b) < 0 ↔ (cV v a < 0 ∧ cV v b < 0) := by
  unfold mnV
  have f := cV_flip a b
  split
  · rename_i h
    have h : cV b a < 0 := h
    refine ⟨fun q => ⟨?_, q⟩, fun q => q.2⟩
    refine Classical.not_not.1 fun k => ?_
    have := cV_trans (u := b) (v := a) (w := v) (by omega) (by omega)
    omega
  · rename_i h
    have h : ¬ cV b a < 0 := h
    refine ⟨fun q => ⟨q, ?_⟩, fun q => q.1⟩
    refine Classical.not_not.1 fun k => ?_
    have := cV_trans (u := a) (v := b) (w := v) (by omega) (by omega)
    omega
theorem meet_bad {a b : Trm} (h : ¬ (meetK a b).1 = 0) (v : Ver) : ¬ (inTermF a a.n v = true ∧ inTermF b a.n v = true) := by
  rintro ⟨h1, h2⟩
  rw [inF_iff] at h1 h2
  apply h
  unfold meetK
  rw [if_neg (by simp [h1.1]), if_neg (by simp [h2.1]), if_neg]
  rintro (k | k)
  · exact k h2.2.2.1.symm
  · have q1 := (mx_le a.lo b.lo v).2 ⟨h1.2.2.2.1, h2.2.2.2.1⟩
    have q2 := (mn_lt a.hi b.hi v).2 ⟨h1.2.2.2.2, h2.2.2.2.2⟩
    have k : 0 ≤ cV (mxV a.lo b.lo) (mnV a.hi b.hi) := k
    have := cV_trans k q1
    omega
theorem meet_ok {a b : Trm} (h : (meetK a b).1 = 0) : tF a = 0 ∧ tF (meetK a b).2 = 0 ∧ (meetK a b).2.n = a.n ∧ (∀ v, inTermF (meetK a b).2 a.n v = (inTermF a a.n v && inTermF b a.n v)) ∧ inTermF (meetK a b).2 a.n (meetK a b).2.lo = true := by
  unfold meetK at h ⊢
  by_cases h1 : tF a = 0
  case neg => rw [if_pos h1] at h; exact (h1 h).elim
  by_cases h2 : tF b = 0
  case neg => rw [if_neg (by simp [h1]), if_pos h2] at h; exact (h2 h).elim
  rw [if_neg (by simp [h1]), if_neg (by simp [h2])] at h ⊢
  by_cases h3 : ¬ a.n = b.n ∨ 0 ≤ cmpF (meetT a b).lo.a (meetT a b).lo.b (meetT a b).lo.c (meetT a b).hi.a (meetT a b).hi.b (meetT a b).hi.c
  · rw [if_pos h3] at h; exact absurd h (by decide)
  rw [if_neg h3]
  have hn : a.n = b.n := Classical.not_not.1 fun k => h3 (.inl k)
  have hc : cV (mxV a.lo b.lo) (mnV a.hi b.hi) < 0 := by
    have : ¬ 0 ≤ cV (mxV a.lo b.lo) (mnV a.hi b.hi) := fun k => h3 (.inr k)
    omega
  have f1 := (tF_zero a).1 h1
  have f2 := (tF_zero b).1 h2
  have hM : tF (meetT a b) = 0 := by
    rw [tF_zero]
    refine ⟨f1.1, ?_, ?_, hc⟩
    · show versionFault (mxV a.lo b.lo).a (mxV a.lo b.lo).b (mxV a.lo b.lo).c = 0
      unfold mxV
      split
      · exact f2.2.1
      · exact f1.2.1
    · show ((mnV a.hi b.hi).a = 1000 ∧ (mnV a.hi b.hi).b = 0 ∧ (mnV a.hi b.hi).c = 0) ∨ versionFault (mnV a.hi b.hi).a (mnV a.hi b.hi).b (mnV a.hi b.hi).c = 0
      unfold mnV
      split
      · exact f2.2.2.1
      · exact f1.2.2.1
  have hlo := ((tF_zero _).1 hM).2.1
  refine ⟨h1, hM, rfl, fun v => ?_, ?_⟩
  · rw [Bool.eq_iff_iff, Bool.and_eq_true, inF_iff, inF_iff, inF_iff]
    have e1 := mx_le a.lo b.lo v
    have e2 := mn_lt a.hi b.hi v
    constructor
    · rintro ⟨_, q1, _, q2, q3⟩
      have q2 := e1.1 q2
      have q3 := e2.1 q3
      exact ⟨⟨h1, q1, rfl, q2.1, q3.1⟩, h2, q1, hn.symm, q2.2, q3.2⟩
    · rintro ⟨⟨_, q1, _, q2, q3⟩, _, _, _, q4, q5⟩
      exact ⟨hM, q1, rfl, e1.2 ⟨q2, q4⟩, e2.2 ⟨q3, q5⟩⟩
  · rw [inF_iff]
    exact ⟨hM, hlo, rfl, by rw [cV_self]; decide, hc⟩

end Go.Proofs.YtokhnmchnfkiiaaDoor.Am
