/- The abstract machine: what is handed in from outside, as abstract values; from a pure law function to what a row asks. No conditions. -/
import Derived.Test.YtbmfoijakgccgaaAmS
import Derived.DataReads
import Derived.ChangeOld
import Derived.OpenShut
import Derived.ShutString
import Derived.SizedLaws
import Derived.ProofKit
namespace Go.Proofs.Ytbmfoijakgccgaa.Am
open Go Go.RowKit
set_option linter.unusedSimpArgs false
set_option linter.unusedVariables false

/-- A context at a call from outside: nothing is barred. -/
def Ctx.outer (w : World) : Ctx := ⟨w, fun _ _ => False, [], fun _ => 0, fun _ => none⟩

/-- The fields of a struct, one behind the other. -/
def TypedFs (T : TypeId → List AV → Prop) (P : Program) : List Field → List AV → Prop
  | [], cs => cs = []
  | f :: fs, cs => ∃ a b, cs = a ++ b ∧ a.length = P.cellsOf f.type ∧ T f.type a ∧ TypedFs T P fs b

/-- The cells of a value of a type (bools, integers, strings, slices and structs of such). -/
def Typed (P : Program) : Nat → TypeId → List AV → Prop
  | 0, _, _ => False
  | n + 1, t, cs => match P.underlying t with
    | some .bool => ∃ b, cs = [.v (.bool b)]
    | some (.int k) => ∃ z, cs = [.v (.int k z)] ∧ (Lit.int k z).wf = true
    | some .string => ∃ s, cs = [.v (.string s)] ∧ s.size ≤ reachBytes
    | some (.slice e) => ∃ es, cs = [.sl true es] ∧ es.length * P.bytesOf e ≤ reachBytes ∧ ∀ c ∈ es, Typed P n e c
    | some (.struct fs) => TypedFs (Typed P n) P fs.toList cs
    | _ => False

def tiles (P : Program) (total : Nat) : Nat → List Field → Bool
  | off, [] => off == total
  | off, f :: fs => f.offset == off && tiles P total (off + P.cellsOf f.type) fs

/-- The types that 'Typed' speaks of. -/
def plainT (P : Program) : Nat → TypeId → Bool
  | 0, _ => false
  | n + 1, t => match P.underlying t with
    | some .bool => true
    | some (.int _) => true
    | some .string => true
    | some (.slice e) => decide (0 < P.cellsOf e) && plainT P n e
    | some (.struct fs) => tiles P (P.cellsOf t) 0 fs.toList && fs.toList.all fun f => plainT P n f.type
    | _ => false

theorem cells?_get {w : World} {base : Nat} {a : Addr} {n : Nat} {row : List Value} (h : w.cells? base a n = some row) : row.length = n ∧ ∀ j, j < n → w.cell? (a.add j) = row[j]? := by
  unfold World.cells? at h
  split at h
  · have hl := mapM_some_length h
    refine ⟨by simpa using hl, ?_⟩
    intro j hj
    exact mapM_some_get h j j (by simp [hj])
  · cases h

section
variable {H : Type} {enc : TypeId × Value → H} {P : Program} {w : World} {sp : Nat → Bool} {held : Bool}

theorem weightsAll_mem {e : TypeId} : ∀ {l : List (DataW H)} {d : DataW H}, d ∈ l → ∀ x ∈ d.weights P e, x ∈ DataW.weightsAll P e l
  | [], _, h, _, _ => by cases h
  | a :: l, d, h, x, hx => by
    simp only [DataW.weightsAll, List.mem_append]
    rcases List.mem_cons.1 h with rfl | h
    · exact .inl hx
    · exact .inr (weightsAll_mem h x hx)

theorem rvs_nil {C : Ctx} : RVs C [] [] := ⟨rfl, fun j c y h => by simp at h⟩

theorem open_fields {T : TypeId → List AV → Prop} {C : Ctx} {vs : List Value} {f : TypeId → List Value → Option (DataW H × List MemPlace)} (hf : ∀ t us x, f t us = some x → (∀ y ∈ x.1.weights P t, y ≤ reachBytes) → ∃ cs, RVs C cs us ∧ T t cs) :
    ∀ (fs : List Field) (xs : List (DataW H × List MemPlace)) (off : Nat), tiles P vs.length off fs = true → off ≤ vs.length → (fs.mapM fun g => f g.type ((vs.drop g.offset).take (P.cellsOf g.type))) = some xs →
      (∀ g ∈ fs, ∀ us x, f g.type us = some x → True) → (∀ y ∈ DataW.weightsEach P (fs.map (·.type)) (xs.map (·.1)), y ≤ reachBytes) → ∃ cs, RVs C cs (vs.drop off) ∧ TypedFs T P fs cs
  | [], xs, off, ht, ho, h, _, hw => by
    simp only [tiles, beq_iff_eq] at ht
    exact ⟨[], by rw [ht, List.drop_length]; exact rvs_nil, rfl⟩
  | g :: fs, xs, off, ht, ho, h, hq, hw => by
    simp only [tiles, Bool.and_eq_true, beq_iff_eq] at ht
    obtain ⟨h1, h2⟩ := ht
    simp only [List.mapM_cons, Option.bind_eq_bind, Option.pure_def] at h
    obtain ⟨x, hx, h3⟩ := Option.bind_eq_some_iff.1 h
    obtain ⟨ys, hy, h4⟩ := Option.bind_eq_some_iff.1 h3
    cases h4
    have hle : off + P.cellsOf g.type ≤ vs.length := by
      have : ∀ (l : List Field) (o : Nat), tiles P vs.length o l = true → o ≤ vs.length := by
        intro l
        induction l with
        | nil => intro o h; simp only [tiles, beq_iff_eq] at h; omega
        | cons b l ih => intro o h; simp only [tiles, Bool.and_eq_true] at h; have := ih _ h.2; omega
      exact this fs _ h2
    obtain ⟨a, ra, ta⟩ := hf _ _ x hx fun y hy => hw y (by simp [DataW.weightsEach, hy])
    obtain ⟨b, rb, tb⟩ := open_fields hf fs ys _ h2 hle hy (fun _ _ _ _ _ => trivial) fun y hy => hw y (by simp [DataW.weightsEach, hy])
    rw [h1] at ra
    have e : vs.drop off = (vs.drop off).take (P.cellsOf g.type) ++ vs.drop (off + P.cellsOf g.type) := by
      rw [← List.drop_drop, List.take_append_drop]
    refine ⟨a ++ b, by rw [e]; exact RVs.append ra rb, a, b, rfl, ?_, ta, tb⟩
    rw [ra.1]
    simp
    omega

theorem rv_cols {C : Ctx} {es : List (List AV)} {len cap b off size : Nat} {row : Nat → List Value} (hl : es.length = len) (hcap : len ≤ cap) (hb : 0 < len → b < C.w.heap.size) (hN : ¬ C.N true b)
    (hrow : ∀ i, i < len → (row i).length = size ∧ ∀ j, j < size → C.w.cell? ⟨b, off + i * size + j, none⟩ = (row i)[j]?) (hes : ∀ (i : Nat) (e : List AV), es[i]? = some e → RVs C e (row i)) : RV C (.sl true es) (.slice (some ⟨b, off, none⟩) len cap) := by
  cases es with
  | nil =>
    simp at hl
    subst hl
    exact .sl0 _ _ _
  | cons e0 es0 =>
    have hlt : ∀ i e, (e0 :: es0)[i]? = some e → i < len := fun i e h => by have := (List.getElem?_eq_some_iff.1 h).1; omega
    have hlen : ∀ (i : Nat) (e : List AV), (e0 :: es0)[i]? = some e → e.length = size := fun i e h => by rw [(hes i e h).1, (hrow i (hlt i e h)).1]
    rw [← hl]
    refine .sl true (e0 :: es0) b off size cap (fun i j => (row i).getD j undef) (by simp) ?_ hN (hb (by rw [← hl]; simp)) (by omega) ?_ ?_
    · intro e he
      obtain ⟨i, hi⟩ := List.getElem?_of_mem he
      exact hlen i e hi
    · intro i j e c hi hj
      have hjl : j < size := by rw [← hlen i e hi]; exact (List.getElem?_eq_some_iff.1 hj).1
      rw [(hrow i (hlt i e hi)).2 j hjl]
      have : j < (row i).length := by rw [(hrow i (hlt i e hi)).1]; exact hjl
      simp [this]
    · intro i j e c hi hj
      have hjl : j < size := by rw [← hlen i e hi]; exact (List.getElem?_eq_some_iff.1 hj).1
      have : j < (row i).length := by rw [(hrow i (hlt i e hi)).1]; exact hjl
      exact (hes i e hi).2 j c _ hj (by simp [this])

theorem open_rv : ∀ (n fuel : Nat) (t : TypeId) (vs : List Value) (d : DataW H) (ps : List MemPlace), plainT P n t = true → DataW.trod enc P w 0 sp held fuel t vs = some (d, ps) → (∀ x ∈ d.weights P t, x ≤ reachBytes) →
    ∃ cs, RVs (Ctx.outer w) cs vs ∧ Typed P n t cs := by
  intro n
  induction n with
  | zero => intro fuel t vs d ps hp; cases hp
  | succ n ih =>
    intro fuel t vs d ps hp h hw
    cases fuel with
    | zero => simp [DataW.trod] at h
    | succ fuel =>
    have one : ∀ (a : AV) (v : Value), RV (Ctx.outer w) a v → RVs (Ctx.outer w) [a] [v] := fun a v hr => RVs.cons hr rvs_nil
    simp only [plainT] at hp
    simp only [Typed]
    split at hp
    · rename_i ht
      rcases vs with _ | ⟨v, _ | ⟨v2, rest⟩⟩
      · simp [DataW.trod, ht] at h
      · cases v <;> simp [DataW.trod, ht] at h
        rename_i b
        exact ⟨_, one _ _ (.v _), b, rfl⟩
      · simp [DataW.trod, ht] at h
    · rename_i k ht
      rcases vs with _ | ⟨v, _ | ⟨v2, rest⟩⟩
      · simp [DataW.trod, ht] at h
      · cases v <;> simp [DataW.trod, ht] at h
        rename_i k' z
        obtain ⟨⟨rfl, hwf⟩, _⟩ := h
        exact ⟨_, one _ _ (.v _), z, rfl, hwf⟩
      · simp [DataW.trod, ht] at h
    · rename_i ht
      rcases vs with _ | ⟨v, _ | ⟨v2, rest⟩⟩
      · simp [DataW.trod, ht] at h
      · cases v <;> simp [DataW.trod, ht] at h
        rename_i s
        obtain ⟨_, rfl, _⟩ := h
        refine ⟨_, one _ _ (.v _), s, rfl, ?_⟩
        have := hw s.data.toList.length (by simp [DataW.weights])
        simpa using this
      · simp [DataW.trod, ht] at h
    · rename_i e ht
      simp only [Bool.and_eq_true, decide_eq_true_eq] at hp
      rcases vs with _ | ⟨v, _ | ⟨v2, rest⟩⟩
      · simp [DataW.trod, ht] at h
      · cases v with
        | slice a len cap =>
          cases a with
          | none =>
            cases len <;> cases cap <;> simp [DataW.trod, ht] at h
            exact ⟨_, one _ _ (.sl0 true none 0), [], rfl, by simp, by simp⟩
          | some a =>
            simp only [DataW.trod, ht] at h
            split at h
            · rename_i hc
              obtain ⟨elems, he, h2⟩ := Option.bind_eq_some_iff.1 h
              obtain ⟨rest, hr, h3⟩ := Option.map_eq_some_iff.1 h2
              simp only [Prod.mk.injEq] at h3
              obtain ⟨rfl, _⟩ := h3
              have hl := mapM_some_length he
              simp only [List.length_range] at hl
              -- each element
              have each : ∀ i, i < len → ∃ row cs, w.cells? 0 (a.add (i * P.cellsOf e)) (P.cellsOf e) = some row ∧ RVs (Ctx.outer w) cs row ∧ Typed P n e cs := by
                intro i hi
                have h1 := mapM_some_get he i i (by simp [hi])
                rw [List.getElem?_eq_getElem (by omega)] at h1
                obtain ⟨row, hrow, h4⟩ := Option.bind_eq_some_iff.1 h1
                obtain ⟨cs, rc, tc⟩ := ih fuel e row _ _ hp.2 h4 fun x hx => hw x (by
                  simp only [DataW.weights, ht, List.mem_cons, List.mem_append]
                  exact .inr (.inl (weightsAll_mem (List.mem_map.2 ⟨_, List.getElem_mem _, rfl⟩) x hx)))
                exact ⟨row, cs, hrow, rc, tc⟩
              have each2 : ∀ i, ∃ p : List Value × List AV, i < len → w.cells? 0 (a.add (i * P.cellsOf e)) (P.cellsOf e) = some p.1 ∧ RVs (Ctx.outer w) p.2 p.1 ∧ Typed P n e p.2 := by
                intro i
                by_cases hi : i < len
                · obtain ⟨row, cs, h⟩ := each i hi; exact ⟨(row, cs), fun _ => h⟩
                · exact ⟨([], []), fun h => (hi h).elim⟩
              let g : Nat → List Value × List AV := fun i => Classical.choose (each2 i)
              have hg : ∀ i, i < len → w.cells? 0 (a.add (i * P.cellsOf e)) (P.cellsOf e) = some (g i).1 ∧ RVs (Ctx.outer w) (g i).2 (g i).1 ∧ Typed P n e (g i).2 := fun i hi => Classical.choose_spec (each2 i) hi
              have hgetes : ∀ (i : Nat) (c : List AV), ((List.range len).map fun i => (g i).2)[i]? = some c → i < len ∧ c = (g i).2 := by
                intro i c hi
                rw [List.getElem?_map] at hi
                obtain ⟨k, hk, rfl⟩ := Option.map_eq_some_iff.1 hi
                rw [List.getElem?_eq_some_iff] at hk
                obtain ⟨hk1, hk2⟩ := hk
                simp at hk1 hk2
                subst hk2
                exact ⟨hk1, rfl⟩
              obtain ⟨b, off, spot⟩ := a
              have sp0 : 0 < len → spot = none ∧ b < w.heap.size := by
                intro h0
                obtain ⟨q1, q2⟩ := cells?_get (hg 0 h0).1
                have q3 := q2 0 hp.1
                rw [List.getElem?_eq_getElem (by omega)] at q3
                simp only [Nat.zero_mul, Addr.add, if_true] at q3
                unfold World.cell? at q3
                split at q3
                · rename_i c q4 q5 hb
                  split at q3
                  · cases q3
                  · rename_i hs
                    refine ⟨by cases spot <;> simp_all, ?_⟩
                    exact (Array.getElem?_eq_some_iff.1 hb).1
                · cases q3
              have add0 : ∀ k, Addr.add ⟨b, off, none⟩ k = ⟨b, off + k, none⟩ := by
                intro k
                unfold Addr.add
                split
                · rename_i hk; subst hk; rfl
                · rfl
              refine ⟨[.sl true ((List.range len).map fun i => (g i).2)], one _ _ ?_, _, rfl, ?_, ?_⟩
              · by_cases h0 : 0 < len
                · obtain ⟨rfl, hbl⟩ := sp0 h0
                  refine rv_cols (size := P.cellsOf e) (row := fun i => (g i).1) (by simp) hc.2.1 (fun _ => hbl) ?_ ?_ ?_
                  · rintro (hN | hN | ⟨_, _, hN, _⟩)
                    · exact hN
                    · cases hN
                    · cases hN
                  · intro i hi
                    obtain ⟨q1, q2⟩ := cells?_get (hg i hi).1
                    refine ⟨q1, fun j hj => ?_⟩
                    have := q2 j hj
                    rw [add0] at this
                    rw [show off + i * P.cellsOf e + j = (off + i * P.cellsOf e) + j from rfl, ← this]
                    congr 1
                    unfold Addr.add
                    split
                    · rename_i hk; subst hk; rfl
                    · rfl
                  · intro i c hi
                    obtain ⟨h1, rfl⟩ := hgetes i c hi
                    exact (hg i h1).2.1
                · have : len = 0 := by omega
                  subst this
                  exact .sl0 _ _ _
              · have := hw ((elems.map (·.1)).length + (rest.map (·.1)).length |>.succ.pred |> (· * P.bytesOf e)) (by simp [DataW.weights, ht])
                simp only [List.length_map, List.length_range] at this ⊢
                refine Nat.le_trans (Nat.mul_le_mul_right _ ?_) this
                simp
                omega
              · intro c hc
                obtain ⟨i, hi⟩ := List.getElem?_of_mem hc
                obtain ⟨h1, rfl⟩ := hgetes i c hi
                exact (hg i h1).2.2
            · cases h
        | _ => simp [DataW.trod, ht] at h
      · simp [DataW.trod, ht] at h
    · rename_i fs ht
      simp only [Bool.and_eq_true, List.all_eq_true] at hp
      simp only [DataW.trod, ht] at h
      split at h
      · rename_i hlen
        obtain ⟨xs, hx, h2⟩ := Option.map_eq_some_iff.1 h
        simp only [Prod.mk.injEq] at h2
        obtain ⟨rfl, _⟩ := h2
        have := open_fields (P := P) (T := fun t cs => plainT P n t = true → Typed P n t cs) (C := Ctx.outer w) (vs := vs) (f := fun t us => DataW.trod enc P w 0 sp held fuel t us) ?_ fs.toList xs 0 (hlen ▸ hp.1) (Nat.zero_le _) hx (fun _ _ _ _ _ => trivial) (fun y hy => hw y (by simp only [DataW.weights, ht]; exact hy))
        · obtain ⟨cs, rc, tc⟩ := this
          refine ⟨cs, by simpa using rc, ?_⟩
          have go : ∀ (l : List Field) (cs : List AV), (∀ f ∈ l, plainT P n f.type = true) → TypedFs (fun t cs => plainT P n t = true → Typed P n t cs) P l cs → TypedFs (Typed P n) P l cs := by
            intro l
            induction l with
            | nil => intro cs _ h; exact h
            | cons f l ihl =>
              rintro cs hh ⟨a, b, rfl, hal, ta, tb⟩
              exact ⟨a, b, rfl, hal, ta (hh f (by simp)), ihl b (fun g hg => hh g (by simp [hg])) tb⟩
          exact go _ _ hp.2 tc
        · intro t us x hx hw2
          by_cases hpt : plainT P n t = true
          · obtain ⟨cs, rc, tc⟩ := ih fuel t us x.1 x.2 hpt hx hw2
            exact ⟨cs, rc, fun _ => tc⟩
          · exact ⟨us.map .v, ⟨by simp, fun j c y h1 h2 => by rw [List.getElem?_map, h2] at h1; cases h1; exact .v _⟩, fun h => (hpt h).elim⟩
      · cases h
    · cases hp
end
end Go.Proofs.Ytbmfoijakgccgaa.Am
