/- What the evaluator's operations that ask nothing of the heap come to, the model's come to. -/
import Derived.Test.YtmjddnmhlfpgmaaGreatDoorZqEvC
import Derived.Laws.Entries
import Derived.Laws.Small
import Derived.Laws.StructEq
namespace Go.Proofs.Zq
variable {P : Program} {σ : Sg}

theorem Addr.add_none (b o n : Nat) : Addr.add ⟨b, o, none⟩ n = ⟨b, o + n, none⟩ := by unfold Addr.add; split <;> simp_all

theorem run_isAgg {t : TypeId} {b : Bool} (h : pagg P t = some b) (w : World) : (isAgg t).run P w = .ok b w := by
  unfold pagg at h
  cases hu : P.underlying t with
  | none => simp [hu] at h
  | some d => cases d <;> simp [hu] at h <;> subst h <;> simp [isAgg, run_underlying hu]
theorem run_sizeOf {t : TypeId} {n : Nat} (h : psz P t = some n) (w : World) : (sizeOf t).run P w = .ok n w := by
  unfold psz at h
  cases hi : P.info? t with
  | none => simp [hi] at h
  | some i => simp [hi] at h; subst h; simp [sizeOf, typeInfo, hi]
theorem run_zeroValue {t : TypeId} {z : Value} (h : pzero P t = some z) (w : World) : (zeroValue t).run P w = .ok z w := by
  unfold pzero at h
  cases hi : P.info? t with
  | none => simp [hi] at h
  | some i => simp [hi] at h; simp [zeroValue, typeInfo, hi, h]

theorem AR.extract {xs xs' : Array Value} (h : AR σ xs xs') (a b : Nat) : AR σ (xs.extract a b) (xs'.extract a b) := by
  have e := h.1
  refine ⟨by simp [e], fun i h1 h2 => ?_⟩
  rw [Array.getElem_extract, Array.getElem_extract]
  exact h.2 _ (by simp at h1; omega) (by simp at h2; omega)
theorem AR.setIfInBounds {xs xs' : Array Value} (h : AR σ xs xs') (i : Nat) {v v' : Value} (hv : VR σ v v') : AR σ (xs.setIfInBounds i v) (xs'.setIfInBounds i v') := by
  refine ⟨by simp [h.1], fun j h1 h2 => ?_⟩
  have g1 : j < xs.size := by simpa using h1
  have g2 : j < xs'.size := by simpa using h2
  rw [Array.getElem_setIfInBounds g1, Array.getElem_setIfInBounds g2]
  split
  · exact hv
  · exact h.2 j g1 g2
theorem AR.map {α : Type} {ρ ρ' : α → Value} (xs : Array α) (h : ∀ x ∈ xs, VR σ (ρ x) (ρ' x)) : AR σ (xs.map ρ) (xs.map ρ') :=
  ⟨by simp, fun i h1 h2 => by simp only [Array.getElem_map]; exact h _ (by simp)⟩
theorem AR.append {xs xs' ys ys' : Array Value} (h : AR σ xs xs') (hy : AR σ ys ys') : AR σ (xs ++ ys) (xs' ++ ys') := by
  have := (h.toList.append hy.toList).toArray
  rw [← Array.toList_append, ← Array.toList_append] at this
  simpa only [Array.toArray_toList] using this

theorem part_rel {t : TypeId} {cs cs' : Array Value} {off : Nat} {v : Value} (hr : AR σ cs cs') (h : ppart P t cs off = some v) (w : World) :
    ∃ v', (part t cs' off).run P w = .ok v' w ∧ VR σ v v' := by
  unfold ppart at h
  cases ha : pagg P t with
  | none => simp [ha] at h
  | some b =>
    cases b with
    | false =>
      simp only [ha] at h
      obtain ⟨v', e, r⟩ := hr.get? h
      exact ⟨v', by simp [part, run_isAgg ha, e], r⟩
    | true =>
      cases hs : psz P t with
      | none => simp [ha, hs] at h
      | some n =>
        simp only [ha, hs] at h
        split at h
        · injection h with h; subst h
          exact ⟨.agg (cs'.extract off (off + n)), by simp [part, run_isAgg ha, run_sizeOf hs], VR.agg' (hr.extract _ _)⟩
        · cases h


def allOf (g : Nat → Option Bool) : List Nat → Option Bool
  | [] => some true
  | i :: is => match g i with
    | some true => allOf g is
    | some false => some false
    | none => none
theorem run_forIn_all {f : Nat → Option Bool × Unit → Sem (ForInStep (Option Bool × Unit))} {g : Nat → Option Bool} {b : Bool} (w : World) :
    ∀ (is : List Nat), allOf g is = some b → (∀ i r, g i = some r → (f i (none, ())).run P w = .ok (if r = true then .yield (none, ()) else .done (some false, ())) w) →
      (forIn is ((none : Option Bool), ()) f).run P w = .ok (if b = true then none else some false, ()) w := by
  intro is
  induction is with
  | nil => intro h _; simp [allOf] at h; subst h; simp
  | cons i is ih =>
    intro h hf
    simp only [allOf] at h
    cases hg : g i with
    | none => simp [hg] at h
    | some r =>
      have e := hf i r hg
      simp only [List.forIn_cons, Sem.run_bind, e, Result.andThen_ok]
      cases r with
      | true => simp only [hg] at h; simpa using ih h hf
      | false => simp [hg] at h; subst h; simp
theorem elems_all {d : Nat} (e s : Nat) {xs ys : Array Value} : ∀ (is : List Nat) {b : Bool}, peq.elems P d e s xs ys is = some b →
    allOf (fun i => match ppart P e xs (i * s), ppart P e ys (i * s) with
      | some a, some b => peq P d e a b
      | _, _ => none) is = some b := by
  intro is
  induction is with
  | nil => intro b h; simpa [peq.elems, allOf] using h
  | cons i is ih =>
    intro b h
    simp only [peq.elems] at h
    simp only [allOf]
    cases h1 : ppart P e xs (i * s) with
    | none => simp [h1] at h
    | some a =>
      cases h2 : ppart P e ys (i * s) with
      | none => simp [h1, h2] at h
      | some c =>
        simp only [h1, h2] at h ⊢
        cases h3 : peq P d e a c with
        | none => simp [h3] at h
        | some r => cases r <;> simp only [h3] at h ⊢ <;> first | exact ih h | exact h

set_option maxHeartbeats 1000000 in
theorem equal_rel (d : Nat) : ∀ {t : TypeId} {x y x' y' : Value} {b : Bool}, VR σ x x' → VR σ y y' → peq P d t x y = some b → ∀ w, (Op.equalIn d t x' y').run P w = .ok b w := by
  induction d with
  | zero => intro t x y x' y' b _ _ h; simp [peq] at h
  | succ d ih =>
    intro t x y x' y' b hx hy h w
    have fields_rel : ∀ (fs : List Field) {xs ys xs' ys' : Array Value} {b : Bool}, AR σ xs xs' → AR σ ys ys' → peq.fields P d fs xs ys = some b → (Op.eqFields d xs' ys' fs).run P w = .ok b w := by
      intro fs
      induction fs with
      | nil => intro xs ys xs' ys' b _ _ h; simp [peq.fields] at h; subst h; simp [Op.eqFields]
      | cons f fs ihf =>
        intro xs ys xs' ys' b hxs hys h
        simp only [peq.fields] at h
        by_cases hn : f.name = "_"
        · simp only [hn, if_true] at h
          simp only [Op.eqFields, hn, ne_eq, not_true_eq_false, if_false]
          exact ihf hxs hys h
        · simp only [hn, if_false] at h
          cases h1 : ppart P f.type xs f.offset with
          | none => simp [h1] at h
          | some a =>
            cases h2 : ppart P f.type ys f.offset with
            | none => simp [h1, h2] at h
            | some c =>
              obtain ⟨a', e1, r1⟩ := part_rel hxs h1 w
              obtain ⟨c', e2, r2⟩ := part_rel hys h2 w
              simp only [h1, h2] at h
              cases h3 : peq P d f.type a c with
              | none => simp [h3] at h
              | some r =>
                have e3 := ih r1 r2 h3 w
                simp only [Op.eqFields, ne_eq, hn, not_false_eq_true, if_true, Sem.run_bind, e1, e2, e3, Result.andThen_ok]
                cases r with
                | true => simp only [h3] at h; simpa using ihf hxs hys h
                | false => simp [h3] at h; subst h; simp
    cases hu : P.underlying t with
    | none => simp [peq, hu] at h
    | some u =>
      rw [peq.eq_def] at h
      simp only [hu] at h
      cases u <;> (try simp only at h) <;> try (cases h; done)
      case bool =>
        cases hx <;> try (cases h; done)
        cases hy <;> try (cases h; done)
        simp at h; subst h
        simp [Op.equalIn, run_underlying hu]
      case int k =>
        cases hx <;> try (cases h; done)
        cases hy <;> try (cases h; done)
        dsimp only at h
        split at h
        · rename_i e; subst e; simp at h; subst h
          simp [Op.equalIn, run_underlying hu]
        · cases h
      case string =>
        cases hx <;> try (cases h; done)
        cases hy <;> try (cases h; done)
        simp at h; subst h
        simp [Op.equalIn, run_underlying hu]
      case pointer e =>
        cases hx <;> try (cases h; done)
        all_goals (cases hy <;> try (cases h; done))
        all_goals (injection h with h; subst h; simp [Op.equalIn, run_underlying hu])
      case slice e =>
        cases hx <;> try (cases h; done)
        all_goals (cases hy <;> try (cases h; done))
        all_goals (injection h with h; subst h; simp [Op.equalIn, run_underlying hu])
      case map k e =>
        cases hx <;> try (cases h; done)
        all_goals (cases hy <;> try (cases h; done))
        all_goals (injection h with h; subst h; simp [Op.equalIn, run_underlying hu])
      case func ps rs v =>
        cases hx <;> try (cases h; done)
        all_goals (cases hy <;> try (cases h; done))
        all_goals (injection h with h; subst h; simp [Op.equalIn, run_underlying hu])
      case interface ms =>
        cases hx <;> try (cases h; done)
        all_goals (cases hy <;> try (cases h; done))
        all_goals (injection h with h; subst h; simp [Op.equalIn, run_underlying hu])
      case struct fs =>
        cases hx <;> try (cases h; done)
        cases hy <;> try (cases h; done)
        rename_i xs xs' hxs hxr ys ys' hys hyr
        dsimp only at h
        split at h
        · cases h
        · rename_i hst
          have hf : P.fieldsOf t = fs := by simp [Program.fieldsOf, hu]
          rw [run_equalIn_struct w d t xs' ys' (by rw [hf]; exact hu) (by simpa using hst), hf]
          exact fields_rel fs.toList ⟨hxs, hxr⟩ ⟨hys, hyr⟩ h
      case array n e =>
        cases hx <;> try (cases h; done)
        cases hy <;> try (cases h; done)
        rename_i xs xs' hxs hxr ys ys' hys hyr
        cases hs : psz P e with
        | none => simp [hs] at h
        | some s =>
          simp only [hs] at h
          simp only [Op.equalIn, Sem.run_bind, run_underlying hu, Result.andThen_ok, run_sizeOf hs]
          simp
          rw [run_forIn_all (g := fun i => match ppart P e xs (i * s), ppart P e ys (i * s) with
              | some a, some b => peq P d e a b
              | _, _ => none) (b := b) w _ (by rw [← List.range_eq_range']; exact elems_all e s (List.range n) h)]
          · cases b <;> simp
          · intro i r hi
            cases h1 : ppart P e xs (i * s) with
            | none => simp [h1] at hi
            | some a =>
              cases h2 : ppart P e ys (i * s) with
              | none => simp [h1, h2] at hi
              | some c =>
                simp only [h1, h2] at hi
                obtain ⟨a', e1, r1⟩ := part_rel ⟨hxs, hxr⟩ h1 w
                obtain ⟨c', e2, r2⟩ := part_rel ⟨hys, hyr⟩ h2 w
                have e3 := ih r1 r2 hi w
                simp only [Sem.run_bind, e1, e2, e3, Result.andThen_ok]
                cases r <;> simp
end Go.Proofs.Zq
