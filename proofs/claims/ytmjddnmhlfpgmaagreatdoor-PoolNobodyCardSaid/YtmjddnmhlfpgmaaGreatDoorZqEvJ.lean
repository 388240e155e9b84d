/- Appends, copies, bytes of a string: operations that write. -/
import Derived.Test.YtmjddnmhlfpgmaaGreatDoorZqEvI
namespace Go.Proofs.Zq
variable {P : Program} {N G : Nat} {σ : Sg} {h : H} {w : World}

theorem appended_rel (R : Rel P N G σ h w) {s n : Nat} {x x' : Value} {vs : List Value} (hx : VR σ x x') (ha : appended h s x = some (n, vs)) :
    ∃ vs', LR σ vs vs' ∧ vs.length = n * s ∧ (Builtin.lenOf x').run P w = .ok n w ∧ (Builtin.firstCells s n x').run P w = .ok vs'.toArray w := by
  unfold appended at ha
  split at ha <;> try (cases ha; done)
  · injection ha with ha
    simp only [Prod.mk.injEq] at ha
    obtain ⟨rfl, rfl⟩ := ha
    cases hx
    exact ⟨[], LR.nil, by simp, by simp [Builtin.lenOf], by simp [Builtin.firstCells]⟩
  · rename_i b off m c
    simp only [Option.map_eq_some_iff, Prod.mk.injEq] at ha
    obtain ⟨cs, hc, rfl, rfl⟩ := ha
    cases hx with
    | slc hi _ =>
      obtain ⟨cs', hr, hl⟩ := run_loadAt_cells R hi hc
      have := (cells_rel R hi hc).choose_spec.2.1
      exact ⟨cs', hr, this, by simp [Builtin.lenOf], by simp [Builtin.firstCells, hl]⟩
    | slc0 hi _ _ =>
      have := (cells_rel R hi hc).choose_spec.2.1
      have : cs = [] := by simpa using this
      subst this
      exact ⟨[], LR.nil, by simp, by simp [Builtin.lenOf], by simp [Builtin.firstCells, loadCells, loadCellsFrom]⟩
  · rename_i y
    split at ha <;> try (cases ha; done)
    rename_i hs
    injection ha with ha
    simp only [Prod.mk.injEq] at ha
    obtain ⟨rfl, rfl⟩ := ha
    cases hx
    refine ⟨y.data.toList.map fun c => .int .u8 c.toNat, ⟨rfl, fun i h1 h2 => by simp only [List.getElem_map]; exact .int _ _⟩, by subst hs; simp, by simp [Builtin.lenOf], ?_⟩
    have : y.data.size = y.size := rfl
    simp [Builtin.firstCells]
    apply Array.ext'
    simp

theorem nextslicecap_le {need old : Nat} (ho : old < need) : Builtin.nextslicecap need old ≤ 2 * need + 200 := by
  unfold Builtin.nextslicecap
  split
  · omega
  · split
    · omega
    · have grow : ∀ (r c : Nat), c ≤ 2 * need + 200 → Builtin.growBy need r c ≤ 2 * need + 200 := by
        intro r
        induction r with
        | zero => intro c hc; simpa [Builtin.growBy] using hc
        | succ r ih =>
          intro c hc
          simp only [Builtin.growBy]
          split
          · exact hc
          · exact ih _ (by omega)
      exact grow 4 old (by omega)

theorem cap_room {need old bytes : Nat} (ho : old < need) (hb : need * bytes ≤ 1099511627776) : ¬ Builtin.nextslicecap need old * bytes > 2 ^ 48 := by
  have h1 := nextslicecap_le ho
  have h2 : Builtin.nextslicecap need old * bytes ≤ (2 * need + 200) * bytes := Nat.mul_le_mul_right _ h1
  have h3 : bytes ≤ need * bytes := Nat.le_mul_of_pos_left _ (by omega)
  have h4 : (2 * need + 200) * bytes = 2 * (need * bytes) + 200 * bytes := by rw [Nat.add_mul, Nat.mul_assoc]
  omega

/-- The model's append, where it makes a new row. -/
theorem run_append_new {ty e : TypeId} {base : Option Addr} {m c n : Nat} {x' : Value} {st xt : TypeId} {xd : TypeDesc} {ie : TypeInfo} {z : Value} {old vs : List Value}
    (u0 : P.underlying st = some (.slice e)) (u1 : P.underlying xt = some xd) (hx : ∀ k, xd ≠ .int k) (hie : P.info? e = some ie) (hz : ie.zero = some z)
    (hl : (Builtin.lenOf x').run P w = .ok n w) (hf : (Builtin.firstCells ie.size n x').run P w.drew = .ok vs.toArray w.drew) (ho : (Builtin.firstCells ie.size m (.slice base m c)).run P w.drew = .ok old.toArray w.drew)
    (hgt : c < m + n) (hb : (m + n) * ie.bytes ≤ 1099511627776) (hn : m + n ≤ 1099511627776) :
    (Builtin.append_ #[st, xt] ty #[.slice base m c, x']).run P w = .ok (.slice (some ⟨w.heap.size, 0, none⟩) (m + n) (grownCap w (m + n) c e))
      (w.drew.alloc (.cells (old ++ vs ++ (Builtin.zeroCells z.cells (grownCap w (m + n) c e - (m + n))).toList).toArray e)) := by
  have hnle : ¬ m + n ≤ c := by omega
  have hroom : ¬ (281474976710656 < Builtin.nextslicecap (m + n) c * ie.bytes) := cap_room hgt hb
  have hmax' : ¬ (9223372036854775807 < (m : Int) + n) := by omega
  have hlast : old.toArray ++ (vs.toArray ++ Builtin.zeroCells z.cells (grownCap w (m + n) c e - (m + n))) = (old ++ (vs ++ (Builtin.zeroCells z.cells (grownCap w (m + n) c e - (m + n))).toList)).toArray := by
    apply Array.ext'
    simp
  simp [Builtin.append_, run_underlying u0, run_underlying u1, sizeOf, typeInfo, zeroValue, hie, hz, hl, hnle, hmax', hroom, Question.forced, hf, ho, newRow]
  exact ⟨rfl, congrArg (fun q => w.drew.alloc (.cells q e)) hlast⟩

/-- The model's append, where there is room. -/
theorem run_append_room {ty e : TypeId} {base : Option Addr} {m c n : Nat} {x' : Value} {st xt : TypeId} {xd : TypeDesc} {ie : TypeInfo} {vs : List Value}
    (u0 : P.underlying st = some (.slice e)) (u1 : P.underlying xt = some xd) (hx : ∀ k, xd ≠ .int k) (hie : P.info? e = some ie)
    (hl : (Builtin.lenOf x').run P w = .ok n w) (hf : (Builtin.firstCells ie.size n x').run P w = .ok vs.toArray w) (hle : m + n ≤ c) :
    (Builtin.append_ #[st, xt] ty #[.slice base m c, x']).run P w = (match base with
      | some a => ((storeCells (a.add (m * ie.size)) vs).run P w).andThen fun _ w' => .ok (.slice base (m + n) c) w'
      | none => .ok (.slice none (m + n) c) w) := by
  cases base <;> simp [Builtin.append_, run_underlying u0, run_underlying u1, sizeOf, typeInfo, hie, hl, hle, hf]

/-- A block of the evaluator's that goes on as another one, in the same block of the model's. -/
theorem Rel.move (R : Rel P N G σ h w) (hf : σ h.next = none) {b : Nat} {x y : Blk} {i j : BI} (hx : h.get b = some x) (hxo : x.own = true) (hi : σ b = some i) (hj : j.blk = i.blk) {w' : World}
    (hsz : w'.heap.size = w.heap.size) (hot : ∀ r, r ≠ i.blk → w'.heap[r]? = w.heap[r]?) (hos : w'.os = w.os) (hou : w'.output = w.output) (hb : BR P N (upd σ h.next j) j w' y) :
    Rel P N G (upd σ h.next j) ((h.del b).add y) w' ∧ Kept σ h w (upd σ h.next j) ((h.del b).add y) w' := by
  have hm := upd_mono (i := j) hf
  have lift : ∀ c z, c ≠ h.next → ((h.del b).add y).get c = some z → h.get c = some z ∧ c ≠ b := fun c z hc hz => by
    rw [H.get_add_ne _ _ _ (by simpa using hc)] at hz
    by_cases hcb : c = b
    · subst hcb; rw [H.get_del_same] at hz; cases hz
    · rw [H.get_del_ne _ _ _ hcb] at hz; exact ⟨hz, hcb⟩
  have new : ((h.del b).add y).get h.next = some y := by
    have := H.get_add_same (h.del b) y
    simpa using this
  refine ⟨⟨by rw [hsz]; exact R.low, ?_, ?_, ?_, ?_⟩, ⟨by simp, ?_, by omega, ?_, ?_, hos, hou⟩⟩
  · intro k hk
    obtain ⟨l, h1, h2⟩ := R.glob k hk
    exact ⟨l, hm _ _ h1, h2⟩
  · intro c z hz
    by_cases hcn : c = h.next
    · subst hcn
      rw [new] at hz; injection hz with hz; subst hz
      exact ⟨j, upd_same _ _, hb⟩
    · obtain ⟨hz', hcb⟩ := lift c z hcn hz
      obtain ⟨l, hl, hbr⟩ := R.live c z hz'
      exact ⟨l, hm _ _ hl, hbr.mono hm (hot _ (R.apart hx hxo hi hz' hl hcb))⟩
  · intro c d z u l m hc hd hz hu hl hmm e
    by_cases hcn : c = h.next
    · by_cases hdn : d = h.next
      · rw [hcn, hdn]
      · subst hcn
        obtain ⟨hd', hdb⟩ := lift d u hdn hd
        rw [upd_same] at hl; injection hl with hl; subst hl
        rw [upd_ne j hdn] at hmm
        exact absurd (e.symm.trans hj) (R.apart hx hxo hi hd' hmm hdb)
    · obtain ⟨hc', hcb⟩ := lift c z hcn hc
      rw [upd_ne j hcn] at hl
      by_cases hdn : d = h.next
      · subst hdn
        rw [upd_same] at hmm; injection hmm with hmm; subst hmm
        exact absurd (e.trans hj) (R.apart hx hxo hi hc' hl hcb)
      · obtain ⟨hd', hdb⟩ := lift d u hdn hd
        rw [upd_ne j hdn] at hmm
        exact R.inj c d z u l m hc' hd' hz hu hl hmm e
  · intro c z hz
    by_cases hcn : c = h.next
    · subst hcn; simp
    · have := R.low' c z (lift c z hcn hz).1
      simp; omega
  · intro c hc
    refine upd_ne j ?_
    simp at hc; omega
  · intro r _ hn
    exact hot r (fun e => hn b x i hx hxo hi e.symm)
  · intro c z l hc hz hl
    by_cases hcn : c = h.next
    · subst hcn
      rw [upd_same] at hl; injection hl with hl; subst hl
      exact .inl ⟨b, x, i, hx, hxo, hi, hj.symm⟩
    · rw [upd_ne j hcn] at hl
      exact .inl ⟨c, z, l, (lift c z hcn hc).1, hz, hl, rfl⟩

/-- A new row whose first cells are the evaluator's. -/
theorem BR.newRow {σ' : Sg} {w' : World} {cs cs' : List Value} {rest : List Value} {e re : TypeId} {opn : Bool} {esz : Nat} (hN : N ≤ w.heap.size) (g : Grew w w' (.cells (cs' ++ rest).toArray re))
    (hr : LR σ' cs cs') (hop : esz ≠ 0 → opn = true ∧ P.cellsOf e = esz) : BR P N σ' ⟨w.heap.size, 0, (cs' ++ rest).length, esz⟩ w' (.cells cs e true opn) := by
  refine ⟨(cs' ++ rest).toArray, re, (0, 0), by rw [g.heap]; simp, by simp, by have := hr.1; simp; omega, ?_, fun _ => ⟨hN, .inl (Nat.le_refl _)⟩, hop, fun h => by cases h⟩
  have : ((cs' ++ rest).toArray.toList.drop 0).take cs.length = cs' := by
    rw [hr.1]; simp
  rw [this]; exact hr
end Go.Proofs.Zq
