/- Every operation that writes. -/
import Derived.Test.YtmjddnmhlfpgmaaGreatDoorZqEvJ
import Derived.MapKept
namespace Go.Proofs.Zq
variable {P : Program} {N G : Nat} {σ : Sg} {h : H} {w : World}

/-- What one operation, or one call, leaves. -/
def After (P : Program) (N G : Nat) (σ : Sg) (h : H) (w : World) (v : Value) (h' : H) (v' : Value) (w' : World) : Prop :=
  ∃ σ', VR σ' v v' ∧ Rel P N G σ' h' w' ∧ Kept σ h w σ' h' w'

theorem Rel.drew (R : Rel P N G σ h w) : Rel P N G σ h w.drew := ⟨R.low, R.glob, fun b x hx => by
  obtain ⟨i, hi, hb⟩ := R.live b x hx
  exact ⟨i, hi, hb.mono (fun _ _ h => h) rfl⟩, R.inj, R.low'⟩

theorem le_grownCap (w : World) (need old : Nat) (e : TypeId) : need ≤ grownCap w need old e := by simp [grownCap, Question.cut]

section
variable {e st xt ty : TypeId} {xd : TypeDesc} {ie : TypeInfo} {z : Value} {sz n m c c' : Nat} {x x' : Value} {vs : List Value}

/-- A new row. -/
theorem grow_new (R : Rel P N G σ h w) (hfr : σ h.next = none) {base : Option Addr} {old old' vs' : List Value}
    (u0 : P.underlying st = some (.slice e)) (u1 : P.underlying xt = some xd) (hxd : ∀ k, xd ≠ .int k) (hie : P.info? e = some ie) (hz : ie.zero = some z) (hsz : ie.size = sz + 1) (hzc : z.cells.size = sz + 1)
    (hl : (Builtin.lenOf x').run P w = .ok n w) (hf : (Builtin.firstCells (sz + 1) n x').run P w.drew = .ok vs'.toArray w.drew) (ho : (Builtin.firstCells (sz + 1) m (.slice base m c')).run P w.drew = .ok old'.toArray w.drew)
    (hvr : LR σ vs vs') (hor : LR σ old old') (hvl : vs.length = n * (sz + 1)) (hol : old.length = m * (sz + 1)) (hgt : c' < m + n) (hb : (m + n) * ie.bytes ≤ 1099511627776) (hn : m + n ≤ 1099511627776) :
    ∃ v' w', (Builtin.append_ #[st, xt] ty #[.slice base m c', x']).run P w = .ok v' w' ∧ After P N G σ h w (.slice (some ⟨h.next, 0, none⟩) (m + n) (m + n)) (h.add (.cells (old ++ vs) e true true)) v' w' := by
  have run := run_append_new (P := P) (w := w) (ty := ty) u0 u1 hxd hie hz hl (by rw [hsz]; exact hf) (by rw [hsz]; exact ho) hgt hb hn
  refine ⟨_, _, run, ?_⟩
  have hg := Grew.drew (w := w) (.cells (old' ++ vs' ++ (Builtin.zeroCells z.cells (grownCap w (m + n) c' e - (m + n))).toList).toArray e)
  have hcz : P.cellsOf e = sz + 1 := by simp [Program.cellsOf, hie, hsz]
  have hm := upd_mono (i := ⟨w.heap.size, 0, (old' ++ vs' ++ (Builtin.zeroCells z.cells (grownCap w (m + n) c' e - (m + n))).toList).length, sz + 1⟩) hfr
  obtain ⟨R', K⟩ := R.add hfr hg (i := ⟨w.heap.size, 0, (old' ++ vs' ++ (Builtin.zeroCells z.cells (grownCap w (m + n) c' e - (m + n))).toList).length, sz + 1⟩) rfl
    (BR.newRow (e := e) (opn := true) (esz := sz + 1) R.low hg ((hor.append hvr).mono hm) (fun _ => ⟨rfl, hcz⟩))
  refine ⟨_, ?_, R', K⟩
  have h1 := le_grownCap w (m + n) c' e
  have h2 := hvr.1
  have h3 := hor.1
  refine .slc (o := 0) (upd_same _ _) (.inr ⟨by simp, h1, ?_⟩)
  have : (Builtin.zeroCells z.cells (grownCap w (m + n) c' e - (m + n))).size = (grownCap w (m + n) c' e - (m + n)) * (sz + 1) := by simp [Builtin.zeroCells, hzc]
  simp only [List.length_append, Array.length_toList, this]
  have h4 : grownCap w (m + n) c' e = m + n + (grownCap w (m + n) c' e - (m + n)) := by omega
  have h5 : grownCap w (m + n) c' e * (sz + 1) = m * (sz + 1) + n * (sz + 1) + (grownCap w (m + n) c' e - (m + n)) * (sz + 1) := by
    rw [← Nat.add_mul, ← Nat.add_mul, ← h4]
  omega

/-- Into the spare room of a row that nobody else holds. -/
theorem grow_in (R : Rel P N G σ h w) (hfr : σ h.next = none) {b off o' : Nat} {cs0 : List Value} {e' : TypeId} {i : BI} {old vs' : List Value}
    (u0 : P.underlying st = some (.slice e)) (u1 : P.underlying xt = some xd) (hxd : ∀ k, xd ≠ .int k) (hie : P.info? e = some ie) (hsz : ie.size = sz + 1)
    (hg : h.get b = some (.cells cs0 e' true true)) (hi : σ b = some i) (he : i.esz = sz + 1) (hroom : o' + c' * i.esz ≤ i.room) (hold : h.cells b off (m * (sz + 1)) = some old) (hoo : o' = off ∨ m = 0)
    (hl : (Builtin.lenOf x').run P w = .ok n w) (hf : (Builtin.firstCells (sz + 1) n x').run P w = .ok vs'.toArray w)
    (hvr : LR σ vs vs') (hvl : vs.length = n * (sz + 1)) (hone : vs.all (·.oneCell') = true) (hle : m + n ≤ c') :
    ∃ v' w', (Builtin.append_ #[st, xt] ty #[.slice (some ⟨i.blk, i.off + o', none⟩) m c', x']).run P w = .ok v' w' ∧
      After P N G σ h w (.slice (some ⟨h.next, 0, none⟩) (m + n) (m + n)) ((h.del b).add (.cells (old ++ vs) e true true)) v' w' := by
  have run := run_append_room (P := P) (w := w) (ty := ty) (base := some ⟨i.blk, i.off + o', none⟩) u0 u1 hxd hie hl (by rw [hsz]; exact hf) hle
  have hcz : P.cellsOf e = sz + 1 := by simp [Program.cellsOf, hie, hsz]
  obtain ⟨i', hi', hbr⟩ := R.live _ _ hg
  rw [hi] at hi'; injection hi' with hi'; subst hi'
  obtain ⟨rc, re, fr, hheap, hrm, hlen, hlr, hown, hop, hro⟩ := hbr
  obtain ⟨hN, hfrz⟩ := hown rfl
  have hv1 := hvr.1
  have hmn : (m + n) * (sz + 1) ≤ c' * (sz + 1) := Nat.mul_le_mul_right _ hle
  have hsplit : (m + n) * (sz + 1) = m * (sz + 1) + n * (sz + 1) := Nat.add_mul _ _ _
  rw [he] at hroom
  have hone' : ∀ v ∈ vs', v.oneCell' = true := fun v hvm => by
    obtain ⟨j, hj, rfl⟩ := List.getElem_of_mem hvm
    have hj0 : j < vs.length := by omega
    rw [(hvr.2 j hj0 hj).oneCell]
    exact (List.all_eq_true.1 hone) _ (List.getElem_mem hj0)
  have hst := run_storeSeg (P := P) i.blk (i.off + o' + m * (sz + 1)) re fr vs' 0 rc w hheap hfrz (by omega) hone'
  rw [Nat.add_zero] at hst
  have hlenS := splice_length (cs := rc.toList) (vs := vs') (o := i.off + o' + m * (sz + 1)) (by simp; omega)
  have hm := upd_mono (i := ⟨i.blk, i.off + o', i.room - o', sz + 1⟩) hfr
  -- the old cells
  have hold' : LR σ old (((rc.toList.drop (i.off + o')).take (m * (sz + 1)))) := by
    obtain ⟨cs', hr, hl1, hcell⟩ := cells_rel R hi hold
    have e1 := hr.1
    refine LR.of_get? (by simp; omega) fun j v hj => ?_
    obtain ⟨v', e2, r⟩ := hr.get? hj
    refine ⟨v', ?_, r⟩
    have hjl : j < m * (sz + 1) := by have := (List.getElem?_eq_some_iff.1 hj).1; omega
    have hom : o' = off := by
      rcases hoo with h | h
      · exact h
      · subst h; simp at hjl
    have := hcell j v' e2
    simp only [World.cell?, hheap] at this
    rw [List.getElem?_take, if_pos hjl, List.getElem?_drop]
    simpa [hom, Nat.add_assoc] using this
  refine ⟨.slice (some ⟨i.blk, i.off + o', none⟩) (m + n) c', w.setRow i.blk (splice rc.toList (i.off + o' + m * (sz + 1)) vs').toArray, ?_, ?_⟩
  · rw [run]; dsimp only; rw [Addr.add_none, hsz, hst]; rfl
  obtain ⟨R', K⟩ := R.move hfr (b := b) (i := i) (j := ⟨i.blk, i.off + o', i.room - o', sz + 1⟩) (y := .cells (old ++ vs) e true true) (w' := w.setRow i.blk (splice rc.toList (i.off + o' + m * (sz + 1)) vs').toArray)
    hg rfl hi rfl (by simp) (fun r hr => setRow_other w i.blk r _ hr) rfl rfl (by
      refine ⟨_, re, fr, setRow_heap w i.blk rc _ re fr hheap, ?_, ?_, ?_, fun _ => ⟨hN, ?_⟩, fun _ => ⟨rfl, hcz⟩, fun hx => by cases hx⟩
      · simp [hlenS]; omega
      · have := hold'.1; simp at this ⊢; omega
      · refine LR.mono hm ?_
        have e1 : old.length = m * (sz + 1) := (cells_rel R hi hold).choose_spec.2.1
        have e3 : (old ++ vs).length = m * (sz + 1) + n * (sz + 1) := by simp [e1, hvl]
        dsimp only
        refine LR.of_get? (by simp [hlenS]; omega) fun j v hj => ?_
        have hjl : j < (old ++ vs).length := (List.getElem?_eq_some_iff.1 hj).1
        rw [List.getElem?_take, if_pos hjl, List.getElem?_drop]
        rw [splice_get? _ _ _ _ (by simp; omega)]
        by_cases hjo : j < old.length
        · rw [List.getElem?_append_left hjo] at hj
          rw [if_neg (by omega)]
          obtain ⟨v', e2, r⟩ := hold'.get? hj
          rw [List.getElem?_take, if_pos (by omega), List.getElem?_drop] at e2
          exact ⟨v', e2, r⟩
        · rw [List.getElem?_append_right (by omega)] at hj
          simp at hjl
          rw [if_pos (by omega)]
          obtain ⟨v', e2, r⟩ := hvr.get? hj
          refine ⟨v', ?_, r⟩
          rw [← e2]; congr 1; omega
      · simp [hlenS]; exact hfrz)
  refine ⟨_, ?_, R', K⟩
  have := VR.slc (σ := upd σ h.next ⟨i.blk, i.off + o', i.room - o', sz + 1⟩) (b := h.next) (o := 0) (n := m + n) (c := m + n) (c' := c') (upd_same _ _) (.inr ⟨by simp, hle, by simp; omega⟩)
  simpa using this

theorem storeCells_nil (a : Addr) : (storeCells a []).run P w = .ok () w := rfl

theorem xop_append (R : Rel P N G σ h w) {s s' v : Value} {h' : H} (hfr : Fresh σ h.next h'.next)
    (u0 : P.underlying st = some (.slice e)) (u1 : P.underlying xt = some xd) (hxd : ∀ k, xd ≠ .int k) (hie : P.info? e = some ie) (hz : ie.zero = some z) (hsz : ie.size = sz + 1) (hzc : z.cells.size = sz + 1)
    (hs : VR σ s s') (hx : VR σ x x') (ha : appended h (sz + 1) x = some (n, vs))
    (hv : append1 P h e ie.bytes sz n vs s = some (v, h')) : ∃ v' w', (Builtin.append_ #[st, xt] ty #[s', x']).run P w = .ok v' w' ∧ After P N G σ h w v h' v' w' := by
  obtain ⟨vs', hvr, hvl, hlen, hfirst⟩ := appended_rel R hx ha
  obtain ⟨vs2, hvr2, _, _, hfirst2⟩ := appended_rel R.drew hx ha
  unfold append1 at hv
  split at hv <;> try (cases hv; done)
  · cases hs
    split at hv
    · rename_i hn
      simp only [Option.some.injEq, Prod.mk.injEq] at hv
      obtain ⟨rfl, rfl⟩ := hv
      subst hn
      have run := run_append_room (P := P) (w := w) (ty := ty) (base := none) (m := 0) (c := 0) u0 u1 hxd hie hlen (by rw [hsz]; exact hfirst) (Nat.le_refl _)
      exact ⟨_, _, run, σ, .nils _ _, R, Kept.refl _ _ _⟩
    · rename_i hn
      split at hv <;> try (cases hv; done)
      rename_i hc
      simp only [Option.some.injEq, Prod.mk.injEq] at hv
      obtain ⟨rfl, rfl⟩ := hv
      have := grow_new (ty := ty) (base := none) (m := 0) (c' := 0) (old := []) (old' := []) R (hfr _ (Nat.le_refl _) (by simp)) u0 u1 hxd hie hz hsz hzc hlen hfirst2 (by simp [Builtin.firstCells]) hvr2 LR.nil hvl (by simp) (by omega) (by simpa using hc.1) (by simpa using hc.2.1)
      simpa using this
  · rename_i b off m c
    split at hv
    · rename_i hle
      simp only [Option.map_eq_some_iff, Prod.mk.injEq] at hv
      obtain ⟨h1, hw, rfl, rfl⟩ := hv
      cases hs with
      | slc hi hc =>
        rename_i c' i
        have hcc : c ≤ c' := by rcases hc with rfl | ⟨_, h, _⟩ <;> omega
        obtain ⟨w1, hst, R1, K1⟩ := write_rel R hi hvr hw
        have run := run_append_room (P := P) (w := w) (ty := ty) (base := some ⟨i.blk, i.off + off, none⟩) (m := m) (c := c') u0 u1 hxd hie hlen (by rw [hsz]; exact hfirst) (by omega)
        refine ⟨.slice (some ⟨i.blk, i.off + off, none⟩) (m + n) c', w1, ?_, σ, .slc hi hc, R1, K1⟩
        rw [run]; dsimp only
        rw [Addr.add_none, hsz, Nat.add_assoc i.off, hst]; rfl
      | slc0 hi he hc =>
        rename_i o' c' i
        have hn0 : n = 0 := by omega
        subst hn0
        have hv0 : vs = [] := by simpa using hvl
        subst hv0
        have hv1 : vs' = [] := by have := hvr.1; simpa using this.symm
        subst hv1
        obtain ⟨w1, hst, R1, K1⟩ := write_rel R hi hvr hw
        rw [storeCells_nil] at hst
        injection hst with _ hw1
        subst hw1
        have run := run_append_room (P := P) (w := w) (ty := ty) (base := some ⟨i.blk, i.off + o', none⟩) (m := 0) (c := c') u0 u1 hxd hie hlen (by rw [hsz]; exact hfirst) (by omega)
        refine ⟨.slice (some ⟨i.blk, i.off + o', none⟩) (0 + 0) c', w, ?_, σ, .slc0 hi he hc, R1, K1⟩
        rw [run]; dsimp only
        rw [storeCells_nil]; rfl
    · rename_i hgt
      split at hv <;> try (cases hv; done)
      rename_i cs0 e' own opn old hg hold
      split at hv <;> try (cases hv; done)
      rename_i hc
      obtain ⟨hb, hn, hone, hone2⟩ := hc
      obtain ⟨i, hi, hbr⟩ := R.live _ _ hg
      obtain ⟨rc, re, fr, hheap, hrm, hlen0, hlr, hown, hop, hro⟩ := hbr
      -- what the model's slice is
      have shape : ∃ o' c', s' = .slice (some ⟨i.blk, i.off + o', none⟩) m c' ∧ c ≤ c' ∧ (o' = off ∨ m = 0) ∧ (i.esz = 0 → c' = c ∧ o' = off) ∧ (c' = c ∨ i.esz ≠ 0 ∧ o' + c' * i.esz ≤ i.room) := by
        cases hs with
        | slc hi' hc =>
          rename_i c' i'
          rw [hi] at hi'; injection hi' with hi'; subst hi'
          refine ⟨off, c', rfl, by rcases hc with rfl | ⟨_, h, _⟩ <;> omega, .inl rfl, fun h0 => ⟨?_, rfl⟩, ?_⟩
          · rcases hc with rfl | ⟨h1, _⟩
            · rfl
            · exact absurd h0 h1
          · rcases hc with rfl | ⟨h1, h2, h3⟩
            · exact .inl rfl
            · exact .inr ⟨h1, h3⟩
        | slc0 hi' he hc =>
          rename_i o' c' i'
          rw [hi] at hi'; injection hi' with hi'; subst hi'
          exact ⟨o', c', rfl, Nat.zero_le _, .inr rfl, fun h0 => absurd h0 he, .inr ⟨he, hc⟩⟩
      obtain ⟨o', c', rfl, hcc, hoo, hex, hroom⟩ := shape
      -- its old elements
      have olds : ∀ {w1 : World}, Rel P N G σ h w1 → ∃ old', LR σ old old' ∧ (Builtin.firstCells (sz + 1) m (.slice (some ⟨i.blk, i.off + o', none⟩) m c')).run P w1 = .ok old'.toArray w1 := fun R1 => by
        rcases hoo with rfl | rfl
        · obtain ⟨cs', hr, hl⟩ := run_loadAt_cells R1 hi hold
          exact ⟨cs', hr, by simp [Builtin.firstCells, hl]⟩
        · have := (cells_rel R1 hi hold).choose_spec.2.1
          have : old = [] := by simpa using this
          subst this
          exact ⟨[], LR.nil, by simp [Builtin.firstCells, loadCells, loadCellsFrom]⟩
      have hol : old.length = m * (sz + 1) := (cells_rel R hi hold).choose_spec.2.1
      cases opn with
      | false =>
        simp only [Bool.false_eq_true, if_false, Option.some.injEq, Prod.mk.injEq] at hv
        obtain ⟨rfl, rfl⟩ := hv
        have he0 : i.esz = 0 := by
          by_cases h0 : i.esz = 0
          · exact h0
          · have := (hop h0).1; cases this
        obtain ⟨rfl, rfl⟩ := hex he0
        obtain ⟨old', hor, hfo⟩ := olds R.drew
        exact grow_new (ty := ty) R (hfr _ (Nat.le_refl _) (by simp)) u0 u1 hxd hie hz hsz hzc hlen hfirst2 hfo hvr2 hor hvl hol (by omega) hb hn
      | true =>
        simp only [if_true] at hv
        split at hv <;> try (cases hv; done)
        rename_i ho
        obtain ⟨rfl, hpe⟩ := ho
        simp only [Option.some.injEq, Prod.mk.injEq] at hv
        obtain ⟨rfl, rfl⟩ := hv
        have hez : i.esz ≠ 0 → i.esz = sz + 1 := fun h0 => by
          have := (hop h0).2
          unfold psz at hpe
          unfold Program.cellsOf at this
          rw [hpe] at this
          simpa using this.symm
        by_cases hin : m + n ≤ c'
        · have he : i.esz ≠ 0 := fun h0 => by have := (hex h0).1; omega
          have hr2 : o' + c' * i.esz ≤ i.room := by
            rcases hroom with h1 | ⟨_, h1⟩
            · omega
            · exact h1
          exact grow_in (ty := ty) R (hfr _ (Nat.le_refl _) (by simp)) u0 u1 hxd hie hsz hg hi (hez he) hr2 hold hoo hlen hfirst hvr hvl hone hin
        · obtain ⟨old', hor, hfo⟩ := olds R.drew
          obtain ⟨Rd, Kd⟩ := R.delB b
          obtain ⟨v', w', run, σ', hvv, R', K'⟩ := grow_new (ty := ty) Rd (hfr _ (Nat.le_refl _) (by simp)) u0 u1 hxd hie hz hsz hzc hlen hfirst2 hfo hvr2 hor hvl hol (by omega) hb hn
          exact ⟨v', w', run, σ', hvv, R', Kd.trans K'⟩
end

theorem bytes_cells (s : ByteArray) (cap : Nat) : (bytesRow s cap).toList = s.data.toList.map (fun c => Value.int .u8 c.toNat) ++ List.replicate (cap - s.size) (.int .u8 0) := by
  simp [bytesRow]

theorem isKeyB_spec {d : TypeDesc} {v v' : Value} (h : isKeyB d v = true) (hr : VR σ v v') : MapKept.IsKey d v' ∧ v' = v := by
  cases d <;> cases hr <;> simp_all [isKeyB, MapKept.IsKey]

/-- A new entry. -/
theorem map_insert (R : Rel P N G σ h w) {mt kt vt : TypeId} {d : TypeDesc} {b : Nat} {i : BI} {es : List (Value × Value)} {k x k' x' : Value} (u0 : P.underlying mt = some (.map kt vt)) (u1 : P.underlying kt = some d)
    (hg : h.get b = some (.map es)) (hi : σ b = some i) (hk : isKeyB d k = true) (hall : es.all (fun e => isKeyB d e.1 && Instr.sameNow d k e.1 == some false) = true) (hkr : VR σ k k') (hxr : VR σ x x') :
    ∃ w', (Instr.mapUpdate mt (.map (some i.blk)) k' x').run P w = .ok () w' ∧ Rel P N G σ (h.set b (.map (es ++ [(k, x)]))) w' ∧ Kept σ h w σ (h.set b (.map (es ++ [(k, x)]))) w' := by
  obtain ⟨i', hi', hb⟩ := R.live _ _ hg
  rw [hi] at hi'; injection hi' with hi'; subst hi'
  obtain ⟨en, cl, es', h1, h2, h3, h4, h5, h6, h7, h8⟩ := hb
  obtain ⟨hk', rfl⟩ := isKeyB_spec hk hkr
  rw [List.all_eq_true] at hall
  -- the keys that are there
  have keys : ∀ y ∈ en.toList, ∃ e ∈ es, y.key = e.1 ∧ MapKept.IsKey d y.key ∧ Instr.sameNow d k' y.key = some false := fun y hy => by
    obtain ⟨j, hj, rfl⟩ := List.getElem_of_mem hy
    have hj1 : j < en.size := by simpa using hj
    have hj2 : j < es'.length := by omega
    have hm : es'[j] ∈ es := h3.mem_iff.1 (List.getElem_mem hj2)
    have h9 := hall _ hm
    simp only [Bool.and_eq_true, beq_iff_eq] at h9
    obtain ⟨h10, h11⟩ := isKeyB_spec h9.1 (h5 j hj2 hj1).1
    refine ⟨_, hm, by simpa using h11, by simpa using h10, ?_⟩
    have : en.toList[j].key = es'[j].1 := by simpa using h11
    rw [this]; exact h9.2
  have find : Instr.findNow d k' en.toList 0 = some none := by
    have : ∀ (l : List MapEntry) (n : Nat), (∀ y ∈ l, Instr.sameNow d k' y.key = some false) → Instr.findNow d k' l n = some none := by
      intro l
      induction l with
      | nil => intro n _; rfl
      | cons y l ih => intro n hy; simp only [Instr.findNow, hy y (by simp)]; exact ih _ (fun z hz => hy z (by simp [hz]))
    exact this _ _ (fun y hy => (keys y hy).choose_spec.2.2.2)
  have run : (Instr.mapUpdate mt (.map (some i.blk)) k' x').run P w = .ok () { w with heap := w.heap.setIfInBounds i.blk (.map (en.push { key := k', val := x', born := cl }) (cl + 1)) } := by
    simp [Instr.mapUpdate, run_underlying u0, MapKept.run_getObj_map h1, MapKept.run_checkKey u1 hk', MapKept.run_findKey u1 find, MapKept.run_setObj_map _ h1, Result.andThen]
  have hset := MapKept.heap_set (o' := .map (en.push { key := k', val := x', born := cl }) (cl + 1)) h1
  obtain ⟨R', K'⟩ := R.setB (b := b) (y := .map (es ++ [(k', x)])) (w' := { w with heap := w.heap.setIfInBounds i.blk (.map (en.push { key := k', val := x', born := cl }) (cl + 1)) }) hg rfl hi (by simp) (fun r hr => hset.2 r hr) rfl rfl
    (by
      refine ⟨_, _, es' ++ [(k', x)], hset.1, h2, h3.append_right _, by simp [h4], fun j hj1 hj2 => ?_, fun j hj => ?_, by simp [h7], ?_⟩
      · by_cases hj : j < es'.length
        · rw [List.getElem_append_left hj, Array.getElem_push_lt (by omega)]
          exact h5 j hj (by omega)
        · have hje : j = es'.length := by simp at hj1; omega
          subst hje
          rw [List.getElem_append_right (Nat.le_refl _)]
          simp only [← h4, Array.getElem_push_eq, Nat.sub_self, List.getElem_cons_zero]
          exact ⟨hkr, hxr⟩
      · by_cases hj3 : j < en.size
        · rw [Array.getElem_push_lt hj3]; exact h6 j hj3
        · have hje : j = en.size := by simp at hj; omega
          subst hje
          simp [h7]
      · rw [List.pairwise_append]
        refine ⟨h8, by simp, fun e he y hy => ?_⟩
        simp only [List.mem_singleton] at hy
        subst hy
        have h9 := hall e he
        simp only [Bool.and_eq_true, beq_iff_eq] at h9
        intro heq
        have heq' : e.1 = k' := heq
        have h10 : Instr.sameNow d k' k' = some false := by rw [heq'] at h9; exact h9.2
        obtain ⟨r, h11, h12⟩ := MapKept.sameNow_of_keys hk' hk'
        rw [h10] at h11; injection h11 with h11; subst h11
        exact absurd (h12.2 rfl) (by simp))
  exact ⟨_, run, R', K'⟩

theorem xop_sound (R : Rel P N G σ h w) {ρ ρ' : Operand → Value} {o : Oper} {v : Value} {h' : H} (hρ : ∀ x ∈ o.op.operands, VR σ (ρ x) (ρ' x)) (hv : xop P h ρ o = some (v, h')) (hfr : Fresh σ h.next h'.next) :
    ∃ nx v' w', (execOp ρ' o).run P w = .ok nx w' ∧ (nx = .value v' ∨ nx = .skip ∧ v' = undef) ∧ After P N G σ h w v h' v' w' := by
  obtain ⟨dst, op, type, pos, after, guard⟩ := o
  cases op <;> simp only [xop] at hv <;> simp only [Op.operands] at hρ <;> try (cases hv; done)
  case store t a x =>
    have ha := hρ a mem21
    have hx := hρ x mem22
    split at hv <;> try (cases hv; done)
    rename_i b off n e1 hs
    split at hv <;> try (cases hv; done)
    rename_i hn
    simp only [Option.map_eq_some_iff, Prod.mk.injEq] at hv
    obtain ⟨h1, hw, rfl, rfl⟩ := hv
    rw [e1] at ha
    obtain ⟨i, hi, e'⟩ := VR.ptr_inv ha
    obtain ⟨w', hst, R', K'⟩ := write_rel R hi hx.cells.toList hw
    refine ⟨.skip, undef, w', ?_, .inr ⟨rfl, rfl⟩, σ, VR.undef, R', K'⟩
    have hsz : (ρ' x).cells.size = n := by rw [← hn]; exact hx.cells.1.symm
    simp [execOp, Instr.storeAt, Instr.sureAddr, e', storeVar, run_sizeOf hs, hsz, hst]
  case makeMap t r =>
    cases r <;> simp only at hv <;> try (cases hv; done)
    split at hv <;> try (cases hv; done)
    simp only [Option.some.injEq, Prod.mk.injEq] at hv
    obtain ⟨rfl, rfl⟩ := hv
    have hf0 : σ h.next = none := hfr _ (Nat.le_refl _) (by simp)
    have hg := Grew.alloc (w := w) (.map #[] 0)
    obtain ⟨R', K'⟩ := R.add hf0 hg (i := ⟨w.heap.size, 0, 0, 0⟩) (x := .map []) rfl
      ⟨#[], 0, [], by rw [hg.heap]; simp, R.low, List.Perm.refl _, rfl, fun k h => by simp at h, fun k h => by simp at h, rfl, List.Pairwise.nil⟩
    refine ⟨.value (.map (some w.heap.size)), .map (some w.heap.size), w.alloc (.map #[] 0), ?_, .inl rfl, _, VR.mp (upd_same _ _), R', K'⟩
    simp [execOp, Instr.makeMap, Result.andThen]
  case insert mt m k x =>
    split at hv <;> try (cases hv; done)
    rename_i kt vt b u0 e1
    split at hv <;> try (cases hv; done)
    rename_i d es u1 hg
    split at hv <;> try (cases hv; done)
    rename_i hc
    simp only [Bool.and_eq_true] at hc
    simp only [Option.some.injEq, Prod.mk.injEq] at hv
    obtain ⟨rfl, rfl⟩ := hv
    have hm := hρ m (by simp)
    rw [e1] at hm
    obtain ⟨i, hi, _⟩ := R.live _ _ hg
    have hm' : ρ' m = .map (some i.blk) := by
      generalize ρ' m = y at hm
      cases hm with | mp h => rw [hi] at h; injection h with h; subst h; rfl
    obtain ⟨w', run, R', K'⟩ := map_insert R u0 u1 hg hi hc.1 hc.2 (hρ k (by simp)) (hρ x (by simp))
    refine ⟨.skip, undef, w', ?_, .inr ⟨rfl, rfl⟩, σ, VR.undef, R', K'⟩
    simp [execOp, hm', run]
  case convert s d x =>
    have hx := hρ x mem1
    split at hv <;> try (cases hv; done)
    rename_i e b h1 h2 e1
    split at hv <;> try (cases hv; done)
    rename_i h3
    split at hv <;> try (cases hv; done)
    rename_i hc
    obtain ⟨hc, hce⟩ := hc
    simp only [Option.some.injEq, Prod.mk.injEq] at hv
    obtain ⟨rfl, rfl⟩ := hv
    rw [e1] at hx
    have hx' := VR.str_inv hx
    have run := run_bytes_of_string (P := P) w s d e b h1 h2 h3
    have hf0 : σ h.next = none := hfr _ (Nat.le_refl _) (by simp)
    have h5 := le_grownCap w b.size 0 e
    have hlen : (bytesRow b (grownCap w b.size 0 e)).size = grownCap w b.size 0 e := by
      have : b.data.size = b.size := rfl
      simp [bytesRow, this]; omega
    have hg := Grew.drew (w := w) (.cells (bytesRow b (grownCap w b.size 0 e)) e ((bytesRow b (grownCap w b.size 0 e)).size, (bytesRow b (grownCap w b.size 0 e)).size + 1))
    have hm := upd_mono (i := ⟨w.heap.size, 0, grownCap w b.size 0 e, 1⟩) hf0
    obtain ⟨R', K⟩ := R.add hf0 hg (i := ⟨w.heap.size, 0, grownCap w b.size 0 e, 1⟩) (x := .cells (b.data.toList.map fun c => .int .u8 c.toNat) e true true) rfl (by
      refine ⟨_, e, _, by rw [hg.heap]; simp; exact ⟨rfl, rfl⟩, by simp [hlen], ?_, ?_, fun _ => ⟨R.low, .inr (Nat.le_refl _)⟩, fun _ => ⟨rfl, hce⟩, fun h => by cases h⟩
      · have : b.data.size = b.size := rfl
        simp [this]; omega
      · rw [bytes_cells]
        have : ((b.data.toList.map (fun c => Value.int .u8 c.toNat) ++ List.replicate (grownCap w b.size 0 e - b.size) (Value.int .u8 0)).drop 0).take (b.data.toList.map (fun c => Value.int .u8 c.toNat)).length = b.data.toList.map (fun c => Value.int .u8 c.toNat) := by
          rw [List.drop_zero, List.take_left]
        rw [this]
        exact ⟨rfl, fun i h1 h2 => by simp only [List.getElem_map]; exact .int _ _⟩)
    refine ⟨_, .slice (some ⟨w.heap.size, 0, none⟩) b.size (grownCap w b.size 0 e), _, ?_, .inl rfl, _, ?_, R', K⟩
    · simp only [execOp, hx', Sem.run_bind, run]; rfl
    · exact .slc (o := 0) (upd_same _ _) (.inr ⟨by simp, h5, by simp⟩)
  case call c =>
    obtain ⟨cl, args, argTypes⟩ := c
    cases cl <;> (try simp only at hv) <;> try (cases hv; done)
    rename_i b
    have hargs : ∀ x ∈ args, VR σ (ρ x) (ρ' x) := fun x hx => hρ x (by simp [Call.operands, hx])
    cases b <;> (try simp only at hv) <;> try (cases hv; done)
    split at hv <;> try (cases hv; done)
    rename_i s x st xt ea et
    split at hv <;> try (cases hv; done)
    rename_i e xd u0 u1
    split at hv <;> try (cases hv; done)
    rename_i hxd
    split at hv <;> try (cases hv; done)
    rename_i ie hie
    split at hv <;> try (cases hv; done)
    rename_i z sz hz hsz
    split at hv <;> try (cases hv; done)
    rename_i hzz
    split at hv <;> try (cases hv; done)
    rename_i n vs ha
    obtain ⟨x1, x2, rfl, e1, e2⟩ := two_args ea
    have hs := hargs x1 (by simp)
    have hx := hargs x2 (by simp)
    rw [e1] at hs; rw [e2] at hx
    have hat : argTypes = #[st, xt] := by cases argTypes; simp at et; simp [et]
    subst hat
    have hxd' : ∀ k, xd ≠ .int k := fun k hk => by subst hk; simp [isIntD] at hxd
    obtain ⟨v', w', run, hA⟩ := xop_append (ty := type) R hfr u0 u1 hxd' hie hz hsz hzz.1 hs hx ha hv
    refine ⟨_, v', w', ?_, .inl rfl, hA⟩
    simp [execOp, resolve, invoke, builtin, run]
end Go.Proofs.Zq
