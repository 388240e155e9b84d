/- Operations that make a block. -/
import Derived.Test.YtmjddnmhlfpgmaaGreatDoorZqEvG
namespace Go.Proofs.Zq
variable {P : Program} {N G : Nat} {σ : Sg} {h : H} {w : World}

def upd (σ : Sg) (b : Nat) (i : BI) : Sg := fun k => if k = b then some i else σ k
@[simp] theorem upd_same (b : Nat) (i : BI) : upd σ b i b = some i := by simp [upd]
theorem upd_ne {b k : Nat} (i : BI) (hk : k ≠ b) : upd σ b i k = σ k := by simp [upd, hk]
theorem upd_mono {b : Nat} {i : BI} (hb : σ b = none) : ∀ k j, σ k = some j → upd σ b i k = some j := fun k j hj => by
  by_cases hk : k = b
  · subst hk; rw [hb] at hj; cases hj
  · rw [upd_ne i hk]; exact hj

theorem BR.mono {σ' : Sg} {w' : World} {i : BI} {x : Blk} (hs : ∀ b i, σ b = some i → σ' b = some i) (hh : w'.heap[i.blk]? = w.heap[i.blk]?) (hb : BR P N σ i w x) : BR P N σ' i w' x := by
  cases x with
  | cells cs e own opn =>
    obtain ⟨rc, re, fr, h1, h2, h3, h4, h5, h6⟩ := hb
    exact ⟨rc, re, fr, by rw [hh]; exact h1, h2, h3, h4.mono hs, h5, h6⟩
  | map es =>
    obtain ⟨en, cl, es', h1, h2, h3, h4, h5, h6⟩ := hb
    exact ⟨en, cl, es', by rw [hh]; exact h1, h2, h3, h4, fun k a b => ⟨(h5 k a b).1.mono hs, (h5 k a b).2.mono hs⟩, h6⟩
  | siter s pos =>
    obtain ⟨h1, h2, h3⟩ := hb
    exact ⟨by rw [hh]; exact h1, h2, h3⟩
theorem BR.lt {i : BI} {x : Blk} (hb : BR P N σ i w x) : i.blk < w.heap.size := by
  cases x with
  | cells cs e own opn => obtain ⟨rc, re, fr, h1, _⟩ := hb; exact (Array.getElem?_eq_some_iff.1 h1).1
  | map es => obtain ⟨en, cl, _, h1, _⟩ := hb; exact (Array.getElem?_eq_some_iff.1 h1).1
  | siter s pos => exact (Array.getElem?_eq_some_iff.1 hb.1).1
theorem BR.low {i : BI} {x : Blk} (hb : BR P N σ i w x) (hx : x.own = true) : N ≤ i.blk := by
  cases x with
  | cells cs e own opn => obtain ⟨rc, re, fr, _, _, _, _, h5, _⟩ := hb; exact (h5 hx).1
  | map es => obtain ⟨en, cl, _, _, h1, _⟩ := hb; exact h1
  | siter s pos => exact hb.2.1

/-- A world that has one block more; draws do not count. -/
structure Grew (w w' : World) (o : Obj) : Prop where
  heap : w'.heap = w.heap.push o
  os : w'.os = w.os
  output : w'.output = w.output

theorem Grew.alloc (o : Obj) : Grew w (w.alloc o) o := ⟨rfl, rfl, rfl⟩
theorem Grew.drew (o : Obj) : Grew w (w.drew.alloc o) o := ⟨rfl, rfl, rfl⟩

theorem Rel.add (R : Rel P N G σ h w) (hf : σ h.next = none) {w' : World} {o : Obj} (g : Grew w w' o) {i : BI} {x : Blk} (hib : i.blk = w.heap.size)
    (hb : BR P N (upd σ h.next i) i w' x) : Rel P N G (upd σ h.next i) (h.add x) w' ∧ Kept σ h w (upd σ h.next i) (h.add x) w' := by
  have hm := upd_mono (i := i) hf
  have hsz : w'.heap.size = w.heap.size + 1 := by rw [g.heap]; simp
  have hold : ∀ r, r < w.heap.size → w'.heap[r]? = w.heap[r]? := fun r hr => by rw [g.heap, Array.getElem?_push]; simp [Nat.ne_of_lt hr]
  refine ⟨⟨by have := R.low; omega, ?_, ?_, ?_, ?_⟩, ⟨by simp, ?_, by omega, ?_, ?_, g.os, g.output⟩⟩
  · intro k hk
    obtain ⟨j, h1, h2⟩ := R.glob k hk
    exact ⟨j, hm _ _ h1, h2⟩
  · intro b y hy
    by_cases hbn : b = h.next
    · subst hbn
      rw [H.get_add_same] at hy; injection hy with hy; subst hy
      exact ⟨i, upd_same _ _, hb⟩
    · rw [H.get_add_ne _ _ _ hbn] at hy
      obtain ⟨j, hj, hbr⟩ := R.live b y hy
      exact ⟨j, hm _ _ hj, hbr.mono hm (hold _ hbr.lt)⟩
  · intro b c y z j l hb1 hc1 hy hz hj hl e
    by_cases hbn : b = h.next
    · by_cases hcn : c = h.next
      · rw [hbn, hcn]
      · subst hbn
        rw [H.get_add_ne _ _ _ hcn] at hc1
        obtain ⟨l', hl', hbr⟩ := R.live c z hc1
        rw [upd_same] at hj; injection hj with hj; subst hj
        rw [hm _ _ hl'] at hl; injection hl with hl; subst hl
        have := hbr.lt; omega
    · rw [H.get_add_ne _ _ _ hbn] at hb1
      obtain ⟨j', hj', hbr⟩ := R.live b y hb1
      rw [hm _ _ hj'] at hj; injection hj with hj; subst hj
      by_cases hcn : c = h.next
      · subst hcn
        rw [upd_same] at hl; injection hl with hl; subst hl
        have := hbr.lt; omega
      · rw [H.get_add_ne _ _ _ hcn] at hc1
        obtain ⟨l', hl', hbr'⟩ := R.live c z hc1
        rw [hm _ _ hl'] at hl; injection hl with hl; subst hl
        exact R.inj b c y z _ _ hb1 hc1 hy hz hj' hl' e
  · intro b y hy
    by_cases hbn : b = h.next
    · subst hbn; simp
    · rw [H.get_add_ne _ _ _ hbn] at hy
      have := R.low' b y hy
      simp; omega
  · intro b hb1
    refine upd_ne i ?_
    simp at hb1; omega
  · intro r hr _
    exact hold r hr
  · intro b y j hy hown hj
    by_cases hbn : b = h.next
    · subst hbn
      rw [upd_same] at hj; injection hj with hj; subst hj
      exact .inr (by omega)
    · rw [H.get_add_ne _ _ _ hbn] at hy
      rw [upd_ne i hbn] at hj
      exact .inl ⟨b, y, j, hy, hown, hj, rfl⟩

theorem AR.refl_flat {xs : Array Value} (hx : ∀ i (h : i < xs.size), flat xs[i] = true) : AR σ xs xs := ⟨rfl, fun i h1 _ => VR.flat (hx i h1)⟩

theorem zok_cells {z : Value} (hz : zok z = true) : ∀ i (h : i < z.cells.size), flat z.cells[i] = true := by
  intro i h
  simp only [zok, Bool.and_eq_true] at hz
  obtain ⟨hz, h1⟩ := hz
  cases z with
  | agg cs => exact (Array.all_eq_true.1 hz) i h
  | tuple cs => simp [Value.cells, Value.oneCell'] at h1
  | _ =>
    have : i = 0 := by simpa [Value.cells] using h
    subst this
    exact hz
theorem zok_refl {z : Value} (hz : zok z = true) : LR σ z.cells.toList z.cells.toList := (AR.refl_flat (zok_cells hz)).toList
theorem zok_pat {z : Value} (hz : zok z = true) (n : Nat) (hn : 0 < z.cells.size) : AR σ ((Array.range n).map (z.cells[· % z.cells.size]!)) ((Array.range n).map (z.cells[· % z.cells.size]!)) := by
  refine AR.refl_flat fun i h => ?_
  rw [Array.getElem_map, getElem!_pos z.cells _ (Nat.mod_lt _ hn)]
  exact zok_cells hz _ _

/-- What an operation that makes a block leaves. -/
theorem aop_sound {ρ ρ' : Operand → Value} {o : Oper} {cs : List Value} {t : TypeId} {f : Nat → Value} (hρ : ∀ x ∈ o.op.operands, VR σ (ρ x) (ρ' x))
    (ha : aop P ρ o = some (cs, t, f)) : ∃ (rc : Array Value) (v' : Nat → Value), (execOp ρ' o).run P w = .ok (.value (v' w.heap.size)) (w.alloc (.cells rc t)) ∧ LR σ cs rc.toList ∧
      ∀ (σ' : Sg) b (i : BI), σ' b = some i → i.off = 0 → VR σ' (f b) (v' i.blk) := by
  obtain ⟨dst, op, type, pos, after, guard⟩ := o
  cases op <;> simp only [aop] at ha <;> simp only [Op.operands] at hρ <;> try (cases ha; done)
  case alloc t =>
    split at ha <;> try (cases ha; done)
    rename_i z hz
    split at ha <;> try (cases ha; done)
    rename_i hzk
    simp only [Option.some.injEq, Prod.mk.injEq] at ha
    obtain ⟨rfl, rfl, rfl⟩ := ha
    refine ⟨z.cells, fun b => .pointer (some ⟨b, 0, none⟩), by simp [execOp, Instr.alloc, run_zeroValue hz, newVar, newRow], zok_refl hzk, fun σ' b i hi h0 => ?_⟩
    have := VR.ptr (o := 0) hi
    rwa [h0] at this
  case box t x =>
    simp only [Option.some.injEq, Prod.mk.injEq] at ha
    obtain ⟨rfl, rfl, rfl⟩ := ha
    refine ⟨(ρ' x).cells, fun b => .pointer (some ⟨b, 0, none⟩), by simp [execOp, Instr.box, newVar, newRow], (hρ x mem1).cells.toList, fun σ' b i hi h0 => ?_⟩
    have := VR.ptr (o := 0) hi
    rwa [h0] at this
  case buildSlice t n ps =>
    split at ha <;> try (cases ha; done)
    rename_i e h1
    split at ha <;> try (cases ha; done)
    rename_i s z hs hz
    split at ha <;> try (cases ha; done)
    rename_i hc
    obtain ⟨hc1, hc2, hc3, hc4⟩ := hc
    split at ha <;> try (cases ha; done)
    rename_i out hout
    simp only [Option.some.injEq, Prod.mk.injEq] at ha
    obtain ⟨rfl, rfl, rfl⟩ := ha
    obtain ⟨out', ho', hr⟩ := fill_rel _ _ (ps.toList.map fun p => (p.1, ρ' p.2)) (zok_pat hc2 (n * s) (by omega)) (by simp) (fun i h1 h2 => by
          simp only [List.getElem_map]
          exact hρ _ (by simp; exact ⟨(ps.toList[i]'(by simpa using h1)).1, Array.getElem_mem _⟩)) hout
    refine ⟨out', fun b => .slice (some ⟨b, 0, none⟩) n n, ?_, hr.toList, fun σ' b i hi h0 => ?_⟩
    · have hz0 : (zeroValue e).run P w = .ok z w := run_zeroValue hz w
      have hps : (ps.map fun (i, x) => (i, ρ' x)).toList = ps.toList.map fun p => (p.1, ρ' p.2) := map_parts ps ρ'
      have hps' : (Array.map (fun x => (x.fst, ρ' x.snd)) ps).toList = ps.toList.map fun p => (p.1, ρ' p.2) := by simp
      have hle : ¬ n * s > 2 ^ 24 := by omega
      simp only [execOp, Sem.run_bind, Instr.buildSlice, run_underlying h1, Result.andThen_ok, run_sizeOf hs, Sem.run_ite, hle, if_false]
      by_cases hn : n * s = 0
      · simp only [hn, if_true, Array.range_zero', Array.map_empty] at ho' ⊢
        simp only [Sem.run_pure, Result.andThen_ok, hps, ho', newRow, Sem.run_bind, run_newObj]
        rfl
      · simp only [hn, if_false, Sem.run_bind, hz0, Result.andThen_ok, Sem.run_pure, hps, ho', newRow, run_newObj]
        rfl
    · have := VR.slc (o := 0) (n := n) (c := n) hi (.inl rfl)
      rwa [h0] at this
  case makeSlice t l c =>
    have hl := hρ l mem21
    have hc := hρ c mem22
    split at ha <;> try (cases ha; done)
    rename_i e kn n km m h1 e1 e2
    split at ha <;> try (cases ha; done)
    rename_i ie hie
    split at ha <;> try (cases ha; done)
    rename_i z hz
    split at ha <;> try (cases ha; done)
    rename_i hq
    obtain ⟨q1, q2, q3, q4, q5, q6, q7⟩ := hq
    simp only [Option.some.injEq, Prod.mk.injEq] at ha
    obtain ⟨rfl, rfl, rfl⟩ := ha
    rw [e1] at hl; rw [e2] at hc
    have f1 := VR.int_inv hl
    have f2 := VR.int_inv hc
    refine ⟨(Array.range (m.toNat * ie.size)).map (z.cells[· % z.cells.size]!), fun b => .slice (some ⟨b, 0, none⟩) n.toNat m.toNat, ?_, (zok_pat q5 _ (by omega)).toList, fun σ' b i hi h0 => ?_⟩
    · have wm : IntKind.i64.wrap m = m := by simp [IntKind.wrap, IntKind.bits, IntKind.signed]; omega
      have wn : IntKind.i64.wrap n = n := by simp [IntKind.wrap, IntKind.bits, IntKind.signed]; omega
      have t1 : ¬ (m < 0) := by omega
      have t2 : ¬ ((ie.bytes : Int) * m > 2 ^ 48) := by omega
      have t3 : ¬ (n < 0) := by omega
      have t4 : ¬ (n > m) := by omega
      simp only [execOp, Sem.run_bind, Instr.makeSlice, run_underlying h1, Result.andThen_ok, f1, f2, asInt, asIntOf, Sem.run_pure, typeInfo, run_program, hie, wm, wn, t1, t2, t3, t4, decide_false, Bool.or_self, Bool.false_eq_true, if_false,
        run_askRoom, sizeOf, Sem.run_ite]
      by_cases hn : m.toNat * ie.size = 0
      · simp only [hn, if_true, Sem.run_pure, Result.andThen_ok, Array.range_zero', Array.map_empty, newRow, Sem.run_bind, run_newObj]
        rfl
      · simp only [hn, if_false, Sem.run_bind, zeroValue, typeInfo, run_program, Result.andThen_ok, hie, Sem.run_pure, hz, newRow, run_newObj]
        rfl
    · have := VR.slc (o := 0) (n := n.toNat) (c := m.toNat) hi (.inl rfl)
      rwa [h0] at this
end Go.Proofs.Zq
