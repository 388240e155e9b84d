/- Every operation that asks nothing of the heap. -/
import Derived.Test.YtmjddnmhlfpgmaaGreatDoorZqEvE
namespace Go.Proofs.Zq
variable {P : Program} {σ : Sg}

theorem map_parts (ps : Array (Nat × Operand)) (ρ : Operand → Value) : (ps.map fun (i, x) => (i, ρ x)).toList = ps.toList.map fun p => (p.1, ρ p.2) := by
  simp

theorem VR.int_inv {k : IntKind} {n : Int} {v' : Value} (h : VR σ (.int k n) v') : v' = .int k n := by cases h; rfl
theorem VR.bool_inv {b : Bool} {v' : Value} (h : VR σ (.bool b) v') : v' = .bool b := by cases h; rfl
theorem VR.str_inv {s : ByteArray} {v' : Value} (h : VR σ (.string s) v') : v' = .string s := by cases h; rfl
theorem VR.ptr_inv {b o : Nat} {v' : Value} (h : VR σ (.pointer (some ⟨b, o, none⟩)) v') : ∃ i, σ b = some i ∧ v' = .pointer (some ⟨i.blk, i.off + o, none⟩) := by
  cases h; exact ⟨_, by assumption, rfl⟩

/-- A bound of 's[lo:hi]' in the model. -/
theorem bounds_rel {isSlice : Bool} {len cap cap' l h : Nat} {lo hi lo' hi' : Option Value} (hcap : cap ≤ cap') (hlo : ∀ v, lo = some v → ∃ v', lo' = some v' ∧ VR σ v v') (hlo' : lo = none → lo' = none)
    (hhi : ∀ v, hi = some v → ∃ v', hi' = some v' ∧ VR σ v v') (hhi' : hi = none → hi' = none) (hp : pbounds len cap lo hi = some (l, h)) (w : World) :
    (Instr.sliceBounds isSlice len cap' lo' hi' none).run P w = .ok (l, h, cap') w := by
  unfold pbounds at hp
  cases hi with
  | none =>
    have e := hhi' rfl
    subst e
    try dsimp only at hp
    cases lo with
    | none =>
      have e := hlo' rfl
      subst e
      simp at hp
      obtain ⟨rfl, rfl⟩ := hp
      simp [Instr.sliceBounds]
    | some v =>
      obtain ⟨v', rfl, hv⟩ := hlo v rfl
      try dsimp only at hp
      split at hp <;> rename_i heq
      · cases heq
      · injection heq with heq
        subst heq
        rw [VR.int_inv hv]
        split at hp
        · rename_i hb
          simp at hp
          obtain ⟨rfl, rfl⟩ := hp
          simp [Instr.sliceBounds, Instr.sliceBound, asIntOf, hb]
        · cases hp
      · cases hp
  | some u =>
    obtain ⟨u', rfl, hu⟩ := hhi u rfl
    cases u <;> try (simp at hp; done)
    rename_i k n
    rw [VR.int_inv hu]
    dsimp only at hp
    by_cases hb : 0 ≤ n ∧ n ≤ (cap : Int)
    · have hb' : 0 ≤ n ∧ n ≤ (cap' : Int) := ⟨hb.1, by omega⟩
      simp only [hb, and_self, if_true] at hp
      cases lo with
      | none =>
        have e := hlo' rfl
        subst e
        simp at hp
        obtain ⟨rfl, rfl⟩ := hp
        simp [Instr.sliceBounds, Instr.sliceBound, asIntOf, hb']
      | some v =>
        obtain ⟨v', rfl, hv⟩ := hlo v rfl
        try dsimp only at hp
        split at hp <;> rename_i heq
        · cases heq
        · injection heq with heq
          subst heq
          rw [VR.int_inv hv]
          split at hp
          · rename_i hb2
            simp at hp
            obtain ⟨rfl, rfl⟩ := hp
            simp [Instr.sliceBounds, Instr.sliceBound, asIntOf, hb', hb2]
            intro hh; omega
          · cases hp
        · cases hp
    · simp [hb] at hp

theorem opt_rel {ρ ρ' : Operand → Value} (x : Option Operand) (h : ∀ y, x = some y → VR σ (ρ y) (ρ' y)) :
    (∀ v, x.map ρ = some v → ∃ v', x.map ρ' = some v' ∧ VR σ v v') ∧ (x.map ρ = none → x.map ρ' = none) := by
  cases x with
  | none => exact ⟨fun v hv => by simp at hv, fun _ => rfl⟩
  | some y => exact ⟨fun v hv => by simp at hv; subst hv; exact ⟨_, rfl, h y rfl⟩, fun hn => by simp at hn⟩

theorem mem1 {α : Type} {x : α} : x ∈ #[x] := by simp
theorem mem21 {α : Type} {x y : α} : x ∈ #[x, y] := by simp
theorem mem22 {α : Type} {x y : α} : y ∈ #[x, y] := by simp

theorem two_args {args : Array Operand} {ρ : Operand → Value} {a b : Value} (h : args.toList.map ρ = [a, b]) : ∃ x y, args = #[x, y] ∧ ρ x = a ∧ ρ y = b := by
  obtain ⟨l⟩ := args
  match l, h with
  | [x, y], h => simp at h; exact ⟨x, y, rfl, h.1, h.2⟩
theorem one_arg {args : Array Operand} {ρ : Operand → Value} {a : Value} (h : args.toList.map ρ = [a]) : ∃ x, args = #[x] ∧ ρ x = a := by
  obtain ⟨l⟩ := args
  match l, h with
  | [x], h => simp at h; exact ⟨x, rfl, h⟩

set_option maxHeartbeats 1000000 in
theorem pop_sound {ρ ρ' : Operand → Value} {o : Oper} {v : Value} (hρ : ∀ x ∈ o.op.operands, VR σ (ρ x) (ρ' x)) (h : pop P ρ o = some v) (w : World) :
    ∃ v', (execOp ρ' o).run P w = .ok (.value v') w ∧ VR σ v v' := by
  obtain ⟨dst, op, type, pos, after, guard⟩ := o
  cases op <;> simp only [pop] at h <;> simp only [Op.operands] at hρ <;> try (cases h; done)
  case move x => injection h with h; subst h; exact ⟨ρ' x, by simp [execOp], hρ x mem1⟩
  case assign x => injection h with h; subst h; exact ⟨ρ' x, by simp [execOp], hρ x mem1⟩
  case pick c a b =>
    have hc := hρ c (by simp)
    split at h
    · rename_i t e
      rw [e] at hc
      have e' := VR.bool_inv hc
      injection h with h; subst h
      refine ⟨if t then ρ' a else ρ' b, by simp [execOp, asBool, e'], ?_⟩
      cases t
      · exact hρ b (by simp)
      · exact hρ a (by simp)
    · cases h
  case build t ps =>
    split at h
    · rename_i z hz
      split at h
      · rename_i hcz
        simp only [Option.map_eq_some_iff] at h
        obtain ⟨out, ho, rfl⟩ := h
        obtain ⟨out', ho', hr⟩ := built_rel hz hcz (ps' := ps.toList.map fun p => (p.1, ρ' p.2)) (by simp) (fun i h1 h2 => by
          simp only [List.getElem_map]
          exact hρ _ (by simp; exact ⟨(ps.toList[i]'(by simpa using h1)).1, Array.getElem_mem _⟩)) ho
        refine ⟨.agg out', ?_, VR.agg' hr⟩
        have := run_build (P := P) w t (ps.map fun (i, x) => (i, ρ' x)) out' (by rw [map_parts]; exact ho')
        simp only [execOp, Sem.run_bind, this, Result.andThen_ok, Sem.run_pure]
      · cases h
    · cases h
  case nilCheck x =>
    have hx := hρ x mem1
    split at h <;> rename_i e <;> first | (cases h; done) | skip
    · rw [e] at hx
      injection h with h; subst h
      have hx0 := hx
      generalize hv : ρ' x = v' at hx
      cases hx
      rename_i i hi
      exact ⟨_, by simp [execOp, hv], .ptr hi⟩
    · rw [e] at hx
      injection h with h; subst h
      generalize hv : ρ' x = v' at hx
      cases hx
      rename_i hi
      exact ⟨_, by simp [execOp, hv], .ifc _ hi⟩
    · rw [e] at hx
      injection h with h; subst h
      have hx0 := hx
      generalize hv : ρ' x = v' at hx hx0
      cases hx
      exact ⟨_, by simp only [execOp, hv]; rfl, hx0⟩
  case binOp op t x y yt =>
    have := bin_rel (P := P) (x := x) (y := y) (hρ x mem21) (hρ y mem22) h w
    refine ⟨v, ?_, VR.flat this.2⟩
    have e := this.1
    simp only [execOp]
    rw [Sem.run_bind, e]
    rfl
  case unOp op t x =>
    have hx := hρ x mem1
    split at h <;> rename_i e <;> first | (cases h; done) | skip
    · rw [e] at hx; have := VR.bool_inv hx; injection h with h; subst h
      exact ⟨_, by simp [execOp, Op.unary, this], .bool _⟩
    · rw [e] at hx; have := VR.int_inv hx; simp [pint] at h; subst h
      exact ⟨_, by simp [execOp, Op.unary, this, Op.intArith], .int _ _⟩
    · rw [e] at hx; have := VR.int_inv hx; simp [pint] at h; subst h
      exact ⟨_, by simp [execOp, Op.unary, this, Op.intBits], .int _ _⟩
  case convert s d x =>
    have hx := hρ x mem1
    split at h <;> first | (cases h; done) | skip
    · rename_i d1 k k2 n h1 h2 e
      rw [e] at hx; have := VR.int_inv hx; injection h with h; subst h
      exact ⟨_, by simp [execOp, convert, this, run_underlying h1, run_underlying h2, Conv.intToInt], .int _ _⟩
    · rename_i b h1 h2 e
      rw [e] at hx; have := VR.str_inv hx; injection h with h; subst h
      exact ⟨_, by simp [execOp, convert, this, run_underlying h1, run_underlying h2], .str _⟩
  case makeInterface t x =>
    split at h
    · rename_i hc
      injection h with h; subst h
      exact ⟨.iface t (ρ' x), by simp [execOp, run_makeInterface w t _ hc], .ifc t (hρ x mem1)⟩
    · cases h
  case makeFunc fn first captured =>
    injection h with h; subst h
    have h1 := AR.map first (fun x hx => hρ x (by simp [hx]))
    have h2 := AR.map captured (fun x hx => hρ x (by simp [hx]))
    exact ⟨.func fn (first.map ρ') (captured.map ρ'), by simp [execOp, Instr.makeFunc], .fn fn h1.1 h1.2 h2.1 h2.2⟩
  case fieldAddr s x f =>
    have hx := hρ x mem1
    split at h <;> try (cases h; done)
    rename_i fs b off h1 e
    split at h <;> try (cases h; done)
    rename_i fd hfd
    split at h <;> try (cases h; done)
    rename_i m hm
    injection h with h; subst h
    rw [e] at hx
    obtain ⟨i, hi, e'⟩ := VR.ptr_inv hx
    refine ⟨.pointer (some ⟨i.blk, i.off + (off + fd.offset), none⟩), ?_, .ptr hi⟩
    simp [execOp, Instr.fieldAt, run_underlying h1, hfd, e', Instr.sureAddr, fieldPlace, run_sizeOf hm, Addr.add_none, Nat.add_assoc]
  case field t x f =>
    have hx := hρ x mem1
    split at h <;> try (cases h; done)
    rename_i fs cs h1 e
    split at h <;> try (cases h; done)
    rename_i fd hfd
    rw [e] at hx
    obtain ⟨cs', e', hr⟩ := hx.agg_inv
    obtain ⟨v', hv', hvr⟩ := part_rel hr h w
    exact ⟨v', by simp [execOp, Instr.field, run_underlying h1, hfd, e', asAgg, hv'], hvr⟩
  case index t x i =>
    have hx := hρ x mem21
    have hi := hρ i mem22
    split at h <;> try (cases h; done)
    · rename_i n e cs k j h1 e1 e2
      split at h <;> try (cases h; done)
      rename_i s hs
      split at h <;> try (cases h; done)
      rename_i hb
      rw [e1] at hx
      rw [e2] at hi
      obtain ⟨cs', e', hr⟩ := hx.agg_inv
      have e2' := VR.int_inv hi
      obtain ⟨v', hv', hvr⟩ := part_rel hr h w
      exact ⟨v', by simp [execOp, Instr.index, asIntOf, e2', run_underlying h1, e', hb, run_sizeOf hs, hv'], hvr⟩
    · rename_i s k j h1 e1 e2
      split at h <;> try (cases h; done)
      rename_i hj
      split at h <;> try (cases h; done)
      rename_i b hb
      injection h with h; subst h
      rw [e1] at hx
      rw [e2] at hi
      have e1' := VR.str_inv hx
      have e2' := VR.int_inv hi
      exact ⟨_, by simp [execOp, Instr.index, asIntOf, e2', run_underlying h1, e1', hj, hb], .int _ _⟩
  case indexAddr t x i =>
    have hx := hρ x mem21
    have hi := hρ i mem22
    split at h <;> try (cases h; done)
    · rename_i n e b off k j h1 e1 e2
      split at h <;> try (cases h; done)
      rename_i s hs
      split at h <;> try (cases h; done)
      rename_i hb
      injection h with h; subst h
      rw [e1] at hx
      rw [e2] at hi
      obtain ⟨bi, hbi, e1'⟩ := VR.ptr_inv hx
      have e2' := VR.int_inv hi
      refine ⟨.pointer (some ⟨bi.blk, bi.off + (off + j.toNat * s), none⟩), ?_, .ptr hbi⟩
      simp [execOp, Instr.indexAt, asIntOf, e2', run_underlying h1, e1', Instr.sureAddr, hb, run_sizeOf hs, Addr.add_none, Nat.add_assoc]
    · rename_i e b off n c k j h1 e1 e2
      split at h <;> try (cases h; done)
      rename_i s hs
      split at h <;> try (cases h; done)
      rename_i hb
      injection h with h; subst h
      rw [e1] at hx
      rw [e2] at hi
      have e2' := VR.int_inv hi
      generalize hv : ρ' x = v' at hx
      cases hx with
      | slc hbi hc =>
        rename_i bi
        refine ⟨.pointer (some ⟨bi.blk, bi.off + (off + j.toNat * s), none⟩), ?_, .ptr hbi⟩
        simp [execOp, Instr.indexAt, asIntOf, e2', run_underlying h1, hv, hb, run_sizeOf hs, Addr.add_none, Nat.add_assoc]
      | slc0 hbi => omega
  case extract t i =>
    have hx := hρ t mem1
    split at h <;> try (cases h; done)
    rename_i vs e
    rw [e] at hx
    generalize hv : ρ' t = v' at hx
    cases hx with
    | tup hs hr =>
      obtain ⟨v', e', r⟩ := AR.get? ⟨hs, hr⟩ h
      exact ⟨v', by simp [execOp, Instr.extract, hv, e'], r⟩
  case slice t x lo hi mx =>
    cases mx <;> simp only at h <;> try (cases h; done)
    have hx := hρ x (by simp)
    split at h <;> try (cases h; done)
    rename_i s h1 e1
    split at h <;> try (cases h; done)
    rename_i l hh hb
    injection h with h; subst h
    rw [e1] at hx
    have e1' := VR.str_inv hx
    have o1 := opt_rel (σ := σ) (ρ := ρ) (ρ' := ρ') lo (fun y hy => hρ y (by simp [hy]))
    have o2 := opt_rel (σ := σ) (ρ := ρ) (ρ' := ρ') hi (fun y hy => hρ y (by simp [hy]))
    have := bounds_rel (P := P) (isSlice := false) (Nat.le_refl _) o1.1 o1.2 o2.1 o2.2 hb w
    exact ⟨_, by simp [execOp, Instr.sliceAt, Instr.slice, run_underlying h1, e1', this], .str _⟩
  case call c =>
    obtain ⟨cl, args, argTypes⟩ := c
    cases cl <;> (try simp only at h) <;> try (cases h; done)
    rename_i b
    have hargs : ∀ x ∈ args, VR σ (ρ x) (ρ' x) := fun x hx => hρ x (by simp [Call.operands, hx])
    cases b <;> (try simp only at h) <;> try (cases h; done)
    case len =>
      split at h <;> try (cases h; done)
      rename_i x t ha ht
      have hx : VR σ (ρ x) (ρ' x) := hargs x (by rw [← Array.mem_toList_iff, ha]; simp)
      have ha' : args = #[x] := by cases args; simp at ha; simp [ha]
      subst ha'
      split at h <;> try (cases h; done)
      · rename_i s h1 e1
        rw [e1] at hx; have e' := VR.str_inv hx; injection h with h; subst h
        exact ⟨_, by simp [execOp, resolve, invoke, builtin, Builtin.len_, ht, run_underlying h1, e', goInt], .int _ _⟩
      · rename_i n e h1
        injection h with h; subst h
        refine ⟨_, ?_, .int _ _⟩
        simp [execOp, resolve, invoke, builtin, Builtin.len_, ht, run_underlying h1, goInt]
      · rename_i e a n c h1 e1
        injection h with h; subst h
        rw [e1] at hx
        generalize hv : ρ' x = v' at hx
        refine ⟨_, ?_, .int _ _⟩
        cases hx <;> simp [execOp, resolve, invoke, builtin, Builtin.len_, ht, run_underlying h1, hv, goInt]
      · rename_i k e h1 e1
        injection h with h; subst h
        rw [e1] at hx
        generalize hv : ρ' x = v' at hx
        refine ⟨_, ?_, .int _ _⟩
        cases hx
        simp [execOp, resolve, invoke, builtin, Builtin.len_, ht, run_underlying h1, hv, goInt]
    case min =>
      split at h <;> try (cases h; done)
      rename_i k a k' b e
      obtain ⟨x, y, rfl, e1, e2⟩ := two_args e
      have hx := hargs x (by simp)
      have hy := hargs y (by simp)
      rw [e1] at hx; rw [e2] at hy
      have f1 := VR.int_inv hx
      have f2 := VR.int_inv hy
      injection h with h; subst h
      exact ⟨_, by simp [execOp, resolve, invoke, builtin, f1, f2, run_min_int2], .int _ _⟩
    case max =>
      split at h <;> try (cases h; done)
      rename_i k a k' b e
      obtain ⟨x, y, rfl, e1, e2⟩ := two_args e
      have hx := hargs x (by simp)
      have hy := hargs y (by simp)
      rw [e1] at hx; rw [e2] at hy
      have f1 := VR.int_inv hx
      have f2 := VR.int_inv hy
      injection h with h; subst h
      exact ⟨_, by simp [execOp, resolve, invoke, builtin, f1, f2, run_max_int2], .int _ _⟩
    case cap =>
      split at h <;> try (cases h; done)
      rename_i t e ht
      split at h <;> try (cases h; done)
      rename_i el h1
      obtain ⟨x, rfl, e1⟩ := one_arg e
      have hx := hargs x (by simp)
      rw [e1] at hx
      generalize hv : ρ' x = v' at hx
      cases hx
      injection h with h; subst h
      exact ⟨_, by simp [execOp, resolve, invoke, builtin, Builtin.cap_, ht, run_underlying h1, hv, goInt], .int _ _⟩
end Go.Proofs.Zq
