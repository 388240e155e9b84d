/- Operations that read the heap. -/
import Derived.Test.YtmjddnmhlfpgmaaGreatDoorZqEvF
import Derived.Laws.IdiomStrings
namespace Go.Proofs.Zq
variable {P : Program} {N G : Nat} {σ : Sg} {h : H} {w : World}

theorem cells_rel (R : Rel P N G σ h w) {b off n : Nat} {cs : List Value} {i : BI} (hi : σ b = some i) (hc : h.cells b off n = some cs) :
    ∃ cs', LR σ cs cs' ∧ cs.length = n ∧ ∀ j v, cs'[j]? = some v → w.cell? ⟨i.blk, i.off + off + j, none⟩ = some v := by
  unfold H.cells at hc
  split at hc <;> try (cases hc; done)
  rename_i all e own opn hb
  split at hc <;> try (cases hc; done)
  rename_i hle
  injection hc with hc; subst hc
  obtain ⟨i', hi', hbr⟩ := R.live _ _ hb
  rw [hi] at hi'; injection hi' with hi'; subst hi'
  obtain ⟨rc, re, fr, hg, hroom, hlen, hlr, _, _, _⟩ := hbr
  refine ⟨(((rc.toList.drop i.off).take all.length).drop off).take n, (hlr.drop off).take n, by simp; omega, fun j v hj => ?_⟩
  obtain ⟨hlt, rfl⟩ := List.getElem?_eq_some_iff.1 hj
  simp [World.cell?, hg, Nat.add_assoc]

theorem run_loadAt_cells (R : Rel P N G σ h w) {b off n : Nat} {cs : List Value} {i : BI} (hi : σ b = some i) (hc : h.cells b off n = some cs) :
    ∃ cs', LR σ cs cs' ∧ (loadCells ⟨i.blk, i.off + off, none⟩ n).run P w = .ok cs'.toArray w := by
  obtain ⟨cs', hr, hl, hcell⟩ := cells_rel R hi hc
  refine ⟨cs', hr, ?_⟩
  have := run_loadCells_list (P := P) w ⟨i.blk, i.off + off, none⟩ cs' (fun j v hj => by rw [Addr.add_none]; exact hcell j v hj)
  rw [← hr.1, hl] at this
  exact this

theorem load_rel (R : Rel P N G σ h w) {t : TypeId} {b off : Nat} {i : BI} {v : Value} (hi : σ b = some i)
    (hv : (match pagg P t, psz P t with
      | some true, some n => (match h.cells b off n with | some cs => some (.agg cs.toArray) | none => none)
      | some false, _ => (match h.cells b off 1 with | some [v] => some v | _ => none)
      | _, _ => none) = some v) : ∃ v', (loadVar t ⟨i.blk, i.off + off, none⟩).run P w = .ok v' w ∧ VR σ v v' := by
  split at hv <;> try (cases hv; done)
  · rename_i n ha hs
    split at hv <;> try (cases hv; done)
    rename_i cs hc
    injection hv with hv; subst hv
    obtain ⟨cs', hr, hl⟩ := run_loadAt_cells R hi hc
    exact ⟨.agg cs'.toArray, by simp [loadVar, run_isAgg ha, run_sizeOf hs, hl], VR.agg' hr.toArray⟩
  · rename_i ha
    split at hv <;> try (cases hv; done)
    rename_i u hc
    injection hv with hv; subst hv
    obtain ⟨cs', hr, hl, hcell⟩ := cells_rel R hi hc
    have hlen := hr.1
    obtain ⟨u', rfl⟩ : ∃ u', cs' = [u'] := by
      match cs', hlen with
      | [u'], _ => exact ⟨u', rfl⟩
    have h0 := hcell 0 u' rfl
    simp at h0
    exact ⟨u', by simp [loadVar, run_isAgg ha, h0], hr.uncons.1⟩

theorem pbytes_list : ∀ {cs : List Value} {l : List UInt8}, pbytes cs = some l → ∃ ns : List Int, cs = ns.map (Value.int .u8) ∧ l = ns.map fun n => UInt8.ofNat n.toNat
  | [], l, h => by simp [pbytes] at h; subst h; exact ⟨[], rfl, rfl⟩
  | v :: vs, l, h => by
    cases v <;> try (simp [pbytes] at h; done)
    rename_i k n
    cases k <;> try (simp [pbytes] at h; done)
    simp only [pbytes, Option.map_eq_some_iff] at h
    obtain ⟨l', h', rfl⟩ := h
    obtain ⟨ns, rfl, rfl⟩ := pbytes_list h'
    exact ⟨n :: ns, rfl, rfl⟩

theorem foldl_push : ∀ (ns : List Int) (r : ByteArray), ns.foldl (fun r n => r.push (UInt8.ofNat n.toNat)) r = ⟨r.data ++ (ns.map fun n => UInt8.ofNat n.toNat).toArray⟩
  | [], r => by simp
  | n :: ns, r => by simp only [List.foldl_cons]; rw [foldl_push ns]; simp [ByteArray.push]

theorem LR.ints {ns : List Int} {k : IntKind} {cs' : List Value} (h : LR σ (ns.map (Value.int k)) cs') : cs' = ns.map (Value.int k) := by
  apply List.ext_getElem
  · exact h.1.symm
  · intro i h1 h2
    have := h.2 i h2 h1
    rw [List.getElem_map] at this ⊢
    exact VR.int_inv this

set_option maxHeartbeats 1000000 in
theorem rop_sound (R : Rel P N G σ h w) {ρ ρ' : Operand → Value} {o : Oper} {v : Value} (hρ : ∀ x ∈ o.op.operands, VR σ (ρ x) (ρ' x)) (hv : rop P h ρ o = some v) :
    ∃ v', (execOp ρ' o).run P w = .ok (.value v') w ∧ VR σ v v' := by
  obtain ⟨dst, op, type, pos, after, guard⟩ := o
  cases op <;> simp only [rop] at hv <;> simp only [Op.operands] at hρ <;> try (cases hv; done)
  case load t a =>
    have ha := hρ a mem1
    split at hv <;> try (cases hv; done)
    rename_i b off e
    rw [e] at ha
    obtain ⟨i, hi, e'⟩ := VR.ptr_inv ha
    obtain ⟨v', hr, hvr⟩ := load_rel R hi hv
    exact ⟨v', by simp [execOp, Instr.loadAt, Instr.sureAddr, e', hr], hvr⟩
  case convert s d x =>
    have hx := hρ x mem1
    split at hv <;> try (cases hv; done)
    rename_i e a n c h1 h2 e1
    rw [e1] at hx
    split at hv <;> try (cases hv; done)
    · rename_i h3
      split at hv <;> try (cases hv; done)
      rename_i hn
      injection hv with hv; subst hv; subst hn
      generalize hy : ρ' x = y' at hx
      cases hx
      exact ⟨_, by simp [execOp, hy, run_convert_bytes_string (P := P) w s d e none 0 c h1 h3 h2, Conv.bytesToString], .str _⟩
    · rename_i b off h3
      split at hv <;> try (cases hv; done)
      rename_i cs hc
      split at hv <;> try (cases hv; done)
      rename_i l hl
      injection hv with hv; subst hv
      obtain ⟨ns, rfl, rfl⟩ := pbytes_list hl
      generalize hy : ρ' x = y' at hx
      have fin : ∀ (i : BI) (c' : Nat), σ b = some i → y' = .slice (some ⟨i.blk, i.off + off, none⟩) n c' → ∃ v', (execOp ρ' { dst, op := .convert s d x, type, pos, after, guard }).run P w = .ok (.value v') w ∧ VR σ (.string ⟨(ns.map fun n => UInt8.ofNat n.toNat).toArray⟩) v' := by
        intro i c' hi hy'
        obtain ⟨cs', hr, hld⟩ := run_loadAt_cells R hi hc
        rw [LR.ints hr] at hld
        refine ⟨_, ?_, .str _⟩
        have he0 : ByteArray.empty.data = #[] := rfl
        simp only [execOp, hy, hy', Sem.run_bind]
        rw [run_convert_bytes_string (P := P) w s d e _ n c' h1 h3 h2, run_bytesToString w _ n c' ns hld, foldl_push, he0]
        simp
      cases hx with
      | slc hi hcc => exact fin _ _ hi rfl
      | slc0 hi he hcc =>
        rename_i o' c' i
        have hns : ns = [] := by
          have := (cells_rel R hi hc).choose_spec.2.1
          simpa using this
        subst hns
        refine ⟨_, ?_, .str _⟩
        simp only [execOp, hy, Sem.run_bind]
        rw [run_convert_bytes_string (P := P) w s d e _ 0 c' h1 h3 h2, run_bytesToString w _ 0 c' [] (by simp [loadCells, loadCellsFrom])]
        rfl
  case slice t x lo hi0 mx =>
    cases mx <;> (try simp only at hv) <;> try (cases hv; done)
    have hx := hρ x (by simp)
    have o1 := opt_rel (σ := σ) (ρ := ρ) (ρ' := ρ') lo (fun y hy => hρ y (by simp [hy]))
    have o2 := opt_rel (σ := σ) (ρ := ρ) (ρ' := ρ') hi0 (fun y hy => hρ y (by simp [hy]))
    split at hv <;> try (cases hv; done)
    · rename_i e n c h1 e1
      split at hv <;> try (cases hv; done)
      rename_i sz hs hb
      split at hv <;> try (cases hv; done)
      rename_i hc
      injection hv with hv; subst hv; subst hc
      rw [e1] at hx
      generalize hy : ρ' x = y' at hx
      cases hx
      have := bounds_rel (P := P) (isSlice := true) (Nat.le_refl _) o1.1 o1.2 o2.1 o2.2 hb w
      exact ⟨.slice none 0 0, by simp [execOp, Instr.sliceAt, Instr.slice, run_underlying h1, hy, this, run_sizeOf hs], .nils _ _⟩
    · rename_i e b off n c h1 e1
      split at hv <;> try (cases hv; done)
      rename_i cs e' own opn s l hh hg hs hb
      obtain ⟨i, hi, hbr⟩ := R.live _ _ hg
      obtain ⟨rc, re, fr, hheap, hroom, hlen, hlr, hown, hop, _⟩ := hbr
      rw [e1] at hx
      generalize hy : ρ' x = y' at hx
      -- the model's slice
      have fin : ∀ (o' c' : Nat), c ≤ c' → y' = .slice (some ⟨i.blk, i.off + o', none⟩) n c' →
          ∀ v', VR σ v v' → v' = .slice (some (if c' = l then ⟨i.blk, i.off + o', none⟩ else ⟨i.blk, i.off + (o' + l * (s + 1)), none⟩)) (hh - l) (c' - l) →
          ∃ v', (execOp ρ' { dst, op := .slice t x lo hi0 none, type, pos, after, guard }).run P w = .ok (.value v') w ∧ VR σ v v' := by
        intro o' c' hcc hy' v' hvr hv'
        have := bounds_rel (P := P) (isSlice := true) hcc o1.1 o1.2 o2.1 o2.2 hb w
        refine ⟨v', ?_, hvr⟩
        subst hv'
        by_cases hcl : c' = l
        · subst hcl
          simp [execOp, Instr.sliceAt, Instr.slice, run_underlying h1, hy, hy', this, run_sizeOf hs]
        · simp [execOp, Instr.sliceAt, Instr.slice, run_underlying h1, hy, hy', this, run_sizeOf hs, hcl, Addr.add_none, Nat.add_assoc]
      cases hx with
      | slc hi' hc =>
        rename_i c' i'
        rw [hi] at hi'; injection hi' with hi'; subst hi'
        have hcc : c ≤ c' := by rcases hc with rfl | ⟨_, h, _⟩ <;> omega
        split at hv <;> try (cases hv; done)
        rename_i hsz
        have hez : i.esz ≠ 0 → i.esz = s + 1 := fun he => by
          obtain ⟨ho, hce⟩ := hop he
          simp [ho] at hsz
          unfold psz at hsz
          unfold Program.cellsOf at hce
          rw [hsz] at hce
          simpa using hce.symm
        split at hv
        · rename_i hcl
          split at hv <;> try (cases hv; done)
          rename_i hq
          injection hv with hv; subst hv; subst hq; subst hcl
          refine fin off c' hcc rfl _ ?_ rfl
          rw [Nat.sub_self]
          by_cases hc0 : c' = c
          · subst hc0
            simp only [if_true, Nat.sub_self]
            exact .slc hi (.inl rfl)
          · simp only [hc0, if_false]
            rcases hc with h0 | ⟨he, h2, h3⟩
            · exact absurd h0 hc0
            · refine .slc0 hi he ?_
              have h4 := hez he
              rw [h4] at h3 ⊢
              have : c' = c + (c' - c) := by omega
              rw [this, Nat.add_mul] at h3
              omega
        · rename_i hcl
          split at hv <;> try (cases hv; done)
          rename_i hlt
          injection hv with hv; subst hv
          refine fin off c' hcc rfl _ ?_ rfl
          have : ¬ c' = l := by omega
          simp only [this, if_false]
          refine .slc hi ?_
          rcases hc with rfl | ⟨he, h2, h3⟩
          · exact .inl rfl
          · right
            refine ⟨he, by omega, ?_⟩
            have h4 := hez he
            rw [h4] at h3 ⊢
            have : c' = l + (c' - l) := by omega
            rw [this, Nat.add_mul] at h3
            omega
      | slc0 hi' he hc =>
        rename_i o' c' i'
        rw [hi] at hi'; injection hi' with hi'; subst hi'
        split at hv <;> try (cases hv; done)
        have hl0 : l = 0 ∧ hh = 0 ∨ ¬ (0 = l) := by
          by_cases h0 : 0 = l
          · subst h0
            split at hv
            · split at hv <;> try (cases hv; done)
              rename_i hq; exact .inl ⟨rfl, hq⟩
            · rename_i hq; exact absurd rfl hq
          · exact .inr h0
        rcases hl0 with ⟨rfl, rfl⟩ | hl0
        · simp at hv; subst hv
          refine fin o' c' (Nat.zero_le _) rfl _ (.slc0 hi he (c' := c') (o' := o') hc) ?_
          by_cases hc0 : c' = 0 <;> simp [hc0]
        · simp [hl0] at hv
    · rename_i n e b off h1 e1
      split at hv <;> try (cases hv; done)
      rename_i cs e' own s l hh hg hs hb
      split at hv <;> try (cases hv; done)
      rename_i hn
      injection hv with hv; subst hv
      rw [e1] at hx
      obtain ⟨i, hi, e1'⟩ := VR.ptr_inv hx
      have := bounds_rel (P := P) (isSlice := false) (Nat.le_refl _) o1.1 o1.2 o2.1 o2.2 hb w
      refine ⟨.slice (some ⟨i.blk, i.off + (off + l * s), none⟩) (hh - l) (n - l), ?_, .slc hi (.inl rfl)⟩
      simp [execOp, Instr.sliceAt, run_underlying h1, e1', Instr.sureAddr, this, run_sizeOf hs, hn, Addr.add_none, Nat.add_assoc]
    · rename_i arr b off h1 e1
      split at hv <;> try (cases hv; done)
      rename_i n e h2
      split at hv <;> try (cases hv; done)
      rename_i cs e' own s l hh hg hs hb
      split at hv <;> try (cases hv; done)
      rename_i hn
      injection hv with hv; subst hv
      rw [e1] at hx
      obtain ⟨i, hi, e1'⟩ := VR.ptr_inv hx
      have := bounds_rel (P := P) (isSlice := false) (Nat.le_refl _) o1.1 o1.2 o2.1 o2.2 hb w
      refine ⟨.slice (some ⟨i.blk, i.off + (off + l * s), none⟩) (hh - l) (n - l), ?_, .slc hi (.inl rfl)⟩
      simp [execOp, Instr.sliceAt, Instr.slice, run_underlying h1, run_underlying h2, e1', asAddr, this, run_sizeOf hs, hn, Addr.add_none, Nat.add_assoc]
end Go.Proofs.Zq
