/- Writes. -/
import Derived.Test.YtmjddnmhlfpgmaaGreatDoorZqEvH
namespace Go.Proofs.Zq
variable {P : Program} {N G : Nat} {σ : Sg} {h : H} {w : World}

theorem BR.ro {i : BI} {x : Blk} (hb : BR P N σ i w x) (hx : x.own = false) : i.blk < N := by
  cases x with
  | cells cs e own opn => obtain ⟨rc, re, fr, _, _, _, _, _, _, h5⟩ := hb; exact h5 hx
  | map es => cases hx
  | siter s pos => cases hx

/-- Two live blocks of which one is the call's own do not share a block of the model's. -/
theorem Rel.apart (R : Rel P N G σ h w) {b c : Nat} {x y : Blk} {i j : BI} (hb : h.get b = some x) (hx : x.own = true) (hi : σ b = some i) (hc : h.get c = some y) (hj : σ c = some j) (hne : c ≠ b) : j.blk ≠ i.blk := by
  intro e
  obtain ⟨i', hi', hbr⟩ := R.live b x hb
  rw [hi] at hi'; injection hi' with hi'; subst hi'
  obtain ⟨j', hj', hbr'⟩ := R.live c y hc
  rw [hj] at hj'; injection hj' with hj'; subst hj'
  cases hy : y.own with
  | true => exact hne (R.inj c b y x j i hc hb hy hx hj hi e)
  | false =>
    have h1 := hbr'.ro hy
    have h2 := hbr.low hx
    omega

theorem Rel.setB (R : Rel P N G σ h w) {b : Nat} {x y : Blk} {i : BI} (hx : h.get b = some x) (hxo : x.own = true) (hi : σ b = some i) {w' : World}
    (hsz : w'.heap.size = w.heap.size) (hot : ∀ r, r ≠ i.blk → w'.heap[r]? = w.heap[r]?) (hos : w'.os = w.os) (hou : w'.output = w.output) (hb : BR P N σ i w' y) :
    Rel P N G σ (h.set b y) w' ∧ Kept σ h w σ (h.set b y) w' := by
  have old : ∀ c z l, c ≠ b → h.get c = some z → σ c = some l → BR P N σ l w z → BR P N σ l w' z := fun c z l hc hz hl hbr =>
    hbr.mono (fun _ _ h => h) (hot _ (R.apart hx hxo hi hz hl hc))
  have lift : ∀ c z, (h.set b y).get c = some z → ∃ z', h.get c = some z' ∧ (z.own = true → z'.own = true) := fun c z hz => by
    by_cases hcb : c = b
    · subst hcb; exact ⟨x, hx, fun _ => hxo⟩
    · rw [H.get_set_ne _ _ _ _ hcb] at hz; exact ⟨z, hz, id⟩
  refine ⟨⟨by rw [hsz]; exact R.low, R.glob, ?_, ?_, ?_⟩, ⟨Nat.le_refl _, fun _ _ => rfl, by omega, ?_, ?_, hos, hou⟩⟩
  · intro c z hz
    by_cases hcb : c = b
    · subst hcb
      rw [H.get_set_same] at hz; injection hz with hz; subst hz
      exact ⟨i, hi, hb⟩
    · rw [H.get_set_ne _ _ _ _ hcb] at hz
      obtain ⟨l, hl, hbr⟩ := R.live c z hz
      exact ⟨l, hl, old c z l hcb hz hl hbr⟩
  · intro c d z u l m hc hd hz hu hl hm e
    obtain ⟨z', hz', ho⟩ := lift c z hc
    obtain ⟨u', hu', ho'⟩ := lift d u hd
    exact R.inj c d z' u' l m hz' hu' (ho hz) (ho' hu) hl hm e
  · intro c z hz
    obtain ⟨z', hz', _⟩ := lift c z hz
    exact R.low' c z' hz'
  · intro r _ hn
    exact hot r (fun e => hn b x i hx hxo hi e.symm)
  · intro c z l hc hz hl
    obtain ⟨z', hz', ho⟩ := lift c z hc
    exact .inl ⟨c, z', l, hz', ho hz, hl, rfl⟩

theorem Rel.delB (R : Rel P N G σ h w) (b : Nat) : Rel P N G σ (h.del b) w ∧ Kept σ h w σ (h.del b) w := by
  have lift : ∀ c z, (h.del b).get c = some z → h.get c = some z := fun c z hz => by
    by_cases hcb : c = b
    · subst hcb; rw [H.get_del_same] at hz; cases hz
    · rwa [H.get_del_ne _ _ _ hcb] at hz
  exact ⟨⟨R.low, R.glob, fun c z hz => R.live c z (lift c z hz), fun c d z u l m hc hd => R.inj c d z u l m (lift c z hc) (lift d u hd), fun c z hz => R.low' c z (lift c z hz)⟩,
    ⟨Nat.le_refl _, fun _ _ => rfl, Nat.le_refl _, fun _ _ _ => rfl, fun c z l hc hz hl => .inl ⟨c, z, l, lift c z hc, hz, hl, rfl⟩, rfl, rfl⟩⟩

/-- Cells stored one behind the other, in a block of which none that is written is frozen. -/
theorem run_storeSeg (g o : Nat) (t : TypeId) (fr : Nat × Nat) : ∀ (vs : List Value) (k : Nat) (cur : Array Value) (w : World), w.heap[g]? = some (.cells cur t fr) → (fr.2 ≤ fr.1 ∨ cur.size ≤ fr.1) →
    o + k + vs.length ≤ cur.size → (∀ v ∈ vs, v.oneCell' = true) →
    (storeCells ⟨g, o, none⟩ vs k).run P w = .ok () (w.setRow g (splice cur.toList (o + k) vs).toArray)
  | [], k, cur, w, hg, _, _, _ => by
    have : (splice cur.toList (o + k) []).toArray = cur := by simp [splice]
    rw [this, setRow_self w g cur t fr hg]
    rfl
  | v :: vs, k, cur, w, hg, hfr, hl, h1 => by
    have hk : o + k < cur.size := by simp at hl; omega
    have hcell : w.cell? ⟨g, o + k, none⟩ = some cur[o + k] := by simp [World.cell?, hg, hk]
    have hfro : w.frozen? ⟨g, o + k, none⟩ = false := by
      simp only [World.frozen?, hg]
      rcases hfr with h | h
      · simp; omega
      · simp; omega
    have hst : (store ((⟨g, o, none⟩ : Addr).add k) v).run P w = .ok () (w.setRow g (cur.setIfInBounds (o + k) v)) := by
      rw [Addr.add_none, run_store P w _ v _ (h1 v (by simp)), hcell]
      simp [hfro, setCell_eq_setRow w g (o + k) cur t fr v hg]
    have ih := run_storeSeg g o t fr vs (k + 1) (cur.setIfInBounds (o + k) v) (w.setRow g (cur.setIfInBounds (o + k) v)) (setRow_heap w g cur _ t _ hg) (by simpa using hfr) (by simp at hl ⊢; omega) (fun x hx => h1 x (by simp [hx]))
    simp only [storeCells, Sem.run_bind, hst, Result.andThen_ok, ih, setRow_setRow]
    congr 3
    have e := list_seg_step cur.toList (o + k) v vs (by simp at hl ⊢; omega)
    simpa [splice, Array.toList_setIfInBounds, Nat.add_assoc] using e

theorem splice_length {cs vs : List Value} {o : Nat} (hle : o + vs.length ≤ cs.length) : (splice cs o vs).length = cs.length := by
  simp [splice]; omega
theorem splice_get? (cs vs : List Value) (o j : Nat) (hle : o + vs.length ≤ cs.length) : (splice cs o vs)[j]? = if o ≤ j ∧ j < o + vs.length then vs[j - o]? else cs[j]? := by
  have hmin : min o cs.length = o := by omega
  unfold splice
  rw [List.append_assoc, List.getElem?_append]
  simp only [List.length_take, hmin]
  by_cases h1 : j < o
  · rw [if_pos h1, if_neg (by omega), List.getElem?_take, if_pos h1]
  · rw [if_neg h1, List.getElem?_append]
    by_cases h2 : j < o + vs.length
    · rw [if_pos (by omega), if_pos ⟨by omega, h2⟩]
    · rw [if_neg (by omega), if_neg (by omega), List.getElem?_drop]
      congr 1; omega

theorem LR.of_get? {xs xs' : List Value} (hl : xs.length = xs'.length) (hg : ∀ (j : Nat) (v : Value), xs[j]? = some v → ∃ v', xs'[j]? = some v' ∧ VR σ v v') : LR σ xs xs' :=
  ⟨hl, fun i h1 h2 => by
    obtain ⟨v', e, r⟩ := hg i xs[i] (List.getElem?_eq_getElem h1)
    rw [List.getElem?_eq_getElem h2] at e
    injection e with e; subst e
    exact r⟩

/-- What is written in the model's row, seen as the evaluator's. -/
theorem LR.splice {cs vs vs' L : List Value} {a o : Nat} (hr : LR σ cs ((L.drop a).take cs.length)) (hv : LR σ vs vs') (hle : o + vs.length ≤ cs.length) (hL : a + cs.length ≤ L.length) :
    LR σ (Zq.splice cs o vs) (((Zq.splice L (a + o) vs').drop a).take (Zq.splice cs o vs).length) := by
  have e := hv.1
  refine LR.of_get? (by rw [splice_length hle]; simp [splice_length (cs := L) (vs := vs') (o := a + o) (by omega)]; omega) fun j v hj => ?_
  have hjl : j < cs.length := by
    have := (List.getElem?_eq_some_iff.1 hj).1
    rwa [splice_length hle] at this
  rw [List.getElem?_take, splice_length hle, if_pos hjl, List.getElem?_drop, splice_get? _ _ _ _ (by omega)]
  rw [splice_get? _ _ _ _ hle] at hj
  by_cases hc : o ≤ j ∧ j < o + vs.length
  · rw [if_pos hc] at hj
    rw [if_pos (by omega)]
    have : a + j - (a + o) = j - o := by omega
    rw [this]
    exact hv.get? hj
  · rw [if_neg hc] at hj
    rw [if_neg (by omega)]
    obtain ⟨v', e', r⟩ := hr.get? hj
    rw [List.getElem?_take, if_pos hjl, List.getElem?_drop] at e'
    exact ⟨v', e', r⟩

theorem write_rel (R : Rel P N G σ h w) {b off : Nat} {vs vs' : List Value} {h' : H} {i : BI} (hi : σ b = some i) (hv : LR σ vs vs') (hw : h.write b off vs = some h') :
    ∃ w', (storeCells ⟨i.blk, i.off + off, none⟩ vs').run P w = .ok () w' ∧ Rel P N G σ h' w' ∧ Kept σ h w σ h' w' := by
  unfold H.write at hw
  split at hw <;> try (cases hw; done)
  rename_i cs e opn hg
  split at hw <;> try (cases hw; done)
  rename_i hc
  injection hw with hw; subst hw
  obtain ⟨hle, hone⟩ := hc
  obtain ⟨i', hi', hbr⟩ := R.live _ _ hg
  rw [hi] at hi'; injection hi' with hi'; subst hi'
  obtain ⟨rc, re, fr, hheap, hroom, hlen, hlr, hown, hop, hro⟩ := hbr
  obtain ⟨hN, hfr⟩ := hown rfl
  have hone' : ∀ v ∈ vs', v.oneCell' = true := fun v hvm => by
    obtain ⟨j, hj, rfl⟩ := List.getElem_of_mem hvm
    have hj0 : j < vs.length := by have := hv.1; omega
    rw [(hv.2 j hj0 hj).oneCell]
    exact (List.all_eq_true.1 hone) _ (List.getElem_mem hj0)
  have e := hv.1
  have run := run_storeSeg (P := P) i.blk (i.off + off) re fr vs' 0 rc w hheap hfr (by omega) hone'
  refine ⟨_, run, ?_⟩
  refine R.setB hg rfl hi (by simp) (fun r hr => setRow_other w i.blk r _ hr) rfl rfl ?_
  refine ⟨_, re, fr, setRow_heap w i.blk rc _ re fr hheap, ?_, ?_, ?_, fun _ => ⟨hN, ?_⟩, hop, fun hx => by cases hx⟩
  · simp [splice_length (cs := rc.toList) (vs := vs') (o := i.off + off) (by simp; omega)]; exact hroom
  · rw [splice_length hle]; exact hlen
  · have := LR.splice (L := rc.toList) (a := i.off) (o := off) hlr hv hle (by simp; omega)
    simpa using this
  · simp [splice_length (cs := rc.toList) (vs := vs') (o := i.off + off) (by simp; omega)]; exact hfr
end Go.Proofs.Zq
