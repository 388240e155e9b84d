/- A region that lays out a map literal, its order drawn: entries may come in any order. -/
import Derived.Test.YtmjddnmhlfpgmaaGreatDoorZqEvO
namespace Go.Proofs.Zq
variable {P : Program} {N : Nat} {σ : Sg} {h : H} {w : World}

theorem drawTmps_spec {ops : Array Oper} {ms : Array Nat} (h : drawTmps ops ms = true) : Text ops ms := by
  have lt : ∀ {i : Nat} {o : Oper}, ops[i]? = some o → i < ops.size := fun h => (Array.getElem?_eq_some_iff.1 h).1
  unfold drawTmps at h
  rw [List.all_eq_true] at h
  have get : ∀ (i j : Nat) (oi oj : Oper), ops[i]? = some oi → ops[j]? = some oj → _ := fun i j oi oj hi hj => by
    have h1 := h j (List.mem_range.2 (lt hj))
    rw [hj] at h1
    simp only [Bool.and_eq_true] at h1
    obtain ⟨h2, h3⟩ := h1
    rw [List.all_eq_true] at h3
    have h4 := h3 i (List.mem_range.2 (lt hi))
    rw [hi] at h4
    exact (show _ ∧ _ from ⟨h2, h4⟩)
  refine ⟨?_, ?_, ?_, ?_⟩
  · intro j o ho e he hb
    have := (get j j o o ho ho).1
    rw [List.all_eq_true] at this
    have := this e he
    simpa [hb] using this
  · intro j o d ho hd
    have := (get j j o o ho ho).2
    simp [hd] at this
    exact this
  · intro i j oi oj d hi hj hne hd
    have := (get i j oi oj hi hj).2
    simp [hd, hne] at this
    exact fun hh => this.1 hh
  · intro i j oi oj d hi hj hne hd hl
    have := (get i j oi oj hi hj).2
    simp [hd, hne, hl] at this
    simp only [Array.getD_eq_getD_getElem?]
    exact this.2

theorem Rel.swap {h2 : H} (R : Rel P N P.globals.size σ h w) (hn : h2.next = h.next) (hg : ∀ b, h2.get b = h.get b ∨ ∃ es es2, h.get b = some (.map es) ∧ h2.get b = some (.map es2) ∧ es.Perm es2) : Rel P N P.globals.size σ h2 w := by
  have own : ∀ b x, h2.get b = some x → ∃ y, h.get b = some y ∧ y.own = x.own := fun b x hx => by
    rcases hg b with h1 | ⟨es, es2, h1, h3, _⟩
    · exact ⟨x, by rw [← h1]; exact hx, rfl⟩
    · rw [h3] at hx; injection hx with hx; subst hx; exact ⟨_, h1, rfl⟩
  refine ⟨R.low, R.glob, fun b x hx => ?_, fun b c x y i j hb hc hx hy hi hj e => ?_, fun b x hx => ?_⟩
  · rcases hg b with h1 | ⟨es, es2, h1, h3, hp⟩
    · rw [h1] at hx; exact R.live b x hx
    · rw [h3] at hx; injection hx with hx; subst hx
      obtain ⟨i, hi, en, cl, es', q1, q2, q3, q4, q5, q6, q7, q8⟩ := R.live b _ h1
      exact ⟨i, hi, en, cl, es', q1, q2, q3.trans hp, q4, q5, q6, q7, hp.pairwise q8 (fun hne => Ne.symm hne)⟩
  · obtain ⟨x', hx', ex⟩ := own b x hb
    obtain ⟨y', hy', ey⟩ := own c y hc
    exact R.inj b c x' y' i j hx' hy' (ex.trans hx) (ey.trans hy) hi hj e
  · obtain ⟨x', hx', _⟩ := own b x hx
    rw [hn]; exact R.low' b x' hx'

theorem Kept.swap {σ' : Sg} {h0 h2 : H} {w0 : World} (K : Kept σ h0 w0 σ' h w) (hn : h2.next = h.next) (hg : ∀ b x, h2.get b = some x → ∃ y, h.get b = some y ∧ y.own = x.own) : Kept σ h0 w0 σ' h2 w where
  nx := by rw [hn]; exact K.nx
  sg := by rw [hn]; exact K.sg
  size := K.size
  frame := K.frame
  from_ b x i hb hx hi := by
    obtain ⟨y, hy, e⟩ := hg b x hb
    exact K.from_ b y i hy (e.trans hx) hi
  os := K.os
  output := K.output

section
variable {ops : Array Oper} {r : Run P ops} {σ0 : Sg} {w0 : World} {S : Nat → Prop} {ar : Act} {ms : Array Nat}

/-- The entry that an operation of the run lays. -/
def Run.ins (r : Run P ops) (j : Nat) : Option (Value × Value) :=
  match ops[j]? with
  | some o => (match o.op with
    | .insert _ _ k x => some (tev (r.T j) k, tev (r.T j) x)
    | _ => none)
  | none => none

structure DLit (r : Run P ops) (N : Nat) (σ0 : Sg) (w0 : World) (S : Nat → Prop) (σ : Sg) (ar : Act) (w : World) : Prop extends DT r S σ ar where
  pre : ¬ S 0 → σ = σ0 ∧ w = w0
  post : S 0 → ∃ l : List Nat, l.Nodup ∧ (∀ j, j ∈ l ↔ S j ∧ (r.ins j).isSome = true) ∧ Rel P N P.globals.size σ ((r.Hh 0).add (.map (l.filterMap r.ins))) w ∧ Kept σ0 (r.Hh 0) w0 σ ((r.Hh 0).add (.map (l.filterMap r.ins))) w

/-- What the run in the text's order says of the region. -/
structure LitRun (r : Run P ops) (d0 : Tmp) : Prop where
  zero : ∃ o, ops[0]? = some o ∧ o.dst = some d0 ∧ o.guard = none ∧ r.V 0 = .map (some (r.Hh 0).next) ∧ r.Hh 1 = (r.Hh 0).add (.map [])
  guard : ∀ (j : Nat) o, ops[j]? = some o → o.guard = none
  kind : ∀ (j : Nat) o, ops[j]? = some o → j ≠ 0 → kindOf P o = 0 ∧ r.ins j = none ∨ litIns d0 o = true ∧ (r.ins j).isSome = true
  sz : d0 < (r.T 0).size
  m0 : r.ins 0 = none

theorem get_add (h : H) (x : Blk) (b : Nat) : (h.add x).get b = if b = h.next then some x else h.get b := by
  by_cases hb : b = h.next
  · subst hb; simp
  · rw [H.get_add_ne _ _ _ hb, if_neg hb]
theorem get_set (h : H) (c : Nat) (x : Blk) (b : Nat) : (h.set c x).get b = if b = c then some x else h.get b := by
  by_cases hb : b = c
  · subst hb; simp
  · rw [H.get_set_ne _ _ _ _ hb, if_neg hb]

theorem LitRun.d0 {d0 : Tmp} (L : LitRun r d0) (tx : Text ops ms) {j : Nat} (hj : 0 < j) (hjs : j ≤ ops.size) : (r.T j).getD d0 undef = .map (some (r.Hh 0).next) := by
  obtain ⟨o, h1, h2, _, h4, _⟩ := L.zero
  rw [← h4]
  exact (r.getD tx d0 j hjs).2.1 0 o hj h1 h2 L.sz

/-- What an insert of the run has found, and has laid. -/
theorem LitRun.at {d0 : Tmp} (L : LitRun r d0) (tx : Text ops ms) {j : Nat} {o : Oper} (ho : ops[j]? = some o) (hl : litIns d0 o = true) :
    ∃ mt s x kt vt es, o.op = .insert mt (.tmp d0) (.const (.string s)) x ∧ o.dst = none ∧ r.ins j = some (.string s, tev (r.T j) x) ∧ P.underlying mt = some (.map kt vt) ∧ P.underlying kt = some .string ∧
      (r.Hh j).get (r.Hh 0).next = some (.map es) ∧ (∀ e ∈ es, e.1 ≠ .string s) ∧ r.V j = undef ∧ r.Hh (j + 1) = (r.Hh j).set (r.Hh 0).next (.map (es ++ [(.string s, tev (r.T j) x)])) ∧ cleanOps P o = true := by
  have hj : j < ops.size := (Array.getElem?_eq_some_iff.1 ho).1
  have hj0 : 0 < j := by
    rcases Nat.eq_zero_or_pos j with rfl | h
    · have h1 := L.m0
      unfold Run.ins at h1
      rw [ho] at h1
      unfold litIns at hl
      split at hl
      · rename_i e; simp [e] at h1
      · cases hl
    · exact h
  have hop : ∃ mt s x, o.op = .insert mt (.tmp d0) (.const (.string s)) x ∧ o.dst = none := by
    unfold litIns at hl
    split at hl
    · rename_i mt d s x e
      simp only [Bool.and_eq_true, beq_iff_eq, Option.isNone_iff_eq_none] at hl
      obtain ⟨rfl, h2⟩ := hl
      exact ⟨mt, s, x, e, h2⟩
    · cases hl
  obtain ⟨mt, s, x, e, hd⟩ := hop
  have hw : Region.wanted o (yielded ops (r.T j)) = true := by unfold Region.wanted; rw [L.guard j o ho]
  obtain ⟨cl, _, _, _, hs⟩ := r.yes j o ho hw
  have hins : r.ins j = some (.string s, tev (r.T j) x) := by unfold Run.ins; rw [ho]; simp [e, tev]
  unfold opStep at hs
  split at hs <;> try (cases hs; done)
  rename_i hc
  have hk : kindOf P o = 3 := by simp [kindOf, e]
  simp only [hk, e] at hs
  simp only [xop, e] at hs
  have htm : tev (r.T j) (.tmp d0) = .map (some (r.Hh 0).next) := L.d0 tx hj0 (Nat.le_of_lt hj)
  rw [htm] at hs
  split at hs <;> try (cases hs; done)
  rename_i kt vt b u0 e1
  injection e1 with e1; injection e1 with e1; subst e1
  split at hs <;> try (cases hs; done)
  rename_i d es u1 hg
  split at hs <;> try (cases hs; done)
  rename_i hcc
  simp only [Bool.and_eq_true] at hcc
  simp only [Option.some.injEq, Prod.mk.injEq] at hs
  have hds : d = .string := by
    have := hcc.1
    simp only [tev] at this
    cases d <;> simp_all [isKeyB]
  subst hds
  refine ⟨mt, s, x, kt, vt, es, e, hd, hins, u0, u1, hg, fun en hen heq => ?_, hs.1.symm, hs.2.symm, hc⟩
  have h9 := (List.all_eq_true.1 hcc.2) en hen
  simp only [Bool.and_eq_true, beq_iff_eq, tev] at h9
  rw [heq] at h9
  obtain ⟨q, h11, h12⟩ := MapKept.sameNow_of_keys (d := .string) (a := .string s) (b := .string s) trivial trivial
  rw [h9.2] at h11; injection h11 with h11; subst h11
  exact absurd (h12.2 rfl) (by simp)

/-- What the heap of the run holds ahead of each place. -/
theorem LitRun.heap {d0 : Tmp} (L : LitRun r d0) (tx : Text ops ms) : ∀ p, 0 < p → p ≤ ops.size → (r.Hh p).next = (r.Hh 0).next + 1 ∧ ∀ b, (r.Hh p).get b = if b = (r.Hh 0).next then some (.map ((List.range p).filterMap r.ins)) else (r.Hh 0).get b := by
  intro p
  induction p with
  | zero => intro h; omega
  | succ p ih =>
    intro _ hp
    rcases Nat.eq_zero_or_pos p with rfl | hp0
    · obtain ⟨o, h1, h2, _, h4, h5⟩ := L.zero
      rw [h5]
      refine ⟨rfl, fun b => ?_⟩
      rw [get_add]
      simp [L.m0]
    · obtain ⟨i1, i2⟩ := ih hp0 (by omega)
      have ho : ops[p]? = some ops[p] := Array.getElem?_eq_getElem (by omega)
      rcases L.kind p _ ho (by omega) with ⟨k0, hn⟩ | ⟨hl, hn⟩
      · have hw : Region.wanted ops[p] (yielded ops (r.T p)) = true := by unfold Region.wanted; rw [L.guard p _ ho]
        obtain ⟨cl, _, _, _, hs⟩ := r.yes p _ ho hw
        rw [(opStep_kind0 k0 hs).2.2]
        refine ⟨i1, fun b => ?_⟩
        rw [i2, List.range_succ, List.filterMap_append]
        simp [hn]
      · obtain ⟨mt, s, x, kt, vt, es, e1, e2, e3, e4, e5, e6, e7, e8, e9, _⟩ := L.at tx ho hl
        rw [e9]
        refine ⟨i1, fun b => ?_⟩
        rw [get_set]
        rw [i2, if_pos rfl] at e6
        injection e6 with e6; injection e6 with e6
        by_cases hb : b = (r.Hh 0).next
        · rw [if_pos hb, if_pos hb, List.range_succ, List.filterMap_append, ← e6]
          simp [e3]
        · rw [if_neg hb, if_neg hb, i2, if_neg hb]

theorem LitRun.apart {d0 : Tmp} (L : LitRun r d0) (tx : Text ops ms) {i j : Nat} {a b : Value × Value} (hij : i < j) (hi : r.ins i = some a) (hj : r.ins j = some b) : a.1 ≠ b.1 := by
  have hoj : ∃ o, ops[j]? = some o := by
    unfold Run.ins at hj
    cases h : ops[j]? with
    | none => rw [h] at hj; cases hj
    | some o => exact ⟨o, rfl⟩
  obtain ⟨o, ho⟩ := hoj
  have hjs : j < ops.size := (Array.getElem?_eq_some_iff.1 ho).1
  rcases L.kind j o ho (by omega) with ⟨_, hn⟩ | ⟨hl, _⟩
  · rw [hn] at hj; cases hj
  · obtain ⟨mt, s, x, kt, vt, es, e1, e2, e3, e4, e5, e6, e7, e8, e9, _⟩ := L.at tx ho hl
    rw [e3] at hj; injection hj with hj; subst hj
    have := (L.heap tx j (by omega) (Nat.le_of_lt hjs)).2 (r.Hh 0).next
    rw [if_pos rfl, e6] at this
    injection this with this; injection this with this
    refine e7 a ?_
    rw [this, List.mem_filterMap]
    exact ⟨i, List.mem_range.2 hij, hi⟩

theorem DLit.step {d0 : Tmp} (L : LitRun r d0) (tx : Text ops ms) (hms : MasksOk ops ms) (hmz : ms.size = ops.size) (R0 : Rel P N P.globals.size σ0 (r.Hh 0) w0) (hf0 : σ0 (r.Hh 0).next = none) (I : DLit r N σ0 w0 S σ ar w) {j : Nat} {o : Oper} (ho : ops[j]? = some o) (hS : ¬ S j)
    (hr : ∀ e ∈ o.after.toList, Region.binds .any e = true → S e.on) {K : Act → World → Prop} {Q : Exit → Act → World → Prop}
    (hK : ∀ σ' ar' w', DLit r N σ0 w0 (fun i => S i ∨ i = j) σ' ar' w' → K ar' w') : wpOp P ops Q j K ar w := by
  have hj : j < ops.size := (Array.getElem?_eq_some_iff.1 ho).1
  have hg : o.guard = none := L.guard j o ho
  unfold wpOp
  rw [ho]
  dsimp only
  rw [if_pos (by unfold Region.wanted; rw [hg])]
  left
  have hw : Region.wanted o (yielded ops (r.T j)) = true := by unfold Region.wanted; rw [hg]
  obtain ⟨cl, c1, c2, c3, hs⟩ := r.yes j o ho hw
  have hrel : ∃ h, Rel P N P.globals.size σ h w := by
    by_cases h0 : S 0
    · obtain ⟨l, _, _, R, _⟩ := I.post h0; exact ⟨_, R⟩
    · obtain ⟨rfl, rfl⟩ := I.pre h0; exact ⟨_, R0⟩
  obtain ⟨hh, RR⟩ := hrel
  obtain ⟨d1, d2⟩ := I.down ho hr
  by_cases hj0 : j = 0
  · subst hj0
    obtain ⟨rfl, rfl⟩ := I.pre hS
    obtain ⟨o', h1, h2, h3, h4, h5⟩ := L.zero
    rw [ho] at h1; injection h1 with h1; subst h1
    refine op_sound' c1 c2 R0 (operands_rel tx hms hmz I.toDT R0 ho hS hr) hs (fun k a b => ?_) ?_
    · rw [h5] at b; simp at b
      have : k = (r.Hh 0).next := by omega
      rw [this]; exact hf0
    · rintro v' w1 ⟨σ1, hv, R1, K1⟩
      rw [h5] at R1 K1
      have hm := K1.mono (fun k a b => by simp at b; have : k = (r.Hh 0).next := by omega
                                          rw [this]; exact hf0)
      obtain ⟨t1, t2, t3, t4⟩ := I.toDT.tmps tx ho hS hm hv
      refine hK σ1 _ _ { dn := d1, sl := d2, sz := t1, t1 := t2, t0 := t3, df := t4, pre := fun h => absurd (.inr rfl) h, post := fun _ => ⟨[], List.nodup_nil, fun i => ?_, R1, K1⟩ }
      simp only [List.not_mem_nil, false_iff, not_and]
      rintro (hi | rfl)
      · -- nothing can have been done ahead of it
        intro hins
        exfalso
        have hoi : ∃ oi, ops[i]? = some oi := ⟨_, Array.getElem?_eq_getElem (I.sl i hi)⟩
        obtain ⟨oi, hoi⟩ := hoi
        have hi0 : i ≠ 0 := fun e => hS (e ▸ hi)
        rcases L.kind i oi hoi hi0 with ⟨_, hn⟩ | ⟨hl, _⟩
        · rw [hn] at hins; cases hins
        · obtain ⟨mt, s, x, kt, vt, es, e1, e2, e3, _⟩ := L.at tx hoi hl
          have hlook : d0 ∈ Zq.looks ops oi := by
            unfold Zq.looks Oper.looksAt
            rw [List.mem_append, List.mem_filterMap]
            exact .inl ⟨.tmp d0, by simp [e1, Op.operands], rfl⟩
          rcases tx.ord 0 i o oi d0 ho hoi (Ne.symm hi0) h2 hlook with hb | hb
          · exact hS (hms i 0 (by have := I.sl i hi; omega) hb S I.dn (fun o' ho' e he hbd => I.dn i o' hi ho' e he hbd))
          · have := hms 0 i (by omega) hb (fun k => k < 0) (fun k _ hk => by omega) (fun o' ho' e he hbd => tx.on 0 o' ho' e he hbd)
            omega
      · rw [L.m0]; simp
  · rcases L.kind j o ho hj0 with ⟨k0, hn⟩ | ⟨hl, hn⟩
    · obtain ⟨hc, hp, hh'⟩ := opStep_kind0 k0 hs
      obtain ⟨v', run, hv⟩ := pop_sound (operands_rel tx hms hmz I.toDT RR ho hS hr hc) hp w
      unfold Oper.wp
      rw [run]
      obtain ⟨t1, t2, t3, t4⟩ := I.toDT.tmps tx ho hS (fun _ _ h => h) hv
      refine hK σ _ _ { dn := d1, sl := d2, sz := t1, t1 := t2, t0 := t3, df := t4, pre := fun h => I.pre (fun h0 => h (.inl h0)), post := fun h => ?_ }
      obtain ⟨l, q1, q2, q3, q4⟩ := I.post (h.resolve_right (Ne.symm hj0))
      refine ⟨l, q1, fun i => ?_, q3, q4⟩
      rw [q2]
      constructor
      · exact fun ⟨a, b⟩ => ⟨.inl a, b⟩
      · rintro ⟨a | rfl, b⟩
        · exact ⟨a, b⟩
        · rw [hn] at b; cases b
    · obtain ⟨mt, s, x, kt, vt, es, e1, e2, e3, e4, e5, e6, e7, e8, e9, hc⟩ := L.at tx ho hl
      obtain ⟨o', h1, h2, h3, h4, h5⟩ := L.zero
      have hlook : d0 ∈ Zq.looks ops o := by
        unfold Zq.looks Oper.looksAt
        rw [List.mem_append, List.mem_filterMap]
        exact .inl ⟨.tmp d0, by simp [e1, Op.operands], rfl⟩
      have h0 : S 0 := by
        rcases tx.ord 0 j o' o d0 h1 ho (Ne.symm hj0) h2 hlook with hb | hb
        · exact hms j 0 (by omega) hb S I.dn (fun o' ho' e he hbd => by
            rw [ho] at ho'; injection ho' with ho'; subst ho'
            exact hr e he hbd)
        · have := hms 0 j (by omega) hb (fun k => k < 0) (fun k _ hk => by omega) (fun o' ho' e he hbd => tx.on 0 o' ho' e he hbd)
          omega
      obtain ⟨l, q1, q2, q3, q4⟩ := I.post h0
      have hjl : j ∉ l := fun h => hS ((q2 j).1 h).1
      have htm : tev (r.T j) (.tmp d0) = .map (some (r.Hh 0).next) := L.d0 tx (by omega) (Nat.le_of_lt hj)
      have hx : xop P ((r.Hh 0).add (.map (l.filterMap r.ins))) (tev (r.T j)) o = some (undef, ((r.Hh 0).add (.map (l.filterMap r.ins))).set (r.Hh 0).next (.map (l.filterMap r.ins ++ [(.string s, tev (r.T j) x)]))) := by
        simp only [xop, e1, htm, e4, e5, H.get_add_same]
        rw [if_pos]
        · rfl
        · simp only [tev, isKeyB, Bool.true_and, List.all_eq_true, List.mem_filterMap]
          rintro en ⟨i, hi, hei⟩
          have hSi := (q2 i).1 hi
          have hoi : ∃ oi, ops[i]? = some oi := ⟨_, Array.getElem?_eq_getElem (I.sl i hSi.1)⟩
          obtain ⟨oi, hoi⟩ := hoi
          have hi0 : i ≠ 0 := fun e => by subst e; rw [L.m0] at hei; cases hei
          have hij : i ≠ j := fun e => hS (e ▸ hSi.1)
          have hne : en.1 ≠ .string s := by
            rcases Nat.lt_or_gt_of_ne hij with h | h
            · exact L.apart tx h hei e3
            · exact Ne.symm (L.apart tx h e3 hei)
          rcases L.kind i oi hoi hi0 with ⟨_, hn'⟩ | ⟨hl', _⟩
          · rw [hn'] at hei; cases hei
          · obtain ⟨_, s', x', _, _, _, _, _, e3', _⟩ := L.at tx hoi hl'
            rw [e3'] at hei; injection hei with hei; subst hei
            obtain ⟨q, h11, h12⟩ := MapKept.sameNow_of_keys (d := .string) (a := .string s) (b := .string s') trivial trivial
            simp only [h11, beq_iff_eq, Option.some.injEq, Bool.true_and]
            cases q with
            | false => rfl
            | true => exact absurd (h12.1 rfl).symm hne
      obtain ⟨nx, v', w1, run, hnx, σ1, hv, R1, K1⟩ := xop_sound q3 (operands_rel tx hms hmz I.toDT q3 ho hS hr hc) hx (fun k a b => by simp at a b; omega)
      have hget : ∀ b, ((r.Hh 0).add (.map ((l ++ [j]).filterMap r.ins))).get b = (((r.Hh 0).add (.map (l.filterMap r.ins))).set (r.Hh 0).next (.map (l.filterMap r.ins ++ [(.string s, tev (r.T j) x)]))).get b := fun b => by
        rw [get_add, get_set, get_add, List.filterMap_append]
        by_cases hb : b = (r.Hh 0).next
        · simp [hb, e3]
        · simp [hb]
      have R2 := R1.swap (h2 := (r.Hh 0).add (.map ((l ++ [j]).filterMap r.ins))) rfl (fun b => .inl (hget b))
      have K2 := (q4.trans K1).swap (h2 := (r.Hh 0).add (.map ((l ++ [j]).filterMap r.ins))) rfl (fun b y hy => ⟨y, by rw [← hget]; exact hy, rfl⟩)
      have hm := K1.mono (fun k a b => by simp at a b; omega)
      have key : ∀ v'', VR σ1 (r.V j) v'' → K (ar.put o.dst v'') w1 := fun v'' hv'' => by
        obtain ⟨t1, t2, t3, t4⟩ := I.toDT.tmps tx ho hS hm hv''
        refine hK σ1 _ _ { dn := d1, sl := d2, sz := t1, t1 := t2, t0 := t3, df := t4, pre := fun h => absurd (.inl h0) h, post := fun _ => ⟨l ++ [j], ?_, fun i => ?_, R2, K2⟩ }
        · rw [List.nodup_append]
          exact ⟨q1, by simp, fun a ha b hb => by simp at hb; subst hb; exact fun e => hjl (e ▸ ha)⟩
        · rw [List.mem_append, q2, List.mem_singleton]
          constructor
          · rintro (⟨a, b⟩ | rfl)
            · exact ⟨.inl a, b⟩
            · exact ⟨.inr rfl, hn⟩
          · rintro ⟨a | rfl, b⟩
            · exact .inl ⟨a, b⟩
            · exact .inr rfl
      unfold Oper.wp
      rw [run]
      rcases hnx with rfl | ⟨rfl, rfl⟩
      · exact key v' (by rw [e8]; exact hv)
      · exact key undef (by rw [e8]; exact hv)

theorem DLit.done {d0 : Tmp} (L : LitRun r d0) (tx : Text ops ms) (I : DLit r N σ0 w0 S σ ar w) (hall : ∀ i, i < ops.size → S i) :
    AR σ (r.T ops.size) ar.tmps ∧ Rel P N P.globals.size σ (r.Hh ops.size) w ∧ Kept σ0 (r.Hh 0) w0 σ (r.Hh ops.size) w := by
  have lt : ∀ {i o}, ops[i]? = some o → i < ops.size := fun h => (Array.getElem?_eq_some_iff.1 h).1
  obtain ⟨o, h1, _⟩ := L.zero
  have h0 := lt h1
  obtain ⟨l, q1, q2, q3, q4⟩ := I.post (hall 0 h0)
  obtain ⟨i1, i2⟩ := L.heap tx ops.size h0 (Nat.le_refl _)
  have hperm : (l.filterMap r.ins).Perm ((List.range ops.size).filterMap r.ins) := by
    have hp : l.Perm ((List.range ops.size).filter (fun j => (r.ins j).isSome)) := by
      rw [List.perm_ext_iff_of_nodup q1 (List.Pairwise.filter _ List.nodup_range)]
      intro j
      rw [q2, List.mem_filter, List.mem_range]
      exact ⟨fun ⟨a, b⟩ => ⟨I.sl j a, b⟩, fun ⟨a, b⟩ => ⟨hall j a, b⟩⟩
    refine (hp.filterMap r.ins).trans (List.Perm.of_eq ?_)
    generalize List.range ops.size = m
    induction m with
    | nil => rfl
    | cons a m ih =>
      cases hq : r.ins a with
      | none => simp [hq, ih]
      | some v => simp [hq, ih]
  have hg : ∀ b, (r.Hh ops.size).get b = ((r.Hh 0).add (.map (l.filterMap r.ins))).get b ∨ ∃ es es2, ((r.Hh 0).add (.map (l.filterMap r.ins))).get b = some (.map es) ∧ (r.Hh ops.size).get b = some (.map es2) ∧ es.Perm es2 := fun b => by
    rw [i2, get_add]
    by_cases hb : b = (r.Hh 0).next
    · rw [if_pos hb, if_pos hb]; exact .inr ⟨_, _, rfl, rfl, hperm⟩
    · rw [if_neg hb, if_neg hb]; exact .inl rfl
  refine ⟨⟨?_, fun d h1 h2 => ?_⟩, q3.swap i1 hg, q4.swap i1 (fun b x hx => ?_)⟩
  · rw [(r.getD tx 0 ops.size (Nat.le_refl _)).1]; exact I.sz
  · obtain ⟨g1, g2, g3⟩ := r.getD tx d ops.size (Nat.le_refl _)
    have e1 : (r.T ops.size)[d] = (r.T ops.size).getD d undef := by simp [h1]
    have e2 : ar.tmps[d] = ar.tmps.getD d undef := by simp [h2]
    rw [e1, e2]
    by_cases hw : ∃ (i : Nat) (o : Oper), ops[i]? = some o ∧ o.dst = some d
    · obtain ⟨i, o, hi, hd⟩ := hw
      rw [g2 i o (lt hi) hi hd (by rw [← g1]; exact h1)]
      exact I.t1 i o d (hall i (lt hi)) hi hd h2
    · have hno : ∀ (i : Nat) (o : Oper), ops[i]? = some o → o.dst ≠ some d := fun i o hi hd => hw ⟨i, o, hi, hd⟩
      rw [g3 (fun i o _ hi => hno i o hi)]
      exact I.t0 d (fun i o _ hi => hno i o hi)
  · rcases hg b with h | ⟨es, es2, h3, h4, _⟩
    · exact ⟨x, by rw [← h]; exact hx, rfl⟩
    · rw [h4] at hx; injection hx with hx; subst hx; exact ⟨_, h3, rfl⟩

theorem any_inv (tx : Text ops ms) {Q : Exit → Act → World → Prop} {Inv : (Nat → Prop) → Act → World → Prop}
    (hstep : ∀ (S : Nat → Prop) ar w (j : Nat) (o : Oper), Inv S ar w → ops[j]? = some o → ¬ S j → (∀ e ∈ o.after.toList, Region.binds .any e = true → S e.on) → ∀ (K : Act → World → Prop), (∀ ar' w', Inv (fun i => S i ∨ i = j) ar' w' → K ar' w') → wpOp P ops Q j K ar w)
    (hfin : ∀ S ar w, Inv S ar w → (∀ i, i < ops.size → S i) → Q .normal ar w) :
    ∀ (fuel : Nat) (listed : Array Bool) (S : Nat → Prop) (ar : Act) (w : World), listed.size = ops.size → listed.toList.count false ≤ fuel → (∀ i, S i ↔ i < ops.size ∧ listed.getD i true = true) →
      Inv S ar w → wpAny P .any ops Q fuel listed ar w := by
  have fin : ∀ (listed : Array Bool) (S : Nat → Prop) (ar : Act) (w : World), listed.size = ops.size → (∀ i, S i ↔ i < ops.size ∧ listed.getD i true = true) → Inv S ar w →
      Region.ready .any ops listed = [] → Q .normal ar w := fun listed S ar w hz hS I hr => hfin S ar w I (fun i hi => (hS i).2 ⟨hi, ready_nil tx hz hr i hi⟩)
  intro fuel
  induction fuel with
  | zero =>
    intro listed S ar w hz hc hS I
    have hr : Region.ready .any ops listed = [] := by
      apply List.eq_nil_iff_forall_not_mem.2
      intro i hi
      obtain ⟨h1, h2, _⟩ := ready_iff.1 hi
      have hs : i < listed.size := by omega
      have : false ∈ listed.toList := by
        have : listed[i] = false := by simpa [Array.getD, hs] using h2
        rw [← this]; simp
      have := List.count_pos_iff.2 this
      omega
    exact ⟨hr, fin listed S ar w hz hS I hr⟩
  | succ fuel ih =>
    intro listed S ar w hz hc hS I
    refine ⟨fin listed S ar w hz hS I, fun i hi => ?_⟩
    obtain ⟨h1, h2, o, ho, h3⟩ := ready_iff.1 hi
    have hs : i < listed.size := by omega
    have hli : listed[i] = false := by simpa [Array.getD, hs] using h2
    refine hstep S ar w i o I ho (fun h => by have := ((hS i).1 h).2; rw [h2] at this; cases this) (fun e he hb => ?_) _ (fun ar' w' I' => ?_)
    · have h4 := h3 e he hb
      have hlt := tx.on i o ho e he hb
      refine (hS e.on).2 ⟨by omega, ?_⟩
      have hs2 : e.on < listed.size := by omega
      simp [Array.getD, hs2] at h4 ⊢; exact h4
    · refine ih _ _ ar' w' (by simpa using hz) ?_ (fun k => ?_) I'
      · have : (listed.setIfInBounds i true).toList = listed.toList.set i true := by simp
        rw [this, List.count_set (by simpa using hs)]
        have : (listed.toList[i]'(by simpa using hs) == false) = true := by simp [hli]
        rw [if_pos this, if_neg (by simp)]
        omega
      · simp only [hS]
        by_cases hki : k = i
        · subst hki; simp [h1, hs]
        · have : (listed.setIfInBounds i true).getD k true = listed.getD k true := by
            rw [Array.getD_eq_getD_getElem?, Array.getD_eq_getD_getElem?, Array.getElem?_setIfInBounds_ne (Ne.symm hki)]
          rw [this]; simp [hki]
end

theorem litText_spec {ops : Array Oper} {ms : Array Nat} {a : Tmps} {h : H} {recs : List Rec} {a2 : Tmps} {h2 : H} (t : Traced P ops ops.toList a h recs a2 h2) (hl : litText P ops ms a.size = true) :
    Text ops ms ∧ ∃ d0, LitRun t.run d0 := by
  unfold litText at hl
  simp only [Bool.and_eq_true] at hl
  obtain ⟨h1, h3⟩ := hl
  have tx := drawTmps_spec h1
  refine ⟨tx, ?_⟩
  split at h3 <;> try (cases h3; done)
  rename_i o ho
  split at h3 <;> try (cases h3; done)
  rename_i ty d0 e1 e2
  simp only [Bool.and_eq_true, decide_eq_true_eq, Option.isNone_iff_eq_none, List.all_eq_true] at h3
  obtain ⟨⟨hg, hsz⟩, hall⟩ := h3
  obtain ⟨s1, s2, s3, _⟩ := t.spec
  have eT0 : t.run.T 0 = a := s2
  have hops : 0 < ops.size := (Array.getElem?_eq_some_iff.1 ho).1
  have each : ∀ (j : Nat) oj, ops[j]? = some oj → j ≠ 0 → oj.guard = none ∧ (kindOf P oj = 0 ∨ litIns d0 oj = true) := fun j oj hoj hj => by
    have := hall j (List.mem_range.2 (Array.getElem?_eq_some_iff.1 hoj).1)
    rw [hoj] at this
    simp only [Bool.or_eq_true, beq_iff_eq] at this
    have := this.resolve_left hj
    unfold litOp at this
    simpa using this
  have gd : ∀ (j : Nat) oj, ops[j]? = some oj → oj.guard = none := fun j oj hoj => by
    by_cases hj : j = 0
    · subst hj; rw [ho] at hoj; injection hoj with hoj; subst hoj; exact hg
    · exact (each j oj hoj hj).1
  refine ⟨d0, ⟨⟨o, ho, e2, hg, ?_⟩, gd, fun j oj hoj hj => ?_, by rw [eT0]; exact hsz, ?_⟩⟩
  · obtain ⟨cl, _, _, _, hs⟩ := t.run.yes 0 o ho (by unfold Region.wanted; rw [hg])
    unfold opStep at hs
    split at hs <;> try (cases hs; done)
    have hk : kindOf P o = 3 := by simp [kindOf, e1]
    simp only [hk, e1] at hs
    simp only [xop, e1] at hs
    split at hs <;> try (cases hs; done)
    simp only [Option.some.injEq, Prod.mk.injEq] at hs
    exact ⟨hs.1.symm, hs.2.symm⟩
  · rcases (each j oj hoj hj).2 with h | h
    · refine .inl ⟨h, ?_⟩
      unfold Run.ins
      rw [hoj]
      dsimp only
      split
      · rename_i e; simp [kindOf, e] at h
      · rfl
    · refine .inr ⟨h, ?_⟩
      unfold litIns at h
      unfold Run.ins
      rw [hoj]
      dsimp only
      split at h
      · rename_i e; simp [e]
      · cases h
  · unfold Run.ins
    rw [ho]
    simp [e1]

/-- The drawn region of a map literal. -/
theorem lit_sound (hmx : P.follows .mixedOrders = true) {ops : Array Oper} {id : Nat} {a : Tmps} {h : H} {recs : List Rec} {a2 : Tmps} {h2 : H} (t : Traced P ops ops.toList a h recs a2 h2)
    (hl : litText P ops (masks ops.toList #[]) a.size = true) {ar : Act} (hr : AR σ a ar.tmps) (hd : ar.defers = []) (R : Rel P N P.globals.size σ h w) (hf : Fresh σ h.next h2.next) :
    (Code.region id ops true).wp P (Left P N σ h w .normal a2 h2) ar w := by
  obtain ⟨m1, m2⟩ := masks_ok ops
  obtain ⟨tx, d0, L⟩ := litText_spec t hl
  obtain ⟨s1, s2, s3, _⟩ := t.spec
  have s1' : recs.length = ops.size := by simpa using s1
  have eT0 : t.run.T 0 = a := s2
  have eH0 : t.run.Hh 0 = h := s3
  have eT : t.run.T ops.size = a2 := by show recT recs a2 ops.size = _; unfold recT; rw [List.getElem?_eq_none (by omega)]
  have eH : t.run.Hh ops.size = h2 := by show heapAt recs h2 ops.size = _; unfold heapAt; rw [List.getElem?_eq_none (by omega)]
  refine wp_region_any hmx ?_
  have R' : Rel P N P.globals.size σ h { w with drawn := w.drawn + 1 } := ⟨R.low, R.glob, fun b x hx => by
    obtain ⟨i, hi, hb⟩ := R.live b x hx
    exact ⟨i, hi, hb.mono (fun _ _ h => h) rfl⟩, R.inj, R.low'⟩
  obtain ⟨o0, ho0, _⟩ := L.zero
  have hpos : 0 < ops.size := (Array.getElem?_eq_some_iff.1 ho0).1
  have hf0 : σ (t.run.Hh 0).next = none := by
    rw [eH0]
    refine hf _ (Nat.le_refl _) ?_
    have := (L.heap tx ops.size hpos (Nat.le_refl _)).1
    rw [eH, eH0] at this
    omega
  refine any_inv tx (Inv := fun S ar w' => ∃ σ', DLit t.run N σ { w with drawn := w.drawn + 1 } S σ' ar w') ?_ ?_ ops.size _ (fun _ => False) ar _ (by simp) ?_ ?_
    ⟨σ, { dn := fun _ _ h => h.elim, sl := fun _ h => h.elim, sz := by rw [eT0]; exact hr.1, t1 := fun _ _ _ h => h.elim, t0 := fun d _ => by rw [eT0]; exact hr.getD d, df := hd, pre := fun _ => ⟨rfl, rfl⟩, post := fun h => h.elim }⟩
  · rintro S ar w' j o ⟨σ', I⟩ ho hS hpr K hK
    exact I.step L tx m2 m1 (by rw [eH0]; exact R') hf0 ho hS hpr (fun σ'' ar'' w'' I' => hK ar'' w'' ⟨σ'', I'⟩)
  · rintro S ar w' ⟨σ', I⟩ hall
    obtain ⟨d2, d3, d4⟩ := I.done L tx hall
    rw [eT] at d2
    rw [eH] at d3 d4
    rw [eH0] at d4
    exact ⟨rfl, I.df, σ', d2, d3, ⟨d4.nx, d4.sg, d4.size, d4.frame, d4.from_, d4.os, d4.output⟩⟩
  · simp
  · intro i
    simp only [false_iff, not_and]
    intro hi
    simp [hi]
end Go.Proofs.Zq
