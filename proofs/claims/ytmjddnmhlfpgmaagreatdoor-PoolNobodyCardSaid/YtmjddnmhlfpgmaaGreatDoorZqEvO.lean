/- A region whose order is drawn, carried out in any order. -/
import Derived.Test.YtmjddnmhlfpgmaaGreatDoorZqEvN
namespace Go.Proofs.Zq
variable {P : Program} {N : Nat} {σ : Sg} {h : H} {w : World}
section
variable {ops : Array Oper} {r : Run P ops} {σ0 : Sg} {w0 : World} {S : Nat → Prop} {m : Nat} {ar : Act} {ms : Array Nat}

theorem put_getD (ar : Act) (d : Option Tmp) (v : Value) (t : Nat) : (ar.put d v).tmps.getD t undef = if d = some t ∧ t < ar.tmps.size then v else ar.tmps.getD t undef := by
  cases d with
  | none => simp [Act.put]
  | some d => exact tput_getD ar.tmps (some d) v t
theorem put_size (ar : Act) (d : Option Tmp) (v : Value) : (ar.put d v).tmps.size = ar.tmps.size := by cases d <;> simp [Act.put]

theorem DT.down (I : DT r S σ ar) {j : Nat} {o : Oper} (ho : ops[j]? = some o) (hr : ∀ e ∈ o.after.toList, Region.binds .any e = true → S e.on) :
    Down ops (fun i => S i ∨ i = j) ∧ ∀ i, (S i ∨ i = j) → i < ops.size := by
  have hj : j < ops.size := (Array.getElem?_eq_some_iff.1 ho).1
  refine ⟨fun i o' hi hio e he hb => ?_, fun i hi => ?_⟩
  · rcases hi with hi | rfl
    · exact .inl (I.dn i o' hi hio e he hb)
    · rw [ho] at hio; injection hio with hio; subst hio
      exact .inl (hr e he hb)
  · rcases hi with hi | rfl
    · exact I.sl i hi
    · exact hj

theorem DT.tmps (tx : Text ops ms) (I : DT r S σ ar) {j : Nat} {o : Oper} (ho : ops[j]? = some o) (hS : ¬ S j) {σ' : Sg} (hm : ∀ b i, σ b = some i → σ' b = some i) {v' : Value} (hv : VR σ' (r.V j) v') :
    (r.T 0).size = (ar.put o.dst v').tmps.size ∧
    (∀ i oi d, (S i ∨ i = j) → ops[i]? = some oi → oi.dst = some d → d < (ar.put o.dst v').tmps.size → VR σ' (r.V i) ((ar.put o.dst v').tmps.getD d undef)) ∧
    (∀ d, (∀ i oi, (S i ∨ i = j) → ops[i]? = some oi → oi.dst ≠ some d) → VR σ' ((r.T 0).getD d undef) ((ar.put o.dst v').tmps.getD d undef)) ∧
    (ar.put o.dst v').defers = [] := by
  refine ⟨by rw [put_size]; exact I.sz, fun i oi d hi hoi hd hlt => ?_, fun d hd => ?_, by rw [put_defers]; exact I.df⟩
  · rw [put_size] at hlt
    rw [put_getD]
    by_cases hij : i = j
    · subst hij
      rw [ho] at hoi; injection hoi with hoi; subst hoi
      rw [if_pos ⟨hd, hlt⟩]; exact hv
    · have hi' : S i := hi.resolve_right hij
      have := tx.apart i j oi o d hoi ho hij hd
      rw [if_neg (by simp [this])]
      exact (I.t1 i oi d hi' hoi hd hlt).mono hm
  · rw [put_getD, if_neg (by have := hd j o (.inr rfl) ho; simp [this])]
    exact (I.t0 d (fun i oi hi hoi => hd i oi (.inl hi) hoi)).mono hm

theorem Run.al_kind (r : Run P ops) {j : Nat} {o : Oper} (ho : ops[j]? = some o) {o' : Oper} (h : r.al j o') : kindOf P o = 2 ∧ Region.wanted o (yielded ops (r.T j)) = true := by
  obtain ⟨h1, h2, h3⟩ := h
  rw [ho] at h1; injection h1 with h1; subst h1
  exact ⟨h2, h3⟩
theorem Run.ef_kind (r : Run P ops) {j : Nat} {o : Oper} (ho : ops[j]? = some o) (h : r.ef j) : kindOf P o = 3 ∧ Region.wanted o (yielded ops (r.T j)) = true := by
  obtain ⟨o', h1, h2, h3⟩ := h
  rw [ho] at h1; injection h1 with h1; subst h1
  exact ⟨h2, h3⟩

/-- One that neither makes a block nor writes. -/
theorem DInv.plain (tx : Text ops ms) (I : DInv r N σ0 w0 S m σ ar w) {j : Nat} {o : Oper} (ho : ops[j]? = some o) (hS : ¬ S j) (hr : ∀ e ∈ o.after.toList, Region.binds .any e = true → S e.on)
    (hne : ¬ r.ef j) (hna : ∀ o', ¬ r.al j o') {v' : Value} (hv : VR σ (r.V j) v') : DInv r N σ0 w0 (fun i => S i ∨ i = j) m σ (ar.put o.dst v') w := by
  obtain ⟨t1, t2, t3, t4⟩ := I.tmps tx ho hS (fun _ _ h => h) hv
  obtain ⟨d1, d2⟩ := I.down ho hr
  exact {
    mle := I.mle, em := I.em
    eb := fun e he => by
      have : e ≠ j := fun h => hne (h ▸ he)
      rw [← I.eb e he]; simp [this]
    dn := d1, sl := d2, sz := t1, t1 := t2, t0 := t3, df := t4, rel := I.rel
    ext := fun i o' hi hmi ha => by
      have : i ≠ j := fun h => hna o' (h ▸ ha)
      exact I.ext i o' (hi.resolve_right this) hmi ha
    ex2 := fun i o1 j' o2 bi bj hi hmi ha hj hmj hb => by
      have h1 : i ≠ j := fun h => hna o1 (h ▸ ha)
      have h2 : j' ≠ j := fun h => hna o2 (h ▸ hb)
      exact I.ex2 i o1 j' o2 bi bj (hi.resolve_right h1) hmi ha (hj.resolve_right h2) hmj hb
    fr := fun i hi hn => I.fr i hi (fun h => hn (.inl h))
    k1 := I.k1, mono := I.mono, size := I.size, frame := I.frame, from_ := I.from_, os := I.os, output := I.output }

/-- What is asked of a read: wherever the order may put it, it reads what it reads in the text's order. -/
def ReadsOk (r : Run P ops) (ms : Array Nat) : Prop :=
  ∀ (j : Nat) (o : Oper) (m : Nat), ops[j]? = some o → kindOf P o = 1 → Region.wanted o (yielded ops (r.T j)) = true → m ≤ ops.size → (m = 0 ∨ r.ef (m - 1)) →
    (∀ e, r.ef e → ((ms.getD j 0).testBit e = true → e < m) ∧ ((ms.getD e 0).testBit j = true → ¬ e < m)) → rop P (r.Hh m) (tev (r.T j)) o = some (r.V j)

theorem DInv.step (tx : Text ops ms) (fx : Effs P ops ms) (hms : MasksOk ops ms) (hmz : ms.size = ops.size) (hro : ReadsOk r ms) (I : DInv r N σ0 w0 S m σ ar w) {j : Nat} {o : Oper} (ho : ops[j]? = some o) (hS : ¬ S j)
    (hr : ∀ e ∈ o.after.toList, Region.binds .any e = true → S e.on) {K : Act → World → Prop} {Q : Exit → Act → World → Prop}
    (hK : ∀ m' σ' ar' w', DInv r N σ0 w0 (fun i => S i ∨ i = j) m' σ' ar' w' → K ar' w') : wpOp P ops Q j K ar w := by
  have hj : j < ops.size := (Array.getElem?_eq_some_iff.1 ho).1
  unfold wpOp
  rw [ho]
  dsimp only
  rw [wanted_rel tx hms hmz I.toDT ho hS hr]
  cases hw : Region.wanted o (yielded ops (r.T j)) with
  | false =>
    rw [if_neg (by simp)]
    refine hK m σ _ _ (I.plain tx ho hS hr (fun h => ?_) (fun o' h => ?_) ?_)
    · have := (r.ef_kind ho h).2; rw [hw] at this; cases this
    · have := (r.al_kind ho h).2; rw [hw] at this; cases this
    · rw [(r.no j o ho hw).1]; exact VR.undef
  | true =>
    rw [if_pos rfl]
    left
    obtain ⟨cl, c1, c2, c3, hs⟩ := r.yes j o ho hw
    -- what bits say of what has been done
    have bitS : ∀ {a b : Nat}, b < ops.size → (ms.getD b 0).testBit a = true → S b → S a := fun {a b} hb hbit hSb =>
      hms b a (by omega) hbit S I.dn (fun o' ho' e he hbd => I.dn b o' hSb ho' e he hbd)
    have bitJ : ∀ {a : Nat}, (ms.getD j 0).testBit a = true → S a := fun {a} hbit =>
      hms j a (by omega) hbit S I.dn (fun o' ho' e he hbd => by
        rw [ho] at ho'; injection ho' with ho'; subst ho'
        exact hr e he hbd)
    have mlast : ∀ {k : Nat}, kindOf P o = k → (k = 2 ∨ k = 3) → m ≤ j := by
      intro k hk hk2
      rcases I.em with h0 | hem
      · omega
      · by_cases hlt : m ≤ j
        · exact hlt
        · exfalso
          obtain ⟨oe, h1, h2, h3⟩ := id hem
          have hSe : S (m - 1) := (I.eb _ hem).2 (by omega)
          have hjm : j ≠ m - 1 := fun h => hS (h ▸ hSe)
          have := fx j (m - 1) o oe ho h1 (by omega) h2 (by rcases hk2 with rfl | rfl <;> simp [hk])
          have hme : m - 1 < ops.size := by have := I.mle; omega
          exact hS (bitS hme this hSe)
    have hk := kindOf_le (P := P) o
    by_cases k0 : kindOf P o = 0
    · obtain ⟨hc, hp, hh⟩ := opStep_kind0 k0 hs
      obtain ⟨v', run, hv⟩ := pop_sound (operands_rel tx hms hmz I.toDT I.rel ho hS hr hc) hp w
      unfold Oper.wp
      rw [run]
      exact hK m σ _ _ (I.plain tx ho hS hr (fun h => by have := (r.ef_kind ho h).1; omega) (fun o' h => by have := (r.al_kind ho h).1; omega) hv)
    by_cases k1 : kindOf P o = 1
    · obtain ⟨hc, hh⟩ := opStep_kind1 k1 hs
      have hp := hro j o m ho k1 hw I.mle I.em (fun e he => by
        have hes : e < ops.size := by obtain ⟨o', h1, _⟩ := he; exact (Array.getElem?_eq_some_iff.1 h1).1
        exact ⟨fun hb => (I.eb e he).1 (bitJ hb), fun hb hlt => hS (bitS hes hb ((I.eb e he).2 hlt))⟩)
      obtain ⟨v', run, hv⟩ := rop_sound I.rel (operands_rel tx hms hmz I.toDT I.rel ho hS hr hc) hp
      unfold Oper.wp
      rw [run]
      exact hK m σ _ _ (I.plain tx ho hS hr (fun h => by have := (r.ef_kind ho h).1; omega) (fun o' h => by have := (r.al_kind ho h).1; omega) hv)
    by_cases k2 : kindOf P o = 2
    · obtain ⟨hc, cs, t, f, ha, hV, hH⟩ := opStep_kind2 k2 hs
      have hal : r.al j o := ⟨ho, k2, hw⟩
      have hmj := mlast k2 (.inl rfl)
      obtain ⟨rc, v', run, hl, hv⟩ := aop_sound (P := P) (w := w) (operands_rel tx hms hmz I.toDT I.rel ho hS hr hc) ha
      unfold Oper.wp
      rw [run]
      have hf0 : σ (r.Hh j).next = none := I.fr j hj hS _ (Nat.le_refl _) (by rw [hH]; simp)
      have hg := Grew.alloc (w := w) (.cells rc t)
      have hm := upd_mono (i := ⟨w.heap.size, 0, rc.size, 0⟩) hf0
      have hbr : BR P N (upd σ (r.Hh j).next ⟨w.heap.size, 0, rc.size, 0⟩) ⟨w.heap.size, 0, rc.size, 0⟩ (w.alloc (.cells rc t)) (.cells cs t true false) := by
        have := BR.newRow (P := P) (N := N) (σ' := upd σ (r.Hh j).next ⟨w.heap.size, 0, rc.size, 0⟩) (w := w) (cs := cs) (cs' := rc.toList) (rest := []) (e := t) (re := t) (opn := false) (esz := 0) I.rel.low (by simpa using hg) (hl.mono hm) (fun h => absurd rfl h)
        simpa using this
      have hold : ∀ q, q < w.heap.size → (w.alloc (.cells rc t)).heap[q]? = w.heap[q]? := fun q hq => by rw [hg.heap, Array.getElem?_push]; simp [Nat.ne_of_lt hq]
      have hsz : (w.alloc (.cells rc t)).heap.size = w.heap.size + 1 := by rw [hg.heap]; simp
      obtain ⟨d1, d2⟩ := I.down ho hr
      have hvv : VR (upd σ (r.Hh j).next ⟨w.heap.size, 0, rc.size, 0⟩) (r.V j) (v' w.heap.size) := by rw [hV]; exact hv _ _ _ (upd_same _ _) rfl
      obtain ⟨t1, t2, t3, t4⟩ := I.tmps tx ho hS hm hvv
      have back : ∀ b x l, (r.Hh m).get b = some x → (upd σ (r.Hh j).next ⟨w.heap.size, 0, rc.size, 0⟩) b = some l → σ b = some l ∧ l.blk < w.heap.size := fun b x l hb hl => by
        obtain ⟨i, hi, hbr⟩ := I.rel.live b x hb
        rw [hm _ _ hi] at hl; injection hl with hl; subst hl
        exact ⟨hi, hbr.lt⟩
      refine hK m _ _ _ ({
        mle := I.mle, em := I.em
        eb := fun e he => by
          have : e ≠ j := fun h => by subst h; have := (r.ef_kind ho he).1; omega
          rw [← I.eb e he]; simp [this]
        dn := d1, sl := d2, sz := t1, t1 := t2, t0 := t3, df := t4
        rel := I.rel.ext hm hold (by omega)
        ext := fun i o' hi hmi ha' => by
          by_cases hij : i = j
          · subst hij
            have : o' = o := by have := ha'.1; rw [ho] at this; injection this with this; exact this.symm
            subst this
            exact ⟨_, cs, t, f, ha, upd_same _ _, hbr, I.size, fun b x l hb hx hl => by have := (back b x l hb hl).2; show l.blk ≠ w.heap.size; omega⟩
          · obtain ⟨bi, cs', t', f', e1, e2, e3, e4, e5⟩ := I.ext i o' (hi.resolve_right hij) hmi ha'
            refine ⟨bi, cs', t', f', e1, hm _ _ e2, e3.mono hm (hold _ e3.lt), e4, fun b x l hb hx hl => e5 b x l hb hx (back b x l hb hl).1⟩
        ex2 := fun i o1 i' o2 bi bj hi hmi h1 hi' hmi' h2 hne hbi hbj => by
          have one : ∀ k ok, (S k ∨ k = j) → m ≤ k → r.al k ok → k ≠ j → ∀ b, (upd σ (r.Hh j).next ⟨w.heap.size, 0, rc.size, 0⟩) (r.Hh k).next = some b → σ (r.Hh k).next = some b ∧ b.blk < w.heap.size := fun k ok hk hmk hak hkj b hb => by
            obtain ⟨bi', _, _, _, _, e2, e3, _, _⟩ := I.ext k ok (hk.resolve_right hkj) hmk hak
            rw [hm _ _ e2] at hb; injection hb with hb; subst hb
            exact ⟨e2, e3.lt⟩
          by_cases hij : i = j
          · subst hij
            rw [upd_same] at hbi; injection hbi with hbi; subst hbi
            have := (one i' o2 hi' hmi' h2 (fun h => hne h.symm) bj hbj).2
            show w.heap.size ≠ bj.blk; omega
          · have h3 := one i o1 hi hmi h1 hij bi hbi
            by_cases hij' : i' = j
            · subst hij'
              rw [upd_same] at hbj; injection hbj with hbj; subst hbj
              show bi.blk ≠ w.heap.size; omega
            · have h4 := one i' o2 hi' hmi' h2 hij' bj hbj
              exact I.ex2 i o1 i' o2 bi bj (hi.resolve_right hij) hmi h1 (hi'.resolve_right hij') hmi' h2 hne h3.1 h4.1
        fr := fun i hi hn k h1 h2 => by
          have hij : i ≠ j := fun h => hn (.inr h)
          have hkn : k ≠ (r.Hh j).next := by
            rcases Nat.lt_or_gt_of_ne hij with hlt | hlt
            · have := r.next_mono (i := i + 1) (j := j) (by omega) (by omega); omega
            · have := r.next_mono (i := j + 1) (j := i) (by omega) (by omega)
              rw [hH] at this; simp at this; omega
          rw [upd_ne _ hkn]
          exact I.fr i hi (fun h => hn (.inl h)) k h1 h2
        k1 := fun b hb => by
          have hkn : b ≠ (r.Hh j).next := fun h => by
            have e1 := r.next_mono (i := 0) (j := j) (by omega) (by omega)
            have e2 := r.next_mono (i := j + 1) (j := ops.size) (by omega) (by omega)
            rw [hH] at e2; simp at e2; omega
          rw [upd_ne _ hkn]; exact I.k1 b hb
        mono := fun b i hb => hm _ _ (I.mono b i hb)
        size := by have := I.size; omega
        frame := fun q hq hn => by rw [hold q (by have := I.size; omega)]; exact I.frame q hq hn
        from_ := fun b x i hb hx hi => I.from_ b x i hb hx (back b x i hb hi).1
        os := hg.os.trans I.os
        output := hg.output.trans I.output })
    · have k3 : kindOf P o = 3 := by omega
      have hef : r.ef j := ⟨o, ho, k3, hw⟩
      have hmj := mlast k3 (.inr rfl)
      have befA : ∀ i oi, i < j → r.al i oi → S i := fun i oi hij ha => bitJ (fx i j oi o ha.1 ho hij k3 (.inr ha.2.1))
      have befE : ∀ e, e < j → r.ef e → S e := fun e hej he => by
        obtain ⟨oe, h1, h2, h3⟩ := he
        exact bitJ (fx e j oe o h1 ho hej k3 (.inl h2))
      obtain ⟨R, C⟩ := I.upto j hmj (Nat.le_of_lt hj) (fun i oi _ h2 h3 => befA i oi h2 h3) (fun e h1 h2 he => by have := (I.eb e he).1 (befE e h2 he); omega)
      have hfr : Fresh σ (r.Hh j).next (r.Hh (j + 1)).next := fun k h1 h2 => I.fr j hj hS k h1 h2
      refine op_sound' c1 c2 R (operands_rel tx hms hmz I.toDT I.rel ho hS hr) hs hfr ?_
      rintro v' w1 ⟨σ1, hv, R1, K1⟩
      have hm := K1.mono hfr
      obtain ⟨d1, d2⟩ := I.down ho hr
      obtain ⟨t1, t2, t3, t4⟩ := I.tmps tx ho hS hm hv
      -- the blocks that stand at place j
      have own1 : ∀ b x l, (r.Hh j).get b = some x → x.own = true → σ b = some l → (∃ c y k, (r.Hh 0).get c = some y ∧ y.own = true ∧ σ0 c = some k ∧ k.blk = l.blk) ∨ w0.heap.size ≤ l.blk := fun b x l hb hx hl => by
        rcases C b x l hb hx hl with h | ⟨i, oi, a1, a2, a3, rfl⟩
        · exact I.from_ b x l h hx hl
        · obtain ⟨bi, _, _, _, _, e2, _, e4, _⟩ := I.ext i oi (befA i oi a2 a3) a1 a3
          rw [e2] at hl; injection hl with hl; subst hl
          exact .inr e4
      have own2 : ∀ b x l, (r.Hh j).get b = some x → x.own = true → σ b = some l → ∀ i oi, S i → j < i → r.al i oi → ∀ bi, σ (r.Hh i).next = some bi → l.blk ≠ bi.blk := fun b x l hb hx hl i oi hSi hji hai bi hbi => by
        obtain ⟨bi', _, _, _, _, e2, _, e4, e5⟩ := I.ext i oi hSi (by omega) hai
        rw [e2] at hbi; injection hbi with hbi; subst hbi
        rcases C b x l hb hx hl with h | ⟨i', oi', a1, a2, a3, rfl⟩
        · exact e5 b x l h hx hl
        · exact I.ex2 i' oi' i oi l bi' (befA i' oi' a2 a3) a1 a3 hSi (by omega) hai (by omega) hl e2
      refine hK (j + 1) σ1 _ _ ({
        mle := by omega
        em := .inr hef
        eb := fun e he => by
          by_cases hej : e = j
          · subst hej; simp
          · have h1 := I.eb e he
            by_cases hlt : e < j
            · have := befE e hlt he; simp [this]; omega
            · simp only [hej, or_false]
              rw [h1]; omega
        dn := d1, sl := d2, sz := t1, t1 := t2, t0 := t3, df := t4
        rel := R1
        ext := fun i o' hi hmi ha' => by
          have hij : i ≠ j := by omega
          have hSi := hi.resolve_right hij
          obtain ⟨bi, cs', t', f', e1, e2, e3, e4, e5⟩ := I.ext i o' hSi (by omega) ha'
          have hlt := e3.lt
          refine ⟨bi, cs', t', f', e1, hm _ _ e2, e3.mono hm (K1.frame _ hlt (fun b x l hb hx hl => own2 b x l hb hx hl i o' hSi (by omega) ha' bi e2)), e4, fun b x l hb hx hl => ?_⟩
          rcases K1.from_ b x l hb hx hl with ⟨c, y, k, hc, hy, hk', e⟩ | e
          · rw [← e]; exact own2 c y k hc hy hk' i o' hSi (by omega) ha' bi e2
          · omega
        ex2 := fun i o1 i' o2 bi bj hi hmi h1 hi' hmi' h2 hne hbi hbj => by
          have hSi := hi.resolve_right (by omega)
          have hSi' := hi'.resolve_right (by omega)
          obtain ⟨b1, _, _, _, _, e1, _, _, _⟩ := I.ext i o1 hSi (by omega) h1
          obtain ⟨b2, _, _, _, _, e2, _, _, _⟩ := I.ext i' o2 hSi' (by omega) h2
          have q1 := hm _ _ e1
          have q2 := hm _ _ e2
          rw [q1] at hbi; injection hbi with hbi; subst hbi
          rw [q2] at hbj; injection hbj with hbj; subst hbj
          exact I.ex2 i o1 i' o2 _ _ hSi (by omega) h1 hSi' (by omega) h2 hne e1 e2
        fr := fun i hi hn k h1 h2 => by
          have hij : i ≠ j := fun h => hn (.inr h)
          have hkn : ¬ ((r.Hh j).next ≤ k ∧ k < (r.Hh (j + 1)).next) := by
            rcases Nat.lt_or_gt_of_ne hij with hlt | hlt
            · have := r.next_mono (i := i + 1) (j := j) (by omega) (by omega); omega
            · have := r.next_mono (i := j + 1) (j := i) (by omega) (by omega); omega
          rw [K1.sg k hkn]
          exact I.fr i hi (fun h => hn (.inl h)) k h1 h2
        k1 := fun b hb => by
          have e1 := r.next_mono (i := 0) (j := j) (by omega) (by omega)
          have e2 := r.next_mono (i := j + 1) (j := ops.size) (by omega) (by omega)
          rw [K1.sg b (by omega)]; exact I.k1 b hb
        mono := fun b i hb => hm _ _ (I.mono b i hb)
        size := Nat.le_trans I.size K1.size
        frame := fun q hq hn => by
          have := I.size
          rw [K1.frame q (by omega) (fun b x l hb hx hl => ?_)]
          · exact I.frame q hq hn
          · rcases own1 b x l hb hx hl with ⟨c, y, k, hc, hy, hk', e⟩ | e
            · rw [← e]; exact hn c y k hc hy hk'
            · omega
        from_ := fun b x i hb hx hi => by
          rcases K1.from_ b x i hb hx hi with ⟨c, y, k, hc, hy, hk', e⟩ | e
          · rw [← e]; exact own1 c y k hc hy hk'
          · exact .inr (Nat.le_trans I.size e)
        os := K1.os.trans I.os
        output := K1.output.trans I.output })

theorem DInv.start (hr : AR σ (r.T 0) ar.tmps) (hd : ar.defers = []) (R : Rel P N P.globals.size σ (r.Hh 0) w) (hf : Fresh σ (r.Hh 0).next (r.Hh ops.size).next) : DInv r N σ w (fun _ => False) 0 σ ar w where
  mle := Nat.zero_le _
  em := .inl rfl
  eb := fun e _ => by simp
  dn := fun _ _ h => h.elim
  sl := fun _ h => h.elim
  sz := hr.1
  t1 := fun _ _ _ h => h.elim
  t0 := fun d _ => hr.getD d
  df := hd
  rel := R
  ext := fun _ _ h => h.elim
  ex2 := fun _ _ _ _ _ _ h => h.elim
  fr := fun i hi _ k h1 h2 => hf k (Nat.le_trans (r.next_mono (Nat.zero_le i) (Nat.le_of_lt hi)) h1) (Nat.lt_of_lt_of_le h2 (r.next_mono (by omega) (Nat.le_refl _)))
  k1 := fun _ _ => rfl
  mono := fun _ _ h => h
  size := Nat.le_refl _
  frame := fun _ _ _ => rfl
  from_ := fun b x i hb hx hi => .inl ⟨b, x, i, hb, hx, hi, rfl⟩
  os := rfl
  output := rfl

theorem DInv.done (tx : Text ops ms) (I : DInv r N σ0 w0 S m σ ar w) (hall : ∀ i, i < ops.size → S i) :
    AR σ (r.T ops.size) ar.tmps ∧ Rel P N P.globals.size σ (r.Hh ops.size) w ∧ Kept σ0 (r.Hh 0) w0 σ (r.Hh ops.size) w := by
  have lt : ∀ {i o}, ops[i]? = some o → i < ops.size := fun h => (Array.getElem?_eq_some_iff.1 h).1
  obtain ⟨R, C⟩ := I.upto ops.size I.mle (Nat.le_refl _) (fun i o _ h2 _ => hall i h2) (fun e h1 h2 he => by have := (I.eb e he).1 (hall e h2); omega)
  refine ⟨⟨?_, fun d h1 h2 => ?_⟩, R, ⟨r.next_mono (Nat.zero_le _) (Nat.le_refl _), I.k1, I.size, I.frame, fun b x i hb hx hi => ?_, I.os, I.output⟩⟩
  · rw [(r.getD tx 0 ops.size (Nat.le_refl _)).1]; exact I.sz
  · obtain ⟨g1, g2, g3⟩ := r.getD tx d ops.size (Nat.le_refl _)
    have e1 : (r.T ops.size)[d] = (r.T ops.size).getD d undef := by simp [h1]
    have e2 : ar.tmps[d] = ar.tmps.getD d undef := by simp [h2]
    rw [e1, e2]
    by_cases hw : ∃ (i : Nat) (o : Oper), ops[i]? = some o ∧ o.dst = some d
    · obtain ⟨i, o, hi, hd⟩ := hw
      rw [g2 i o (lt hi) hi hd (by rw [← g1]; exact h1)]
      exact I.t1 i o d (hall i (lt hi)) hi hd h2
    · have hno : ∀ (i : Nat) (o : Oper), ops[i]? = some o → o.dst ≠ some d := fun i o hi hd => hw ⟨i, o, hi, hd⟩
      rw [g3 (fun i o _ hi => hno i o hi)]
      exact I.t0 d (fun i o _ hi => hno i o hi)
  · rcases C b x i hb hx hi with h | ⟨k, ok, a1, a2, a3, rfl⟩
    · exact I.from_ b x i h hx hi
    · obtain ⟨bi, _, _, _, _, e2, _, e4, _⟩ := I.ext k ok (hall k a2) a1 a3
      rw [e2] at hi; injection hi with hi; subst hi
      exact .inr e4

theorem ready_iff {listed : Array Bool} {i : Nat} : i ∈ Region.ready .any ops listed ↔ i < ops.size ∧ listed.getD i true = false ∧ ∃ o, ops[i]? = some o ∧ ∀ e ∈ o.after.toList, Region.binds .any e = true → listed.getD e.on false = true := by
  unfold Region.ready
  rw [List.mem_filter, List.mem_range]
  refine and_congr_right fun hi => ?_
  have ho : ops[i]? = some ops[i] := Array.getElem?_eq_getElem hi
  rw [ho]
  simp only [Bool.and_eq_true, Bool.not_eq_true', Option.map_some, Option.getD_some, Option.some.injEq, exists_eq_left']
  refine and_congr_right fun _ => ?_
  rw [Array.all_eq_true_iff_forall_mem]
  constructor
  · intro h e he hb
    have := h e (by simpa using he)
    simpa [hb] using this
  · intro h e he
    by_cases hb : Region.binds .any e = true
    · simp [hb, h e (by simpa using he) hb]
    · simp [hb]

theorem ready_nil (tx : Text ops ms) {listed : Array Bool} (hz : listed.size = ops.size) (h : Region.ready .any ops listed = []) : ∀ i, i < ops.size → listed.getD i true = true := by
  intro i
  induction i using Nat.strongRecOn with
  | ind i ih =>
    intro hi
    cases hl : listed.getD i true with
    | true => rfl
    | false =>
      exfalso
      have ho : ops[i]? = some ops[i] := Array.getElem?_eq_getElem hi
      have : i ∈ Region.ready .any ops listed := ready_iff.2 ⟨hi, hl, _, ho, fun e he hb => by
        have hlt := tx.on i _ ho e he hb
        have := ih e.on hlt (by omega)
        have hs : e.on < listed.size := by omega
        simp [Array.getD, hs] at this ⊢; exact this⟩
      rw [h] at this; cases this

theorem any_order (tx : Text ops ms) (fx : Effs P ops ms) (hms : MasksOk ops ms) (hmz : ms.size = ops.size) (hro : ReadsOk r ms) {Q : Exit → Act → World → Prop}
    (hQ : ∀ σ' ar' w', ar'.defers = [] → AR σ' (r.T ops.size) ar'.tmps → Rel P N P.globals.size σ' (r.Hh ops.size) w' → Kept σ0 (r.Hh 0) w0 σ' (r.Hh ops.size) w' → Q .normal ar' w') :
    ∀ (fuel : Nat) (listed : Array Bool) (S : Nat → Prop) (m : Nat) (σ : Sg) (ar : Act) (w : World), listed.size = ops.size → listed.toList.count false ≤ fuel → (∀ i, S i ↔ i < ops.size ∧ listed.getD i true = true) →
      DInv r N σ0 w0 S m σ ar w → wpAny P .any ops Q fuel listed ar w := by
  have fin : ∀ (listed : Array Bool) (S : Nat → Prop) (m : Nat) (σ : Sg) (ar : Act) (w : World), listed.size = ops.size → (∀ i, S i ↔ i < ops.size ∧ listed.getD i true = true) → DInv r N σ0 w0 S m σ ar w →
      Region.ready .any ops listed = [] → Q .normal ar w := by
    intro listed S m σ ar w hz hS I hr
    obtain ⟨a1, a2, a3⟩ := I.done tx (fun i hi => (hS i).2 ⟨hi, ready_nil tx hz hr i hi⟩)
    exact hQ σ ar w I.df a1 a2 a3
  intro fuel
  induction fuel with
  | zero =>
    intro listed S m σ ar w hz hc hS I
    have hr : Region.ready .any ops listed = [] := by
      apply List.eq_nil_iff_forall_not_mem.2
      intro i hi
      obtain ⟨h1, h2, _⟩ := ready_iff.1 hi
      have hs : i < listed.size := by omega
      have : false ∈ listed.toList := by
        have : listed[i] = false := by simpa [Array.getD, hs] using h2
        rw [← this]; simp
      have := List.count_pos_iff.2 this
      omega
    exact ⟨hr, fin listed S m σ ar w hz hS I hr⟩
  | succ fuel ih =>
    intro listed S m σ ar w hz hc hS I
    refine ⟨fin listed S m σ ar w hz hS I, fun i hi => ?_⟩
    obtain ⟨h1, h2, o, ho, h3⟩ := ready_iff.1 hi
    have hs : i < listed.size := by omega
    have hli : listed[i] = false := by simpa [Array.getD, hs] using h2
    refine I.step tx fx hms hmz hro ho (fun h => by have := ((hS i).1 h).2; rw [h2] at this; cases this) (fun e he hb => ?_) (fun m' σ' ar' w' I' => ?_)
    · have h4 := h3 e he hb
      have hlt := tx.on i o ho e he hb
      refine (hS e.on).2 ⟨by omega, ?_⟩
      have hs2 : e.on < listed.size := by omega
      simp [Array.getD, hs2] at h4 ⊢; exact h4
    · refine ih _ _ m' σ' ar' w' (by simpa using hz) ?_ (fun k => ?_) I'
      · have : (listed.setIfInBounds i true).toList = listed.toList.set i true := by simp
        rw [this, List.count_set (by simpa using hs)]
        have : (listed.toList[i]'(by simpa using hs) == false) = true := by simp [hli]
        rw [if_pos this, if_neg (by simp)]
        omega
      · simp only [hS]
        by_cases hki : k = i
        · subst hki; simp [h1, hs]
        · have : (listed.setIfInBounds i true).getD k true = listed.getD k true := by
            rw [Array.getD_eq_getD_getElem?, Array.getD_eq_getD_getElem?, Array.getElem?_setIfInBounds_ne (Ne.symm hki)]
          rw [this]; simp [hki]
end

/-- A run in the text's order, as it is written down. -/
inductive Traced (P : Program) (all : Array Oper) : List Oper → Tmps → H → List Rec → Tmps → H → Prop
  | nil (a h) : Traced P all [] a h [] a h
  | yes {o os a h v h1 recs a2 h2} : Region.wanted o (yielded all a) = true → StepOk P o a h v h1 → Traced P all os (tput a o.dst v) h1 recs a2 h2 → Traced P all (o :: os) a h (⟨a, h, v⟩ :: recs) a2 h2
  | no {o os a h recs a2 h2} : Region.wanted o (yielded all a) = false → Traced P all os (tput a o.dst undef) h recs a2 h2 → Traced P all (o :: os) a h (⟨a, h, undef⟩ :: recs) a2 h2

def recT (recs : List Rec) (a2 : Tmps) (i : Nat) : Tmps := match recs[i]? with | some r => r.a | none => a2
def recV (recs : List Rec) (i : Nat) : Value := match recs[i]? with | some r => r.v | none => undef

theorem Traced.spec {all : Array Oper} {os : List Oper} {a : Tmps} {h : H} {recs : List Rec} {a2 : Tmps} {h2 : H} (t : Traced P all os a h recs a2 h2) :
    recs.length = os.length ∧ recT recs a2 0 = a ∧ heapAt recs h2 0 = h ∧ ∀ i o, os[i]? = some o → recT recs a2 (i + 1) = tput (recT recs a2 i) o.dst (recV recs i) ∧
      (Region.wanted o (yielded all (recT recs a2 i)) = true → StepOk P o (recT recs a2 i) (heapAt recs h2 i) (recV recs i) (heapAt recs h2 (i + 1))) ∧
      (Region.wanted o (yielded all (recT recs a2 i)) = false → recV recs i = undef ∧ heapAt recs h2 (i + 1) = heapAt recs h2 i) := by
  induction t with
  | nil a h => exact ⟨rfl, rfl, rfl, fun i o hi => by simp at hi⟩
  | yes hw hs _ ih =>
    obtain ⟨i1, i2, i3, i4⟩ := ih
    refine ⟨by simp [i1], rfl, rfl, fun i o hi => ?_⟩
    cases i with
    | zero =>
      simp only [List.getElem?_cons_zero, Option.some.injEq] at hi
      subst hi
      refine ⟨i2, fun _ => ?_, fun hf => ?_⟩
      · rw [show ∀ (x : Rec) l, heapAt (x :: l) _ (0 + 1) = heapAt l _ 0 from fun _ _ => rfl, i3]; exact hs
      · exact absurd (hf.symm.trans hw) (by simp)
    | succ i => exact i4 i o (by simpa using hi)
  | no hw _ ih =>
    obtain ⟨i1, i2, i3, i4⟩ := ih
    refine ⟨by simp [i1], rfl, rfl, fun i o hi => ?_⟩
    cases i with
    | zero =>
      simp only [List.getElem?_cons_zero, Option.some.injEq] at hi
      subst hi
      exact ⟨i2, fun hf => absurd (hf.symm.trans hw) (by simp), fun _ => ⟨rfl, i3⟩⟩
    | succ i => exact i4 i o (by simpa using hi)

def Traced.run {ops : Array Oper} {a : Tmps} {h : H} {recs : List Rec} {a2 : Tmps} {h2 : H} (t : Traced P ops ops.toList a h recs a2 h2) : Run P ops where
  T := recT recs a2
  Hh := heapAt recs h2
  V := recV recs
  t i o ho := (t.spec.2.2.2 i o (by simpa using ho)).1
  yes i o ho := (t.spec.2.2.2 i o (by simpa using ho)).2.1
  no i o ho := (t.spec.2.2.2 i o (by simpa using ho)).2.2

theorem Traced.reads {ops : Array Oper} {a : Tmps} {h : H} {recs : List Rec} {a2 : Tmps} {h2 : H} (t : Traced P ops ops.toList a h recs a2 h2) {ms : Array Nat} (hd : drawReads P ops ms recs h2 = true) : ReadsOk t.run ms := by
  intro j o m ho hk hw hm hem hb
  have hl : recs.length = ops.size := by simpa using t.spec.1
  have hj : j < ops.size := (Array.getElem?_eq_some_iff.1 ho).1
  have hrj : recs[j]? = some recs[j] := List.getElem?_eq_getElem (by omega)
  have ef : ∀ e, effAt P ops recs e = true ↔ t.run.ef e := fun e => by
    unfold effAt Run.ef
    cases hoe : ops[e]? with
    | none => simp
    | some oe =>
      have he : e < ops.size := (Array.getElem?_eq_some_iff.1 hoe).1
      have hre : recs[e]? = some recs[e] := List.getElem?_eq_getElem (by omega)
      have : t.run.T e = recs[e].a := by show recT recs a2 e = _; unfold recT; rw [hre]
      rw [hre, this]
      simp
  have hT : t.run.T j = recs[j].a := by show recT recs a2 j = _; unfold recT; rw [hrj]
  have hV : t.run.V j = recs[j].v := by show recV recs j = _; unfold recV; rw [hrj]
  unfold drawReads at hd
  rw [List.all_eq_true] at hd
  have h1 := hd j (List.mem_range.2 hj)
  rw [ho, hrj] at h1
  dsimp only at h1
  rw [← hT, hk, hw] at h1
  simp only [bne_self_eq_false, Bool.not_true, Bool.or_false, Bool.false_or, List.all_eq_true] at h1
  have h3 := h1 m (List.mem_range.2 (by omega))
  simp only [Bool.or_eq_true] at h3
  rcases h3 with (h3 | h3) | h3
  · exfalso
    simp only [Bool.and_eq_true, bne_iff_ne, ne_eq, Bool.not_eq_true'] at h3
    rcases hem with h0 | h0
    · exact h3.1 h0
    · have := (ef _).2 h0
      rw [this] at h3; cases h3.2
  · exfalso
    rw [List.any_eq_true] at h3
    obtain ⟨e, he, h4⟩ := h3
    simp only [Bool.and_eq_true, Bool.or_eq_true, decide_eq_true_eq] at h4
    obtain ⟨h5, h6⟩ := h4
    have := hb e ((ef e).1 h5)
    rcases h6 with ⟨h6, h7⟩ | ⟨h6, h7⟩
    · have := this.1 h6; omega
    · exact this.2 h6 h7
  · split at h3
    · rename_i v hv
      rw [hV]
      show rop P (heapAt recs h2 m) (tev (t.run.T j)) o = _
      rw [hv, veq_eq h3]
    · cases h3

theorem readsFirst_ok {ops : Array Oper} {ms : Array Nat} {r : Run P ops} (tx : Text ops ms) (hms : MasksOk ops ms) (hmz : ms.size = ops.size) (h : readsFirst P ops ms = true) : ReadsOk r ms := by
  have lt : ∀ {i : Nat} {o : Oper}, ops[i]? = some o → i < ops.size := fun h => (Array.getElem?_eq_some_iff.1 h).1
  unfold readsFirst at h
  rw [List.all_eq_true] at h
  have no2 : ∀ (j : Nat) o, ops[j]? = some o → kindOf P o ≠ 2 := fun j o ho => by
    have := h j (List.mem_range.2 (lt ho))
    rw [ho] at this
    simp only [Bool.and_eq_true, bne_iff_ne] at this
    exact this.1
  have ahead : ∀ (j e : Nat) o oe, ops[j]? = some o → kindOf P o = 1 → ops[e]? = some oe → kindOf P oe = 3 → (ms.getD e 0).testBit j = true := fun j e o oe ho hk he hke => by
    have := h j (List.mem_range.2 (lt ho))
    rw [ho] at this
    simp only [Bool.and_eq_true, hk, bne_self_eq_false, Bool.false_or, List.all_eq_true] at this
    have := this.2 e (List.mem_range.2 (lt he))
    rw [he] at this
    simpa [hke] using this
  intro j o m ho hk hw hm hem hb
  have hj := lt ho
  have hm0 : m = 0 := by
    rcases hem with h0 | h0
    · exact h0
    · exfalso
      obtain ⟨oe, h1, h2, h3⟩ := id h0
      have hbit := ahead j (m - 1) o oe ho hk h1 h2
      refine (hb _ h0).2 hbit ?_
      rcases Nat.eq_zero_or_pos m with rfl | hp
      · exfalso
        have := hms 0 j (by omega) hbit (fun k => k < 0) (fun k _ hk => by omega) (fun o' ho' e he hbd => tx.on 0 o' ho' e he hbd)
        omega
      · omega
  subst hm0
  have same : ∀ i, i ≤ j → r.Hh i = r.Hh 0 := by
    intro i
    induction i with
    | zero => intro _; rfl
    | succ i ih =>
      intro hi
      rw [← ih (by omega)]
      have hoi : ops[i]? = some ops[i] := Array.getElem?_eq_getElem (by omega)
      cases hwi : Region.wanted ops[i] (yielded ops (r.T i)) with
      | false => exact (r.no i _ hoi hwi).2
      | true =>
        obtain ⟨cl, _, _, _, hs⟩ := r.yes i _ hoi hwi
        have hkl := kindOf_le (P := P) ops[i]
        have h2 := no2 i _ hoi
        by_cases k0 : kindOf P ops[i] = 0
        · exact (opStep_kind0 k0 hs).2.2
        · by_cases k1 : kindOf P ops[i] = 1
          · exact (opStep_kind1 k1 hs).2
          · exfalso
            have hbit := ahead j i o _ ho hk hoi (by omega)
            have := hms i j (by omega) hbit (fun k => k < i) (fun k o' hk' ho' e he hbd => Nat.lt_trans (tx.on k o' ho' e he hbd) hk') (fun o' ho' e he hbd => tx.on i o' ho' e he hbd)
            omega
  obtain ⟨cl, _, _, _, hs⟩ := r.yes j o ho hw
  rw [← same j (Nat.le_refl _)]
  unfold opStep at hs
  split at hs <;> try (cases hs; done)
  simp only [hk] at hs
  split at hs <;> try (cases hs; done)
  rename_i hp
  simp only [Option.some.injEq, Prod.mk.injEq] at hs
  rw [hp, hs.1]

theorem masks_ok (ops : Array Oper) : (masks ops.toList #[]).size = ops.size ∧ MasksOk ops (masks ops.toList #[]) := by
  have := masks_spec ops ops.toList #[] (fun k => by simp) (fun i j hi => by simp at hi)
  simpa using this

/-- The drawn region. -/
theorem draw_sound (hmx : P.follows .mixedOrders = true) {ops : Array Oper} {id : Nat} {a : Tmps} {h : H} {recs : List Rec} {a2 : Tmps} {h2 : H} (t : Traced P ops ops.toList a h recs a2 h2)
    (h1 : drawText P ops (masks ops.toList #[]) = true) (h3 : (readsFirst P ops (masks ops.toList #[]) || drawReads P ops (masks ops.toList #[]) recs h2) = true) {ar : Act} (hr : AR σ a ar.tmps) (hd : ar.defers = []) (R : Rel P N P.globals.size σ h w) (hf : Fresh σ h.next h2.next) :
    (Code.region id ops true).wp P (Left P N σ h w .normal a2 h2) ar w := by
  obtain ⟨m1, m2⟩ := masks_ok ops
  obtain ⟨tx, fx⟩ := drawText_spec h1
  have hro : ReadsOk t.run (masks ops.toList #[]) := by
    rcases (Bool.or_eq_true _ _).mp h3 with h3 | h3
    · exact readsFirst_ok tx m2 m1 h3
    · exact t.reads h3
  obtain ⟨s1, s2, s3, _⟩ := t.spec
  have s1' : recs.length = ops.size := by simpa using s1
  have eT0 : t.run.T 0 = a := s2
  have eH0 : t.run.Hh 0 = h := s3
  have eT : t.run.T ops.size = a2 := by show recT recs a2 ops.size = _; unfold recT; rw [List.getElem?_eq_none (by omega)]
  have eH : t.run.Hh ops.size = h2 := by show heapAt recs h2 ops.size = _; unfold heapAt; rw [List.getElem?_eq_none (by omega)]
  refine wp_region_any hmx ?_
  have R' : Rel P N P.globals.size σ h { w with drawn := w.drawn + 1 } := ⟨R.low, R.glob, fun b x hx => by
    obtain ⟨i, hi, hb⟩ := R.live b x hx
    exact ⟨i, hi, hb.mono (fun _ _ h => h) rfl⟩, R.inj, R.low'⟩
  refine any_order (r := t.run) (N := N) (σ0 := σ) (w0 := { w with drawn := w.drawn + 1 }) tx fx m2 m1 hro ?_ ops.size _ (fun _ => False) 0 σ ar _ (by simp) ?_ ?_
    (DInv.start (by rw [eT0]; exact hr) hd (by rw [eH0]; exact R') (by rw [eH0, eH]; exact hf))
  · intro σ' ar' w' d1 d2 d3 d4
    rw [eT] at d2
    rw [eH] at d3 d4
    rw [eH0] at d4
    exact ⟨rfl, d1, σ', d2, d3, ⟨d4.nx, d4.sg, d4.size, d4.frame, d4.from_, d4.os, d4.output⟩⟩
  · simp
  · intro i
    simp only [false_iff, not_and]
    intro hi
    simp [hi]
end Go.Proofs.Zq
