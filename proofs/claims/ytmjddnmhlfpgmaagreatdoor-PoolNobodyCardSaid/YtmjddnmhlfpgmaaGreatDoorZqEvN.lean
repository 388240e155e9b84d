/- A region whose order is drawn: whatever order its edges allow, it leaves what the order of the text leaves. -/
import Derived.Test.YtmjddnmhlfpgmaaGreatDoorZqEvL
namespace Go.Proofs.Zq
variable {P : Program} {N : Nat} {σ : Sg} {h : H} {w : World}

theorem fveq_eq {a b : Value} (h : fveq a b = true) : a = b := by
  cases a <;> cases b <;> simp [fveq] at h <;> first
    | rfl
    | (obtain ⟨⟨⟨⟨h1, h2⟩, h3⟩, h4⟩, h5⟩ := h; subst h1; subst h2; subst h3; subst h4; subst h5; rfl)
    | (obtain ⟨⟨h1, h2⟩, h3⟩ := h; subst h1; subst h2; subst h3; rfl)
    | (obtain ⟨h1, h2⟩ := h; subst h1; subst h2; rfl)
    | (subst h; rfl)
theorem lveq_eq : ∀ {xs ys : List Value}, lveq xs ys = true → xs = ys
  | [], [], _ => rfl
  | x :: xs, y :: ys, h => by
    simp only [lveq, Bool.and_eq_true] at h
    rw [fveq_eq h.1, lveq_eq h.2]
  | [], _ :: _, h => by simp [lveq] at h
  | _ :: _, [], h => by simp [lveq] at h
theorem veq_eq {a b : Value} (h : veq a b = true) : a = b := by
  unfold veq at h
  split at h
  · have := lveq_eq h
    congr 1
    exact Array.toList_inj.1 this
  · exact fveq_eq h

/-- A set of places that is closed under what must stand ahead. -/
def Down (ops : Array Oper) (S : Nat → Prop) : Prop := ∀ i o, S i → ops[i]? = some o → ∀ e ∈ o.after.toList, Region.binds .any e = true → S e.on

theorem mask_spec {acc : Array Nat} {o : Oper} {j : Nat} (h : (mask acc o).testBit j = true) : ∃ e ∈ o.after.toList, Region.binds .any e = true ∧ (e.on = j ∨ (acc.getD e.on 0).testBit j = true) := by
  unfold mask at h
  have key : ∀ (l : List Edge) (s : Nat), (l.foldl (fun s e => if Region.binds .any e then s ||| 2 ^ e.on ||| acc.getD e.on 0 else s) s).testBit j = true →
      s.testBit j = true ∨ ∃ e ∈ l, Region.binds .any e = true ∧ (e.on = j ∨ (acc.getD e.on 0).testBit j = true) := by
    intro l
    induction l with
    | nil => intro s h; exact .inl h
    | cons e l ih =>
      intro s h
      simp only [List.foldl_cons] at h
      rcases ih _ h with h1 | ⟨e', he', r⟩
      · split at h1
        · rename_i hb
          simp only [Nat.testBit_or, Bool.or_eq_true] at h1
          rcases h1 with (h1 | h1) | h1
          · exact .inl h1
          · refine .inr ⟨e, by simp, hb, .inl ?_⟩
            rw [Nat.testBit_two_pow] at h1
            simpa using h1
          · exact .inr ⟨e, by simp, hb, .inr h1⟩
        · exact .inl h1
      · exact .inr ⟨e', by simp [he'], r⟩
  rcases key _ 0 h with h1 | h1
  · simp at h1
  · exact h1

/-- What a bit of the masks says. -/
def MasksOk (ops : Array Oper) (acc : Array Nat) : Prop :=
  ∀ i j, i < acc.size → (acc.getD i 0).testBit j = true → ∀ S, Down ops S → (∀ o, ops[i]? = some o → ∀ e ∈ o.after.toList, Region.binds .any e = true → S e.on) → S j

theorem masks_spec (ops : Array Oper) : ∀ (os : List Oper) (acc : Array Nat), (∀ k, os[k]? = ops[acc.size + k]?) → MasksOk ops acc → (masks os acc).size = acc.size + os.length ∧ MasksOk ops (masks os acc)
  | [], acc, _, hm => ⟨by simp [masks], hm⟩
  | o :: os, acc, ho, hm => by
    have hm' : MasksOk ops (acc.push (mask acc o)) := by
      intro i j hi hb S hS hp
      by_cases hlt : i < acc.size
      · refine hm i j hlt ?_ S hS hp
        have : (acc.push (mask acc o)).getD i 0 = acc.getD i 0 := by
          simp [Array.getElem?_push, hlt, Nat.ne_of_lt hlt]
        rwa [this] at hb
      · have hie : i = acc.size := by simp at hi; omega
        subst hie
        have : (acc.push (mask acc o)).getD acc.size 0 = mask acc o := by simp
        rw [this] at hb
        obtain ⟨e, he, hbd, hj⟩ := mask_spec hb
        have ho0 : ops[acc.size]? = some o := by simpa using (ho 0).symm
        have hSe := hp o ho0 e he hbd
        rcases hj with rfl | hj
        · exact hSe
        · have hlt2 : e.on < acc.size := by
            by_cases hl : e.on < acc.size
            · exact hl
            · simp [Array.getElem?_eq_none (Nat.le_of_not_lt hl)] at hj
          exact hm e.on j hlt2 hj S hS (fun o' ho' e' he' hb' => hS e.on o' hSe ho' e' he' hb')
    have := masks_spec ops os (acc.push (mask acc o)) (fun k => by
      have := ho (k + 1)
      simp only [List.getElem?_cons_succ] at this
      rw [this]; simp; congr 1; omega) hm'
    simp only [masks]
    refine ⟨by rw [this.1]; simp; omega, this.2⟩

/-- A step of a run in the text's order. -/
def StepOk (P : Program) (o : Oper) (a : Tmps) (h : H) (v : Value) (h1 : H) : Prop := ∃ cl, CallOk P cl ∧ Plain P cl ∧ NextUp cl ∧ opStep P cl o a h = some (v, h1)

/-- A run in the text's order, place by place. -/
structure Run (P : Program) (ops : Array Oper) where
  T : Nat → Tmps
  Hh : Nat → H
  V : Nat → Value
  t : ∀ i o, ops[i]? = some o → T (i + 1) = tput (T i) o.dst (V i)
  yes : ∀ i o, ops[i]? = some o → Region.wanted o (yielded ops (T i)) = true → StepOk P o (T i) (Hh i) (V i) (Hh (i + 1))
  no : ∀ i o, ops[i]? = some o → Region.wanted o (yielded ops (T i)) = false → V i = undef ∧ Hh (i + 1) = Hh i

namespace Run
variable {ops : Array Oper} (r : Run P ops)
theorem next_le (i : Nat) (hi : i < ops.size) : (r.Hh i).next ≤ (r.Hh (i + 1)).next := by
  have ho : ops[i]? = some ops[i] := Array.getElem?_eq_getElem hi
  cases hw : Region.wanted ops[i] (yielded ops (r.T i)) with
  | true =>
    obtain ⟨cl, _, _, hn, hs⟩ := r.yes i _ ho hw
    exact opStep_next hn hs
  | false => rw [(r.no i _ ho hw).2]; exact Nat.le_refl _
theorem next_mono {i j : Nat} (hij : i ≤ j) (hj : j ≤ ops.size) : (r.Hh i).next ≤ (r.Hh j).next := by
  induction j with
  | zero => have : i = 0 := by omega
            subst this; exact Nat.le_refl _
  | succ j ih =>
    by_cases h : i = j + 1
    · subst h; exact Nat.le_refl _
    · exact Nat.le_trans (ih (by omega) (by omega)) (r.next_le j (by omega))
end Run

theorem tput_size (a : Tmps) (d : Option Tmp) (v : Value) : (tput a d v).size = a.size := by cases d <;> simp [tput]
theorem tput_getD (a : Tmps) (d : Option Tmp) (v : Value) (t : Nat) : (tput a d v).getD t undef = if d = some t ∧ t < a.size then v else a.getD t undef := by
  cases d with
  | none => simp [tput]
  | some d =>
    simp only [tput, Option.some.injEq]
    by_cases hd : d = t
    · subst hd
      by_cases ht : d < a.size
      · have h1 : d < (a.setIfInBounds d v).size := by simpa using ht
        rw [if_pos ⟨rfl, ht⟩, Array.getD_eq_getD_getElem?, Array.getElem?_setIfInBounds]
        simp [ht]
      · rw [if_neg (by simp [ht]), Array.getD_eq_getD_getElem?, Array.getD_eq_getD_getElem?, Array.getElem?_setIfInBounds]
        simp [ht]
    · rw [if_neg (by simp [hd]), Array.getD_eq_getD_getElem?, Array.getD_eq_getD_getElem?, Array.getElem?_setIfInBounds]
      simp [hd]

/-- The text's own conditions, taken apart. -/
structure Text (ops : Array Oper) (ms : Array Nat) : Prop where
  on : ∀ (j : Nat) (o : Oper), ops[j]? = some o → ∀ e ∈ o.after.toList, Region.binds .any e = true → e.on < j
  own : ∀ (j : Nat) (o : Oper) (d : Tmp), ops[j]? = some o → o.dst = some d → d ∉ looks ops o
  apart : ∀ (i j : Nat) (oi oj : Oper) (d : Tmp), ops[i]? = some oi → ops[j]? = some oj → i ≠ j → oi.dst = some d → oj.dst ≠ some d
  ord : ∀ (i j : Nat) (oi oj : Oper) (d : Tmp), ops[i]? = some oi → ops[j]? = some oj → i ≠ j → oi.dst = some d → d ∈ looks ops oj → (ms.getD j 0).testBit i = true ∨ (ms.getD i 0).testBit j = true

def Effs (P : Program) (ops : Array Oper) (ms : Array Nat) : Prop := ∀ (i j : Nat) (oi oj : Oper), ops[i]? = some oi → ops[j]? = some oj → i < j → kindOf P oj = 3 → (kindOf P oi = 3 ∨ kindOf P oi = 2) → (ms.getD j 0).testBit i = true

theorem drawText_spec {ops : Array Oper} {ms : Array Nat} (h : drawText P ops ms = true) : Text ops ms ∧ Effs P ops ms := by
  have lt : ∀ {i : Nat} {o : Oper}, ops[i]? = some o → i < ops.size := fun h => (Array.getElem?_eq_some_iff.1 h).1
  unfold drawText at h
  rw [List.all_eq_true] at h
  have get : ∀ (i j : Nat) (oi oj : Oper), ops[i]? = some oi → ops[j]? = some oj → _ := fun i j oi oj hi hj => by
    have h1 := h j (List.mem_range.2 (lt hj))
    rw [hj] at h1
    simp only [Bool.and_eq_true] at h1
    obtain ⟨h2, h3⟩ := h1
    rw [List.all_eq_true] at h3
    have h4 := h3 i (List.mem_range.2 (lt hi))
    rw [hi] at h4
    exact (show _ ∧ _ from ⟨h2, h4⟩)
  refine ⟨⟨?_, ?_, ?_, ?_⟩, ?_⟩
  · intro j o ho e he hb
    have := (get j j o o ho ho).1
    rw [List.all_eq_true] at this
    have := this e he
    simpa [hb] using this
  · intro j o d ho hd
    have := (get j j o o ho ho).2
    simp [hd] at this
    exact this
  · intro i j oi oj d hi hj hne hd
    have := (get i j oi oj hi hj).2
    simp [hd, hne] at this
    exact fun hh => this.1.1 hh
  · intro i j oi oj d hi hj hne hd hl
    have := (get i j oi oj hi hj).2
    simp [hd, hne, hl] at this
    simp only [Array.getD_eq_getD_getElem?]
    exact this.1.2
  · intro i j oi oj hi hj hlt h3 hk
    have := (get i j oi oj hi hj).2
    simp only [Array.getD_eq_getD_getElem?]
    rcases hk with hk | hk <;> simp [h3, hk, hlt] at this <;> exact this.1.2

theorem Rel.ext {σ' : Sg} {w' : World} (R : Rel P N P.globals.size σ h w) (hs : ∀ b i, σ b = some i → σ' b = some i) (hh : ∀ r, r < w.heap.size → w'.heap[r]? = w.heap[r]?) (hz : w.heap.size ≤ w'.heap.size) :
    Rel P N P.globals.size σ' h w' where
  low := Nat.le_trans R.low hz
  glob g hg := by obtain ⟨i, h1, h2⟩ := R.glob g hg; exact ⟨i, hs _ _ h1, h2⟩
  live b x hx := by
    obtain ⟨i, hi, hb⟩ := R.live b x hx
    exact ⟨i, hs _ _ hi, hb.mono hs (hh _ hb.lt)⟩
  inj b c x y i j hb hc hx hy hi hj e := by
    obtain ⟨i', hi', _⟩ := R.live b x hb
    obtain ⟨j', hj', _⟩ := R.live c y hc
    rw [hs _ _ hi'] at hi; injection hi with hi; subst hi
    rw [hs _ _ hj'] at hj; injection hj with hj; subst hj
    exact R.inj b c x y _ _ hb hc hx hy hi' hj' e
  low' := R.low'

/-- A block that is there already is counted in. -/
theorem Rel.addThere (R : Rel P N P.globals.size σ h w) {i : BI} {x : Blk} (hi : σ h.next = some i) (hb : BR P N σ i w x) (hd : ∀ b y j, h.get b = some y → y.own = true → σ b = some j → j.blk ≠ i.blk) :
    Rel P N P.globals.size σ (h.add x) w where
  low := R.low
  glob := R.glob
  live b y hy := by
    by_cases hbn : b = h.next
    · subst hbn; rw [H.get_add_same] at hy; injection hy with hy; subst hy; exact ⟨i, hi, hb⟩
    · rw [H.get_add_ne _ _ _ hbn] at hy; exact R.live b y hy
  inj b c y z j l hb1 hc1 hy hz hj hl e := by
    by_cases hbn : b = h.next
    · by_cases hcn : c = h.next
      · rw [hbn, hcn]
      · subst hbn
        rw [H.get_add_ne _ _ _ hcn] at hc1
        rw [hi] at hj; injection hj with hj; subst hj
        exact absurd e.symm (hd c z l hc1 hz hl)
    · rw [H.get_add_ne _ _ _ hbn] at hb1
      by_cases hcn : c = h.next
      · subst hcn
        rw [hi] at hl; injection hl with hl; subst hl
        exact absurd e (hd b y j hb1 hy hj)
      · rw [H.get_add_ne _ _ _ hcn] at hc1
        exact R.inj b c y z j l hb1 hc1 hy hz hj hl e
  low' b y hy := by
    by_cases hbn : b = h.next
    · subst hbn; simp
    · rw [H.get_add_ne _ _ _ hbn] at hy
      have := R.low' b y hy
      simp; omega

section
variable {ops : Array Oper}

/-- An operation of the run that is carried out and makes a block. -/
def Run.al (r : Run P ops) (i : Nat) (o : Oper) : Prop := ops[i]? = some o ∧ kindOf P o = 2 ∧ Region.wanted o (yielded ops (r.T i)) = true
/-- One that is carried out and writes. -/
def Run.ef (r : Run P ops) (i : Nat) : Prop := ∃ o, ops[i]? = some o ∧ kindOf P o = 3 ∧ Region.wanted o (yielded ops (r.T i)) = true

/-- What holds of the temporaries while a region is carried out in an order of its own; S: what has been done. -/
structure DT (r : Run P ops) (S : Nat → Prop) (σ : Sg) (ar : Act) : Prop where
  dn : Down ops S
  sl : ∀ i, S i → i < ops.size
  sz : (r.T 0).size = ar.tmps.size
  t1 : ∀ i o d, S i → ops[i]? = some o → o.dst = some d → d < ar.tmps.size → VR σ (r.V i) (ar.tmps.getD d undef)
  t0 : ∀ d, (∀ i o, S i → ops[i]? = some o → o.dst ≠ some d) → VR σ ((r.T 0).getD d undef) (ar.tmps.getD d undef)
  df : ar.defers = []

/-- What holds while a region is carried out in an order of its own: S: what has been done; m: the heap of the run in the text's order that stands for it. -/
structure DInv (r : Run P ops) (N : Nat) (σ0 : Sg) (w0 : World) (S : Nat → Prop) (m : Nat) (σ : Sg) (ar : Act) (w : World) : Prop extends DT r S σ ar where
  mle : m ≤ ops.size
  em : m = 0 ∨ r.ef (m - 1)
  eb : ∀ e, r.ef e → (S e ↔ e < m)
  rel : Rel P N P.globals.size σ (r.Hh m) w
  ext : ∀ i o, S i → m ≤ i → r.al i o → ∃ bi cs t f, aop P (tev (r.T i)) o = some (cs, t, f) ∧ σ (r.Hh i).next = some bi ∧ BR P N σ bi w (.cells cs t true false) ∧ w0.heap.size ≤ bi.blk ∧
    (∀ b x j, (r.Hh m).get b = some x → x.own = true → σ b = some j → j.blk ≠ bi.blk)
  ex2 : ∀ i o j o' bi bj, S i → m ≤ i → r.al i o → S j → m ≤ j → r.al j o' → i ≠ j → σ (r.Hh i).next = some bi → σ (r.Hh j).next = some bj → bi.blk ≠ bj.blk
  fr : ∀ i, i < ops.size → ¬ S i → ∀ k, (r.Hh i).next ≤ k → k < (r.Hh (i + 1)).next → σ k = none
  k1 : ∀ b, ¬ ((r.Hh 0).next ≤ b ∧ b < (r.Hh ops.size).next) → σ b = σ0 b
  mono : ∀ b i, σ0 b = some i → σ b = some i
  size : w0.heap.size ≤ w.heap.size
  frame : ∀ q, q < w0.heap.size → (∀ b x i, (r.Hh 0).get b = some x → x.own = true → σ0 b = some i → i.blk ≠ q) → w.heap[q]? = w0.heap[q]?
  from_ : ∀ b x i, (r.Hh m).get b = some x → x.own = true → σ b = some i → (∃ c y j, (r.Hh 0).get c = some y ∧ y.own = true ∧ σ0 c = some j ∧ j.blk = i.blk) ∨ w0.heap.size ≤ i.blk
  os : w.os = w0.os
  output : w.output = w0.output

theorem Run.getD (r : Run P ops) {ms : Array Nat} (tx : Text ops ms) (d : Nat) : ∀ j, j ≤ ops.size → (r.T j).size = (r.T 0).size ∧
    (∀ i o, i < j → ops[i]? = some o → o.dst = some d → d < (r.T 0).size → (r.T j).getD d undef = r.V i) ∧ ((∀ i o, i < j → ops[i]? = some o → o.dst ≠ some d) → (r.T j).getD d undef = (r.T 0).getD d undef) := by
  intro j
  induction j with
  | zero => intro _; exact ⟨rfl, fun i o hi => by omega, fun _ => rfl⟩
  | succ j ih =>
    intro hj
    obtain ⟨h1, h2, h3⟩ := ih (by omega)
    have ho : ops[j]? = some ops[j] := Array.getElem?_eq_getElem (by omega)
    rw [r.t j _ ho]
    refine ⟨by rw [tput_size]; exact h1, fun i o hi hio hd hlt => ?_, fun hn => ?_⟩
    · rw [tput_getD]
      by_cases hij : i = j
      · subst hij
        rw [ho] at hio; injection hio with hio; subst hio
        rw [if_pos ⟨hd, by rw [h1]; exact hlt⟩]
      · have := tx.apart i j o _ d hio ho hij hd
        rw [if_neg (by simp [this])]
        exact h2 i o (by omega) hio hd hlt
    · rw [tput_getD, if_neg (by have := hn j _ (by omega) ho; simp [this])]
      exact h3 (fun i o hi hio => hn i o (by omega) hio)

/-- What an operation that stands next reads is what it reads in the text's order. -/
theorem DT.looks {r : Run P ops} {S : Nat → Prop} {ar : Act} {ms : Array Nat} (tx : Text ops ms) (hms : MasksOk ops ms) (hmz : ms.size = ops.size) (I : DT r S σ ar)
    {j : Nat} {o : Oper} (ho : ops[j]? = some o) (hS : ¬ S j) (hr : ∀ e ∈ o.after.toList, Region.binds .any e = true → S e.on) {d : Tmp} (hd : d ∈ Zq.looks ops o) :
    VR σ ((r.T j).getD d undef) (ar.tmps.getD d undef) := by
  have hj : j < ops.size := (Array.getElem?_eq_some_iff.1 ho).1
  obtain ⟨h1, h2, h3⟩ := r.getD tx d j (Nat.le_of_lt hj)
  by_cases hsz : d < (r.T 0).size
  case neg =>
    have e1 : (r.T j).getD d undef = undef := by
      rw [Array.getD_eq_getD_getElem?, Array.getElem?_eq_none (by rw [h1]; exact Nat.le_of_not_lt hsz)]; rfl
    have e2 : ar.tmps.getD d undef = undef := by
      rw [Array.getD_eq_getD_getElem?, Array.getElem?_eq_none (by rw [← I.sz]; exact Nat.le_of_not_lt hsz)]; rfl
    rw [e1, e2]; exact VR.undef
  by_cases hw : ∃ (i : Nat) (oi : Oper), ops[i]? = some oi ∧ oi.dst = some d
  · obtain ⟨i, oi, hi, hdi⟩ := hw
    have hil : i < ops.size := (Array.getElem?_eq_some_iff.1 hi).1
    have hij : i ≠ j := fun e => by
      subst e
      rw [ho] at hi; injection hi with hi; subst hi
      exact tx.own i o d ho hdi hd
    rcases tx.ord i j oi o d hi ho hij hdi hd with hb | hb
    · have hSi : S i := hms j i (by omega) hb S I.dn (fun o' ho' e he hbd => by
        rw [ho] at ho'; injection ho' with ho'; subst ho'
        exact hr e he hbd)
      have hlt : i < j := hms j i (by omega) hb (fun k => k < j) (fun k o' hk ho' e he hbd => Nat.lt_trans (tx.on k o' ho' e he hbd) hk) (fun o' ho' e he hbd => tx.on j o' ho' e he hbd)
      rw [h2 i oi hlt hi hdi hsz]
      exact I.t1 i oi d hSi hi hdi (by rw [← I.sz]; exact hsz)
    · have hSi : ¬ S i := fun hSi => hS (hms i j (by omega) hb S I.dn (fun o' ho' e he hbd => I.dn i o' hSi ho' e he hbd))
      have hlt : j < i := hms i j (by omega) hb (fun k => k < i) (fun k o' hk ho' e he hbd => Nat.lt_trans (tx.on k o' ho' e he hbd) hk) (fun o' ho' e he hbd => tx.on i o' ho' e he hbd)
      have uniq : ∀ k ok, ops[k]? = some ok → ok.dst = some d → k = i := fun k ok hk hdk => by
        by_cases hki : k = i
        · exact hki
        · exact absurd hdk (tx.apart i k oi ok d hi hk (Ne.symm hki) hdi)
      rw [h3 (fun k ok hkj hk hdk => by have := uniq k ok hk hdk; omega)]
      exact I.t0 d (fun k ok hSk hk hdk => by have := uniq k ok hk hdk; subst this; exact hSi hSk)
  · have hno : ∀ (i : Nat) (oi : Oper), ops[i]? = some oi → oi.dst ≠ some d := fun i oi hi hdi => hw ⟨i, oi, hi, hdi⟩
    rw [h3 (fun i oi _ hi => hno i oi hi)]
    exact I.t0 d (fun i oi _ hi => hno i oi hi)

section
variable {r : Run P ops} {σ0 : Sg} {w0 : World} {S : Nat → Prop} {m : Nat} {ar : Act} {ms : Array Nat}

theorem opStep_kind0 {cl : FuncId → Array Value → H → Option (Value × H)} {o : Oper} {a : Tmps} {v : Value} {h' : H} (hk : kindOf P o = 0) (hs : opStep P cl o a h = some (v, h')) : cleanOps P o = true ∧ pop P (tev a) o = some v ∧ h' = h := by
  unfold opStep at hs
  split at hs <;> try (cases hs; done)
  rename_i hc
  simp only [hk] at hs
  split at hs <;> try (cases hs; done)
  rename_i hp
  simp only [Option.some.injEq, Prod.mk.injEq] at hs
  obtain ⟨rfl, rfl⟩ := hs
  exact ⟨hc, hp, rfl⟩
theorem opStep_kind1 {cl : FuncId → Array Value → H → Option (Value × H)} {o : Oper} {a : Tmps} {v : Value} {h' : H} (hk : kindOf P o = 1) (hs : opStep P cl o a h = some (v, h')) : cleanOps P o = true ∧ h' = h := by
  unfold opStep at hs
  split at hs <;> try (cases hs; done)
  rename_i hc
  simp only [hk] at hs
  split at hs <;> try (cases hs; done)
  simp only [Option.some.injEq, Prod.mk.injEq] at hs
  obtain ⟨rfl, rfl⟩ := hs
  exact ⟨hc, rfl⟩
theorem opStep_kind2 {cl : FuncId → Array Value → H → Option (Value × H)} {o : Oper} {a : Tmps} {v : Value} {h' : H} (hk : kindOf P o = 2) (hs : opStep P cl o a h = some (v, h')) :
    cleanOps P o = true ∧ ∃ cs t f, aop P (tev a) o = some (cs, t, f) ∧ v = f h.next ∧ h' = h.add (.cells cs t true false) := by
  unfold opStep at hs
  split at hs <;> try (cases hs; done)
  rename_i hc
  simp only [hk] at hs
  split at hs <;> try (cases hs; done)
  rename_i cs t f hp
  simp only [Option.some.injEq, Prod.mk.injEq] at hs
  obtain ⟨rfl, rfl⟩ := hs
  exact ⟨hc, cs, t, f, hp, rfl, rfl⟩

theorem kindOf_le (o : Oper) : kindOf P o ≤ 3 := by
  unfold kindOf
  split <;> first | omega | (split <;> omega)

/-- The blocks that the own order has made are counted in, up to a place behind which none is made and nothing is written. -/
theorem DInv.upto (I : DInv r N σ0 w0 S m σ ar w) : ∀ p, m ≤ p → p ≤ ops.size → (∀ i o, m ≤ i → i < p → r.al i o → S i) → (∀ e, m ≤ e → e < p → ¬ r.ef e) →
    Rel P N P.globals.size σ (r.Hh p) w ∧ ∀ b x j, (r.Hh p).get b = some x → x.own = true → σ b = some j → (r.Hh m).get b = some x ∨ ∃ i o, m ≤ i ∧ i < p ∧ r.al i o ∧ b = (r.Hh i).next := by
  intro p
  induction p with
  | zero =>
    intro h1 _ _ _
    have : m = 0 := by omega
    subst this
    exact ⟨I.rel, fun b x j hb _ _ => .inl hb⟩
  | succ p ih =>
    intro h1 h2 h3 h4
    by_cases hm : m = p + 1
    · rw [← hm]; exact ⟨I.rel, fun b x j hb _ _ => .inl hb⟩
    have hmp : m ≤ p := by omega
    obtain ⟨R, C⟩ := ih hmp (by omega) (fun i o a b c => h3 i o a (by omega) c) (fun e a b => h4 e a (by omega))
    have lift : ∀ b x j, (r.Hh p).get b = some x → x.own = true → σ b = some j → (r.Hh m).get b = some x ∨ ∃ i o, m ≤ i ∧ i < p + 1 ∧ r.al i o ∧ b = (r.Hh i).next := fun b x j hb hx hj => by
      rcases C b x j hb hx hj with h | ⟨i, o, a1, a2, a3, a4⟩
      · exact .inl h
      · exact .inr ⟨i, o, a1, by omega, a3, a4⟩
    have ho : ops[p]? = some ops[p] := Array.getElem?_eq_getElem (by omega)
    cases hw : Region.wanted ops[p] (yielded ops (r.T p)) with
    | false =>
      rw [(r.no p _ ho hw).2]
      exact ⟨R, lift⟩
    | true =>
      obtain ⟨cl, c1, c2, c3, hs⟩ := r.yes p _ ho hw
      have hk := kindOf_le (P := P) ops[p]
      by_cases k0 : kindOf P ops[p] = 0
      · rw [(opStep_kind0 k0 hs).2.2]; exact ⟨R, lift⟩
      by_cases k1 : kindOf P ops[p] = 1
      · rw [(opStep_kind1 k1 hs).2]; exact ⟨R, lift⟩
      by_cases k2 : kindOf P ops[p] = 2
      · obtain ⟨_, cs, t, f, ha, hv, hh⟩ := opStep_kind2 k2 hs
        have hal : r.al p ops[p] := ⟨ho, k2, hw⟩
        have hSp := h3 p _ hmp (by omega) hal
        obtain ⟨bi, cs', t', f', ha', hbi, hbr, hlow, hdis⟩ := I.ext p _ hSp hmp hal
        rw [ha] at ha'
        simp only [Option.some.injEq, Prod.mk.injEq] at ha'
        obtain ⟨rfl, rfl, rfl⟩ := ha'
        rw [hh]
        refine ⟨R.addThere hbi hbr (fun b y j hb hy hj => ?_), fun b x j hb hx hj => ?_⟩
        · rcases C b y j hb hy hj with h | ⟨i, o, a1, a2, a3, a4⟩
          · exact hdis b y j h hy hj
          · subst a4
            have hSi := h3 i o a1 (by omega) a3
            exact I.ex2 i o p _ j bi hSi a1 a3 hSp hmp hal (by omega) hj hbi
        · by_cases hbn : b = (r.Hh p).next
          · exact .inr ⟨p, _, hmp, by omega, hal, hbn⟩
          · rw [H.get_add_ne _ _ _ hbn] at hb
            exact lift b x j hb hx hj
      · exact absurd ⟨_, ho, by omega, hw⟩ (h4 p hmp (by omega))

theorem wanted_rel (tx : Text ops ms) (hms : MasksOk ops ms) (hmz : ms.size = ops.size) (I : DT r S σ ar)
    {j : Nat} {o : Oper} (ho : ops[j]? = some o) (hS : ¬ S j) (hr : ∀ e ∈ o.after.toList, Region.binds .any e = true → S e.on) :
    Region.wanted o (yielded ops ar.tmps) = Region.wanted o (yielded ops (r.T j)) := by
  unfold Region.wanted
  cases hg : o.guard with
  | none => rfl
  | some q =>
    obtain ⟨g, want⟩ := q
    dsimp only
    have : yielded ops ar.tmps g = yielded ops (r.T j) g := by
      unfold yielded
      cases hd : (ops[g]?).bind (·.dst) with
      | none => rfl
      | some d =>
        have hl : d ∈ Zq.looks ops o := by
          unfold Zq.looks Oper.looksAt
          simp [hg, hd]
        have hv := I.looks tx hms hmz ho hS hr hl
        have hj : j < ops.size := (Array.getElem?_eq_some_iff.1 ho).1
        have hsz := (r.getD tx d j (Nat.le_of_lt hj)).1
        simp only [Option.bind_some]
        by_cases hlt : d < (r.T 0).size
        · have e1 : (r.T j)[d]? = some ((r.T j).getD d undef) := by
            rw [Array.getD_eq_getD_getElem?, Array.getElem?_eq_getElem (by rw [hsz]; exact hlt)]; rfl
          have e2 : ar.tmps[d]? = some (ar.tmps.getD d undef) := by
            rw [Array.getD_eq_getD_getElem?, Array.getElem?_eq_getElem (by rw [← I.sz]; exact hlt)]; rfl
          rw [e1, e2]
          generalize (r.T j).getD d undef = x at hv
          generalize ar.tmps.getD d undef = y at hv
          cases hv <;> rfl
        · rw [Array.getElem?_eq_none (by rw [← I.sz]; exact Nat.le_of_not_lt hlt), Array.getElem?_eq_none (by rw [hsz]; exact Nat.le_of_not_lt hlt)]
    rw [this]

theorem operands_rel (tx : Text ops ms) (hms : MasksOk ops ms) (hmz : ms.size = ops.size) (I : DT r S σ ar) (R : Rel P N P.globals.size σ h w)
    {j : Nat} {o : Oper} (ho : ops[j]? = some o) (hS : ¬ S j) (hr : ∀ e ∈ o.after.toList, Region.binds .any e = true → S e.on) (hc : cleanOps P o = true) :
    ∀ x ∈ o.op.operands, VR σ (tev (r.T j) x) (ar.eval x) := by
  intro x hx
  have hcx : cleanOp P x = true := by
    unfold cleanOps at hc
    exact (Array.all_eq_true'.1 hc) x hx
  cases x with
  | tmp t =>
    refine I.looks tx hms hmz ho hS hr ?_
    unfold Zq.looks Oper.looksAt
    rw [List.mem_append, List.mem_filterMap]
    exact .inl ⟨.tmp t, by simpa using hx, rfl⟩
  | const v => exact VR.clean hcx
  | global g =>
    obtain ⟨i, hi, hb, ho⟩ := R.glob g (by simpa [cleanOp] using hcx)
    have := VR.ptr (o := 0) hi
    rw [hb, ho] at this
    exact this
  | func f => exact .fn _ rfl (fun i h => by simp at h) rfl (fun i h => by simp at h)
end
end
end Go.Proofs.Zq
