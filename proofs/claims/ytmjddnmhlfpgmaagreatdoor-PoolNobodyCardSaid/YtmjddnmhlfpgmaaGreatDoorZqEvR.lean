/- The fast evaluator's code. -/
import Derived.Test.YtmjddnmhlfpgmaaGreatDoorZqEvQ
namespace Go.Proofs.Zq
variable {P : Program} {O : Orc}

noncomputable def fwanted (all : Array Oper) (o : Oper) (t : T) : Bool :=
  match o.guard with
  | none => true
  | some (j, want) => (match all[j]? with
    | some g => (match g.dst with
      | some d => (match (fget (pth d) t).getD undef with
        | .bool b => bif b then want else !want
        | _ => false)
      | none => false)
    | none => false)
theorem fwanted_eq {sz : Nat} {t : T} {a : Tmps} (hr : Rep sz t a) (all : Array Oper) (o : Oper) : fwanted all o t = Region.wanted o (yielded all a) := by
  unfold fwanted Region.wanted
  cases o.guard with
  | none => rfl
  | some q =>
    obtain ⟨j, want⟩ := q
    dsimp only
    unfold yielded
    cases all[j]? with
    | none => rfl
    | some g =>
      cases hd : g.dst with
      | none => simp [hd]
      | some d =>
        simp only [Option.bind_some, hd]
        rw [hr.2 d, Array.getD_eq_getD_getElem?]
        cases a[d]? with
        | none => simp [undef]
        | some v =>
          simp only [Option.getD_some]
          cases v <;> first | rfl | (rename_i b; cases b <;> cases want <;> rfl)

structure FRec where
  ρ : Operand → Value
  w : Bool
  h : H
  v : Value

noncomputable def fops (P : Program) (cl : FCl) (sz : Nat) (all : Array Oper) : List Oper → T → H → Option (T × H)
  | [], t, h => some (t, h)
  | o :: os, t, h =>
    bif fwanted all o t then
      (match fstep P cl o t h with
      | some (v, h) => fops P cl sz all os (tputT sz t o.dst v) h
      | none => none)
    else fops P cl sz all os (tputT sz t o.dst undef) h
noncomputable def ftrace (P : Program) (cl : FCl) (sz : Nat) (all : Array Oper) : List Oper → T → H → Option (List FRec × T × H)
  | [], t, h => some ([], t, h)
  | o :: os, t, h =>
    bif fwanted all o t then
      (match fstep P cl o t h with
      | some (v, h1) => (match ftrace P cl sz all os (tputT sz t o.dst v) h1 with
        | some (rs, t2, h2) => some (⟨tevT t, true, h, v⟩ :: rs, t2, h2)
        | none => none)
      | none => none)
    else (match ftrace P cl sz all os (tputT sz t o.dst undef) h with
      | some (rs, t2, h2) => some (⟨tevT t, false, h, undef⟩ :: rs, t2, h2)
      | none => none)
def fheapAt (rs : List FRec) (hf : H) (m : Nat) : H := match rs[m]? with | some r => r.h | none => hf
def feffAt (P : Program) (ops : Array Oper) (rs : List FRec) (e : Nat) : Bool :=
  match ops[e]?, rs[e]? with
  | some o, some r => kindOf P o == 3 && r.w
  | _, _ => false
def fdrawReads (P : Program) (ops : Array Oper) (ms : Array Nat) (rs : List FRec) (hf : H) : Bool :=
  (List.range ops.size).all fun j => match ops[j]?, rs[j]? with
    | some o, some r =>
      kindOf P o != 1 || !r.w ||
      (List.range (ops.size + 1)).all fun m =>
        (m != 0 && !feffAt P ops rs (m - 1)) ||
        ((List.range ops.size).any fun e => feffAt P ops rs e && (((ms.getD j 0).testBit e && m ≤ e) || ((ms.getD e 0).testBit j && e < m))) ||
        (match rop P (fheapAt rs hf m) r.ρ o with | some v => veq v r.v | none => false)
    | _, _ => false

/-- The two ways of writing a run down. -/
def Corr (all : Array Oper) : List Oper → List Rec → List FRec → Prop
  | [], [], [] => True
  | o :: os, r :: rs, f :: fs => f.ρ = tev r.a ∧ f.w = Region.wanted o (yielded all r.a) ∧ f.h = r.h ∧ f.v = r.v ∧ Corr all os rs fs
  | _, _, _ => False

theorem Corr.at {all : Array Oper} : ∀ {os : List Oper} {rs : List Rec} {fs : List FRec}, Corr all os rs fs → ∀ (i : Nat), (fs[i]? = none ∧ rs[i]? = none ∧ os[i]? = none) ∨
    ∃ o r f, os[i]? = some o ∧ rs[i]? = some r ∧ fs[i]? = some f ∧ f.ρ = tev r.a ∧ f.w = Region.wanted o (yielded all r.a) ∧ f.h = r.h ∧ f.v = r.v
  | [], [], [], _, i => .inl ⟨rfl, rfl, rfl⟩
  | o :: os, r :: rs, f :: fs, ⟨h1, h2, h3, h4, h5⟩, i => by
    cases i with
    | zero => exact .inr ⟨o, r, f, rfl, rfl, rfl, h1, h2, h3, h4⟩
    | succ i => exact h5.at i

theorem fdrawReads_ok {ops : Array Oper} {ms : Array Nat} {rs : List Rec} {fs : List FRec} {hf : H} (hc : Corr ops ops.toList rs fs) (h : fdrawReads P ops ms fs hf = true) : drawReads P ops ms rs hf = true := by
  have hh : ∀ m, fheapAt fs hf m = heapAt rs hf m := fun m => by
    unfold fheapAt heapAt
    rcases hc.at m with ⟨h1, h2, _⟩ | ⟨o, r, f, _, h2, h3, _, _, h6, _⟩
    · rw [h1, h2]
    · rw [h2, h3]; exact h6
  have he : ∀ e, feffAt P ops fs e = effAt P ops rs e := fun e => by
    unfold feffAt effAt
    rcases hc.at e with ⟨h1, h2, h3⟩ | ⟨o, r, f, h1, h2, h3, _, h5, _, _⟩
    · rw [h1, h2]
      cases ops[e]? <;> rfl
    · have : ops[e]? = some o := by simpa using h1
      rw [this, h2, h3]
      dsimp only
      rw [h5]
  unfold fdrawReads at h
  unfold drawReads
  rw [List.all_eq_true] at h ⊢
  intro j hj
  have := h j hj
  rcases hc.at j with ⟨h1, h2, h3⟩ | ⟨o, r, f, h1, h2, h3, h4, h5, h6, h7⟩
  · rw [h1] at this
    cases hq : ops[j]? with
    | none => rw [hq] at this; cases this
    | some o => rw [hq] at this; cases this
  · have ho : ops[j]? = some o := by simpa using h1
    rw [ho, h3] at this
    rw [ho, h2]
    simp only [hh, he, h4, h5, h7] at this
    exact this

theorem fops_ok {cl : FCl} (hcl : EvOk P O cl) {sz : Nat} {all : Array Oper} : ∀ {os : List Oper} {t : T} {h : H} {a : Tmps} {r : T × H}, Rep sz t a → fops P cl sz all os t h = some r → ∃ a', Rn P O os a h all (a', r.2) ∧ Rep sz r.1 a'
  | [], t, h, a, r, hr, hs => by
    simp only [fops, Option.some.injEq] at hs; subst hs
    exact ⟨a, Rn.nil, hr⟩
  | o :: os, t, h, a, r, hr, hs => by
    simp only [fops] at hs
    rw [fwanted_eq hr] at hs
    cases hw : Region.wanted o (yielded all a) with
    | true =>
      rw [hw, cond_true] at hs
      split at hs <;> try (cases hs; done)
      rename_i v h1 ho
      obtain ⟨a', h2, h3⟩ := fops_ok hcl (hr.put o.dst v) hs
      exact ⟨a', Rn.cons hw (fstep_ok hcl hr ho) h2, h3⟩
    | false =>
      rw [hw, cond_false] at hs
      obtain ⟨a', h2, h3⟩ := fops_ok hcl (hr.put o.dst undef) hs
      exact ⟨a', Rn.skip hw h2, h3⟩
theorem ftrace_ok {cl : FCl} (hcl : EvOk P O cl) {sz : Nat} {all : Array Oper} : ∀ {os : List Oper} {t : T} {h : H} {a : Tmps} {fs : List FRec} {r : T × H}, Rep sz t a → ftrace P cl sz all os t h = some (fs, r) →
    ∃ rs a', Tr P O os a h all (rs, a', r.2) ∧ Rep sz r.1 a' ∧ Corr all os rs fs
  | [], t, h, a, fs, r, hr, hs => by
    simp only [ftrace, Option.some.injEq, Prod.mk.injEq] at hs; obtain ⟨rfl, rfl⟩ := hs
    exact ⟨[], a, Tr.nil, hr, trivial⟩
  | o :: os, t, h, a, fs, r, hr, hs => by
    simp only [ftrace] at hs
    rw [fwanted_eq hr] at hs
    cases hw : Region.wanted o (yielded all a) with
    | true =>
      rw [hw, cond_true] at hs
      split at hs <;> try (cases hs; done)
      rename_i v h1 ho
      split at hs <;> try (cases hs; done)
      rename_i fs' t2 h2 ht
      simp only [Option.some.injEq, Prod.mk.injEq] at hs; obtain ⟨rfl, rfl⟩ := hs
      obtain ⟨rs, a', h3, h4, h5⟩ := ftrace_ok hcl (hr.put o.dst v) ht
      exact ⟨_, a', Tr.cons hw (fstep_ok hcl hr ho) h3, h4, hr.tev, hw.symm, rfl, rfl, h5⟩
    | false =>
      rw [hw, cond_false] at hs
      split at hs <;> try (cases hs; done)
      rename_i fs' t2 h2 ht
      simp only [Option.some.injEq, Prod.mk.injEq] at hs; obtain ⟨rfl, rfl⟩ := hs
      obtain ⟨rs, a', h3, h4, h5⟩ := ftrace_ok hcl (hr.put o.dst undef) ht
      exact ⟨_, a', Tr.skip hw h3, h4, hr.tev, hw.symm, rfl, rfl, h5⟩

def floop (f : T → H → Option (Ext × T × H)) : Nat → T → H → Option (Ext × T × H)
  | 0, _, _ => none
  | n + 1, t, h => match f t h with
    | some (.normal, t, h) => floop f n t h
    | r => r

/-- N: so many rounds a loop may take. -/
noncomputable def fexec (P : Program) (cl : FCl) (N sz : Nat) : Code → T → H → Option (Ext × T × H)
  | .skip, t, h => some (.normal, t, h)
  | .label _, t, h => some (.normal, t, h)
  | .seq x y, t, h => (match fexec P cl N sz x t h with
    | some (.normal, t, h) => fexec P cl N sz y t h
    | r => r)
  | .cond c x y, t, h => bif cleanOp P c then (match tevT t c with
    | .bool b => bif b then fexec P cl N sz x t h else fexec P cl N sz y t h
    | _ => none) else none
  | .block id b, t, h => (match fexec P cl N sz b t h with
    | some (.exit id', t, h) => bif Nat.beq id' id then some (.normal, t, h) else some (.exit id', t, h)
    | r => r)
  | .loop b, t, h => floop (fexec P cl N sz b) N t h
  | .exit id, t, h => some (.exit id, t, h)
  | .ret, t, h => some (.ret, t, h)
  | .region _ ops draw, t, h =>
    bif draw then (match ftrace P cl sz ops ops.toList t h with
      | some (rs, t, h) => bif litText P ops (masks ops.toList #[]) sz || drawText P ops (masks ops.toList #[]) && (readsFirst P ops (masks ops.toList #[]) || fdrawReads P ops (masks ops.toList #[]) rs h) then some (.normal, t, h) else none
      | none => none)
    else (match fops P cl sz ops ops.toList t h with
      | some (t, h) => some (.normal, t, h)
      | none => none)
  | _, _, _ => none

noncomputable def tofL : List Value → Nat → T → T
  | [], _, t => t
  | x :: xs, i, t => tofL xs (i + 1) (fput (some x) (pth i) t)

noncomputable def fres (P : Program) (h : H) (t : T) : ResultVar → Option Value
  | .tmp k => some ((fget (pth k) t).getD undef)
  | .cell p ty => (match (fget (pth p) t).getD undef with
    | .pointer (some ⟨b, off, none⟩) => (match pagg P ty, psz P ty with
      | some true, some n => (match h.cells b off n with | some cs => some (.agg cs.toArray) | none => none)
      | some false, _ => (match h.cells b off 1 with | some [v] => some v | _ => none)
      | _, _ => none)
    | _ => none)
noncomputable def fress (P : Program) (h : H) (t : T) : List ResultVar → Option (List Value)
  | [] => some []
  | x :: xs => (match fres P h t x with
    | some v => (match fress P h t xs with
      | some vs => some (v :: vs)
      | none => none)
    | none => none)

noncomputable def fcall (P : Program) (O : Orc) (N : Nat) : Nat → FCl
  | 0, _, _, _ => none
  | n + 1, f, xs, h =>
    match O.or f xs.toArray h with
    | some r => some r
    | none => (match O.fn f with
      | some fn => (match fn.body with
        | some body =>
          bif Nat.ble xs.length fn.ntmps then
            (match fexec P (fcall P O N n) N fn.ntmps body (tofL xs 0 .nil) h with
            | some (.exit _, _, _) => none
            | some (_, t, h) => (match fress P h t fn.results.toList with
              | some [v] => some (v, h)
              | some vs => some (.tuple vs.toArray, h)
              | none => none)
            | none => none)
          else none
        | none => none)
      | none => none)

theorem floop_ok {sz : Nat} {f : T → H → Option (Ext × T × H)} {b : Code} (hf : ∀ {t h a r}, Rep sz t a → f t h = some r → ∃ a', Ex P O b a h (r.1, a', r.2.2) ∧ Rep sz r.2.1 a') :
    ∀ (n : Nat) {t : T} {h : H} {a : Tmps} {r : Ext × T × H}, Rep sz t a → floop f n t h = some r → ∃ a', Ex P O (.loop b) a h (r.1, a', r.2.2) ∧ Rep sz r.2.1 a'
  | 0, t, h, a, r, _, hs => by simp [floop] at hs
  | n + 1, t, h, a, r, hr, hs => by
    simp only [floop] at hs
    split at hs
    · rename_i t1 h1 hx
      obtain ⟨a1, e1, r1⟩ := hf hr hx
      obtain ⟨a2, e2, r2⟩ := floop_ok hf n r1 hs
      exact ⟨a2, Ex.loop e1 e2, r2⟩
    · rename_i hne
      obtain ⟨a1, e1, r1⟩ := hf hr hs
      refine ⟨a1, Ex.loop_out e1 (fun h => ?_), r1⟩
      obtain ⟨e, t1, h1⟩ := r
      dsimp only at h
      subst h
      exact hne _ _ hs

theorem fexec_ok {cl : FCl} (hcl : EvOk P O cl) {N sz : Nat} : ∀ (c : Code) {t : T} {h : H} {a : Tmps} {r : Ext × T × H}, Rep sz t a → fexec P cl N sz c t h = some r → ∃ a', Ex P O c a h (r.1, a', r.2.2) ∧ Rep sz r.2.1 a' := by
  intro c
  induction c with
  | skip => intro t h a r hr hs; simp only [fexec, Option.some.injEq] at hs; subst hs; exact ⟨a, Ex.skip, hr⟩
  | label l => intro t h a r hr hs; simp only [fexec, Option.some.injEq] at hs; subst hs; exact ⟨a, Ex.label, hr⟩
  | exit id => intro t h a r hr hs; simp only [fexec, Option.some.injEq] at hs; subst hs; exact ⟨a, Ex.exit, hr⟩
  | ret => intro t h a r hr hs; simp only [fexec, Option.some.injEq] at hs; subst hs; exact ⟨a, Ex.ret, hr⟩
  | seq x y ihx ihy =>
    intro t h a r hr hs
    simp only [fexec] at hs
    split at hs
    · rename_i t1 h1 hx
      obtain ⟨a1, e1, r1⟩ := ihx hr hx
      obtain ⟨a2, e2, r2⟩ := ihy r1 hs
      exact ⟨a2, Ex.seq e1 e2, r2⟩
    · rename_i hne
      obtain ⟨a1, e1, r1⟩ := ihx hr hs
      refine ⟨a1, Ex.seq_out e1 (fun h => ?_), r1⟩
      obtain ⟨e, t1, h1⟩ := r
      dsimp only at h
      subst h
      exact hne _ _ hs
  | cond c x y ihx ihy =>
    intro t h a r hr hs
    simp only [fexec] at hs
    cases hc : cleanOp P c with
    | false => rw [hc] at hs; cases hs
    | true =>
      rw [hc, cond_true, hr.tev] at hs
      split at hs <;> try (cases hs; done)
      rename_i b hb
      cases b with
      | true =>
        obtain ⟨a1, e1, r1⟩ := ihx hr hs
        exact ⟨a1, Ex.cond_true hc hb e1, r1⟩
      | false =>
        obtain ⟨a1, e1, r1⟩ := ihy hr hs
        exact ⟨a1, Ex.cond_false hc hb e1, r1⟩
  | block id b ih =>
    intro t h a r hr hs
    simp only [fexec] at hs
    split at hs
    · rename_i id' t1 h1 hx
      obtain ⟨a1, e1, r1⟩ := ih hr hx
      have e2 := Ex.block (id := id) e1
      cases hb : Nat.beq id' id with
      | true =>
        rw [hb, cond_true] at hs
        injection hs with hs; subst hs
        have := Nat.eq_of_beq_eq_true hb
        subst this
        simp only [inBlk, if_true] at e2
        exact ⟨a1, e2, r1⟩
      | false =>
        rw [hb, cond_false] at hs
        injection hs with hs; subst hs
        have : id' ≠ id := Nat.ne_of_beq_eq_false hb
        simp only [inBlk, if_neg this] at e2
        exact ⟨a1, e2, r1⟩
    · rename_i hne
      obtain ⟨a1, e1, r1⟩ := ih hr hs
      have e2 := Ex.block (id := id) e1
      obtain ⟨e, t1, h1⟩ := r
      cases e with
      | exit id' => exact (hne _ _ _ hs).elim
      | normal => exact ⟨a1, e2, r1⟩
      | ret => exact ⟨a1, e2, r1⟩
  | loop b ih =>
    intro t h a r hr hs
    simp only [fexec] at hs
    exact floop_ok (fun {t h a r} hr hs => ih hr hs) N hr hs
  | region id ops draw =>
    intro t h a r hr hs
    simp only [fexec] at hs
    cases draw with
    | true =>
      rw [cond_true] at hs
      split at hs <;> try (cases hs; done)
      rename_i rs t1 h1 hx
      obtain ⟨recs, a1, e1, r1, c1⟩ := ftrace_ok hcl hr hx
      cases hd : (litText P ops (masks ops.toList #[]) sz || drawText P ops (masks ops.toList #[]) && (readsFirst P ops (masks ops.toList #[]) || fdrawReads P ops (masks ops.toList #[]) rs h1)) with
      | false => rw [hd] at hs; cases hs
      | true =>
        rw [hd, cond_true] at hs
        injection hs with hs; subst hs
        simp only [Bool.or_eq_true, Bool.and_eq_true] at hd
        refine ⟨a1, Ex.draw e1 ?_, r1⟩
        rw [hr.1]
        rcases hd with hd | ⟨hd, hd2 | hd2⟩
        · rw [hd, Bool.or_true]
        · rw [hd, hd2]; rfl
        · rw [hd, fdrawReads_ok c1 hd2, Bool.or_true]; rfl
    | false =>
      rw [cond_false] at hs
      split at hs <;> try (cases hs; done)
      rename_i t1 h1 hx
      injection hs with hs; subst hs
      obtain ⟨a1, e1, r1⟩ := fops_ok hcl hr hx
      exact ⟨a1, Ex.region e1, r1⟩
  | _ => intro t h a r hr hs; simp [fexec] at hs

theorem get_tofL : ∀ (xs : List Value) (i : Nat) (t : T) (k : Nat), fget (pth k) (tofL xs i t) = if i ≤ k ∧ k < i + xs.length then xs[k - i]? else fget (pth k) t
  | [], i, t, k => by simp [tofL]; omega
  | x :: xs, i, t, k => by
    simp only [tofL]
    rw [get_tofL xs (i + 1)]
    by_cases h1 : i + 1 ≤ k ∧ k < i + 1 + xs.length
    · rw [if_pos h1, if_pos (by simp; omega)]
      have : k - i = (k - (i + 1)) + 1 := by omega
      rw [this, List.getElem?_cons_succ]
    · rw [if_neg h1]
      by_cases hk : k = i
      · subst hk
        rw [fget_put_same, if_pos (by simp)]
        simp
      · rw [fget_put_ne _ _ _ _ (fun e => hk (pth_inj e)), if_neg (by simp; omega)]

theorem rep_start (xs : List Value) (n : Nat) (h : xs.length ≤ n) : Rep n (tofL xs 0 .nil) (xs.toArray ++ Array.replicate (n - xs.toArray.size) undef) := by
  refine ⟨by simp; omega, fun k => ?_⟩
  rw [get_tofL, Array.getD_eq_getD_getElem?, Array.getElem?_append]
  by_cases hk : k < xs.length
  · rw [if_pos (by omega), if_pos (by simpa using hk)]
    simp
  · rw [if_neg (by omega), if_neg (by simpa using hk)]
    have : fget (pth k) .nil = none := by cases pth k <;> rfl
    simp only [this, Option.getD_none]
    by_cases h2 : k - xs.toArray.size < n - xs.toArray.size
    · simp only [Array.getElem?_replicate, if_pos h2, Option.getD_some]
    · simp only [Array.getElem?_replicate, if_neg h2, Option.getD_none]

theorem fres_eq {sz : Nat} {t : T} {a : Tmps} (hr : Rep sz t a) (h : H) (x : ResultVar) : fres P h t x = resOf P h a x := by
  cases x with
  | tmp k => simp only [fres, resOf, hr.2 k]
  | cell p ty => simp only [fres, resOf, hr.2 p]; rfl
theorem fress_eq {sz : Nat} {t : T} {a : Tmps} (hr : Rep sz t a) (h : H) : ∀ (l : List ResultVar), fress P h t l = l.mapM (resOf P h a)
  | [] => rfl
  | x :: l => by
    simp only [fress, List.mapM_cons, fres_eq hr, fress_eq hr h l]
    cases resOf P h a x with
    | none => rfl
    | some v => cases List.mapM (resOf P h a) l <;> rfl

theorem fcall_ok {N : Nat} : ∀ n, EvOk P O (fcall P O N n) := by
  intro n
  induction n with
  | zero => intro f xs h r hs; simp [fcall] at hs
  | succ n ih =>
    intro f xs h r hs
    simp only [fcall] at hs
    split at hs
    · rename_i r' ho
      injection hs with hs; subst hs
      exact Ev.or ho
    · rename_i ho
      split at hs <;> try (cases hs; done)
      rename_i fn hf
      split at hs <;> try (cases hs; done)
      rename_i body hb
      cases hl : Nat.ble xs.length fn.ntmps with
      | false => rw [hl] at hs; cases hs
      | true =>
        rw [hl, cond_true] at hs
        have hl' : xs.length ≤ fn.ntmps := Nat.le_of_ble_eq_true hl
        split at hs <;> try (cases hs; done)
        rename_i e t h1 hne hx
        obtain ⟨a1, e1, r1⟩ := fexec_ok ih body (rep_start xs fn.ntmps hl') hx
        rw [fress_eq r1] at hs
        have hres : ∃ v, resV P fn a1 h1 = some v ∧ r = (v, h1) := by
          unfold resV
          revert hs
          generalize List.mapM (resOf P h1 a1) fn.results.toList = q
          intro hs
          rcases q with _ | (_ | ⟨u, _ | ⟨u2, us⟩⟩) <;> simp_all
        obtain ⟨v, hv, rfl⟩ := hres
        exact Ev.body ho hf hb e1 (fun id h => hne id h) hv

/-- What the kernel finds. -/
theorem ev_of_fcall {N n : Nat} {f : FuncId} {xs : List Value} {h : H} {r : Value × H} (hs : fcall P O N n f xs h = some r) : Ev P O f xs.toArray h r := fcall_ok n f xs h r hs
end Go.Proofs.Zq
