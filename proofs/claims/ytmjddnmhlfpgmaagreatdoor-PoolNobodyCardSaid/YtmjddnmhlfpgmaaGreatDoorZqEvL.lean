/- The evaluator is sound: code and calls. -/
import Derived.Test.YtmjddnmhlfpgmaaGreatDoorZqEvK
import Derived.Tactics
namespace Go.Proofs.Zq
variable {P : Program} {N : Nat} {σ : Sg} {h : H} {w : World}

theorem AR.getD {xs xs' : Array Value} (h : AR σ xs xs') (t : Nat) : VR σ (xs.getD t undef) (xs'.getD t undef) := by
  by_cases ht : t < xs.size
  · have ht' : t < xs'.size := by have := h.1; omega
    have e1 : xs.getD t undef = xs[t] := by simp [ht]
    have e2 : xs'.getD t undef = xs'[t] := by simp [ht']
    rw [e1, e2]; exact h.2 t ht ht'
  · have ht' : ¬ t < xs'.size := by have := h.1; omega
    have e1 : xs.getD t undef = undef := by simp [ht]
    have e2 : xs'.getD t undef = undef := by simp [ht']
    rw [e1, e2]; exact VR.undef

theorem tev_rel (R : Rel P N P.globals.size σ h w) {a : Tmps} {ar : Act} (hr : AR σ a ar.tmps) {x : Operand} (hc : cleanOp P x = true) : VR σ (tev a x) (ar.eval x) := by
  cases x with
  | tmp t => exact hr.getD t
  | const v => exact VR.clean hc
  | global g =>
    obtain ⟨i, hi, hb, ho⟩ := R.glob g (by simpa [cleanOp] using hc)
    have := VR.ptr (o := 0) hi
    rw [hb, ho] at this
    exact this
  | func f => exact .fn _ rfl (fun i h => by simp at h) rfl (fun i h => by simp at h)

theorem AR.put {a : Tmps} {ar : Act} (hr : AR σ a ar.tmps) (d : Option Tmp) {v v' : Value} (hv : VR σ v v') : AR σ (tput a d v) (ar.put d v').tmps := by
  cases d with
  | none => exact hr
  | some d => exact hr.setIfInBounds d hv

theorem yielded_rel {ops : Array Oper} {a : Tmps} {ar : Act} (hr : AR σ a ar.tmps) : yielded ops a = yielded ops ar.tmps := by
  funext j
  unfold yielded
  cases (ops[j]?).bind (·.dst) with
  | none => rfl
  | some t =>
    simp only [Option.bind_some]
    by_cases ht : t < a.size
    · have ht' : t < ar.tmps.size := hr.1 ▸ ht
      have := hr.2 t ht ht'
      rw [Array.getElem?_eq_getElem ht, Array.getElem?_eq_getElem ht']
      generalize a[t] = x at this
      generalize ar.tmps[t] = y at this
      cases this <;> rfl
    · have ht' : ¬ t < ar.tmps.size := hr.1 ▸ ht
      rw [Array.getElem?_eq_none (Nat.le_of_not_lt ht), Array.getElem?_eq_none (Nat.le_of_not_lt ht')]

/-- What a call's evaluation promises. -/
def CallOk (P : Program) (cl : FuncId → Array Value → H → Option (Value × H)) : Prop :=
  ∀ f xs h v h', cl f xs h = some (v, h') → ∀ (N : Nat) (σ : Sg) (w : World) (xs' : Array Value), AR σ xs xs' → Rel P N P.globals.size σ h w → Fresh σ h.next h'.next →
    Calls P f xs' w fun e w' => ∃ v', e = .returned v' ∧ After P N P.globals.size σ h w v h' v' w'

/-- Every function that the evaluator enters has a body; none is the one that counts goroutines. -/
def FnOk (P : Program) (O : Orc) : Prop := ∀ f fn, O.fn f = some fn → P.funcs[f]? = some fn

/-- A function that may be called as a plain Go function: it has a body, or it is entered all the same. -/
def Plain (P : Program) (cl : FuncId → Array Value → H → Option (Value × H)) : Prop :=
  ∀ f xs h r, cl f xs h = some r → ∃ fn, P.funcs[f]? = some fn ∧ fn.body.isSome = true ∧ (fn.name == "runtime.NumGoroutine") = false

theorem op_sound' {cl : FuncId → Array Value → H → Option (Value × H)} (hcl : CallOk P cl) (hpl : Plain P cl) (R : Rel P N P.globals.size σ h w) {a : Tmps} {ar : Act} {o : Oper} (hρ0 : cleanOps P o = true → ∀ x ∈ o.op.operands, VR σ (tev a x) (ar.eval x)) {v : Value} {h' : H}
    (hs : opStep P cl o a h = some (v, h')) (hf : Fresh σ h.next h'.next) {K : Act → World → Prop} {Q : Exit → Act → World → Prop}
    (hK : ∀ v' w', After P N P.globals.size σ h w v h' v' w' → K (ar.put o.dst v') w') : o.wp P ar w K Q := by
  unfold opStep at hs
  split at hs <;> try (cases hs; done)
  rename_i hc
  have hρ := hρ0 hc
  unfold Oper.wp
  split at hs
  · split at hs <;> try (cases hs; done)
    rename_i v0 hp
    simp only [Option.some.injEq, Prod.mk.injEq] at hs
    obtain ⟨rfl, rfl⟩ := hs
    obtain ⟨v', run, hv⟩ := pop_sound hρ hp w
    rw [run]
    exact hK v' w ⟨σ, hv, R, Kept.refl _ _ _⟩
  · split at hs <;> try (cases hs; done)
    rename_i v0 hp
    simp only [Option.some.injEq, Prod.mk.injEq] at hs
    obtain ⟨rfl, rfl⟩ := hs
    obtain ⟨v', run, hv⟩ := rop_sound R hρ hp
    rw [run]
    exact hK v' w ⟨σ, hv, R, Kept.refl _ _ _⟩
  · split at hs <;> try (cases hs; done)
    rename_i cs t f hp
    simp only [Option.some.injEq, Prod.mk.injEq] at hs
    obtain ⟨rfl, rfl⟩ := hs
    obtain ⟨rc, v', run, hl, hv⟩ := aop_sound (P := P) (w := w) hρ hp
    rw [run]
    have hf0 : σ h.next = none := hf _ (Nat.le_refl _) (by simp)
    have hg := Grew.alloc (w := w) (.cells rc t)
    have hm := upd_mono (i := ⟨w.heap.size, 0, rc.size, 0⟩) hf0
    obtain ⟨R', K'⟩ := R.add hf0 hg (i := ⟨w.heap.size, 0, rc.size, 0⟩) (x := .cells cs t true false) rfl
      (by
        have := BR.newRow (P := P) (N := N) (σ' := upd σ h.next ⟨w.heap.size, 0, rc.size, 0⟩) (w := w) (cs := cs) (cs' := rc.toList) (rest := []) (e := t) (re := t) (opn := false) (esz := 0) R.low (by simpa using hg) (hl.mono hm) (fun h => absurd rfl h)
        simpa using this)
    exact hK _ _ ⟨_, hv _ _ _ (upd_same _ _) rfl, R', K'⟩
  · split at hs
    · rename_i f args ats hop
      split at hs <;> try (cases hs; done)
      rename_i g xs hcal
      unfold callee at hcal
      dsimp only at hcal
      split at hcal <;> try (cases hcal; done)
      rename_i g' first captured hfv
      simp only [Option.some.injEq, Prod.mk.injEq] at hcal
      obtain ⟨rfl, rfl⟩ := hcal
      have hfr := hρ f (by rw [hop]; simp [Op.operands, Call.operands])
      rw [hfv] at hfr
      generalize hfe : ar.eval f = fv at hfr
      cases hfr with
      | fn _ h1 h2 h3 h4 =>
        rename_i first' captured'
        obtain ⟨fn, hfn, hbody, hname⟩ := hpl _ _ _ _ hs
        have hargs : AR σ (args.map (tev a)) (args.map ar.eval) := AR.map args (fun x hx => hρ x (by rw [hop]; simp [Op.operands, Call.operands, hx]))
        have hall : AR σ (first ++ args.map (tev a) ++ captured) (first' ++ args.map ar.eval ++ captured') := (AR.append ⟨h1, h2⟩ hargs).append ⟨h3, h4⟩
        have hb : ¬ fn.body = none := by cases hq : fn.body <;> simp [hq] at hbody ⊢
        have hname' : ¬ fn.name = "runtime.NumGoroutine" := by simpa using hname
        have run : (execOp ar.eval o).run P w = .ok (.enter g' (first' ++ args.map ar.eval ++ captured')) w := by
          simp [execOp, hop, resolve, hfe, Deferred.ofValue, invoke, callFunc, hfn, hname', hb]
        rw [run, Oper.upon_enter]
        refine (hcl _ _ _ _ _ hs N σ w _ hall R hf).mono ?_
        rintro e w' ⟨v', rfl, hA⟩
        exact hK v' w' hA
    · obtain ⟨nx, v', w', run, hnx, hA⟩ := xop_sound R hρ hs hf
      rw [run]
      rcases hnx with rfl | ⟨rfl, rfl⟩
      · exact hK v' w' hA
      · exact hK undef w' hA

theorem op_sound {cl : FuncId → Array Value → H → Option (Value × H)} (hcl : CallOk P cl) (hpl : Plain P cl) (R : Rel P N P.globals.size σ h w) {a : Tmps} {ar : Act} (hr : AR σ a ar.tmps) {o : Oper} {v : Value} {h' : H}
    (hs : opStep P cl o a h = some (v, h')) (hf : Fresh σ h.next h'.next) {K : Act → World → Prop} {Q : Exit → Act → World → Prop}
    (hK : ∀ v' w', After P N P.globals.size σ h w v h' v' w' → K (ar.put o.dst v') w') : o.wp P ar w K Q :=
  op_sound' hcl hpl R (fun hc x hx => tev_rel R hr (by
    unfold cleanOps at hc
    exact (Array.all_eq_true'.1 hc) x hx)) hs hf hK

/-- How the evaluator's code ends. -/
def Ext.up : Ext → Exit
  | .normal => .normal
  | .exit id => .exit id
  | .ret => .ret

/-- What is left behind a piece of code. -/
def Left (P : Program) (N : Nat) (σ : Sg) (h : H) (w : World) (e : Ext) (a : Tmps) (h' : H) (ex : Exit) (ar : Act) (w' : World) : Prop :=
  ex = e.up ∧ ar.defers = [] ∧ ∃ σ', AR σ' a ar.tmps ∧ Rel P N P.globals.size σ' h' w' ∧ Kept σ h w σ' h' w'

def CodeOk (P : Program) (ex : Code → Tmps → H → Option (Ext × Tmps × H)) : Prop :=
  ∀ c a h e a' h', ex c a h = some (e, a', h') → ∀ (N : Nat) (σ : Sg) (w : World) (ar : Act), AR σ a ar.tmps → ar.defers = [] → Rel P N P.globals.size σ h w → Fresh σ h.next h'.next →
    c.wp P (Left P N σ h w e a' h') ar w

def OpsOk (P : Program) (rn : List Oper → Tmps → H → Array Oper → Option (Tmps × H)) : Prop :=
  ∀ os a h all a' h', rn os a h all = some (a', h') → ∀ (N : Nat) (σ : Sg) (w : World) (ar : Act), AR σ a ar.tmps → ar.defers = [] → Rel P N P.globals.size σ h w → Fresh σ h.next h'.next →
    wpList P all (Left P N σ h w .normal a' h') os ar w

theorem put_defers (ar : Act) (d : Option Tmp) (v : Value) : (ar.put d v).defers = ar.defers := by cases d <;> rfl

theorem wpList_mono {all : Array Oper} {Q Q' : Exit → Act → World → Prop} (hq : ∀ e a w, Q e a w → Q' e a w) : ∀ (os : List Oper) (a : Act) (w : World), wpList P all Q os a w → wpList P all Q' os a w
  | [], a, w, h => hq _ _ _ h
  | o :: os, a, w, h => by
    unfold wpList at h ⊢
    split
    · rename_i hw
      rw [if_pos hw] at h
      rcases h with h | ⟨h1, h2⟩
      · refine .inl ?_
        have ih := wpList_mono (all := all) hq os
        unfold Oper.wp at h ⊢
        generalize (execOp a.eval o).run P w = r at h ⊢
        cases r with
        | ok n w' =>
          cases n <;> simp only [Oper.upon] at h ⊢ <;> first
            | exact ih _ _ h
            | exact Calls.mono h (fun e w'' he => by
                cases e with
                | returned v => exact ih _ _ he
                | panicked c => exact hq _ _ _ he
                | outgrown => obtain ⟨a0, w0, h0⟩ := he; exact ⟨a0, w0, hq _ _ _ h0⟩)
            | exact Rows.mono h (fun _ _ he => ih _ _ he)
        | halt x w' => cases x <;> simp only [Oper.upon] at h ⊢ <;> first | exact hq _ _ _ h | exact h
      · obtain ⟨a0, w0, h0⟩ := h2
        exact .inr ⟨h1, a0, w0, hq _ _ _ h0⟩
    · rename_i hw
      rw [if_neg hw] at h
      exact wpList_mono hq os _ _ h

theorem Left.step {σ σ1 : Sg} {h h1 h' : H} {w w1 w' : World} {e : Ext} {a' : Tmps} {ex : Exit} {ar : Act} (k : Kept σ h w σ1 h1 w1) (l : Left P N σ1 h1 w1 e a' h' ex ar w') : Left P N σ h w e a' h' ex ar w' := by
  obtain ⟨h1, h2, σ', h3, h4, h5⟩ := l
  exact ⟨h1, h2, σ', h3, h4, k.trans h5⟩

/-- What an evaluation leaves has no lower next number. -/
def NextUp (cl : FuncId → Array Value → H → Option (Value × H)) : Prop := ∀ f xs h v h', cl f xs h = some (v, h') → h.next ≤ h'.next

theorem write_next {b off : Nat} {vs : List Value} {h' : H} (hw : h.write b off vs = some h') : h'.next = h.next := by
  unfold H.write at hw
  split at hw <;> try (cases hw; done)
  split at hw <;> try (cases hw; done)
  injection hw with hw; subst hw; rfl

theorem append1_next {e bytes sz n : Nat} {vs : List Value} {s v : Value} {h' : H} (ha : append1 P h e bytes sz n vs s = some (v, h')) : h.next ≤ h'.next := by
  unfold append1 at ha
  split at ha <;> try (cases ha; done)
  · split at ha
    · simp only [Option.some.injEq, Prod.mk.injEq] at ha; obtain ⟨_, rfl⟩ := ha; exact Nat.le_refl _
    · split at ha <;> try (cases ha; done)
      simp only [Option.some.injEq, Prod.mk.injEq] at ha; obtain ⟨_, rfl⟩ := ha; simp
  · split at ha
    · simp only [Option.map_eq_some_iff, Prod.mk.injEq] at ha
      obtain ⟨h1, hw, _, rfl⟩ := ha
      exact Nat.le_of_eq (write_next hw).symm
    · split at ha <;> try (cases ha; done)
      split at ha <;> try (cases ha; done)
      split at ha
      · split at ha <;> try (cases ha; done)
        simp only [Option.some.injEq, Prod.mk.injEq] at ha; obtain ⟨_, rfl⟩ := ha; simp
      · simp only [Option.some.injEq, Prod.mk.injEq] at ha; obtain ⟨_, rfl⟩ := ha; simp

theorem xop_next {ρ : Operand → Value} {o : Oper} {v : Value} {h' : H} (hx : xop P h ρ o = some (v, h')) : h.next ≤ h'.next := by
  unfold xop at hx
  split at hx <;> try (cases hx; done)
  · split at hx <;> try (cases hx; done)
    split at hx <;> try (cases hx; done)
    simp only [Option.map_eq_some_iff, Prod.mk.injEq] at hx
    obtain ⟨h1, hw, _, rfl⟩ := hx
    exact Nat.le_of_eq (write_next hw).symm
  · split at hx <;> try (cases hx; done)
    split at hx <;> try (cases hx; done)
    split at hx <;> try (cases hx; done)
    split at hx <;> try (cases hx; done)
    split at hx <;> try (cases hx; done)
    split at hx <;> try (cases hx; done)
    split at hx <;> try (cases hx; done)
    exact append1_next hx
  · split at hx <;> try (cases hx; done)
    simp only [Option.some.injEq, Prod.mk.injEq] at hx; obtain ⟨_, rfl⟩ := hx; simp
  · split at hx <;> try (cases hx; done)
    split at hx <;> try (cases hx; done)
    split at hx <;> try (cases hx; done)
    simp only [Option.some.injEq, Prod.mk.injEq] at hx; obtain ⟨_, rfl⟩ := hx; exact Nat.le_refl _
  · split at hx <;> try (cases hx; done)
    split at hx <;> try (cases hx; done)
    split at hx <;> try (cases hx; done)
    simp only [Option.some.injEq, Prod.mk.injEq] at hx; obtain ⟨_, rfl⟩ := hx; simp

theorem opStep_next {cl : FuncId → Array Value → H → Option (Value × H)} (hn : NextUp cl) {o : Oper} {a : Tmps} {v : Value} {h' : H} (hs : opStep P cl o a h = some (v, h')) : h.next ≤ h'.next := by
  unfold opStep at hs
  split at hs <;> try (cases hs; done)
  split at hs
  · split at hs <;> try (cases hs; done)
    simp only [Option.some.injEq, Prod.mk.injEq] at hs; obtain ⟨_, rfl⟩ := hs; exact Nat.le_refl _
  · split at hs <;> try (cases hs; done)
    simp only [Option.some.injEq, Prod.mk.injEq] at hs; obtain ⟨_, rfl⟩ := hs; exact Nat.le_refl _
  · split at hs <;> try (cases hs; done)
    simp only [Option.some.injEq, Prod.mk.injEq] at hs; obtain ⟨_, rfl⟩ := hs; simp
  · split at hs
    · split at hs <;> try (cases hs; done)
      exact hn _ _ _ _ _ hs
    · exact xop_next hs
end Go.Proofs.Zq
