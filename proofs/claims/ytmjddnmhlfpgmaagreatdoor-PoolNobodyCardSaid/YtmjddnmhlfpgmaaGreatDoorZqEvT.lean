/- What holds behind a piece of code, said of the evaluator's own states: where an order or a choice is left open, of each. -/
import Derived.Test.YtmjddnmhlfpgmaaGreatDoorZqEvP
namespace Go.Proofs.Zq
variable {P : Program} {O : Orc}

def Free (σ : Sg) (n : Nat) : Prop := ∀ k, n ≤ k → σ k = none
theorem Free.fresh {σ : Sg} {n m : Nat} (h : Free σ n) : Fresh σ n m := fun k h1 _ => h k h1
theorem Free.kept {σ σ' : Sg} {h h' : H} {w w' : World} (f : Free σ h.next) (k : Kept σ h w σ' h' w') : Free σ' h'.next := fun b hb => by
  have := k.nx
  rw [k.sg b (by omega)]; exact f b (by omega)

def Out (P : Program) (N : Nat) (σ : Sg) (h : H) (w : World) (Q : Ext → Tmps → H → Prop) (ex : Exit) (ar' : Act) (w' : World) : Prop :=
  ∃ e a' h', ex = e.up ∧ ar'.defers = [] ∧ Q e a' h' ∧ ∃ σ', AR σ' a' ar'.tmps ∧ Rel P N P.globals.size σ' h' w' ∧ Kept σ h w σ' h' w' ∧ Free σ' h'.next
def W (P : Program) (c : Code) (Q : Ext → Tmps → H → Prop) (a : Tmps) (h : H) : Prop :=
  ∀ (N : Nat) (σ : Sg) (w : World) (ar : Act), AR σ a ar.tmps → ar.defers = [] → Rel P N P.globals.size σ h w → Free σ h.next → c.wp P (Out P N σ h w Q) ar w
def WO (P : Program) (all : Array Oper) (os : List Oper) (Q : Tmps → H → Prop) (a : Tmps) (h : H) : Prop :=
  ∀ (N : Nat) (σ : Sg) (w : World) (ar : Act), AR σ a ar.tmps → ar.defers = [] → Rel P N P.globals.size σ h w → Free σ h.next → wpList P all (Out P N σ h w (fun e a h => e = .normal ∧ Q a h)) os ar w
def WC (P : Program) (f : FuncId) (xs : Array Value) (Q : Value → H → Prop) (h : H) : Prop :=
  ∀ (N : Nat) (σ : Sg) (w : World) (xs' : Array Value), AR σ xs xs' → Rel P N P.globals.size σ h w → Free σ h.next →
    Calls P f xs' w fun e w' => ∃ v h' v', e = .returned v' ∧ Q v h' ∧ ∃ σ', VR σ' v v' ∧ Rel P N P.globals.size σ' h' w' ∧ Kept σ h w σ' h' w' ∧ Free σ' h'.next

theorem Out.step {N : Nat} {σ σ1 : Sg} {h h1 : H} {w w1 : World} {Q : Ext → Tmps → H → Prop} {ex : Exit} {ar' : Act} {w' : World} (k : Kept σ h w σ1 h1 w1) (o : Out P N σ1 h1 w1 Q ex ar' w') : Out P N σ h w Q ex ar' w' := by
  obtain ⟨e, a', h', q1, q2, q3, σ', q4, q5, q6, q7⟩ := o
  exact ⟨e, a', h', q1, q2, q3, σ', q4, q5, k.trans q6, q7⟩

section
variable {Q Q' : Ext → Tmps → H → Prop} {a : Tmps} {h : H} {x y c : Code} {id : Nat}
theorem W.mono (hw : W P c Q a h) (hq : ∀ e a h, Q e a h → Q' e a h) : W P c Q' a h := fun N σ w ar hr hd R f =>
  Code.wp_mono (fun _ _ _ ⟨e, a', h', q1, q2, q3, q4⟩ => ⟨e, a', h', q1, q2, hq _ _ _ q3, q4⟩) (hw N σ w ar hr hd R f)
theorem W.of_ex (ok : Ok P O) {r : Ext × Tmps × H} (hx : Ex P O c a h r) (hq : Q r.1 r.2.1 r.2.2) : W P c Q a h := by
  obtain ⟨n, hx⟩ := hx
  obtain ⟨e, a', h'⟩ := r
  intro N σ w ar hr hd R f
  refine Code.wp_mono ?_ ((sound ok n).1.1 _ _ _ _ _ _ hx N σ w ar hr hd R f.fresh)
  rintro ex ar1 w1 ⟨q1, q2, σ', q3, q4, q5⟩
  exact ⟨e, a', h', q1, q2, hq, σ', q3, q4, q5, f.kept q5⟩
theorem W.skip (hq : Q .normal a h) : W P .skip Q a h := fun _ σ _ _ hr hd R f => wp_skip ⟨.normal, a, h, rfl, hd, hq, σ, hr, R, Kept.refl _ _ _, f⟩
theorem W.label {l : Nat} (hq : Q .normal a h) : W P (.label l) Q a h := fun _ σ _ _ hr hd R f => wp_label ⟨.normal, a, h, rfl, hd, hq, σ, hr, R, Kept.refl _ _ _, f⟩
theorem W.exit (hq : Q (.exit id) a h) : W P (.exit id) Q a h := fun _ σ _ _ hr hd R f => wp_exit ⟨.exit id, a, h, rfl, hd, hq, σ, hr, R, Kept.refl _ _ _, f⟩
theorem W.ret (hq : Q .ret a h) : W P .ret Q a h := fun _ σ _ _ hr hd R f => wp_ret ⟨.ret, a, h, rfl, hd, hq, σ, hr, R, Kept.refl _ _ _, f⟩
/-- How the next piece goes on. -/
def thenW (P : Program) (y : Code) (Q : Ext → Tmps → H → Prop) : Ext → Tmps → H → Prop
  | .normal, a, h => W P y Q a h
  | e, a, h => Q e a h
theorem W.seq (hx : W P x (thenW P y Q) a h) : W P (.seq x y) Q a h := fun N σ w ar hr hd R f => by
  refine wp_seq (Code.wp_mono ?_ (hx N σ w ar hr hd R f))
  rintro ex ar1 w1 ⟨e, a1, h1, rfl, q2, q3, σ1, q4, q5, q6, q7⟩
  cases e with
  | normal => exact Code.wp_mono (fun _ _ _ o => Out.step q6 o) (q3 N σ1 w1 ar1 q4 q2 q5 q7)
  | exit id => exact ⟨.exit id, a1, h1, rfl, q2, q3, σ1, q4, q5, q6, q7⟩
  | ret => exact ⟨.ret, a1, h1, rfl, q2, q3, σ1, q4, q5, q6, q7⟩
theorem W.cond {t : Operand} {b : Bool} (hc : cleanOp P t = true) (ht : tev a t = .bool b) (hx : if b then W P x Q a h else W P y Q a h) : W P (.cond t x y) Q a h := fun N σ w ar hr hd R f => by
  have hcv := tev_rel R hr hc
  rw [ht] at hcv
  cases b with
  | true => exact wp_cond_true (VR.bool_inv hcv) (hx N σ w ar hr hd R f)
  | false => exact wp_cond_false (VR.bool_inv hcv) (hx N σ w ar hr hd R f)
theorem W.block (hx : W P x (fun e a h => Q (inBlk id e) a h) a h) : W P (.block id x) Q a h := fun N σ w ar hr hd R f => by
  refine wp_block (Code.wp_mono ?_ (hx N σ w ar hr hd R f))
  rintro ex ar1 w1 ⟨e, a1, h1, rfl, q2, q3, σ1, q4, q5, q6, q7⟩
  cases e with
  | normal => exact ⟨.normal, a1, h1, rfl, q2, q3, σ1, q4, q5, q6, q7⟩
  | ret => exact ⟨.ret, a1, h1, rfl, q2, q3, σ1, q4, q5, q6, q7⟩
  | exit id' =>
    simp only [Ext.up, Exit.inBlock]
    simp only [inBlk] at q3
    by_cases hid : id' = id
    · rw [if_pos hid] at q3 ⊢
      exact ⟨.normal, a1, h1, rfl, q2, q3, σ1, q4, q5, q6, q7⟩
    · rw [if_neg hid] at q3 ⊢
      exact ⟨.exit id', a1, h1, rfl, q2, q3, σ1, q4, q5, q6, q7⟩

theorem rounds_succ_le {c : Code} {Q : Exit → Act → World → Prop} : ∀ (n : Nat) (a : Act) (w : World), Code.rounds P c Q n a w → Code.rounds P c Q (n + 1) a w
  | 0, _, _, h => h.elim
  | n + 1, a, w, h => Code.wp_mono (fun e a w he => by
      cases e with
      | normal => exact rounds_succ_le n a w he
      | _ => exact he) h
theorem rounds_le {c : Code} {Q : Exit → Act → World → Prop} {n m : Nat} (hnm : n ≤ m) {a : Act} {w : World} (h : Code.rounds P c Q n a w) : Code.rounds P c Q m a w := by
  induction hnm with
  | refl => exact h
  | step _ ih => exact rounds_succ_le _ _ _ ih

/-- A loop: n: how far it is from its end, at most. -/
theorem W.loop (I : Nat → Tmps → H → Prop) (hI : ∀ n a h, I n a h → W P x (fun e a' h' => (e = .normal → ∃ m, m < n ∧ I m a' h') ∧ (e ≠ .normal → Q e a' h')) a h) : ∀ n a h, I n a h → W P (.loop x) Q a h := by
  have key : ∀ n a h, I n a h → ∀ (N : Nat) (σ : Sg) (w : World) (ar : Act), AR σ a ar.tmps → ar.defers = [] → Rel P N P.globals.size σ h w → Free σ h.next → Code.rounds P x (Out P N σ h w Q) (n + 1) ar w := by
    intro n
    induction n using Nat.strongRecOn with
    | ind n ih =>
      intro a h hi N σ w ar hr hd R f
      refine Code.wp_mono ?_ (hI n a h hi N σ w ar hr hd R f)
      rintro ex ar1 w1 ⟨e, a1, h1, rfl, q2, q3, σ1, q4, q5, q6, q7⟩
      cases e with
      | normal =>
        obtain ⟨m, hm, him⟩ := q3.1 rfl
        exact rounds_le (by omega) (rounds_mono (fun _ _ _ o => Out.step q6 o) _ _ _ (ih m hm a1 h1 him N σ1 w1 ar1 q4 q2 q5 q7))
      | exit id => exact ⟨.exit id, a1, h1, rfl, q2, q3.2 (by simp), σ1, q4, q5, q6, q7⟩
      | ret => exact ⟨.ret, a1, h1, rfl, q2, q3.2 (by simp), σ1, q4, q5, q6, q7⟩
  intro n a h hi N σ w ar hr hd R f
  exact wp_loop_rounds (n + 1) (key n a h hi N σ w ar hr hd R f)

theorem W.region {ops : Array Oper} (hx : WO P ops ops.toList (fun a h => Q .normal a h) a h) : W P (.region id ops false) Q a h := fun N σ w ar hr hd R f =>
  wp_region_list (wpList_mono (fun _ _ _ ⟨e, a', h', q1, q2, q3, q4⟩ => ⟨e, a', h', q1, q2, by rw [q3.1]; exact q3.2, q4⟩) _ _ _ (hx N σ w ar hr hd R f))

/-- What need not be remembered is forgotten. -/
structure Sub (h h' : H) : Prop where
  next : h.next ≤ h'.next
  get : ∀ b x, h'.get b = some x → h.get b = some x
theorem Rel.sub {N : Nat} {σ : Sg} {h h' : H} {w : World} (R : Rel P N P.globals.size σ h w) (s : Sub h h') : Rel P N P.globals.size σ h' w :=
  ⟨R.low, R.glob, fun b x hx => R.live b x (s.get b x hx), fun b c x y i j hb hc => R.inj b c x y i j (s.get b x hb) (s.get c y hc), fun b x hx => Nat.lt_of_lt_of_le (R.low' b x (s.get b x hx)) s.next⟩
theorem Kept.sub {σ σ' : Sg} {h h1 h2 : H} {w w' : World} (k : Kept σ h w σ' h1 w') (s : Sub h1 h2) : Kept σ h w σ' h2 w' :=
  ⟨Nat.le_trans k.nx s.next, fun b hb => k.sg b (by have := s.next; omega), k.size, k.frame, fun b x i hb => k.from_ b x i (s.get b x hb), k.os, k.output⟩
theorem W.forget (hw : W P c Q a h) (hq : ∀ e a h, Q e a h → ∃ h', Sub h h' ∧ Q' e a h') : W P c Q' a h := fun N σ w ar hr hd R f =>
  Code.wp_mono (fun _ _ _ ⟨e, a', h', q1, q2, q3, σ', q4, q5, q6, q7⟩ => by
    obtain ⟨h2, s, q⟩ := hq _ _ _ q3
    exact ⟨e, a', h2, q1, q2, q, σ', q4, q5.sub s, q6.sub s, fun k hk => q7 k (Nat.le_trans s.next hk)⟩) (hw N σ w ar hr hd R f)
end

section
variable {Q Q' : Tmps → H → Prop} {a : Tmps} {h : H} {all : Array Oper} {o : Oper} {os : List Oper}
theorem WO.nil (hq : Q a h) : WO P all [] Q a h := fun _ σ _ _ hr hd R f => ⟨.normal, a, h, rfl, hd, ⟨rfl, hq⟩, σ, hr, R, Kept.refl _ _ _, f⟩
theorem WO.skip (hw : Region.wanted o (yielded all a) = false) (hx : WO P all os Q (tput a o.dst undef) h) : WO P all (o :: os) Q a h := fun N σ w ar hr hd R f => by
  rw [yielded_rel hr] at hw
  unfold wpList
  rw [if_neg (by simp [hw])]
  exact hx N σ w _ (hr.put _ VR.undef) (by rw [Zq.put_defers]; exact hd) R f
/-- An operation that the evaluator carries out. -/
theorem WO.cons (ok : Ok P O) {v : Value} {h1 : H} (hw : Region.wanted o (yielded all a) = true) (ho : St P O o a h (v, h1)) (hx : WO P all os Q (tput a o.dst v) h1) : WO P all (o :: os) Q a h := fun N σ w ar hr hd R f => by
  obtain ⟨n, ho⟩ := ho
  rw [yielded_rel hr] at hw
  unfold wpList
  rw [if_pos hw]
  refine .inl (op_sound (sound ok n).1.2.2.1 (sound ok n).2.2.1 R hr ho f.fresh ?_)
  rintro v' w1 ⟨σ1, hv, R1, K1⟩
  exact wpList_mono (fun _ _ _ l => Out.step K1 l) _ _ _ (hx N σ1 w1 _ ((hr.mono (K1.mono f.fresh)).put _ hv) (by rw [Zq.put_defers]; exact hd) R1 (f.kept K1))
/-- A call of which a contract is known. -/
theorem WO.call {f : Operand} {args : Array Operand} {ats : Array TypeId} {g : FuncId} {xs : Array Value} {fn : Func} {C : Value → H → Prop} (hw : Region.wanted o (yielded all a) = true) (hop : o.op = .call { callee := .value f, args := args, argTypes := ats })
    (hcl : cleanOps P o = true) (hcal : callee (tev a) { callee := .value f, args := args, argTypes := #[] } = some (g, xs)) (hfn : P.funcs[g]? = some fn) (hb : fn.body.isSome = true) (hn : (fn.name == "runtime.NumGoroutine") = false)
    (hc : WC P g xs C h) (hx : ∀ v h1, C v h1 → WO P all os Q (tput a o.dst v) h1) : WO P all (o :: os) Q a h := fun N σ w ar hr hd R f' => by
  rw [yielded_rel hr] at hw
  unfold wpList
  rw [if_pos hw]
  left
  have hρ : ∀ x ∈ o.op.operands, VR σ (tev a x) (ar.eval x) := fun x hx => tev_rel R hr (by unfold cleanOps at hcl; exact (Array.all_eq_true'.1 hcl) x hx)
  unfold callee at hcal
  dsimp only at hcal
  split at hcal <;> try (cases hcal; done)
  rename_i g' first captured hfv
  simp only [Option.some.injEq, Prod.mk.injEq] at hcal
  obtain ⟨rfl, rfl⟩ := hcal
  have hfr := hρ f (by rw [hop]; simp [Op.operands, Call.operands])
  rw [hfv] at hfr
  generalize hfe : ar.eval f = fv at hfr
  cases hfr with
  | fn _ h1 h2 h3 h4 =>
    rename_i first' captured'
    have hargs : AR σ (args.map (tev a)) (args.map ar.eval) := AR.map args (fun x hx => hρ x (by rw [hop]; simp [Op.operands, Call.operands, hx]))
    have hall : AR σ (first ++ args.map (tev a) ++ captured) (first' ++ args.map ar.eval ++ captured') := (AR.append ⟨h1, h2⟩ hargs).append ⟨h3, h4⟩
    have hb' : ¬ fn.body = none := by cases hq : fn.body <;> simp [hq] at hb ⊢
    have hname' : ¬ fn.name = "runtime.NumGoroutine" := by simpa using hn
    have run : (execOp ar.eval o).run P w = .ok (.enter g' (first' ++ args.map ar.eval ++ captured')) w := by
      simp [execOp, hop, resolve, hfe, Deferred.ofValue, invoke, callFunc, hfn, hname', hb']
    unfold Oper.wp
    rw [run, Oper.upon_enter]
    refine (hc N σ w _ hall R f').mono ?_
    rintro e w' ⟨v, h1, v', rfl, hC, σ1, hv, R1, K1, f1⟩
    exact wpList_mono (fun _ _ _ l => Out.step K1 l) _ _ _ (hx v h1 hC N σ1 w' _ ((hr.mono (K1.mono f'.fresh)).put _ hv) (by rw [Zq.put_defers]; exact hd) R1 f1)
end

section
variable {f : FuncId} {xs : Array Value} {h : H} {C C' : Value → H → Prop}
theorem WC.mono (hc : WC P f xs C h) (hq : ∀ v h, C v h → C' v h) : WC P f xs C' h := fun N σ w xs' hr R fr =>
  (hc N σ w xs' hr R fr).mono fun _ _ ⟨v, h', v', q1, q2, q3⟩ => ⟨v, h', v', q1, hq _ _ q2, q3⟩
theorem WC.forget (hc : WC P f xs C h) (hq : ∀ v h, C v h → ∃ h', Sub h h' ∧ C' v h') : WC P f xs C' h := fun N σ w xs' hr R fr =>
  (hc N σ w xs' hr R fr).mono fun _ _ ⟨v, h', v', q1, q2, σ', q3, q4, q5, q6⟩ => by
    obtain ⟨h2, s, q⟩ := hq _ _ q2
    exact ⟨v, h2, v', q1, q, σ', q3, q4.sub s, q5.sub s, fun k hk => q6 k (Nat.le_trans s.next hk)⟩
theorem WC.of_ev (ok : Ok P O) {r : Value × H} (hx : Ev P O f xs h r) (hq : C r.1 r.2) : WC P f xs C h := by
  obtain ⟨n, hx⟩ := hx
  obtain ⟨v, h'⟩ := r
  intro N σ w xs' hr R fr
  refine ((sound ok n).1.2.2.1 _ _ _ _ _ hx N σ w xs' hr R fr.fresh).mono ?_
  rintro e w' ⟨v', rfl, σ', q1, q2, q3⟩
  exact ⟨v, h', v', rfl, hq, σ', q1, q2, q3, fr.kept q3⟩
theorem WC.body {fn : Func} {body : Code} (hf : P.funcs[f]? = some fn) (hb : fn.body = some body)
    (hx : W P body (fun e a h => (∀ id, e ≠ .exit id) ∧ ∃ v, resV P fn a h = some v ∧ C v h) (xs ++ Array.replicate (fn.ntmps - xs.size) undef) h) : WC P f xs C h := fun N σ w xs' hr R fr => by
  have hlen : xs.size = xs'.size := hr.1
  have htm : AR σ (xs ++ Array.replicate (fn.ntmps - xs.size) undef) (xs' ++ Array.replicate (fn.ntmps - xs'.size) undef) := by
    rw [← hlen]; exact hr.append (AR.replicate _)
  refine calls_of_wp hf hb (Code.wp_mono ?_ (hx N σ w _ htm rfl R fr))
  rintro ex ar1 w1 ⟨e, a1, h1, rfl, q2, ⟨hne, v, hv, hC⟩, σ1, hr1, R1, K1, f1⟩
  have hresult : ∃ v', (results fn ar1.tmps).run P w1 = .ok v' w1 ∧ VR σ1 v v' := by
    unfold resV at hv
    cases hm : fn.results.toList.mapM (resOf P h1 a1) with
    | none => simp [hm] at hv
    | some vs =>
      obtain ⟨vs', e1, r1⟩ := results_rel R1 hr1 _ hm
      have e2 : (results fn ar1.tmps).run P w1 = .ok (if h : vs'.toArray.size = 1 then vs'.toArray[0] else .tuple vs'.toArray) w1 := by
        rw [results_eq, Array.mapM_eq_mapM_toList]
        simp only [Sem.run_bind, Sem.run_map, e1, Result.andThen_ok, Sem.run_pure]
      rw [e2]
      refine ⟨_, rfl, ?_⟩
      simp only [hm] at hv
      have hl := r1.1
      match vs, hl, r1, hv with
      | [u], hl, r1, hv =>
        simp only [Option.some.injEq] at hv
        subst hv
        obtain ⟨u', rfl⟩ : ∃ u', vs' = [u'] := by
          match vs', hl with
          | [u'], _ => exact ⟨u', rfl⟩
        exact r1.uncons.1
      | [], hl, r1, hv =>
        simp only [Option.some.injEq] at hv
        subst hv
        obtain rfl : vs' = [] := by simpa using hl.symm
        exact VR.tup' LR.nil.toArray
      | u1 :: u2 :: us, hl, r1, hv =>
        simp only [Option.some.injEq] at hv
        subst hv
        have : ¬ vs'.toArray.size = 1 := by simp at hl ⊢; omega
        rw [dif_neg this]
        exact VR.tup' r1.toArray
  obtain ⟨v', hrun, hvr⟩ := hresult
  cases e with
  | exit id => exact absurd rfl (hne id)
  | normal => exact ⟨q2, v', hrun, v, h1, v', rfl, hC, σ1, hvr, R1, K1, f1⟩
  | ret => exact ⟨q2, v', hrun, v, h1, v', rfl, hC, σ1, hvr, R1, K1, f1⟩
end
end Go.Proofs.Zq
