/- The fast evaluator over contracts: what a call comes to may stand for whatever the contract says; drawn regions call no such function. -/
import Derived.Test.YtmjddnmhlfpgmaaGreatDoorZqEvR
import Derived.Test.YtmjddnmhlfpgmaaGreatDoorZqEvT
namespace Go.Proofs.Zq
variable {P : Program} {O : Orc}

def WCOk (P : Program) (cl : FCl) : Prop := ∀ f xs h r, cl f xs h = some r → WC P f xs.toArray (fun v h' => v = r.1 ∧ h' = r.2) h
def PlainF (P : Program) (cl : FCl) : Prop := ∀ f xs h r, cl f xs h = some r → ∃ fn, P.funcs[f]? = some fn ∧ fn.body.isSome = true ∧ (fn.name == "runtime.NumGoroutine") = false

noncomputable def gexec (P : Program) (cl1 cl2 : FCl) (N sz : Nat) : Code → T → H → Option (Ext × T × H)
  | .skip, t, h => some (.normal, t, h)
  | .label _, t, h => some (.normal, t, h)
  | .seq x y, t, h => (match gexec P cl1 cl2 N sz x t h with
    | some (.normal, t, h) => gexec P cl1 cl2 N sz y t h
    | r => r)
  | .cond c x y, t, h => bif cleanOp P c then (match tevT t c with
    | .bool b => bif b then gexec P cl1 cl2 N sz x t h else gexec P cl1 cl2 N sz y t h
    | _ => none) else none
  | .block id b, t, h => (match gexec P cl1 cl2 N sz b t h with
    | some (.exit id', t, h) => bif Nat.beq id' id then some (.normal, t, h) else some (.exit id', t, h)
    | r => r)
  | .loop b, t, h => floop (gexec P cl1 cl2 N sz b) N t h
  | .exit id, t, h => some (.exit id, t, h)
  | .ret, t, h => some (.ret, t, h)
  | .region id ops draw, t, h =>
    bif draw then fexec P cl1 N sz (.region id ops draw) t h
    else (match fops P cl2 sz ops ops.toList t h with
      | some (t, h) => some (.normal, t, h)
      | none => none)
  | _, _, _ => none

theorem fstep_call {cl : FCl} {o : Oper} {t : T} {h : H} {r : Value × H} {f : Operand} {args : Array Operand} {ats : Array TypeId} (ho : o.op = .call { callee := .value f, args := args, argTypes := ats }) (hs : fstep P cl o t h = some r) :
    cleanOps P o = true ∧ ∃ g first captured, tevT t f = .func (.func g) first captured ∧ cl g (first.toList ++ (args.toList.map (tevT t) ++ captured.toList)) h = some r := by
  unfold fstep fdec at hs
  cases hc : cleanOps P o with
  | false => rw [hc] at hs; cases hs
  | true =>
    refine ⟨rfl, ?_⟩
    have hp : fpop P o = none := by unfold fpop; rw [ho]
    rw [hc, cond_true, hp] at hs
    simp only [ho] at hs
    split at hs <;> try (cases hs; done)
    rename_i g first captured hf
    exact ⟨g, first, captured, hf, hs⟩

theorem fstep_other {cl : FCl} {o : Oper} {t : T} {h : H} {r : Value × H} (ho : ∀ f args ats, o.op ≠ .call { callee := .value f, args := args, argTypes := ats }) (hs : fstep P cl o t h = some r) : fstep P (fun _ _ _ => none) o t h = some r := by
  unfold fstep at hs ⊢
  cases hd : fdec P o with
  | c f args =>
    exfalso
    unfold fdec at hd
    cases hc : cleanOps P o with
    | false => rw [hc] at hd; cases hd
    | true =>
      rw [hc, cond_true] at hd
      cases hp : fpop P o with
      | some f => rw [hp] at hd; cases hd
      | none =>
        rw [hp] at hd
        cases hop : o.op
        case call c =>
          obtain ⟨ce, args, ats⟩ := c
          cases ce with
          | value f => exact ho _ _ _ hop
          | _ => simp only [hop] at hd; cases hd
        case load ty x => simp only [hop] at hd; split at hd <;> cases hd
        case store ty x y => simp only [hop] at hd; cases hz : isOne (psz P ty) <;> rw [hz] at hd <;> cases hd
        all_goals (simp only [hop] at hd; cases hd)
  | _ => rw [hd] at hs; exact hs

theorem fops_W (ok : Ok P O) {cl : FCl} (hw : WCOk P cl) (hp : PlainF P cl) {sz : Nat} {all : Array Oper} : ∀ {os : List Oper} {t : T} {h : H} {a : Tmps} {r : T × H}, Rep sz t a → fops P cl sz all os t h = some r →
    WO P all os (fun a' h' => Rep sz r.1 a' ∧ h' = r.2) a h
  | [], t, h, a, r, hr, hs => by
    simp only [fops, Option.some.injEq] at hs; subst hs
    exact WO.nil ⟨hr, rfl⟩
  | o :: os, t, h, a, r, hr, hs => by
    simp only [fops] at hs
    rw [fwanted_eq hr] at hs
    cases hwt : Region.wanted o (yielded all a) with
    | true =>
      rw [hwt, cond_true] at hs
      split at hs <;> try (cases hs; done)
      rename_i v h1 ho
      by_cases hcall : ∃ f args ats, o.op = .call { callee := .value f, args := args, argTypes := ats }
      · obtain ⟨f, args, ats, hop⟩ := hcall
        obtain ⟨hc, g, first, captured, hf, hcl⟩ := fstep_call hop ho
        obtain ⟨fn, q1, q2, q3⟩ := hp _ _ _ _ hcl
        refine WO.call hwt hop hc (g := g) (xs := first ++ args.map (tev a) ++ captured) ?_ q1 q2 q3 (C := fun v' h' => v' = v ∧ h' = h1) ?_ ?_
        · rw [hr.tev] at hf
          simp [callee, hf]
        · have := hw _ _ _ _ hcl
          rw [hr.tev] at this
          have e : (first.toList ++ (args.toList.map (tev a) ++ captured.toList)).toArray = first ++ args.map (tev a) ++ captured := by
            apply Array.toList_inj.1
            simp
          rw [e] at this
          exact this
        · rintro v' h' ⟨rfl, rfl⟩
          exact fops_W ok hw hp (hr.put o.dst _) hs
      · have hst := fstep_ok (O := O) (cl := fun _ _ _ => none) (fun _ _ _ _ h => by cases h) hr (fstep_other (fun f args ats e => hcall ⟨f, args, ats, e⟩) ho)
        exact WO.cons ok hwt hst (fops_W ok hw hp (hr.put o.dst v) hs)
    | false =>
      rw [hwt, cond_false] at hs
      exact WO.skip hwt (fops_W ok hw hp (hr.put o.dst undef) hs)

theorem gexec_W (ok : Ok P O) {cl1 cl2 : FCl} (he : EvOk P O cl1) (hw : WCOk P cl2) (hp : PlainF P cl2) {N sz : Nat} : ∀ (c : Code) {t : T} {h : H} {a : Tmps} {r : Ext × T × H}, Rep sz t a → gexec P cl1 cl2 N sz c t h = some r →
    W P c (fun e a' h' => e = r.1 ∧ Rep sz r.2.1 a' ∧ h' = r.2.2) a h := by
  intro c
  induction c with
  | skip => intro t h a r hr hs; simp only [gexec, Option.some.injEq] at hs; subst hs; exact W.skip ⟨rfl, hr, rfl⟩
  | label l => intro t h a r hr hs; simp only [gexec, Option.some.injEq] at hs; subst hs; exact W.label ⟨rfl, hr, rfl⟩
  | exit id => intro t h a r hr hs; simp only [gexec, Option.some.injEq] at hs; subst hs; exact W.exit ⟨rfl, hr, rfl⟩
  | ret => intro t h a r hr hs; simp only [gexec, Option.some.injEq] at hs; subst hs; exact W.ret ⟨rfl, hr, rfl⟩
  | seq x y ihx ihy =>
    intro t h a r hr hs
    simp only [gexec] at hs
    split at hs
    · rename_i t1 h1 hx
      refine W.seq ((ihx hr hx).mono ?_)
      rintro e a1 h2 ⟨rfl, q2, rfl⟩
      exact ihy q2 hs
    · rename_i hne
      refine W.seq ((ihx hr hs).mono ?_)
      rintro e a1 h2 ⟨rfl, q2, rfl⟩
      obtain ⟨e, t1, h1⟩ := r
      cases e with
      | normal => exact (hne _ _ hs).elim
      | exit id => exact ⟨rfl, q2, rfl⟩
      | ret => exact ⟨rfl, q2, rfl⟩
  | cond c x y ihx ihy =>
    intro t h a r hr hs
    simp only [gexec] at hs
    cases hc : cleanOp P c with
    | false => rw [hc] at hs; cases hs
    | true =>
      rw [hc, cond_true, hr.tev] at hs
      split at hs <;> try (cases hs; done)
      rename_i b hb
      cases b with
      | true => exact W.cond (b := true) hc hb (by rw [if_pos rfl]; exact ihx hr hs)
      | false => exact W.cond (b := false) hc hb (by rw [if_neg (by simp)]; exact ihy hr hs)
  | block id b ih =>
    intro t h a r hr hs
    simp only [gexec] at hs
    split at hs
    · rename_i id' t1 h1 hx
      refine W.block ((ih hr hx).mono ?_)
      rintro e a1 h2 ⟨rfl, q2, rfl⟩
      cases hb : Nat.beq id' id with
      | true =>
        rw [hb, cond_true] at hs
        injection hs with hs; subst hs
        have := Nat.eq_of_beq_eq_true hb
        subst this
        exact ⟨by simp [inBlk], q2, rfl⟩
      | false =>
        rw [hb, cond_false] at hs
        injection hs with hs; subst hs
        have : id' ≠ id := Nat.ne_of_beq_eq_false hb
        exact ⟨by simp [inBlk, this], q2, rfl⟩
    · rename_i hne
      refine W.block ((ih hr hs).mono ?_)
      rintro e a1 h2 ⟨rfl, q2, rfl⟩
      obtain ⟨e, t1, h1⟩ := r
      cases e with
      | exit id' => exact (hne _ _ _ hs).elim
      | normal => exact ⟨rfl, q2, rfl⟩
      | ret => exact ⟨rfl, q2, rfl⟩
  | loop b ih =>
    intro t h a r hr hs
    simp only [gexec] at hs
    refine W.loop (fun n a h => ∃ t, Rep sz t a ∧ floop (gexec P cl1 cl2 N sz b) n t h = some r) ?_ N a h ⟨t, hr, hs⟩
    rintro n a h ⟨t, hr, hs⟩
    cases n with
    | zero => simp [floop] at hs
    | succ n =>
      simp only [floop] at hs
      split at hs
      · rename_i t1 h1 hx
        refine (ih hr hx).mono ?_
        rintro e a1 h2 ⟨rfl, q2, rfl⟩
        exact ⟨fun _ => ⟨n, by omega, t1, q2, hs⟩, fun hne => absurd rfl hne⟩
      · rename_i hne
        refine (ih hr hs).mono ?_
        rintro e a1 h2 ⟨rfl, q2, rfl⟩
        refine ⟨fun h => ?_, fun _ => ⟨rfl, q2, rfl⟩⟩
        obtain ⟨e, t1, h1⟩ := r
        dsimp only at h
        subst h
        exact (hne _ _ hs).elim
  | region id ops draw =>
    intro t h a r hr hs
    simp only [gexec] at hs
    cases draw with
    | true =>
      rw [cond_true] at hs
      obtain ⟨a', q1, q2⟩ := fexec_ok he _ hr hs
      exact W.of_ex ok q1 ⟨rfl, q2, rfl⟩
    | false =>
      rw [cond_false] at hs
      split at hs <;> try (cases hs; done)
      rename_i t1 h1 hx
      injection hs with hs; subst hs
      refine W.region ?_
      have := fops_W ok hw hp hr hx
      intro N σ w ar q1 q2 q3 q4
      exact wpList_mono (fun _ _ _ ⟨e, a', h', p1, p2, p3, p4⟩ => ⟨e, a', h', p1, p2, ⟨p3.1, rfl, p3.2.1, p3.2.2⟩, p4⟩) _ _ _ (this N σ w ar q1 q2 q3 q4)
  | _ => intro t h a r hr hs; simp [gexec] at hs

/-- Calls; 'or2': contracts. -/
noncomputable def gcall (P : Program) (O : Orc) (or2 : FCl) (N : Nat) : Nat → FCl
  | 0, _, _, _ => none
  | n + 1, f, xs, h =>
    match or2 f xs h with
    | some r => some r
    | none => (match O.fn f with
      | some fn => (match fn.body with
        | some body =>
          bif Nat.ble xs.length fn.ntmps then
            (match gexec P (fcall P O N n) (gcall P O or2 N n) N fn.ntmps body (tofL xs 0 .nil) h with
            | some (.exit _, _, _) => none
            | some (_, t, h) => (match fress P h t fn.results.toList with
              | some [v] => some (v, h)
              | some vs => some (.tuple vs.toArray, h)
              | none => none)
            | none => none)
          else none
        | none => none)
      | none => none)

theorem gcall_ok (ok : Ok P O) {or2 : FCl} (ho : WCOk P or2) (hp : PlainF P or2) {N : Nat} : ∀ n, WCOk P (gcall P O or2 N n) ∧ PlainF P (gcall P O or2 N n) := by
  intro n
  induction n with
  | zero => exact ⟨fun f xs h r hs => by simp [gcall] at hs, fun f xs h r hs => by simp [gcall] at hs⟩
  | succ n ih =>
    refine ⟨fun f xs h r hs => ?_, fun f xs h r hs => ?_⟩
    · simp only [gcall] at hs
      split at hs
      · rename_i r' hor
        injection hs with hs; subst hs
        exact ho _ _ _ _ hor
      · split at hs <;> try (cases hs; done)
        rename_i fn hf
        split at hs <;> try (cases hs; done)
        rename_i body hb
        cases hl : Nat.ble xs.length fn.ntmps with
        | false => rw [hl] at hs; cases hs
        | true =>
          rw [hl, cond_true] at hs
          have hl' : xs.length ≤ fn.ntmps := Nat.le_of_ble_eq_true hl
          split at hs <;> try (cases hs; done)
          rename_i e t h1 hne hx
          refine WC.body (ok.fn f fn hf).1 hb ((gexec_W ok (fcall_ok n) ih.1 ih.2 body (rep_start xs fn.ntmps hl') hx).mono ?_)
          rintro e' a1 h2 ⟨rfl, q2, rfl⟩
          refine ⟨fun id h => hne id h, ?_⟩
          rw [fress_eq q2] at hs
          unfold resV
          revert hs
          generalize List.mapM (resOf P _ a1) fn.results.toList = q
          intro hs
          rcases q with _ | (_ | ⟨u, _ | ⟨u2, us⟩⟩)
          · simp at hs
          · simp only [Option.some.injEq] at hs; subst hs; exact ⟨_, rfl, rfl, rfl⟩
          · simp only [Option.some.injEq] at hs; subst hs; exact ⟨_, rfl, rfl, rfl⟩
          · simp only [Option.some.injEq] at hs; subst hs; exact ⟨_, rfl, rfl, rfl⟩
    · simp only [gcall] at hs
      split at hs
      · rename_i r' hor
        exact hp _ _ _ _ hor
      · split at hs <;> try (cases hs; done)
        rename_i fn hf
        split at hs <;> try (cases hs; done)
        rename_i body hb
        exact ⟨fn, (ok.fn f fn hf).1, by rw [hb]; rfl, (ok.fn f fn hf).2⟩
end Go.Proofs.Zq
