/- The evaluator is sound. -/
import Derived.Test.YtmjddnmhlfpgmaaGreatDoorZqEvS
import Derived.LoopN
namespace Go.Proofs.Zq
variable {P : Program} {N : Nat} {σ : Sg} {h : H} {w : World}

structure Ok (P : Program) (O : Orc) : Prop where
  mx : P.follows .mixedOrders = true
  fn : ∀ f fn, O.fn f = some fn → P.funcs[f]? = some fn ∧ (fn.name == "runtime.NumGoroutine") = false
  call : CallOk P O.or
  next : NextUp O.or
  plain : Plain P O.or

/-- What the model reads a result from. -/
def resF (tmps : Array Value) (x : ResultVar) : Sem Value :=
  match x with
  | .tmp t => pure (tmps.getD t undef)
  | .cell a t => do loadVar t (← asAddr (tmps.getD a undef))

theorem results_eq (fn : Func) (tmps : Array Value) : results fn tmps = (do
    let vs ← fn.results.mapM (resF tmps)
    pure (if h : vs.size = 1 then vs[0] else .tuple vs)) := rfl

theorem res_rel (R : Rel P N P.globals.size σ h w) {a : Tmps} {ar : Act} (hr : AR σ a ar.tmps) {x : ResultVar} {v : Value} (hv : resOf P h a x = some v) :
    ∃ v', (resF ar.tmps x).run P w = .ok v' w ∧ VR σ v v' := by
  cases x with
  | tmp t =>
    simp only [resOf, Option.some.injEq] at hv
    subst hv
    exact ⟨_, rfl, hr.getD t⟩
  | cell p t =>
    simp only [resOf] at hv
    split at hv <;> try (cases hv; done)
    rename_i b off e
    have := hr.getD p
    rw [e] at this
    obtain ⟨i, hi, e'⟩ := VR.ptr_inv this
    obtain ⟨v', hl, hvr⟩ := load_rel R hi hv
    exact ⟨v', by simp only [resF, e', Sem.run_bind, asAddr, Sem.run_pure, Result.andThen_ok, hl], hvr⟩

theorem results_rel (R : Rel P N P.globals.size σ h w) {a : Tmps} {ar : Act} (hr : AR σ a ar.tmps) : ∀ (l : List ResultVar) {vs : List Value}, l.mapM (resOf P h a) = some vs →
    ∃ vs', (l.mapM (resF ar.tmps)).run P w = .ok vs' w ∧ LR σ vs vs'
  | [], vs, hv => by simp at hv; subst hv; exact ⟨[], by simp, LR.nil⟩
  | x :: l, vs, hv => by
    simp only [List.mapM_cons, Option.bind_eq_bind, Option.bind_eq_some_iff, Option.pure_def, Option.some.injEq] at hv
    obtain ⟨v, h1, ws, h2, rfl⟩ := hv
    obtain ⟨v', e1, r1⟩ := res_rel R hr h1
    obtain ⟨vs', e2, r2⟩ := results_rel R hr l h2
    refine ⟨v' :: vs', ?_, LR.cons r1 r2⟩
    simp only [List.mapM_cons, Sem.run_bind, e1, Result.andThen_ok, e2, Sem.run_pure]

theorem AR.replicate (n : Nat) : AR σ (Array.replicate n undef) (Array.replicate n undef) := ⟨rfl, fun i h1 _ => by simp only [Array.getElem_replicate]; exact VR.undef⟩

theorem rounds_mono {c : Code} {Q Q' : Exit → Act → World → Prop} (hq : ∀ e a w, Q e a w → Q' e a w) : ∀ (n : Nat) (a : Act) (w : World), Code.rounds P c Q n a w → Code.rounds P c Q' n a w
  | 0, _, _, h => h.elim
  | n + 1, a, w, h => Code.wp_mono (fun e a w he => by
      cases e with
      | normal => exact rounds_mono hq n a w he
      | _ => exact hq _ _ _ he) h

def LoopOk (P : Program) (n : Nat) (ex : Code → Tmps → H → Option (Ext × Tmps × H)) : Prop :=
  ∀ b a h e a' h', ex (.loop b) a h = some (e, a', h') → ∀ (N : Nat) (σ : Sg) (w : World) (ar : Act), AR σ a ar.tmps → ar.defers = [] → Rel P N P.globals.size σ h w → Fresh σ h.next h'.next →
    Code.rounds P b (Left P N σ h w e a' h') n ar w

theorem Traced.next {all : Array Oper} {os : List Oper} {a : Tmps} {h : H} {recs : List Rec} {a2 : Tmps} {h2 : H} (t : Traced P all os a h recs a2 h2) : h.next ≤ h2.next := by
  induction t with
  | nil => exact Nat.le_refl _
  | yes _ hs _ ih =>
    obtain ⟨cl, _, _, hn, ho⟩ := hs
    exact Nat.le_trans (opStep_next hn ho) ih
  | no _ _ ih => exact ih

def TraceOk (P : Program) (tr : List Oper → Tmps → H → Array Oper → Option (List Rec × Tmps × H)) : Prop :=
  ∀ os a h all recs a2 h2, tr os a h all = some (recs, a2, h2) → Traced P all os a h recs a2 h2

theorem sound {O : Orc} (ok : Ok P O) : ∀ n, (CodeOk P (exec P O n) ∧ OpsOk P (runOps P O n) ∧ CallOk P (call P O n) ∧ LoopOk P n (exec P O n)) ∧
    ((∀ c a h e a' h', exec P O n c a h = some (e, a', h') → h.next ≤ h'.next) ∧ (∀ os a h all a' h', runOps P O n os a h all = some (a', h') → h.next ≤ h'.next) ∧ NextUp (call P O n)) ∧ Plain P (call P O n) ∧ TraceOk P (trace P O n) := by
  intro n
  induction n with
  | zero =>
    refine ⟨⟨?_, ?_, ?_, ?_⟩, ⟨?_, ?_, ?_⟩, ?_, ?_⟩
    · intro c a h e a' h' hs; simp [exec] at hs
    · intro os a h all a' h' hs; simp [runOps] at hs
    · intro f xs h v h' hs; simp [call] at hs
    · intro c a h e a' h' hs; simp [exec] at hs
    · intro c a h e a' h' hs; simp [exec] at hs
    · intro os a h all a' h' hs; simp [runOps] at hs
    · intro f xs h v h' hs; simp [call] at hs
    · intro f xs h r hs; simp [call] at hs
    · intro os a h all recs a2 h2 hs; simp [trace] at hs
  | succ n ih =>
    obtain ⟨⟨ihc, iho, ihf, ihl⟩, ⟨nc, no, nf⟩, ihp, iht⟩ := ih
    have loopOk : LoopOk P (n + 1) (exec P O (n + 1)) := by
      intro b a h e a' h' hs N σ w ar hr hd R hf
      simp only [exec] at hs
      split at hs
      · rename_i a1 h1 hx
        have hn1 := nc _ _ _ _ _ _ hx
        have hn2 := nc _ _ _ _ _ _ hs
        refine Code.wp_mono ?_ (ihc _ _ _ _ _ _ hx N σ w ar hr hd R (hf.left hn2))
        rintro ex ar1 w1 ⟨rfl, hd1, σ1, hr1, R1, K1⟩
        exact rounds_mono (fun _ _ _ l => Left.step K1 l) n _ _ (ihl _ _ _ _ _ _ hs N σ1 w1 ar1 hr1 hd1 R1 (K1.fresh hf))
      · rename_i hne
        refine Code.wp_mono ?_ (ihc _ _ _ _ _ _ hs N σ w ar hr hd R hf)
        rintro ex ar1 w1 l
        have he := l.1
        subst he
        cases e with
        | normal => exact (hne _ _ hs).elim
        | exit id => exact l
        | ret => exact l
    refine ⟨⟨?_, ?_, ?_, loopOk⟩, ⟨?_, ?_, ?_⟩, ?_, ?_⟩
    · -- code
      intro c a h e a' h' hs N σ w ar hr hd R hf
      have here : ∀ {e0 : Ext}, Left P N σ h w e0 a h e0.up ar w := ⟨rfl, hd, σ, hr, R, Kept.refl _ _ _⟩
      cases c <;> simp only [exec] at hs <;> try (cases hs; done)
      case skip => simp only [Option.some.injEq, Prod.mk.injEq] at hs; obtain ⟨rfl, rfl, rfl⟩ := hs; exact wp_skip here
      case label l => simp only [Option.some.injEq, Prod.mk.injEq] at hs; obtain ⟨rfl, rfl, rfl⟩ := hs; exact wp_label here
      case exit id => simp only [Option.some.injEq, Prod.mk.injEq] at hs; obtain ⟨rfl, rfl, rfl⟩ := hs; exact wp_exit here
      case ret => simp only [Option.some.injEq, Prod.mk.injEq] at hs; obtain ⟨rfl, rfl, rfl⟩ := hs; exact wp_ret here
      case region id ops draw =>
        cases draw with
        | false =>
          simp only at hs
          split at hs <;> try (cases hs; done)
          rename_i a1 h1 hro
          simp only [Option.some.injEq, Prod.mk.injEq] at hs; obtain ⟨rfl, rfl, rfl⟩ := hs
          exact wp_region_list (iho _ _ _ _ _ _ hro N σ w ar hr hd R hf)
        | true =>
          simp only at hs
          split at hs <;> try (cases hs; done)
          rename_i recs a1 h1 htr
          split at hs <;> try (cases hs; done)
          rename_i hdr
          simp only [Option.some.injEq, Prod.mk.injEq] at hs; obtain ⟨rfl, rfl, rfl⟩ := hs
          rcases (Bool.or_eq_true _ _).mp hdr with hdr | hdr
          · have hdr := (Bool.and_eq_true _ _).mp hdr
            exact draw_sound ok.mx (iht _ _ _ _ _ _ _ htr) hdr.1 hdr.2 hr hd R hf
          · exact lit_sound ok.mx (iht _ _ _ _ _ _ _ htr) hdr hr hd R hf
      case cond c x y =>
        split at hs <;> try (cases hs; done)
        rename_i hcl
        have hcv := tev_rel R hr hcl
        split at hs <;> try (cases hs; done)
        · rename_i e1
          rw [e1] at hcv
          exact wp_cond_true (VR.bool_inv hcv) (ihc _ _ _ _ _ _ hs N σ w ar hr hd R hf)
        · rename_i e1
          rw [e1] at hcv
          exact wp_cond_false (VR.bool_inv hcv) (ihc _ _ _ _ _ _ hs N σ w ar hr hd R hf)
      case seq x y =>
        split at hs
        · rename_i a1 h1 hx
          have hn1 := nc _ _ _ _ _ _ hx
          have hn2 := nc _ _ _ _ _ _ hs
          refine wp_seq (Code.wp_mono ?_ (ihc _ _ _ _ _ _ hx N σ w ar hr hd R (hf.left hn2)))
          rintro ex ar1 w1 ⟨rfl, hd1, σ1, hr1, R1, K1⟩
          exact Code.wp_mono (fun _ _ _ l => Left.step K1 l) (ihc _ _ _ _ _ _ hs N σ1 w1 ar1 hr1 hd1 R1 (K1.fresh hf))
        · rename_i hne
          refine wp_seq (Code.wp_mono ?_ (ihc _ _ _ _ _ _ hs N σ w ar hr hd R hf))
          rintro ex ar1 w1 l
          have he := l.1
          subst he
          cases e with
          | normal => exact (hne _ _ hs).elim
          | exit id => exact l
          | ret => exact l
      case block id b =>
        split at hs
        · rename_i id' a1 h1 hx
          refine wp_block (Code.wp_mono ?_ (ihc _ _ _ _ _ _ hx N σ w ar hr hd R (by
            split at hs <;> (simp only [Option.some.injEq, Prod.mk.injEq] at hs; obtain ⟨_, _, rfl⟩ := hs; exact hf))))
          rintro ex ar1 w1 ⟨rfl, hd1, σ1, hr1, R1, K1⟩
          simp only [Ext.up, Exit.inBlock]
          split at hs
          · rename_i hid
            simp only [Option.some.injEq, Prod.mk.injEq] at hs; obtain ⟨rfl, rfl, rfl⟩ := hs
            rw [if_pos hid]
            exact ⟨rfl, hd1, σ1, hr1, R1, K1⟩
          · rename_i hid
            simp only [Option.some.injEq, Prod.mk.injEq] at hs; obtain ⟨rfl, rfl, rfl⟩ := hs
            rw [if_neg hid]
            exact ⟨rfl, hd1, σ1, hr1, R1, K1⟩
        · rename_i hne
          refine wp_block (Code.wp_mono ?_ (ihc _ _ _ _ _ _ hs N σ w ar hr hd R hf))
          rintro ex ar1 w1 l
          have he := l.1
          subst he
          cases e with
          | normal => exact l
          | exit id => exact (hne _ _ _ hs).elim
          | ret => exact l
      case loop b =>
        exact wp_loop_rounds (n + 1) (loopOk b a h e a' h' (by simp only [exec]; exact hs) N σ w ar hr hd R hf)
    · -- operations
      intro os a h all a' h' hs N σ w ar hr hd R hf
      simp only [runOps] at hs
      split at hs
      · simp only [Option.some.injEq, Prod.mk.injEq] at hs; obtain ⟨rfl, rfl⟩ := hs
        exact ⟨rfl, hd, σ, hr, R, Kept.refl _ _ _⟩
      · rename_i o os
        rw [yielded_rel hr] at hs
        unfold wpList
        split at hs
        · rename_i hw
          rw [if_pos hw]
          split at hs <;> try (cases hs; done)
          rename_i v h1 ho
          have hn1 := opStep_next nf ho
          have hn2 := no _ _ _ _ _ _ hs
          refine .inl (op_sound ihf ihp R hr ho (hf.left hn2) ?_)
          rintro v' w1 ⟨σ1, hv1, R1, K1⟩
          exact wpList_mono (fun _ _ _ l => Left.step K1 l) _ _ _ (iho _ _ _ _ _ _ hs N σ1 w1 _ ((hr.mono (K1.mono (hf.left hn2))).put _ hv1) (by rw [Zq.put_defers]; exact hd) R1 (K1.fresh hf))
        · rename_i hw
          rw [if_neg hw]
          exact iho _ _ _ _ _ _ hs N σ w _ (hr.put _ VR.undef) (by rw [Zq.put_defers]; exact hd) R hf
    · -- calls
      intro f xs h v h' hs N σ w xs' hx R hf
      simp only [call] at hs
      split at hs
      · rename_i r hor
        injection hs with hs; subst hs
        exact ok.call _ _ _ _ _ hor N σ w xs' hx R hf
      · split at hs <;> try (cases hs; done)
        rename_i fn hfn
        split at hs <;> try (cases hs; done)
        rename_i body hbody
        have hP := (ok.fn f fn hfn).1
        have hlen : xs.size = xs'.size := hx.1
        have htm : AR σ (xs ++ Array.replicate (fn.ntmps - xs.size) undef) (xs' ++ Array.replicate (fn.ntmps - xs'.size) undef) := by
          rw [← hlen]; exact hx.append (AR.replicate _)
        -- what the body leaves is what the results are read from
        have fin : ∀ (e : Ext) (a1 : Tmps) (h1 : H), exec P O n body (xs ++ Array.replicate (fn.ntmps - xs.size) undef) h = some (e, a1, h1) → (∀ id, e ≠ .exit id) →
            (match fn.results.toList.mapM (resOf P h1 a1) with
            | some [v] => some (v, h1)
            | some vs => some (.tuple vs.toArray, h1)
            | none => none) = some (v, h') → Calls P f xs' w fun e w' => ∃ v', e = .returned v' ∧ After P N P.globals.size σ h w v h' v' w' := by
          intro e a1 h1 hex hne hres
          have hh : h1 = h' := by
            split at hres <;> first | (cases hres; done) | (simp only [Option.some.injEq, Prod.mk.injEq] at hres; exact hres.2)
          subst hh
          refine calls_of_wp hP hbody (Code.wp_mono ?_ (ihc _ _ _ _ _ _ hex N σ w _ htm rfl R hf))
          rintro ex ar1 w1 ⟨rfl, hd1, σ1, hr1, R1, K1⟩
          have hresult : ∃ v', (results fn ar1.tmps).run P w1 = .ok v' w1 ∧ VR σ1 v v' := by
            cases hm : fn.results.toList.mapM (resOf P h1 a1) with
            | none => simp [hm] at hres
            | some vs =>
              obtain ⟨vs', e1, r1⟩ := results_rel R1 hr1 _ hm
              have e2 : (results fn ar1.tmps).run P w1 = .ok (if h : vs'.toArray.size = 1 then vs'.toArray[0] else .tuple vs'.toArray) w1 := by
                rw [results_eq, Array.mapM_eq_mapM_toList]
                simp only [Sem.run_bind, Sem.run_map, e1, Result.andThen_ok, Sem.run_pure]
              rw [e2]
              refine ⟨_, rfl, ?_⟩
              simp only [hm] at hres
              have hl := r1.1
              match vs, hl, r1, hres with
              | [u], hl, r1, hres =>
                simp only [Option.some.injEq, Prod.mk.injEq] at hres
                obtain ⟨rfl, _⟩ := hres
                obtain ⟨u', rfl⟩ : ∃ u', vs' = [u'] := by
                  match vs', hl with
                  | [u'], _ => exact ⟨u', rfl⟩
                exact r1.uncons.1
              | [], hl, r1, hres =>
                simp only [Option.some.injEq, Prod.mk.injEq] at hres
                obtain ⟨rfl, _⟩ := hres
                obtain rfl : vs' = [] := by simpa using hl.symm
                exact VR.tup' LR.nil.toArray
              | u1 :: u2 :: us, hl, r1, hres =>
                simp only [Option.some.injEq, Prod.mk.injEq] at hres
                obtain ⟨rfl, _⟩ := hres
                have : ¬ vs'.toArray.size = 1 := by simp at hl ⊢; omega
                rw [dif_neg this]
                exact VR.tup' r1.toArray
          obtain ⟨v', hrun, hvr⟩ := hresult
          cases e with
          | exit id => exact absurd rfl (hne id)
          | normal => exact ⟨hd1, v', hrun, v', rfl, σ1, hvr, R1, K1⟩
          | ret => exact ⟨hd1, v', hrun, v', rfl, σ1, hvr, R1, K1⟩
        split at hs <;> try (cases hs; done)
        rename_i e a1 h1 hne hex
        exact fin e a1 h1 hex (fun id he => hne id he) hs
    · intro c a h e a' h' hs
      cases c <;> simp only [exec] at hs <;> try (cases hs; done)
      case skip => simp only [Option.some.injEq, Prod.mk.injEq] at hs; obtain ⟨_, _, rfl⟩ := hs; exact Nat.le_refl _
      case label l => simp only [Option.some.injEq, Prod.mk.injEq] at hs; obtain ⟨_, _, rfl⟩ := hs; exact Nat.le_refl _
      case exit id => simp only [Option.some.injEq, Prod.mk.injEq] at hs; obtain ⟨_, _, rfl⟩ := hs; exact Nat.le_refl _
      case ret => simp only [Option.some.injEq, Prod.mk.injEq] at hs; obtain ⟨_, _, rfl⟩ := hs; exact Nat.le_refl _
      case region id ops draw =>
        cases draw with
        | false =>
          simp only at hs
          split at hs <;> try (cases hs; done)
          rename_i hro
          simp only [Option.some.injEq, Prod.mk.injEq] at hs; obtain ⟨_, _, rfl⟩ := hs
          exact no _ _ _ _ _ _ hro
        | true =>
          simp only at hs
          split at hs <;> try (cases hs; done)
          rename_i htr
          split at hs <;> try (cases hs; done)
          simp only [Option.some.injEq, Prod.mk.injEq] at hs; obtain ⟨_, _, rfl⟩ := hs
          exact (iht _ _ _ _ _ _ _ htr).next
      case cond c x y =>
        split at hs <;> try (cases hs; done)
        split at hs <;> first | (cases hs; done) | exact nc _ _ _ _ _ _ hs
      case seq x y =>
        split at hs
        · rename_i hx
          exact Nat.le_trans (nc _ _ _ _ _ _ hx) (nc _ _ _ _ _ _ hs)
        · exact nc _ _ _ _ _ _ hs
      case block id b =>
        split at hs
        · rename_i hx
          have := nc _ _ _ _ _ _ hx
          split at hs <;> (simp only [Option.some.injEq, Prod.mk.injEq] at hs; obtain ⟨_, _, rfl⟩ := hs; exact this)
        · exact nc _ _ _ _ _ _ hs
      case loop b =>
        split at hs
        · rename_i hx
          exact Nat.le_trans (nc _ _ _ _ _ _ hx) (nc _ _ _ _ _ _ hs)
        · exact nc _ _ _ _ _ _ hs
    · intro os a h all a' h' hs
      simp only [runOps] at hs
      split at hs
      · simp only [Option.some.injEq, Prod.mk.injEq] at hs; obtain ⟨_, rfl⟩ := hs; exact Nat.le_refl _
      · split at hs
        · split at hs <;> try (cases hs; done)
          rename_i ho
          exact Nat.le_trans (opStep_next nf ho) (no _ _ _ _ _ _ hs)
        · exact no _ _ _ _ _ _ hs
    · intro f xs h v h' hs
      simp only [call] at hs
      split at hs
      · rename_i r hor
        injection hs with hs; subst hs
        exact ok.next _ _ _ _ _ hor
      · split at hs <;> try (cases hs; done)
        split at hs <;> try (cases hs; done)
        split at hs <;> try (cases hs; done)
        rename_i hex
        have := nc _ _ _ _ _ _ hex
        split at hs <;> first | (cases hs; done) | (simp only [Option.some.injEq, Prod.mk.injEq] at hs; obtain ⟨_, rfl⟩ := hs; exact this)
    · intro f xs h r hs
      simp only [call] at hs
      split at hs
      · rename_i r hor
        exact ok.plain _ _ _ _ hor
      · split at hs <;> try (cases hs; done)
        rename_i fn hfn
        split at hs <;> try (cases hs; done)
        rename_i body hbody
        exact ⟨fn, (ok.fn f fn hfn).1, by rw [hbody]; rfl, (ok.fn f fn hfn).2⟩
    · intro os a h all recs a2 h2 hs
      simp only [trace] at hs
      split at hs
      · simp only [Option.some.injEq, Prod.mk.injEq] at hs; obtain ⟨rfl, rfl, rfl⟩ := hs
        exact .nil _ _
      · split at hs
        · rename_i hw
          split at hs <;> try (cases hs; done)
          rename_i ho
          split at hs <;> try (cases hs; done)
          rename_i ht
          simp only [Option.some.injEq, Prod.mk.injEq] at hs; obtain ⟨rfl, rfl, rfl⟩ := hs
          exact .yes hw ⟨_, ihf, ihp, nf, ho⟩ (iht _ _ _ _ _ _ _ ht)
        · rename_i hw
          split at hs <;> try (cases hs; done)
          rename_i ht
          simp only [Option.some.injEq, Prod.mk.injEq] at hs; obtain ⟨rfl, rfl, rfl⟩ := hs
          exact .no (by simpa using hw) (iht _ _ _ _ _ _ _ ht)
end Go.Proofs.Zq
