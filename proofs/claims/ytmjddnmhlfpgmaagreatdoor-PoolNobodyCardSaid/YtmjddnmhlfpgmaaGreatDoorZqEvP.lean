/- What the evaluator comes to, with no word of how long it takes. -/
import Derived.Test.YtmjddnmhlfpgmaaGreatDoorZqEvM
namespace Go.Proofs.Zq
variable {P : Program} {O : Orc}

def ClLe (cl cl' : FuncId → Array Value → H → Option (Value × H)) : Prop := ∀ g xs h r, cl g xs h = some r → cl' g xs h = some r

theorem opStep_le {cl cl' : FuncId → Array Value → H → Option (Value × H)} (hc : ClLe cl cl') {o : Oper} {a : Tmps} {h : H} {r : Value × H} (hs : opStep P cl o a h = some r) : opStep P cl' o a h = some r := by
  unfold opStep at hs ⊢
  split at hs <;> try (cases hs; done)
  rename_i hcl
  rw [if_pos hcl]
  split at hs
  · exact hs
  · exact hs
  · exact hs
  · split at hs
    · split at hs <;> try (cases hs; done)
      exact hc _ _ _ _ hs
    · exact hs

section
variable {n : Nat} {a : Tmps} {h : H}
theorem exec_seq {x y : Code} : exec P O (n + 1) (.seq x y) a h = (match exec P O n x a h with
  | some (.normal, a, h) => exec P O n y a h
  | r => r) := by rw [exec]; rfl
theorem exec_cond {c : Operand} {x y : Code} : exec P O (n + 1) (.cond c x y) a h = (if cleanOp P c then (match tev a c with
  | .bool true => exec P O n x a h
  | .bool false => exec P O n y a h
  | _ => none) else none) := by rw [exec]; rfl
theorem exec_block {id : Nat} {b : Code} : exec P O (n + 1) (.block id b) a h = (match exec P O n b a h with
  | some (.exit id', a, h) => if id' = id then some (.normal, a, h) else some (.exit id', a, h)
  | r => r) := by rw [exec]; rfl
theorem exec_loop {b : Code} : exec P O (n + 1) (.loop b) a h = (match exec P O n b a h with
  | some (.normal, a, h) => exec P O n (.loop b) a h
  | r => r) := by rw [exec]; rfl
theorem exec_region {id : Nat} {ops : Array Oper} : exec P O (n + 1) (.region id ops false) a h = (match runOps P O n ops.toList a h ops with
  | some (a, h) => some (.normal, a, h)
  | none => none) := by rw [exec]; rfl
theorem exec_draw {id : Nat} {ops : Array Oper} : exec P O (n + 1) (.region id ops true) a h = (match trace P O n ops.toList a h ops with
  | some (recs, a1, h1) => if drawText P ops (masks ops.toList #[]) && (readsFirst P ops (masks ops.toList #[]) || drawReads P ops (masks ops.toList #[]) recs h1) || litText P ops (masks ops.toList #[]) a.size then some (.normal, a1, h1) else none
  | none => none) := by rw [exec]; rfl
theorem runOps_cons {o : Oper} {os : List Oper} {all : Array Oper} : runOps P O (n + 1) (o :: os) a h all = (if Region.wanted o (yielded all a) then
    (match opStep P (fun g xs h => call P O n g xs h) o a h with
    | some (v, h) => runOps P O n os (tput a o.dst v) h all
    | none => none)
  else runOps P O n os (tput a o.dst undef) h all) := by rw [runOps]; rfl
theorem trace_cons {o : Oper} {os : List Oper} {all : Array Oper} : trace P O (n + 1) (o :: os) a h all = (if Region.wanted o (yielded all a) then
    (match opStep P (fun g xs h => call P O n g xs h) o a h with
    | some (v, h1) => (match trace P O n os (tput a o.dst v) h1 all with
      | some (recs, a2, h2) => some (⟨a, h, v⟩ :: recs, a2, h2)
      | none => none)
    | none => none)
  else (match trace P O n os (tput a o.dst undef) h all with
    | some (recs, a2, h2) => some (⟨a, h, undef⟩ :: recs, a2, h2)
    | none => none)) := by rw [trace]; rfl
theorem call_succ {f : FuncId} {xs : Array Value} : call P O (n + 1) f xs h = (match O.or f xs h with
  | some r => some r
  | none => (match O.fn f with
    | some fn => (match fn.body with
      | some body => (match exec P O n body (xs ++ Array.replicate (fn.ntmps - xs.size) undef) h with
        | some (.exit _, _, _) => none
        | some (_, a, h) => (match fn.results.toList.mapM (resOf P h a) with
          | some [v] => some (v, h)
          | some vs => some (.tuple vs.toArray, h)
          | none => none)
        | none => none)
      | none => none)
    | none => none)) := by rw [call]; rfl
end

theorem le_succ : ∀ n, (∀ c a h r, exec P O n c a h = some r → exec P O (n + 1) c a h = some r) ∧ (∀ os a h all r, runOps P O n os a h all = some r → runOps P O (n + 1) os a h all = some r) ∧
    (∀ os a h all r, trace P O n os a h all = some r → trace P O (n + 1) os a h all = some r) ∧ ClLe (call P O n) (call P O (n + 1)) := by
  intro n
  induction n with
  | zero => exact ⟨fun c a h r hs => by simp [exec] at hs, fun os a h all r hs => by simp [runOps] at hs, fun os a h all r hs => by simp [trace] at hs, fun f xs h r hs => by simp [call] at hs⟩
  | succ n ih =>
    obtain ⟨i1, i2, i3, i4⟩ := ih
    refine ⟨fun c a h r hs => ?_, fun os a h all r hs => ?_, fun os a h all r hs => ?_, fun f xs h r hs => ?_⟩
    · cases c <;> try exact hs
      case seq x y =>
        rw [exec_seq] at hs ⊢
        split at hs
        · rename_i hx; rw [i1 _ _ _ _ hx]; exact i1 _ _ _ _ hs
        · rename_i hne
          rw [i1 _ _ _ _ hs]
          obtain ⟨e, a', h'⟩ := r
          cases e with
          | normal => exact (hne _ _ hs).elim
          | exit id => rfl
          | ret => rfl
      case cond c x y =>
        rw [exec_cond] at hs ⊢
        split at hs <;> try (cases hs; done)
        rename_i hcl
        rw [if_pos hcl]
        split at hs <;> first | (cases hs; done) | exact i1 _ _ _ _ hs
      case block id b =>
        rw [exec_block] at hs ⊢
        split at hs
        · rename_i hx; rw [i1 _ _ _ _ hx]; exact hs
        · rename_i hne
          rw [i1 _ _ _ _ hs]
          obtain ⟨e, a', h'⟩ := r
          cases e with
          | exit id => exact (hne _ _ _ hs).elim
          | normal => rfl
          | ret => rfl
      case loop b =>
        rw [exec_loop] at hs ⊢
        split at hs
        · rename_i hx; rw [i1 _ _ _ _ hx]; exact i1 _ _ _ _ hs
        · rename_i hne
          rw [i1 _ _ _ _ hs]
          obtain ⟨e, a', h'⟩ := r
          cases e with
          | normal => exact (hne _ _ hs).elim
          | exit id => rfl
          | ret => rfl
      case region id ops draw =>
        cases draw with
        | false =>
          rw [exec_region] at hs ⊢
          split at hs <;> try (cases hs; done)
          rename_i hx; rw [i2 _ _ _ _ _ hx]; exact hs
        | true =>
          rw [exec_draw] at hs ⊢
          split at hs <;> try (cases hs; done)
          rename_i hx; rw [i3 _ _ _ _ _ hx]; exact hs
    · cases os with
      | nil => exact hs
      | cons o os =>
        rw [runOps_cons] at hs ⊢
        split at hs
        · rename_i hw
          rw [if_pos hw]
          split at hs <;> try (cases hs; done)
          rename_i ho
          rw [opStep_le (fun g xs h r => i4 g xs h r) ho]
          exact i2 _ _ _ _ _ hs
        · rename_i hw
          rw [if_neg hw]
          exact i2 _ _ _ _ _ hs
    · cases os with
      | nil => exact hs
      | cons o os =>
        rw [trace_cons] at hs ⊢
        split at hs
        · rename_i hw
          rw [if_pos hw]
          split at hs <;> try (cases hs; done)
          rename_i ho
          rw [opStep_le (fun g xs h r => i4 g xs h r) ho]
          dsimp only
          split at hs <;> try (cases hs; done)
          rename_i ht
          rw [i3 _ _ _ _ _ ht]; exact hs
        · rename_i hw
          rw [if_neg hw]
          split at hs <;> try (cases hs; done)
          rename_i ht
          rw [i3 _ _ _ _ _ ht]; exact hs
    · rw [call_succ] at hs ⊢
      split at hs
      · exact hs
      · split at hs <;> try (cases hs; done)
        split at hs <;> try (cases hs; done)
        split at hs <;> try (cases hs; done)
        rename_i hne hx
        rw [i1 _ _ _ _ hx]
        split
        · rename_i heq
          simp only [Option.some.injEq, Prod.mk.injEq] at heq
          exact (hne _ heq.1).elim
        · rename_i heq
          simp only [Option.some.injEq, Prod.mk.injEq] at heq
          obtain ⟨_, rfl, rfl⟩ := heq
          exact hs
        · rename_i heq; cases heq

theorem exec_le {n m : Nat} (hnm : n ≤ m) {c : Code} {a : Tmps} {h : H} {r : Ext × Tmps × H} (hs : exec P O n c a h = some r) : exec P O m c a h = some r := by
  induction hnm with
  | refl => exact hs
  | step _ ih => exact (le_succ _).1 _ _ _ _ ih
theorem runOps_le {n m : Nat} (hnm : n ≤ m) {os : List Oper} {a : Tmps} {h : H} {all : Array Oper} {r : Tmps × H} (hs : runOps P O n os a h all = some r) : runOps P O m os a h all = some r := by
  induction hnm with
  | refl => exact hs
  | step _ ih => exact (le_succ _).2.1 _ _ _ _ _ ih
theorem trace_le {n m : Nat} (hnm : n ≤ m) {os : List Oper} {a : Tmps} {h : H} {all : Array Oper} {r : List Rec × Tmps × H} (hs : trace P O n os a h all = some r) : trace P O m os a h all = some r := by
  induction hnm with
  | refl => exact hs
  | step _ ih => exact (le_succ _).2.2.1 _ _ _ _ _ ih
theorem call_le {n m : Nat} (hnm : n ≤ m) {f : FuncId} {xs : Array Value} {h : H} {r : Value × H} (hs : call P O n f xs h = some r) : call P O m f xs h = some r := by
  induction hnm with
  | refl => exact hs
  | step _ ih => exact (le_succ _).2.2.2 _ _ _ _ ih

/-- The code comes to this. -/
def Ex (P : Program) (O : Orc) (c : Code) (a : Tmps) (h : H) (r : Ext × Tmps × H) : Prop := ∃ n, exec P O n c a h = some r
/-- The call comes to this. -/
def Ev (P : Program) (O : Orc) (f : FuncId) (xs : Array Value) (h : H) (r : Value × H) : Prop := ∃ n, call P O n f xs h = some r
def Rn (P : Program) (O : Orc) (os : List Oper) (a : Tmps) (h : H) (all : Array Oper) (r : Tmps × H) : Prop := ∃ n, runOps P O n os a h all = some r
def Tr (P : Program) (O : Orc) (os : List Oper) (a : Tmps) (h : H) (all : Array Oper) (r : List Rec × Tmps × H) : Prop := ∃ n, trace P O n os a h all = some r

section
variable {a a1 : Tmps} {h h1 : H} {r : Ext × Tmps × H} {x y c : Code} {id : Nat}

theorem Ex.skip : Ex P O .skip a h (.normal, a, h) := ⟨1, rfl⟩
theorem Ex.label {l} : Ex P O (.label l) a h (.normal, a, h) := ⟨1, rfl⟩
theorem Ex.exit : Ex P O (.exit id) a h (.exit id, a, h) := ⟨1, rfl⟩
theorem Ex.ret : Ex P O .ret a h (.ret, a, h) := ⟨1, rfl⟩
theorem Ex.seq (hx : Ex P O x a h (.normal, a1, h1)) (hy : Ex P O y a1 h1 r) : Ex P O (.seq x y) a h r := by
  obtain ⟨n, hx⟩ := hx
  obtain ⟨m, hy⟩ := hy
  exact ⟨max n m + 1, by rw [exec_seq, exec_le (Nat.le_max_left n m) hx]; exact exec_le (Nat.le_max_right n m) hy⟩
theorem Ex.seq_out (hx : Ex P O x a h r) (hr : r.1 ≠ .normal) : Ex P O (.seq x y) a h r := by
  obtain ⟨n, hx⟩ := hx
  refine ⟨n + 1, ?_⟩
  rw [exec_seq, hx]
  obtain ⟨e, a', h'⟩ := r
  cases e <;> first | rfl | exact absurd rfl hr
theorem Ex.cond_true {t : Operand} (hc : cleanOp P t = true) (ht : tev a t = .bool true) (hx : Ex P O x a h r) : Ex P O (.cond t x y) a h r := by
  obtain ⟨n, hx⟩ := hx
  exact ⟨n + 1, by rw [exec_cond, if_pos hc, ht]; exact hx⟩
theorem Ex.cond_false {t : Operand} (hc : cleanOp P t = true) (ht : tev a t = .bool false) (hx : Ex P O y a h r) : Ex P O (.cond t x y) a h r := by
  obtain ⟨n, hx⟩ := hx
  exact ⟨n + 1, by rw [exec_cond, if_pos hc, ht]; exact hx⟩
def inBlk (id : Nat) : Ext → Ext
  | .exit id' => if id' = id then .normal else .exit id'
  | e => e
theorem Ex.block (hx : Ex P O x a h r) : Ex P O (.block id x) a h (inBlk id r.1, r.2) := by
  obtain ⟨n, hx⟩ := hx
  refine ⟨n + 1, ?_⟩
  rw [exec_block, hx]
  obtain ⟨e, a', h'⟩ := r
  cases e <;> try rfl
  simp only [inBlk]
  split <;> rfl
theorem Ex.loop (hx : Ex P O x a h (.normal, a1, h1)) (hy : Ex P O (.loop x) a1 h1 r) : Ex P O (.loop x) a h r := by
  obtain ⟨n, hx⟩ := hx
  obtain ⟨m, hy⟩ := hy
  exact ⟨max n m + 1, by rw [exec_loop, exec_le (Nat.le_max_left n m) hx]; exact exec_le (Nat.le_max_right n m) hy⟩
theorem Ex.loop_out (hx : Ex P O x a h r) (hr : r.1 ≠ .normal) : Ex P O (.loop x) a h r := by
  obtain ⟨n, hx⟩ := hx
  refine ⟨n + 1, ?_⟩
  rw [exec_loop, hx]
  obtain ⟨e, a', h'⟩ := r
  cases e <;> first | rfl | exact absurd rfl hr
theorem Ex.region {ops : Array Oper} (hx : Rn P O ops.toList a h ops (a1, h1)) : Ex P O (.region id ops false) a h (.normal, a1, h1) := by
  obtain ⟨n, hx⟩ := hx
  exact ⟨n + 1, by rw [exec_region, hx]⟩
theorem Ex.draw {ops : Array Oper} {recs : List Rec} (hx : Tr P O ops.toList a h ops (recs, a1, h1)) (hd : (drawText P ops (masks ops.toList #[]) && (readsFirst P ops (masks ops.toList #[]) || drawReads P ops (masks ops.toList #[]) recs h1) || litText P ops (masks ops.toList #[]) a.size) = true) :
    Ex P O (.region id ops true) a h (.normal, a1, h1) := by
  obtain ⟨n, hx⟩ := hx
  refine ⟨n + 1, ?_⟩
  rw [exec_draw, hx]
  dsimp only
  rw [if_pos hd]
end

section
variable {a : Tmps} {h h1 : H} {all : Array Oper} {o : Oper} {os : List Oper} {v : Value}
theorem Rn.nil : Rn P O [] a h all (a, h) := ⟨1, rfl⟩
/-- One operation comes to this. -/
def St (P : Program) (O : Orc) (o : Oper) (a : Tmps) (h : H) (r : Value × H) : Prop := ∃ n, opStep P (fun g xs h => call P O n g xs h) o a h = some r
theorem Rn.cons {r : Tmps × H} (hw : Region.wanted o (yielded all a) = true) (ho : St P O o a h (v, h1)) (hx : Rn P O os (tput a o.dst v) h1 all r) : Rn P O (o :: os) a h all r := by
  obtain ⟨n, ho⟩ := ho
  obtain ⟨m, hx⟩ := hx
  refine ⟨max n m + 1, ?_⟩
  rw [runOps_cons]
  rw [if_pos hw, opStep_le (fun g xs h r => call_le (Nat.le_max_left n m)) ho]
  exact runOps_le (Nat.le_max_right n m) hx
theorem Rn.skip {r : Tmps × H} (hw : Region.wanted o (yielded all a) = false) (hx : Rn P O os (tput a o.dst undef) h all r) : Rn P O (o :: os) a h all r := by
  obtain ⟨m, hx⟩ := hx
  refine ⟨m + 1, ?_⟩
  rw [runOps_cons]
  rw [if_neg (by simp [hw])]
  exact hx
theorem Tr.nil : Tr P O [] a h all ([], a, h) := ⟨1, rfl⟩
theorem Tr.cons {recs : List Rec} {r : Tmps × H} (hw : Region.wanted o (yielded all a) = true) (ho : St P O o a h (v, h1)) (hx : Tr P O os (tput a o.dst v) h1 all (recs, r)) : Tr P O (o :: os) a h all (⟨a, h, v⟩ :: recs, r) := by
  obtain ⟨n, ho⟩ := ho
  obtain ⟨m, hx⟩ := hx
  refine ⟨max n m + 1, ?_⟩
  rw [trace_cons]
  rw [if_pos hw, opStep_le (fun g xs h r => call_le (Nat.le_max_left n m)) ho]
  dsimp only
  rw [trace_le (Nat.le_max_right n m) hx]
theorem Tr.skip {recs : List Rec} {r : Tmps × H} (hw : Region.wanted o (yielded all a) = false) (hx : Tr P O os (tput a o.dst undef) h all (recs, r)) : Tr P O (o :: os) a h all (⟨a, h, undef⟩ :: recs, r) := by
  obtain ⟨m, hx⟩ := hx
  refine ⟨m + 1, ?_⟩
  rw [trace_cons]
  rw [if_neg (by simp [hw]), hx]
end

/-- What the results come to. -/
def resV (P : Program) (fn : Func) (a : Tmps) (h : H) : Option Value :=
  match fn.results.toList.mapM (resOf P h a) with
  | some [v] => some v
  | some vs => some (.tuple vs.toArray)
  | none => none

theorem Ev.or {f : FuncId} {xs : Array Value} {h : H} {r : Value × H} (ho : O.or f xs h = some r) : Ev P O f xs h r := ⟨1, by rw [call_succ, ho]⟩
theorem Ev.body {f : FuncId} {xs : Array Value} {h h1 : H} {fn : Func} {body : Code} {e : Ext} {a1 : Tmps} {v : Value} (ho : O.or f xs h = none) (hf : O.fn f = some fn) (hb : fn.body = some body)
    (hx : Ex P O body (xs ++ Array.replicate (fn.ntmps - xs.size) undef) h (e, a1, h1)) (he : ∀ id, e ≠ .exit id) (hr : resV P fn a1 h1 = some v) : Ev P O f xs h (v, h1) := by
  obtain ⟨n, hx⟩ := hx
  refine ⟨n + 1, ?_⟩
  rw [call_succ, ho]; dsimp only
  rw [hf]; dsimp only
  rw [hb]; dsimp only
  rw [hx]
  have hq : (match fn.results.toList.mapM (resOf P h1 a1) with
      | some [v] => some (v, h1)
      | some vs => some (.tuple vs.toArray, h1)
      | none => none) = some (v, h1) := by
    unfold resV at hr
    revert hr
    generalize fn.results.toList.mapM (resOf P h1 a1) = q
    intro hr
    rcases q with _ | (_ | ⟨u, _ | ⟨u2, us⟩⟩) <;> simp_all
  cases e with
  | exit id => exact absurd rfl (he id)
  | normal => exact hq
  | ret => exact hq
end Go.Proofs.Zq
