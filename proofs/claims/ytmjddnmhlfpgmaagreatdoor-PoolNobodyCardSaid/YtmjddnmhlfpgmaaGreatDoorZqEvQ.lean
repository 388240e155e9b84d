/- The evaluator once more, so that the kernel runs it in fewer steps; it comes to what the evaluator comes to. -/
import Derived.Test.YtmjddnmhlfpgmaaGreatDoorZqEvQ0
namespace Go.Proofs.Zq
variable {P : Program} {O : Orc}

abbrev T := Tri Value
/-- The way to a place, the low digit first. -/
noncomputable def pth (k : Nat) : List Bool :=
  (Nat.rec (motive := fun _ => Nat → List Bool) (fun _ => []) (fun _ ih k => Nat.rec [] (fun k _ => Nat.beq (k % 2) 1 :: ih (k / 2)) k) (k + 1)) k
noncomputable def fget (p : List Bool) : T → Option Value :=
  List.rec (motive := fun _ => T → Option Value) (fun t => Tri.rec none (fun v _ _ _ _ => v) t) (fun b _ ih t => Tri.rec none (fun _ l r _ _ => Bool.rec (ih l) (ih r) b) t) p
noncomputable def fput (x : Option Value) (p : List Bool) : T → T :=
  List.rec (motive := fun _ => T → T) (fun t => Tri.rec (.node x .nil .nil) (fun _ l r _ _ => .node x l r) t)
    (fun b _ ih t => Tri.rec (Bool.rec (.node none (ih .nil) .nil) (.node none .nil (ih .nil)) b) (fun v l r _ _ => Bool.rec (.node v (ih l) r) (.node v l (ih r)) b) t) p

theorem fget_put_same (x : Option Value) : ∀ (p : List Bool) (t : T), fget p (fput x p t) = x
  | [], t => by cases t <;> rfl
  | b :: p, t => by
    have ih := fun u => fget_put_same x p u
    cases t <;> cases b <;> exact ih _
theorem fget_put_ne (x : Option Value) : ∀ (p q : List Bool) (t : T), q ≠ p → fget q (fput x p t) = fget q t
  | [], [], t, h => absurd rfl h
  | [], c :: q, t, _ => by cases t <;> cases c <;> first | rfl | (cases q <;> rfl)
  | b :: p, [], t, _ => by cases t <;> cases b <;> rfl
  | b :: p, c :: q, t, h => by
    have ih := fun u (hq : q ≠ p) => fget_put_ne x p q u hq
    have none' : ∀ q, fget q .nil = none := fun q => by cases q <;> rfl
    cases t <;> cases b <;> cases c <;> first
      | rfl
      | exact ih _ (fun e => h (by rw [e]))
      | exact (ih .nil (fun e => h (by rw [e]))).trans (none' _)
      | exact none' _

noncomputable def pthN (n : Nat) : Nat → List Bool := Nat.rec (motive := fun _ => Nat → List Bool) (fun _ => []) (fun _ ih k => Nat.rec [] (fun k _ => Nat.beq (k % 2) 1 :: ih (k / 2)) k) n
theorem pthN_inj : ∀ (n m j k : Nat), j < n → k < m → pthN n j = pthN m k → j = k
  | 0, _, _, _, h, _, _ => by omega
  | _, 0, _, _, _, h, _ => by omega
  | n + 1, m + 1, 0, 0, _, _, _ => rfl
  | n + 1, m + 1, 0, k + 1, _, _, e => by simp [pthN] at e
  | n + 1, m + 1, j + 1, 0, _, _, e => by simp [pthN] at e
  | n + 1, m + 1, j + 1, k + 1, h1, h2, e => by
    have e' : Nat.beq (j % 2) 1 :: pthN n (j / 2) = Nat.beq (k % 2) 1 :: pthN m (k / 2) := e
    injection e' with e1 e2
    have := pthN_inj n m (j / 2) (k / 2) (by omega) (by omega) e2
    have h3 : (j % 2 = 1) ↔ (k % 2 = 1) := by
      rw [← Nat.beq_eq, ← Nat.beq_eq, e1]
    omega
theorem pth_inj {j k : Nat} (h : pth j = pth k) : j = k := pthN_inj (j + 1) (k + 1) j k (by omega) (by omega) h

noncomputable def tevT (t : T) : Operand → Value
  | .tmp k => (fget (pth k) t).getD undef
  | .const v => v
  | .global g => .pointer (some ⟨g, 0, none⟩)
  | .func f => .func (.func f) #[] #[]
noncomputable def tputT (sz : Nat) (t : T) (d : Option Tmp) (v : Value) : T :=
  match d with
  | some d => bif Nat.blt d sz then fput (some v) (pth d) t else t
  | none => t
def Rep (sz : Nat) (t : T) (a : Tmps) : Prop := a.size = sz ∧ ∀ k, (fget (pth k) t).getD undef = a.getD k undef

theorem Rep.tev {sz : Nat} {t : T} {a : Tmps} (h : Rep sz t a) : tevT t = tev a := by
  funext x
  cases x with
  | tmp k => exact h.2 k
  | _ => rfl
theorem Rep.put {sz : Nat} {t : T} {a : Tmps} (h : Rep sz t a) (d : Option Tmp) (v : Value) : Rep sz (tputT sz t d v) (tput a d v) := by
  refine ⟨by rw [tput_size]; exact h.1, fun k => ?_⟩
  rw [tput_getD]
  cases d with
  | none => simpa [tputT] using h.2 k
  | some d =>
    simp only [tputT, Option.some.injEq]
    cases hb : Nat.blt d sz with
    | true =>
      have hd : d < sz := by simpa [Nat.blt_eq] using hb
      rw [cond_true]
      by_cases hk : d = k
      · subst hk
        rw [fget_put_same, if_pos ⟨rfl, by rw [h.1]; exact hd⟩]; rfl
      · rw [fget_put_ne _ _ _ _ (fun e => hk (pth_inj e).symm), if_neg (by simp [hk])]; exact h.2 k
    | false =>
      have hd : ¬ d < sz := by intro h; rw [show Nat.blt d sz = true from by rw [Nat.blt_eq]; exact h] at hb; cases hb
      rw [cond_false, if_neg (by rw [h.1]; rintro ⟨rfl, h⟩; exact hd h)]
      exact h.2 k

def fk (k l : IntKind) : Bool := Nat.beq k.ctorIdx l.ctorIdx
theorem fk_eq (k l : IntKind) : fk k l = decide (k = l) := by cases k <;> cases l <;> rfl
def fmost : IntKind → Nat
  | .i8 => 128 | .i16 => 32768 | .i32 => 2147483648 | .i64 => 9223372036854775808 | .u8 => 256 | .u16 => 65536 | .u32 => 4294967296 | .u64 => 18446744073709551616
def fwrap (k : IntKind) (n : Int) : Int :=
  match n with
  | .ofNat m => bif Nat.blt m (fmost k) then .ofNat m else k.wrap (.ofNat m)
  | .negSucc m => k.wrap (.negSucc m)
theorem fwrap_eq (k : IntKind) (n : Int) : fwrap k n = k.wrap n := by
  cases n with
  | ofNat m =>
    simp only [fwrap]
    cases hb : Nat.blt m (fmost k) with
    | false => rfl
    | true =>
      have hm : m < fmost k := by simpa [Nat.blt_eq] using hb
      rw [cond_true]
      cases k <;> simp only [fmost] at hm <;> simp only [IntKind.wrap, IntKind.bits, IntKind.signed, Int.ofNat_eq_natCast] <;> simp <;> omega
  | negSucc m => rfl
def flt (a b : Int) : Bool :=
  match a, b with
  | .ofNat m, .ofNat n => Nat.blt m n
  | a, b => decide (a < b)
theorem flt_eq (a b : Int) : flt a b = decide (a < b) := by
  unfold flt
  split
  · rename_i m n
    rw [Bool.eq_iff_iff, Nat.blt_eq, decide_eq_true_iff]
    simp
  · rfl
def feq (a b : Int) : Bool :=
  match a, b with
  | .ofNat m, .ofNat n => Nat.beq m n
  | a, b => a == b
theorem feq_eq (a b : Int) : feq a b = (a == b) := by
  unfold feq
  split
  · rename_i m n
    rw [Bool.eq_iff_iff, beq_iff_eq, Nat.beq_eq]
    simp only [Int.ofNat_eq_natCast]
    omega
  · rfl

/-- Two ints of one kind. -/
def fint2 (x y : Operand) (f : IntKind → Int → Int → Value) (g : Value → Value → Option Value) (ρ : Operand → Value) : Option Value :=
  match ρ x with
  | .int k a => (match ρ y with
    | .int k' b => bif fk k k' then some (f k a b) else none
    | v => g (.int k a) v)
  | u => g u (ρ y)
/-- '==' and '!=' of others. -/
def feql (P : Program) (neg : Bool) (t : TypeId) (u v : Value) : Option Value :=
  match u with
  | .string _ => pbin P (bif neg then .neq else .eql) t u v
  | .nilIface => pbin P (bif neg then .neq else .eql) t u v
  | .int _ _ => pbin P (bif neg then .neq else .eql) t u v
  | .agg _ => bif P.eqGuardType P.depth t then none else (match v with
    | .agg _ => (match fpeq P 10000 t u v with | some b => some (.bool (bif neg then !b else b)) | none => none)
    | _ => none)
  | _ => (match fpeq P 10000 t u v with | some b => some (.bool (bif neg then !b else b)) | none => none)
theorem feql_ok {neg : Bool} {t : TypeId} {u v w : Value} (h : feql P neg t u v = some w) : pbin P (bif neg then .neq else .eql) t u v = some w := by
  unfold feql at h
  rw [fpeq_eq] at h
  cases u
  case string s => exact h
  case nilIface => exact h
  case int k n => exact h
  case agg xs =>
    dsimp only at h
    cases hg : P.eqGuardType P.depth t with
    | true => rw [hg] at h; cases h
    | false =>
      rw [hg, cond_false] at h
      split at h <;> try (cases h; done)
      cases neg <;> simp only [pbin, hg, cond_true, cond_false] <;> (split at h <;> try (cases h; done)) <;> simp_all
  all_goals
    dsimp only at h
    cases neg <;> simp only [pbin, cond_true, cond_false] <;> (split at h <;> try (cases h; done)) <;> simp_all
def fbin (P : Program) (op : BinOp) (t : TypeId) (x y : Operand) : (Operand → Value) → Option Value :=
  match op with
  | .add => fint2 x y (fun k a b => .int k (fwrap k (a + b))) (pbin P .add t)
  | .sub => fint2 x y (fun k a b => .int k (fwrap k (a - b))) (pbin P .sub t)
  | .mul => fint2 x y (fun k a b => .int k (fwrap k (a * b))) (pbin P .mul t)
  | .eql => fint2 x y (fun _ a b => .bool (feq a b)) (feql P false t)
  | .neq => fint2 x y (fun _ a b => .bool (!feq a b)) (feql P true t)
  | .lss => fint2 x y (fun _ a b => .bool (flt a b)) (pbin P .lss t)
  | .gtr => fint2 x y (fun _ a b => .bool (flt b a)) (pbin P .gtr t)
  | .leq => fint2 x y (fun _ a b => .bool (!flt b a)) (pbin P .leq t)
  | .geq => fint2 x y (fun _ a b => .bool (!flt a b)) (pbin P .geq t)
  | op => fun ρ => pbin P op t (ρ x) (ρ y)
theorem fint2_ok {op : BinOp} {t : TypeId} {x y : Operand} {f : IntKind → Int → Int → Value} {g : Value → Value → Option Value} (hs : isShift op = false) (hf : ∀ k a b, pint op k a b = some (f k a b)) (hg : ∀ u v w, g u v = some w → pbin P op t u v = some w)
    {ρ : Operand → Value} {w : Value} (h : fint2 x y f g ρ = some w) : pbin P op t (ρ x) (ρ y) = some w := by
  unfold fint2 at h
  split at h
  · rename_i k a hx
    rw [hx]
    split at h
    · rename_i k' b hy
      rw [hy]
      simp only [pbin, hs, Bool.false_or, hf]
      rw [fk_eq] at h
      by_cases hk : k = k'
      · simpa [hk] using h
      · simp [hk] at h
    · exact hg _ _ _ h
  · exact hg _ _ _ h
theorem fbin_ok {op : BinOp} {t : TypeId} {x y : Operand} {ρ : Operand → Value} {w : Value} (h : fbin P op t x y ρ = some w) : pbin P op t (ρ x) (ρ y) = some w := by
  have le : ∀ a b : Int, decide (a ≤ b) = !decide (b < a) := fun a b => by
    rw [Bool.eq_iff_iff]; simp
  cases op <;> simp only [fbin] at h <;> first
    | exact h
    | exact fint2_ok rfl (fun k a b => by simp [pint, fwrap_eq, flt_eq, bne, le]) (fun _ _ _ h => h) h
    | exact fint2_ok (op := .eql) rfl (fun k a b => by simp [pint, feq_eq]) (fun _ _ _ h => feql_ok (neg := false) h) h
    | exact fint2_ok (op := .neq) rfl (fun k a b => by simp [pint, feq_eq, bne]) (fun _ _ _ h => feql_ok (neg := true) h) h

def fpop (P : Program) (o : Oper) : Option ((Operand → Value) → Option Value) :=
  match o.op with
  | .move x => some fun ρ => some (ρ x)
  | .assign x => some fun ρ => some (ρ x)
  | .binOp op t x y _ => some (fbin P op t x y)
  | .extract t i => some fun ρ => (match ρ t with | .tuple vs => vs[i]? | _ => none)
  | .nilCheck x => some fun ρ => (match ρ x with
    | .pointer (some a) => some (.pointer (some a))
    | .iface t v => some (.iface t v)
    | .func (.func f) xs ys => some (.func (.func f) xs ys)
    | _ => none)
  | .fieldAddr s x f => (match P.underlying s with
    | some (.struct fs) => (match fs[f]? with
      | some fd => (match psz P fd.type with
        | some (_ + 1) => some fun ρ => (match ρ x with | .pointer (some ⟨b, off, none⟩) => some (.pointer (some ⟨b, off + fd.offset, none⟩)) | _ => none)
        | _ => none)
      | none => none)
    | _ => none)
  | .field t x f => (match P.underlying t with
    | some (.struct fs) => (match fs[f]? with
      | some fd => some fun ρ => (match ρ x with | .agg cs => ppart P fd.type cs fd.offset | _ => none)
      | none => none)
    | _ => none)
  | .indexAddr t x i => (match P.underlying t with
    | some (.slice e) => (match psz P e with
      | some s => some fun ρ => (match ρ x, ρ i with
        | .slice (some ⟨b, off, none⟩) n _, .int _ (.ofNat j) => bif Nat.blt j n then some (.pointer (some ⟨b, off + j * s, none⟩)) else none
        | _, _ => none)
      | none => none)
    | _ => none)
  | _ => none

theorem fpop_eq {o : Oper} {f : (Operand → Value) → Option Value} (hf : fpop P o = some f) {ρ : Operand → Value} {v : Value} (hv : f ρ = some v) : kindOf P o = 0 ∧ pop P ρ o = some v := by
  unfold fpop at hf
  split at hf
  · rename_i x e
    injection hf with hf; subst hf
    exact ⟨by simp [kindOf, e], by simpa [pop, e] using hv⟩
  · rename_i x e
    injection hf with hf; subst hf
    exact ⟨by simp [kindOf, e], by simpa [pop, e] using hv⟩
  · rename_i op t x y _ e
    injection hf with hf; subst hf
    have hv := fbin_ok hv
    exact ⟨by simp [kindOf, e], by simpa [pop, e] using hv⟩
  · rename_i t i e
    injection hf with hf; subst hf
    refine ⟨by simp [kindOf, e], ?_⟩
    simp only [pop, e]
    dsimp only at hv
    split at hv <;> first | (cases hv; done) | (rename_i hx; rw [hx]; exact hv)
  · rename_i x e
    injection hf with hf; subst hf
    refine ⟨by simp [kindOf, e], ?_⟩
    simp only [pop, e]
    dsimp only at hv
    split at hv <;> first | (cases hv; done) | (rename_i hx; rw [hx]; exact hv)
  · rename_i s x f' e
    split at hf <;> try (cases hf; done)
    rename_i fs hu
    split at hf <;> try (cases hf; done)
    rename_i fd hfd
    split at hf <;> try (cases hf; done)
    rename_i n hn
    injection hf with hf; subst hf
    refine ⟨by simp [kindOf, e], ?_⟩
    simp only [pop, e]
    dsimp only at hv
    split at hv <;> try (cases hv; done)
    rename_i b off hx
    rw [hu, hx]
    dsimp only
    rw [hfd]
    dsimp only
    rw [hn]
    exact hv
  · rename_i t x f' e
    split at hf <;> try (cases hf; done)
    rename_i fs hu
    split at hf <;> try (cases hf; done)
    rename_i fd hfd
    injection hf with hf; subst hf
    refine ⟨by simp [kindOf, e], ?_⟩
    simp only [pop, e]
    dsimp only at hv
    split at hv <;> try (cases hv; done)
    rename_i cs hx
    rw [hu, hx]
    dsimp only
    rw [hfd]
    exact hv
  · rename_i t x i e
    split at hf <;> try (cases hf; done)
    rename_i el hu
    split at hf <;> try (cases hf; done)
    rename_i s hs
    injection hf with hf; subst hf
    refine ⟨by simp [kindOf, e], ?_⟩
    simp only [pop, e]
    dsimp only at hv
    split at hv <;> try (cases hv; done)
    rename_i b off n c k j hx hi
    cases hb : Nat.blt j n with
    | false => rw [hb] at hv; cases hv
    | true =>
      rw [hb] at hv
      have hj : j < n := by simpa [Nat.blt_eq] using hb
      rw [hu, hx, hi]
      dsimp only
      rw [hs]
      dsimp only
      rw [if_pos (by constructor <;> simp [hj])]
      exact hv
  · cases hf

/-- What is neither a call. -/
def gstep (P : Program) (o : Oper) (ρ : Operand → Value) (h : H) : Option (Value × H) :=
  match kindOf P o with
  | 0 => (match pop P ρ o with | some v => some (v, h) | none => none)
  | 1 => (match rop P h ρ o with | some v => some (v, h) | none => none)
  | 2 => (match aop P ρ o with | some (cs, t, f) => some (f h.next, h.add (.cells cs t true false)) | none => none)
  | _ => xop P h ρ o

inductive D where
  | p (f : (Operand → Value) → Option Value)
  | h (f : H → (Operand → Value) → Option (Value × H))
  | c (f : Operand) (args : List Operand)
  | bad

def fcell (h : H) (b off : Nat) : Option Value :=
  match h.get b with
  | some (.cells cs _ _ _) => cs[off]?
  | _ => none
def fset (h : H) (b off : Nat) (v : Value) : Option (Value × H) :=
  match h.get b with
  | some (.cells cs e true opn) => bif Nat.blt off cs.length && v.oneCell' then some (undef, h.set b (.cells (cs.set off v) e true opn)) else none
  | _ => none

theorem fcell_eq {h : H} {b off : Nat} {v : Value} (hv : fcell h b off = some v) : h.cells b off 1 = some [v] := by
  unfold fcell at hv
  unfold H.cells
  split at hv <;> try (cases hv; done)
  rename_i cs e own opn hg
  rw [hg]
  dsimp only
  obtain ⟨h1, h2⟩ := List.getElem?_eq_some_iff.1 hv
  rw [if_pos (by omega)]
  congr 1
  apply List.ext_getElem?
  intro i
  by_cases hi : i = 0
  · subst hi
    rw [List.getElem?_take, if_pos (by omega), List.getElem?_drop]
    simpa using hv
  · rw [List.getElem?_take, if_neg (by omega)]
    have : 0 < i := by omega
    simp [hi]

theorem splice_one {cs : List Value} {off : Nat} (h : off < cs.length) (v : Value) : splice cs off [v] = cs.set off v := by
  unfold splice
  simp [List.set_eq_take_append_cons_drop, h]

def isOne : Option Nat → Bool
  | some n => Nat.beq n 1
  | none => false
theorem isOne_eq {x : Option Nat} (h : isOne x = true) : x = some 1 := by
  cases x with
  | none => cases h
  | some n => rw [Nat.eq_of_beq_eq_true h]

def fdec (P : Program) (o : Oper) : D :=
  bif cleanOps P o then
    (match fpop P o with
    | some f => .p f
    | none =>
      (match o.op with
      | .call { callee := .value f, args, .. } => .c f args.toList
      | .load t a => (match pagg P t with
        | some false => .h fun h ρ => (match ρ a with
          | .pointer (some ⟨b, off, none⟩) => (match fcell h b off with | some v => some (v, h) | none => none)
          | _ => none)
        | _ => .h fun h ρ => gstep P o ρ h)
      | .store t a x =>
        bif isOne (psz P t) then .h fun h ρ => (match ρ a with
          | .pointer (some ⟨b, off, none⟩) => fset h b off (ρ x)
          | _ => none)
        else .h fun h ρ => gstep P o ρ h
      | _ => .h fun h ρ => gstep P o ρ h))
  else .bad

abbrev FCl := FuncId → List Value → H → Option (Value × H)

noncomputable def fstep (P : Program) (cl : FCl) (o : Oper) (t : T) (h : H) : Option (Value × H) :=
  match fdec P o with
  | .p f => (match f (tevT t) with | some v => some (v, h) | none => none)
  | .h f => f h (tevT t)
  | .c f args => (match tevT t f with
    | .func (.func g) first captured => cl g (first.toList ++ (args.map (tevT t) ++ captured.toList)) h
    | _ => none)
  | .bad => none

def EvOk (P : Program) (O : Orc) (cl : FCl) : Prop := ∀ f xs h r, cl f xs h = some r → Ev P O f xs.toArray h r

theorem gstep_ok {o : Oper} {a : Tmps} {h : H} {r : Value × H} (hc : cleanOps P o = true) (hnc : ∀ f args ats, o.op ≠ .call { callee := .value f, args := args, argTypes := ats }) (hs : gstep P o (tev a) h = some r) : St P O o a h r := by
  refine ⟨0, ?_⟩
  unfold opStep
  rw [if_pos hc]
  unfold gstep at hs
  split
  · rename_i hk; rw [hk] at hs; exact hs
  · rename_i hk; rw [hk] at hs; exact hs
  · rename_i hk; rw [hk] at hs; exact hs
  · rename_i h0 h1 h2
    split at hs
    · exact absurd (by assumption) h0
    · exact absurd (by assumption) h1
    · exact absurd (by assumption) h2
    · split
      · rename_i f args ats e; exact absurd e (hnc _ _ _)
      · exact hs

theorem fstep_ok {cl : FCl} (hcl : EvOk P O cl) {sz : Nat} {t : T} {a : Tmps} (hr : Rep sz t a) {o : Oper} {h : H} {r : Value × H} (hs : fstep P cl o t h = some r) : St P O o a h r := by
  unfold fstep at hs
  rw [hr.tev] at hs
  unfold fdec at hs
  cases hc : cleanOps P o with
  | false => rw [hc] at hs; cases hs
  | true =>
    rw [hc, cond_true] at hs
    have gen : (∀ f args ats, o.op ≠ .call { callee := .value f, args := args, argTypes := ats }) → gstep P o (tev a) h = some r → St P O o a h r :=
      fun h1 h2 => gstep_ok hc h1 h2
    cases hp : fpop P o with
    | some f =>
      rw [hp] at hs
      dsimp only at hs
      split at hs <;> try (cases hs; done)
      rename_i v hv
      injection hs with hs; subst hs
      obtain ⟨h1, h2⟩ := fpop_eq hp hv
      refine ⟨0, ?_⟩
      unfold opStep
      simp only [hc, if_true, h1, h2]
    | none =>
      rw [hp] at hs
      cases ho : o.op
      case call c =>
        obtain ⟨ce, args, ats⟩ := c
        cases ce with
        | value f =>
          simp only [ho] at hs
          split at hs <;> try (cases hs; done)
          rename_i g first captured hf
          obtain ⟨n, hev⟩ := hcl _ _ _ _ hs
          refine ⟨n, ?_⟩
          unfold opStep
          have hk : kindOf P o = 3 := by simp [kindOf, ho]
          simp only [hc, if_true, hk, ho, callee, hf]
          rw [← hev]
          congr 1
          apply Array.toList_inj.1
          simp
        | _ =>
          simp only [ho] at hs
          exact gen (by rw [ho]; intro f args ats e; cases e) hs
      case load ty x =>
        simp only [ho] at hs
        cases hg : pagg P ty with
        | none => rw [hg] at hs; exact gen (by rw [ho]; intro f args ats e; cases e) hs
        | some b =>
          cases b with
          | true => rw [hg] at hs; exact gen (by rw [ho]; intro f args ats e; cases e) hs
          | false =>
            rw [hg] at hs
            dsimp only at hs
            split at hs <;> try (cases hs; done)
            rename_i b off hx
            split at hs <;> try (cases hs; done)
            rename_i v hv
            injection hs with hs; subst hs
            refine ⟨0, ?_⟩
            unfold opStep
            have hk : kindOf P o = 1 := by simp [kindOf, ho]
            simp only [hc, if_true, hk, rop, ho, hx, hg, fcell_eq hv]
      case store ty x y =>
        simp only [ho] at hs
        have gen' := gen (by rw [ho]; intro f args ats e; cases e)
        cases hz' : isOne (psz P ty) with
        | true =>
          have hz := isOne_eq hz'
          rw [hz', cond_true] at hs
          dsimp only at hs
          split at hs <;> try (cases hs; done)
          rename_i b off hx
          unfold fset at hs
          split at hs <;> try (cases hs; done)
          rename_i cs e opn hg
          cases hb : (Nat.blt off cs.length && (tev a y).oneCell') with
          | false => rw [hb] at hs; cases hs
          | true =>
            rw [hb, cond_true] at hs
            injection hs with hs; subst hs
            simp only [Bool.and_eq_true] at hb
            obtain ⟨hb1, hb2⟩ := hb
            have hlt : off < cs.length := by simpa [Nat.blt_eq] using hb1
            have hcells : (tev a y).cells = #[tev a y] := by
              revert hb2; cases tev a y <;> simp [Value.oneCell', Value.cells]
            refine ⟨0, ?_⟩
            unfold opStep
            have hk : kindOf P o = 3 := by simp [kindOf, ho]
            simp only [hc, if_true, hk, xop, ho, hx, hz, hcells, H.write, hg]
            rw [if_pos (by simp), if_pos (by simp [hb2]; omega)]
            simp [splice_one hlt]
        | false => rw [hz', cond_false] at hs; exact gen' hs
      all_goals
        simp only [ho] at hs
        exact gen (by rw [ho]; intro f args ats e; cases e) hs
end Go.Proofs.Zq
