/- An operation that asks nothing of the heap: what the evaluator says of it holds in the model. -/
import Derived.Test.YtmjddnmhlfpgmaaGreatDoorZqEvD
namespace Go.Proofs.Zq
variable {P : Program} {σ : Sg}

theorem int_rel {op : BinOp} {k k' : IntKind} {a b : Int} {v : Value} {t : TypeId} (hk : isShift op = true ∨ k = k') (h : pint op k a b = some v) (w : World) :
    (binOp op t (.int k a) (.int k' b)).run P w = .ok v w ∧ flat v = true := by
  cases op <;> simp [isShift] at hk <;> simp only [pint] at h
  case shl => split at h <;> simp at h; subst h; simp [binOp, Op.shift, flat, *]
  case shr => split at h <;> simp at h; subst h; simp [binOp, Op.shift, flat, *]
  case quo => subst hk; split at h <;> simp at h; subst h; simp [binOp, Op.intDiv, flat, *]
  case rem => subst hk; split at h <;> simp at h; subst h; simp [binOp, Op.intDiv, flat, *]
  all_goals (subst hk; simp at h; subst h; simp [binOp, Op.intArith, Op.intBits, Op.intCmp, flat])

theorem str_rel {op : BinOp} {a b : ByteArray} {v : Value} {t : TypeId} (h : pstr op a b = some v) (w : World) :
    (binOp op t (.string a) (.string b)).run P w = .ok v w ∧ flat v = true := by
  cases op <;> simp only [pstr] at h
  case add =>
    split at h <;> simp at h
    subst h
    rename_i hle
    have : (a.size : Int) + b.size ≤ 9223372036854775807 := by omega
    simp [binOp, Op.stringOp, this, flat]
  all_goals (simp at h; try (subst h; simp [binOp, Op.stringOp, flat]))

/-- Pairs of values that can be held against each other without an address, and are neither two ints, two strings, two structs nor two nil interfaces. -/
def shp : Value → Value → Bool
  | .bool _, .bool _ | .pointer _, .pointer _ | .nilIface, .iface _ _ | .iface _ _, .nilIface | .slice _ _ _, .slice _ _ _ | .map _, .map _
  | .nilFunc, .nilFunc | .nilFunc, .func _ _ _ | .func _ _ _, .nilFunc => true
  | _, _ => false
def shq : Value → Value → Bool
  | .int _ _, .int _ _ | .string _, .string _ | .agg _, .agg _ | .nilIface, .nilIface => true
  | x, y => shp x y

theorem peq_shape {d : Nat} {t : TypeId} {x y : Value} {r : Bool} (h : peq P d t x y = some r) : shq x y = true := by
  cases d with
  | zero => simp [peq] at h
  | succ d =>
    rw [peq.eq_def] at h
    dsimp only at h
    split at h <;> first | rfl | (cases h; done)

theorem VR.shp {x y x' y' : Value} (hx : VR σ x x') (hy : VR σ y y') : shp x' y' = shp x y := by
  cases hx <;> cases hy <;> rfl

theorem eql_run {t : TypeId} {op : BinOp} {x y : Operand} {a b : Value} {r : Bool} (hs : shp a b = true) (w : World) (e : (Op.equal t a b).run P w = .ok r w) :
    (op = .eql → (do eqGuard op t x y a b; binOp op t a b : Sem Value).run P w = .ok (.bool r) w) ∧ (op = .neq → (do eqGuard op t x y a b; binOp op t a b : Sem Value).run P w = .ok (.bool (!r)) w) := by
  constructor <;> rintro rfl <;> cases a <;> cases b <;> simp [Zq.shp] at hs <;> simp [eqGuard, binOp, e]

theorem bin_rel {op : BinOp} {t : TypeId} {x y : Operand} {a b a' b' v : Value} (ha : VR σ a a') (hb : VR σ b b') (h : pbin P op t a b = some v) (w : World) :
    (do eqGuard op t x y a' b'; binOp op t a' b' : Sem Value).run P w = .ok v w ∧ flat v = true := by
  unfold pbin at h
  split at h
  · cases ha; cases hb
    split at h
    · rename_i hk
      have := int_rel (P := P) (t := t) (by simpa using hk) h w
      rw [eqGuard_at_int]
      exact ⟨by simpa using this.1, this.2⟩
    · cases h
  · cases ha; cases hb
    have := str_rel (P := P) (t := t) h w
    rw [eqGuard_at_string]
    exact ⟨by simpa using this.1, this.2⟩
  · have ha0 := ha
    have hb0 := hb
    obtain ⟨xs', rfl, hxs⟩ := ha.agg_inv
    obtain ⟨ys', rfl, hys⟩ := hb.agg_inv
    split at h
    · cases h
    · rename_i hg
      have hg' : P.eqGuardType P.depth t = false := by simpa using hg
      have e1 : ∀ op, (eqGuard op t x y (.agg xs') (.agg ys')).run P w = .ok () w := fun op => run_eqGuard_agg w op t x y xs' ys' hg'
      split at h
      · simp only [Option.map_eq_some_iff] at h
        obtain ⟨r, hr, rfl⟩ := h
        have e := equal_rel 10000 ha0 hb0 hr w
        exact ⟨by simp only [Sem.run_bind, e1, Result.andThen_ok, run_eql_struct, e], rfl⟩
      · simp only [Option.map_eq_some_iff] at h
        obtain ⟨r, hr, rfl⟩ := h
        have e := equal_rel 10000 ha0 hb0 hr w
        exact ⟨by simp only [Sem.run_bind, e1, Result.andThen_ok, run_neq_struct, e], rfl⟩
      · cases h
  · cases h
  · rename_i n1 n2 n3 n4
    have sh : ∀ {r}, peq P 10000 t a b = some r → shp a' b' = true := fun hr => by
      rw [VR.shp ha hb]
      have := peq_shape hr
      cases a <;> cases b <;> simp_all [shq, shp]
      exact n1 _ _ _ _ rfl rfl rfl rfl
    split at h
    · simp only [Option.map_eq_some_iff] at h
      obtain ⟨r, hr, rfl⟩ := h
      exact ⟨(eql_run (sh hr) w (equal_rel 10000 ha hb hr w)).1 rfl, rfl⟩
    · simp only [Option.map_eq_some_iff] at h
      obtain ⟨r, hr, rfl⟩ := h
      exact ⟨(eql_run (sh hr) w (equal_rel 10000 ha hb hr w)).2 rfl, rfl⟩
    · cases h

theorem fill_rel (place : Nat → Option (Nat × Nat)) : ∀ (ps ps' : List (Nat × Value)) {cs cs' out : Array Value}, AR σ cs cs' → ps.map (·.1) = ps'.map (·.1) →
    (∀ i (h : i < ps.length) (h' : i < ps'.length), VR σ (ps[i]).2 (ps'[i]).2) → Instr.fill place cs ps = some out → ∃ out', Instr.fill place cs' ps' = some out' ∧ AR σ out out'
  | [], ps', cs, cs', out, hc, hm, _, h => by
    cases ps' with
    | nil => simp [Instr.fill] at h ⊢; subst h; exact hc
    | cons p ps' => simp at hm
  | (i, v) :: ps, ps', cs, cs', out, hc, hm, hv, h => by
    cases ps' with
    | nil => simp at hm
    | cons p' ps' =>
      obtain ⟨i', v'⟩ := p'
      simp at hm
      obtain ⟨rfl, hm⟩ := hm
      have hv0 : VR σ v v' := hv 0 (by simp) (by simp)
      have hcl := hv0.cells
      simp only [Instr.fill] at h ⊢
      cases hp : place i with
      | none => simp [hp] at h
      | some q =>
        obtain ⟨off, size⟩ := q
        simp only [hp] at h ⊢
        rw [← hcl.1, ← hc.1]
        split at h
        · cases h
        · rename_i hn
          rw [if_neg hn]
          refine fill_rel place ps ps' ?_ hm (fun j h1 h2 => hv (j + 1) (by simpa using h1) (by simpa using h2)) h
          have key : ∀ (l l' : List (Value × Nat)) {cs cs' : Array Value}, AR σ cs cs' → l.map (·.2) = l'.map (·.2) → (∀ i (h : i < l.length) (h' : i < l'.length), VR σ (l[i]).1 (l'[i]).1) →
              AR σ (l.foldl (fun cs (c, j) => cs.setIfInBounds (off + j) c) cs) (l'.foldl (fun cs (c, j) => cs.setIfInBounds (off + j) c) cs') := by
            intro l
            induction l with
            | nil => intro l' cs cs' hc hm _; cases l' with
              | nil => exact hc
              | cons a b => simp at hm
            | cons x l ih =>
              intro l' cs cs' hc hm hv
              cases l' with
              | nil => simp at hm
              | cons x' l' =>
                obtain ⟨c, j⟩ := x
                obtain ⟨c', j'⟩ := x'
                simp at hm
                obtain ⟨rfl, hm⟩ := hm
                simp only [List.foldl_cons]
                exact ih l' (hc.setIfInBounds _ (hv 0 (by simp) (by simp))) hm (fun i h1 h2 => hv (i + 1) (by simpa using h1) (by simpa using h2))
          have := key v.cells.zipIdx.toList v'.cells.zipIdx.toList hc (by simp [hcl.1]) (fun k h1 h2 => by
            simp only [Array.getElem_toList, Array.getElem_zipIdx]
            exact hcl.2 k (by simpa using h1) (by simpa using h2))
          simpa only [Array.foldl_toList] using this

theorem built_rel {t : TypeId} {z : Value} (hz : pzero P t = some z) (hcz : clean z = true) {ps ps' : List (Nat × Value)} {out : Array Value} (hm : ps.map (·.1) = ps'.map (·.1))
    (hv : ∀ i (h : i < ps.length) (h' : i < ps'.length), VR σ (ps[i]).2 (ps'[i]).2) (h : P.built t ps = some out) : ∃ out', P.built t ps' = some out' ∧ AR σ out out' := by
  unfold pzero at hz
  unfold Program.built at h ⊢
  cases hi : P.info? t with
  | none => simp [hi] at h
  | some it =>
    simp [hi] at hz
    have hzz : AR σ z.cells z.cells := (VR.clean hcz).cells
    cases hu : P.underlying t with
    | none => simp [hi, hu] at h
    | some d =>
      cases d <;> try (simp [hi, hu] at h; done)
      case array n e =>
        cases he : P.info? e with
        | none => simp [hi, hu, hz, he] at h
        | some ie =>
          simp only [hi, hu, hz, he] at h ⊢
          exact fill_rel _ ps ps' hzz hm hv h
      case struct fs =>
        simp only [hi, hu, hz] at h ⊢
        cases hp : fs.toList.mapM (fun f => (P.info? f.type).map fun i => (f.offset, i.size)) with
        | none => simp [hp] at h
        | some places =>
          simp only [hp] at h ⊢
          exact fill_rel _ ps ps' hzz hm hv h
end Go.Proofs.Zq
