import Derived.Test.YtmjddnmhlfpgmaaGreatDoorZqPlA
namespace Go.Proofs.Zq
open Go.Proofs
section
variable {P : Program} {O : Orc} {o : Oper} {os : List Oper} {a : Tmps} {h : H} {all : Array Oper} {v : Value}

theorem St.pop (hc : cleanOps P o = true) (hk : kindOf P o = 0) (hp : Zq.pop P (tev a) o = some v) : St P O o a h (v, h) := ⟨0, by unfold opStep; simp [hc, hk, hp]⟩
theorem St.rop (hc : cleanOps P o = true) (hk : kindOf P o = 1) (hp : Zq.rop P h (tev a) o = some v) : St P O o a h (v, h) := ⟨0, by unfold opStep; simp [hc, hk, hp]⟩
theorem St.aop {cs : List Value} {t : TypeId} {f : Nat → Value} (hc : cleanOps P o = true) (hk : kindOf P o = 2) (hp : Zq.aop P (tev a) o = some (cs, t, f)) : St P O o a h (f h.next, h.add (.cells cs t true false)) := ⟨0, by unfold opStep; simp [hc, hk, hp]⟩
theorem St.xop {r : Value × H} (hc : cleanOps P o = true) (hk : kindOf P o = 3) (hn : ∀ f args ats, o.op ≠ .call { callee := .value f, args := args, argTypes := ats }) (hp : Zq.xop P h (tev a) o = some r) : St P O o a h r := by
  refine ⟨0, ?_⟩
  unfold opStep
  simp only [hc, if_true, hk]
  first
    | exact hp
    | (split
       · rename_i e; exact absurd e (hn _ _ _)
       · exact hp)
theorem St.call {f : Operand} {args : Array Operand} {ats : Array TypeId} {g : FuncId} {xs : Array Value} {r : Value × H} (hc : cleanOps P o = true) (hop : o.op = .call { callee := .value f, args := args, argTypes := ats })
    (hcal : callee (tev a) { callee := .value f, args := args, argTypes := #[] } = some (g, xs)) (hev : Ev P O g xs h r) : St P O o a h r := by
  obtain ⟨n, hev⟩ := hev
  refine ⟨n, ?_⟩
  unfold opStep
  have hk : kindOf P o = 3 := by simp [kindOf, hop]
  simp only [hc, if_true, hk, hop, hcal, hev]

theorem Rn.pop {r : Tmps × H} (hg : o.guard = none) (hc : cleanOps P o = true) (hk : kindOf P o = 0) (hp : Zq.pop P (tev a) o = some v) (hx : Rn P O os (tput a o.dst v) h all r) : Rn P O (o :: os) a h all r :=
  Rn.cons (by unfold Region.wanted; rw [hg]) (St.pop hc hk hp) hx
theorem Rn.rop {r : Tmps × H} (hg : o.guard = none) (hc : cleanOps P o = true) (hk : kindOf P o = 1) (hp : Zq.rop P h (tev a) o = some v) (hx : Rn P O os (tput a o.dst v) h all r) : Rn P O (o :: os) a h all r :=
  Rn.cons (by unfold Region.wanted; rw [hg]) (St.rop hc hk hp) hx

theorem Rn.trace : ∀ {n : Nat} {os : List Oper} {a : Tmps} {h : H} {r : Tmps × H}, runOps P O n os a h all = some r → ∃ recs, Tr P O os a h all (recs, r)
  | 0, os, a, h, r, hs => by simp [runOps] at hs
  | n + 1, [], a, h, r, hs => by
    simp only [runOps, Option.some.injEq] at hs
    subst hs
    exact ⟨[], Tr.nil⟩
  | n + 1, o :: os, a, h, r, hs => by
    rw [runOps_cons] at hs
    split at hs
    · rename_i hw
      split at hs <;> try (cases hs; done)
      rename_i ho
      obtain ⟨recs, ht⟩ := Rn.trace hs
      exact ⟨_, Tr.cons hw ⟨n, ho⟩ ht⟩
    · rename_i hw
      obtain ⟨recs, ht⟩ := Rn.trace hs
      exact ⟨_, Tr.skip (by simpa using hw) ht⟩

/-- A drawn region in which reads stand first. -/
theorem Ex.first {id : Nat} {ops : Array Oper} {a1 : Tmps} {h1 : H} (hx : Rn P O ops.toList a h ops (a1, h1)) (hd : (drawText P ops (masks ops.toList #[]) && readsFirst P ops (masks ops.toList #[])) = true) : Ex P O (.region id ops true) a h (.normal, a1, h1) := by
  obtain ⟨n, hx⟩ := hx
  obtain ⟨recs, ht⟩ := Rn.trace hx
  rw [Bool.and_eq_true] at hd
  exact Ex.draw ht (by rw [hd.1, hd.2]; rfl)

theorem W.low {c : Code} {Q : Ext → Tmps → H → Prop} (hw : (∀ b x, h.get b = some x → b < h.next) → W P c Q a h) : W P c Q a h := fun N σ w ar hr hd R f => hw R.low' N σ w ar hr hd R f
end

section
variable {O : Orc}
theorem psz3 : psz Tryz.prog 3 = some 1 := by kernel_rfl
theorem psz119 : psz Tryz.prog 119 = some 1 := by kernel_rfl
theorem psz121 : psz Tryz.prog 121 = some 3 := by kernel_rfl
theorem pagg3 : pagg Tryz.prog 3 = some false := by kernel_rfl
theorem pagg119 : pagg Tryz.prog 119 = some false := by kernel_rfl
theorem pzero121 : pzero Tryz.prog 121 = some (.agg #[.pointer none, .int .i64 0, .int .i64 0]) := by kernel_rfl

/-- A value of conf.values: where it lies, and its bounds. -/
def ValAt (h : H) (v : Value) (n lo hi : Int) : Prop := ∃ pb off, v = .agg #[.pointer (some ⟨pb, off, none⟩), .int .i64 lo, .int .i64 hi] ∧ h.cells pb off 1 = some [.int .i64 n]
def ValOk (h : H) (v : Value) : Prop := ∃ n lo hi, ValAt h v n lo hi

theorem cells_sub {h h' : H} (hs : ∀ c x, h.get c = some x → h'.get c = some x) {b off n : Nat} {cs : List Value} (hc : h.cells b off n = some cs) : h'.cells b off n = some cs := by
  unfold H.cells at hc ⊢
  split at hc <;> try (cases hc; done)
  rename_i hg
  rw [hs _ _ hg]
  exact hc


def cSeq : Code → Code × Code
  | .seq x y => (x, y)
  | c => (c, c)
def cOps : Code → Array Oper
  | .region _ ops _ => ops
  | _ => #[]
def cIn : Code → Code
  | .block _ b => b
  | .loop b => b
  | c => c
def cTail : Nat → Code → Code
  | 0, c => c
  | n + 1, c => cTail n (cSeq c).2
noncomputable def rBody : Code := (Tryz.f30.body).getD .skip
noncomputable def rM : Code := (cSeq (cTail 8 rBody)).1
noncomputable def rEnd : Code := (cSeq (cTail 8 rBody)).2
noncomputable def rRound : Code := cIn (cIn (cSeq rM).2)
noncomputable def rBlk : Code := cIn (cTail 2 rRound)
noncomputable def rB : Code := (cSeq rBlk).2
noncomputable def ops26 : Array Oper := cOps (cSeq rM).1
noncomputable def ops27 : Array Oper := cOps (cSeq rRound).1
noncomputable def ops28 : Array Oper := cOps (cSeq rBlk).1
noncomputable def ops29 : Array Oper := cOps (cSeq rB).1
noncomputable def ops30 : Array Oper := cOps (cSeq (match (cSeq rB).2 with | .cond _ x _ => x | c => c)).1
noncomputable def ops31 : Array Oper := cOps (cSeq rEnd).1
noncomputable def op (ops : Array Oper) (k : Nat) : Oper := (ops.toList[k]?).getD default

theorem rM_eq : rM = .seq (.region 26 ops26 false) (.block 6 (.loop (.seq (.region 27 ops27 false) (.seq (.cond (.tmp 156) .skip (.exit 6)) (.block 7 (.seq (.region 28 ops28 false) rB)))))) := by kernel_rfl
theorem rB_eq : rB = .seq (.region 29 ops29 true) (.cond (.tmp 168) (.seq (.region 30 ops30 false) .ret) .skip) := by kernel_rfl
theorem rEnd_eq : rEnd = .seq (.region 31 ops31 false) .ret := by kernel_rfl
theorem l26 : ops26.toList = [op ops26 0] ++ [op ops26 1] := by kernel_rfl
theorem l27 : ops27.toList = [op ops27 0, op ops27 1] := by kernel_rfl
theorem l28 : ops28.toList = op ops28 0 :: [op ops28 1, op ops28 2, op ops28 3] := by kernel_rfl
theorem l29 : ops29.toList = [op ops29 0, op ops29 1, op ops29 2, op ops29 3, op ops29 4, op ops29 5, op ops29 6, op ops29 7, op ops29 8, op ops29 9] := by kernel_rfl
theorem l30 : ops30.toList = [op ops30 0] := by kernel_rfl
theorem l31 : ops31.toList = [op ops31 0, op ops31 1, op ops31 2] := by kernel_rfl
theorem chk29 : (drawText Tryz.prog ops29 (masks ops29.toList #[]) && readsFirst Tryz.prog ops29 (masks ops29.toList #[])) = true := by kernel_rfl

/-- What an operation is. -/
structure Is (o : Oper) (x : Op) (d : Option Tmp) (k : Nat) : Prop where
  op : o.op = x
  dst : o.dst = d
  guard : o.guard = none
  clean : cleanOps Tryz.prog o = true
  kind : kindOf Tryz.prog o = k
theorem i26_0 : Is (op ops26 0) (.call { callee := .value (.func 62), args := #[.tmp 1], argTypes := #[39] }) (some 153) 3 := ⟨by kernel_rfl, by kernel_rfl, by kernel_rfl, by kernel_rfl, by kernel_rfl⟩
theorem i26_1 : Is (op ops26 1) (.range 117 (.tmp 153)) (some 154) 3 := ⟨by kernel_rfl, by kernel_rfl, by kernel_rfl, by kernel_rfl, by kernel_rfl⟩
theorem i27_0 : Is (op ops27 0) (.next (.tmp 154) false) (some 155) 3 := ⟨by kernel_rfl, by kernel_rfl, by kernel_rfl, by kernel_rfl, by kernel_rfl⟩
theorem i27_1 : Is (op ops27 1) (.extract (.tmp 155) 0) (some 156) 0 := ⟨by kernel_rfl, by kernel_rfl, by kernel_rfl, by kernel_rfl, by kernel_rfl⟩
theorem i28_0 : Is (op ops28 0) (.entry (.tmp 154)) (some 157) 3 := ⟨by kernel_rfl, by kernel_rfl, by kernel_rfl, by kernel_rfl, by kernel_rfl⟩
theorem i28_1 : Is (op ops28 1) (.extract (.tmp 157) 1) (some 158) 0 := ⟨by kernel_rfl, by kernel_rfl, by kernel_rfl, by kernel_rfl, by kernel_rfl⟩
theorem i28_2 : Is (op ops28 2) (.alloc 121) (some 14) 2 := ⟨by kernel_rfl, by kernel_rfl, by kernel_rfl, by kernel_rfl, by kernel_rfl⟩
theorem i28_3 : Is (op ops28 3) (.store 121 (.tmp 14) (.tmp 158)) none 3 := ⟨by kernel_rfl, by kernel_rfl, by kernel_rfl, by kernel_rfl, by kernel_rfl⟩
theorem i29_0 : Is (op ops29 0) (.fieldAddr 121 (.tmp 14) 0) (some 159) 0 := ⟨by kernel_rfl, by kernel_rfl, by kernel_rfl, by kernel_rfl, by kernel_rfl⟩
theorem i29_1 : Is (op ops29 1) (.load 119 (.tmp 159)) (some 160) 1 := ⟨by kernel_rfl, by kernel_rfl, by kernel_rfl, by kernel_rfl, by kernel_rfl⟩
theorem i29_2 : Is (op ops29 2) (.nilCheck (.tmp 160)) (some 161) 0 := ⟨by kernel_rfl, by kernel_rfl, by kernel_rfl, by kernel_rfl, by kernel_rfl⟩
theorem i29_3 : Is (op ops29 3) (.load 3 (.tmp 161)) (some 162) 1 := ⟨by kernel_rfl, by kernel_rfl, by kernel_rfl, by kernel_rfl, by kernel_rfl⟩
theorem i29_4 : Is (op ops29 4) (.fieldAddr 121 (.tmp 14) 1) (some 163) 0 := ⟨by kernel_rfl, by kernel_rfl, by kernel_rfl, by kernel_rfl, by kernel_rfl⟩
theorem i29_5 : Is (op ops29 5) (.load 3 (.tmp 163)) (some 164) 1 := ⟨by kernel_rfl, by kernel_rfl, by kernel_rfl, by kernel_rfl, by kernel_rfl⟩
theorem i29_6 : Is (op ops29 6) (.fieldAddr 121 (.tmp 14) 2) (some 165) 0 := ⟨by kernel_rfl, by kernel_rfl, by kernel_rfl, by kernel_rfl, by kernel_rfl⟩
theorem i29_7 : Is (op ops29 7) (.load 3 (.tmp 165)) (some 166) 1 := ⟨by kernel_rfl, by kernel_rfl, by kernel_rfl, by kernel_rfl, by kernel_rfl⟩
theorem i29_8 : Is (op ops29 8) (.call { callee := .value (.func 54), args := #[.tmp 162, .tmp 164, .tmp 166], argTypes := #[3, 3, 3] }) (some 167) 3 := ⟨by kernel_rfl, by kernel_rfl, by kernel_rfl, by kernel_rfl, by kernel_rfl⟩
theorem i29_9 : Is (op ops29 9) (.unOp .not 4 (.tmp 167)) (some 168) 0 := ⟨by kernel_rfl, by kernel_rfl, by kernel_rfl, by kernel_rfl, by kernel_rfl⟩
theorem i30_0 : Is (op ops30 0) (.assign (.const (.bool false))) (some 2) 0 := ⟨by kernel_rfl, by kernel_rfl, by kernel_rfl, by kernel_rfl, by kernel_rfl⟩
theorem i31_0 : Is (op ops31 0) (.move (.tmp 8)) (some 169) 0 := ⟨by kernel_rfl, by kernel_rfl, by kernel_rfl, by kernel_rfl, by kernel_rfl⟩
theorem i31_1 : Is (op ops31 1) (.call { callee := .value (.func 55), args := #[.tmp 169], argTypes := #[22] }) (some 170) 3 := ⟨by kernel_rfl, by kernel_rfl, by kernel_rfl, by kernel_rfl, by kernel_rfl⟩
theorem i31_2 : Is (op ops31 2) (.assign (.tmp 170)) (some 2) 0 := ⟨by kernel_rfl, by kernel_rfl, by kernel_rfl, by kernel_rfl, by kernel_rfl⟩

theorem tev_put_same {a : Tmps} {d : Tmp} {v : Value} (h : d < a.size) : tev (tput a (some d) v) (.tmp d) = v := by
  show (tput a (some d) v).getD d undef = v
  rw [tput_getD, if_pos ⟨rfl, h⟩]
theorem tev_put_ne {a : Tmps} {d k : Tmp} {v : Value} (h : d ≠ k) : tev (tput a (some d) v) (.tmp k) = tev a (.tmp k) := by
  show (tput a (some d) v).getD k undef = a.getD k undef
  rw [tput_getD, if_neg (by simp [h])]
end
end Go.Proofs.Zq
