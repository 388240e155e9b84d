import Derived.Test.YtmjddnmhlfpgmaaGreatDoorZqPlB
namespace Go.Proofs.Zq
open Go.Proofs
variable {O : Orc}
theorem tevp {a : Tmps} {d k : Tmp} {v : Value} : tev (tput a (some d) v) (.tmp k) = if d = k ∧ k < a.size then v else tev a (.tmp k) := by
  show (tput a (some d) v).getD k undef = _
  rw [tput_getD]
  simp only [Option.some.injEq]
  rfl
theorem tevn {a : Tmps} {v : Value} {x : Operand} : tev (tput a none v) x = tev a x := rfl
theorem tevc {a : Tmps} {v : Value} : tev a (.const v) = v := rfl
theorem tevf {a : Tmps} {f : FuncId} : tev a (.func f) = .func (.func f) #[] #[] := rfl

theorem get_add_next (h : H) (x : Blk) : (h.add x).get h.next = some x := by simp
theorem cells_of_get {h : H} {b : Nat} {cs : List Value} {e : TypeId} {o p : Bool} (hg : h.get b = some (.cells cs e o p)) {off : Nat} {v : Value} (hv : cs[off]? = some v) : h.cells b off 1 = some [v] := by
  refine fcell_eq ?_
  unfold fcell
  rw [hg]
  exact hv

/-- The three numbers' row. -/
def valRow (pb off : Nat) (lo hi : Int) : List Value := [.pointer (some ⟨pb, off, none⟩), .int .i64 lo, .int .i64 hi]

/-- What a round's operations behind the entry leave. -/
theorem round28 (ok : Ok Tryz.prog O) {a : Tmps} {h : H} {k : Value} {pb off : Nat} {lo hi : Int} (hz : a.size = 171) {Q : Tmps → H → Prop}
    (hQ : ∀ a1 h1, a1.size = 171 → tev a1 (.tmp 14) = .pointer (some ⟨h.next, 0, none⟩) → tev a1 (.tmp 8) = tev a (.tmp 8) → tev a1 (.tmp 154) = tev a (.tmp 154) → h1.next = h.next + 1 →
      (∀ b, h1.get b = if b = h.next then some (.cells (valRow pb off lo hi) 121 true false) else h.get b) → Q a1 h1) :
    WO Tryz.prog ops28 [op ops28 1, op ops28 2, op ops28 3] Q (tput (tput (tput a (some 155) (.tuple #[.bool true, k, .agg #[.pointer (some ⟨pb, off, none⟩), .int .i64 lo, .int .i64 hi]])) (some 156) (.bool true)) (some 157)
      (.tuple #[k, .agg #[.pointer (some ⟨pb, off, none⟩), .int .i64 lo, .int .i64 hi]])) h := by
  have g : ∀ {o : Oper} {x d n}, Is o x d n → ∀ {all : Array Oper} {a : Tmps}, Region.wanted o (yielded all a) = true := by
    intro o x d n i all a
    unfold Region.wanted
    rw [i.guard]
  refine WO.cons ok (g i28_1) (St.pop (v := .agg #[.pointer (some ⟨pb, off, none⟩), .int .i64 lo, .int .i64 hi]) i28_1.clean i28_1.kind ?_) ?_
  · simp [Zq.pop, i28_1.op, tevp, tput_size, hz]
  rw [i28_1.dst]
  refine WO.cons ok (g i28_2) (St.aop (cs := [.pointer none, .int .i64 0, .int .i64 0]) (t := 121) (f := fun b => .pointer (some ⟨b, 0, none⟩)) i28_2.clean i28_2.kind ?_) ?_
  · simp only [Zq.aop, i28_2.op, pzero121]
    rw [if_pos (by kernel_rfl)]
    rfl
  rw [i28_2.dst]
  refine WO.cons ok (v := undef) (h1 := (h.add (.cells [.pointer none, .int .i64 0, .int .i64 0] 121 true false)).set h.next (.cells (valRow pb off lo hi) 121 true false)) (g i28_3) (St.xop i28_3.clean i28_3.kind (fun f args ats e => by rw [i28_3.op] at e; cases e) ?_) ?_
  · simp [Zq.xop, i28_3.op, psz121, tevp, tput_size, hz, H.write, valRow, Value.cells, splice, Value.oneCell']
  rw [i28_3.dst]
  refine WO.nil (hQ _ _ ?_ ?_ ?_ ?_ rfl ?_)
  · simp only [tput_size]; exact hz
  · simp [tevn, tevp, tput_size, hz]
  · simp [tevn, tevp, tput_size, hz]
  · simp [tevn, tevp, tput_size, hz]
  · intro b
    rw [get_set, get_add]
    by_cases hb : b = h.next <;> simp [hb]

/-- The region that asks whether a value lies within its bounds. -/
theorem round29 (hf : O.fn 54 = some Tryz.f54) (ho : ∀ xs h, O.or 54 xs h = none) {a : Tmps} {h : H} {b pb off : Nat} {n lo hi : Int} (hz : a.size = 171) (h14 : tev a (.tmp 14) = .pointer (some ⟨b, 0, none⟩))
    (hg : h.get b = some (.cells (valRow pb off lo hi) 121 true false)) (hc : h.cells pb off 1 = some [.int .i64 n]) :
    ∃ a1, Ex Tryz.prog O (.region 29 ops29 true) a h (.normal, a1, h) ∧ a1.size = 171 ∧ tev a1 (.tmp 168) = .bool (!(decide (lo ≤ n) && decide (n ≤ hi))) ∧ tev a1 (.tmp 8) = tev a (.tmp 8) ∧ tev a1 (.tmp 154) = tev a (.tmp 154) := by
  have c0 : h.cells b 0 1 = some [.pointer (some ⟨pb, off, none⟩)] := cells_of_get hg rfl
  have c1 : h.cells b 1 1 = some [.int .i64 lo] := cells_of_get hg rfl
  have c2 : h.cells b 2 1 = some [.int .i64 hi] := cells_of_get hg rfl
  suffices hs : ∃ a1, Rn Tryz.prog O ops29.toList a h ops29 (a1, h) ∧ a1.size = 171 ∧ tev a1 (.tmp 168) = .bool (!(decide (lo ≤ n) && decide (n ≤ hi))) ∧ tev a1 (.tmp 8) = tev a (.tmp 8) ∧ tev a1 (.tmp 154) = tev a (.tmp 154) by
    obtain ⟨a1, q1, q2⟩ := hs
    exact ⟨a1, Ex.first q1 chk29, q2⟩
  rw [l29]
  apply Exists.intro
  apply And.intro
  · refine Rn.pop i29_0.guard i29_0.clean i29_0.kind (v := .pointer (some ⟨b, 0, none⟩)) (by simp [Zq.pop, i29_0.op, Tryz.underlying121, h14, psz119]) ?_
    rw [i29_0.dst]
    refine Rn.rop i29_1.guard i29_1.clean i29_1.kind (v := .pointer (some ⟨pb, off, none⟩)) (by simp [Zq.rop, i29_1.op, tevp, tput_size, hz, pagg119, c0]) ?_
    rw [i29_1.dst]
    refine Rn.pop i29_2.guard i29_2.clean i29_2.kind (v := .pointer (some ⟨pb, off, none⟩)) (by simp [Zq.pop, i29_2.op, tevp, tput_size, hz]) ?_
    rw [i29_2.dst]
    refine Rn.rop i29_3.guard i29_3.clean i29_3.kind (v := .int .i64 n) (by simp [Zq.rop, i29_3.op, tevp, tput_size, hz, pagg3, hc]) ?_
    rw [i29_3.dst]
    refine Rn.pop i29_4.guard i29_4.clean i29_4.kind (v := .pointer (some ⟨b, 1, none⟩)) (by simp [Zq.pop, i29_4.op, Tryz.underlying121, tevp, tput_size, hz, h14, psz3]) ?_
    rw [i29_4.dst]
    refine Rn.rop i29_5.guard i29_5.clean i29_5.kind (v := .int .i64 lo) (by simp [Zq.rop, i29_5.op, tevp, tput_size, hz, pagg3, c1]) ?_
    rw [i29_5.dst]
    refine Rn.pop i29_6.guard i29_6.clean i29_6.kind (v := .pointer (some ⟨b, 2, none⟩)) (by simp [Zq.pop, i29_6.op, Tryz.underlying121, tevp, tput_size, hz, h14, psz3]) ?_
    rw [i29_6.dst]
    refine Rn.rop i29_7.guard i29_7.clean i29_7.kind (v := .int .i64 hi) (by simp [Zq.rop, i29_7.op, tevp, tput_size, hz, pagg3, c2]) ?_
    rw [i29_7.dst]
    refine Rn.cons (by unfold Region.wanted; rw [i29_8.guard]) (St.call i29_8.clean i29_8.op (g := 54) (xs := #[.int .i64 n, .int .i64 lo, .int .i64 hi]) ?_ (within_ev hf ho n lo hi h)) ?_
    · simp [callee, tevp, tevf, tput_size, hz]
    rw [i29_8.dst]
    refine Rn.pop i29_9.guard i29_9.clean i29_9.kind (v := .bool (!(decide (lo ≤ n) && decide (n ≤ hi)))) (by simp [Zq.pop, i29_9.op, tevp, tput_size, hz]) ?_
    exact Rn.nil
  · rw [i29_9.dst]
    refine ⟨by simp only [tput_size]; exact hz, ?_, ?_, ?_⟩
    · simp [tevp, tput_size, hz]
    · simp [tevp]
    · simp [tevp]
end Go.Proofs.Zq
