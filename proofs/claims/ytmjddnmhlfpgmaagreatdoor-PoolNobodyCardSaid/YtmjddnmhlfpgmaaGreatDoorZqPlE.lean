import Derived.Test.YtmjddnmhlfpgmaaGreatDoorZqPlD
import Derived.Test.YtmjddnmhlfpgmaaGreatDoorZqEvV
namespace Go.Proofs.Zq
open Go.Proofs
variable {O : Orc}

def cHead : Nat → Code → Code
  | 0, _ => .skip
  | n + 1, c => .seq (cSeq c).1 (cHead n (cSeq c).2)
def seqDeep : Nat → Code → Bool
  | 0, _ => true
  | n + 1, c => match c with
    | .seq _ y => seqDeep n y
    | _ => false

theorem W.headTail {P : Program} (ok : Ok P O) {Q : Ext → Tmps → H → Prop} : ∀ (n : Nat) (c : Code) {a a1 : Tmps} {h h1 : H} {e : Ext}, seqDeep n c = true → Ex P O (cHead n c) a h (e, a1, h1) → (e = .normal → W P (cTail n c) Q a1 h1) → (e ≠ .normal → Q e a1 h1) → W P c Q a h
  | 0, c, a, a1, h, h1, e, _, hx, hn, _ => by
    obtain ⟨m, hx⟩ := hx
    cases m with
    | zero => simp [exec] at hx
    | succ m =>
      simp only [cHead, exec, Option.some.injEq, Prod.mk.injEq] at hx
      obtain ⟨rfl, rfl, rfl⟩ := hx
      exact hn rfl
  | n + 1, c, a, a1, h, h1, e, hd, hx, hn, ho => by
    cases c <;> simp only [seqDeep] at hd <;> try (cases hd; done)
    rename_i x y
    obtain ⟨m, hx⟩ := hx
    cases m with
    | zero => simp [exec] at hx
    | succ m =>
      simp only [cHead, cSeq] at hx
      rw [exec_seq] at hx
      split at hx
      · rename_i a2 h2 hx1
        exact W.seq (W.of_ex ok ⟨m, hx1⟩ (W.headTail ok n y hd ⟨m, hx⟩ hn ho))
      · rename_i hne
        refine W.seq (W.of_ex ok ⟨m, hx⟩ ?_)
        cases e with
        | normal => exact (hne _ _ hx).elim
        | exit id => exact ho (by simp)
        | ret => exact ho (by simp)

def okB (h : H) (v : Value) : Bool :=
  match v with
  | .agg cs => (match cs.toList with
    | [.pointer (some ⟨pb, off, none⟩), .int .i64 lo, .int .i64 hi] => (match h.cells pb off 1 with
      | some [.int .i64 n] => decide (lo ≤ n) && decide (n ≤ hi)
      | _ => false)
    | _ => false)
  | _ => false
theorem okB_ok {h : H} {v : Value} (hk : okB h v = true) : okE h v := by
  unfold okB at hk
  split at hk <;> try (cases hk; done)
  rename_i cs
  split at hk <;> try (cases hk; done)
  rename_i pb off lo hi hc
  split at hk <;> try (cases hk; done)
  rename_i n hn
  simp only [Bool.and_eq_true, decide_eq_true_eq] at hk
  refine ⟨n, lo, hi, ⟨pb, off, ?_, hn⟩, hk⟩
  congr 1
  exact Array.toList_inj.1 hc
theorem ok_bad {h : H} {v : Value} (h1 : okE h v) (h2 : badE h v) : False := by
  obtain ⟨n, lo, hi, ⟨pb, off, rfl, hn⟩, hk⟩ := h1
  obtain ⟨n', lo', hi', ⟨pb', off', hv, hn'⟩, hb⟩ := h2
  simp only [Value.agg.injEq, Array.mk.injEq, List.cons.injEq, Value.pointer.injEq, Option.some.injEq, Addr.mk.injEq, Value.int.injEq, true_and, and_true] at hv
  obtain ⟨⟨rfl, rfl⟩, rfl, rfl⟩ := hv
  rw [hn] at hn'
  simp only [Option.some.injEq, List.cons.injEq, Value.int.injEq, true_and, and_true] at hn'
  subst hn'
  exact hb hk

/-- conf.Right, where it says yes. -/
noncomputable def rightF (O : Orc) (N n : Nat) (xs : List Value) (h : H) : Option (Value × H) :=
  bif Nat.beq xs.length 1 then
    (match fexec Tryz.prog (fcall Tryz.prog O N n) N 171 (cHead 8 rBody) (tofL xs 0 .nil) h with
    | some (.normal, t, h1) => (match fcall Tryz.prog O N n 62 [tevT t (.tmp 1)] h1 with
      | some (.map (some b), h2) => (match h2.get b with
        | some (.map es) => bif es.all (fun e => okB (h2.del b) e.2) then fcall Tryz.prog O N n 55 [tevT t (.tmp 8)] (hL h2 b es.length) else none
        | _ => none)
      | _ => none)
    | _ => none)
  else none

theorem deep : seqDeep 8 rBody = true := by kernel_rfl
theorem rTail : cTail 8 rBody = .seq rM rEnd := by kernel_rfl
theorem rFunc : Tryz.f30.body = some rBody := by kernel_rfl
theorem rRes : Tryz.f30.results = #[.tmp 2] := by kernel_rfl
theorem rNt : Tryz.f30.ntmps = 171 := by kernel_rfl

theorem rightF_WC (ok : Ok Tryz.prog O) (hf : O.fn 54 = some Tryz.f54) (ho : ∀ xs h, O.or 54 xs h = none) {N n : Nat} {xs : List Value} {h : H} {r : Value × H} (hs : rightF O N n xs h = some r) : WC Tryz.prog 30 xs.toArray (fun v h' => v = r.1 ∧ h' = r.2) h := by
  unfold rightF at hs
  cases hl : Nat.beq xs.length 1 with
  | false => rw [hl] at hs; cases hs
  | true =>
    have hlen : xs.length = 1 := Nat.eq_of_beq_eq_true hl
    rw [hl, cond_true] at hs
    split at hs <;> try (cases hs; done)
    rename_i t h1 hx
    split at hs <;> try (cases hs; done)
    rename_i b h2 hv
    split at hs <;> try (cases hs; done)
    rename_i es hes
    cases hall : es.all (fun e => okB (h2.del b) e.2) with
    | false => rw [hall] at hs; cases hs
    | true =>
      rw [hall, cond_true] at hs
      have hok : ∀ e ∈ es, okE (h2.del b) e.2 := fun e he => okB_ok ((List.all_eq_true.1 hall) e he)
      have rep0 : Rep 171 (tofL xs 0 .nil) (xs.toArray ++ Array.replicate (Tryz.f30.ntmps - xs.toArray.size) undef) := by
        rw [rNt]; exact rep_start xs 171 (by omega)
      obtain ⟨a1, e1, rep1⟩ := fexec_ok (fcall_ok n) _ rep0 hx
      refine WC.body Tryz.func30 rFunc ?_
      have g : ∀ {o : Oper} {x d n}, Is o x d n → ∀ {all : Array Oper} {a : Tmps}, Region.wanted o (yielded all a) = true := by
        intro o x d n i all a
        unfold Region.wanted
        rw [i.guard]
      refine W.headTail ok 8 rBody deep e1 (fun _ => ?_) (fun hne => absurd rfl hne)
      rw [rTail]
      have hvals := ev_of_fcall hv
      rw [rep1.tev] at hvals
      have hrm := rM_W ok hf ho rep1.1 (pv := tev a1 (.tmp 1)) rfl hvals hes (fun e he => by
        obtain ⟨n, lo, hi, hva, _⟩ := hok e he
        exact ⟨n, lo, hi, hva⟩)
      have honce := ev_of_fcall hs
      rw [rep1.tev] at honce
      refine W.seq (hrm.forget ?_)
      rintro e a2 h3 ⟨hsub, hcase⟩
      refine ⟨hL h2 b es.length, hsub, ?_⟩
      rcases hcase with ⟨rfl, q1, q2, _⟩ | ⟨rfl, _, e, he, hbad⟩
      · show W _ _ _ _ _
        rw [rEnd_eq]
        refine W.seq (W.region ?_)
        rw [l31]
        refine WO.cons ok (g i31_0) (St.pop (v := tev a1 (.tmp 8)) i31_0.clean i31_0.kind (by simp [Zq.pop, i31_0.op, q2])) ?_
        rw [i31_0.dst]
        refine WO.cons ok (v := r.1) (h1 := r.2) (g i31_1) (St.call i31_1.clean i31_1.op (g := 55) (xs := #[tev a1 (.tmp 8)]) ?_ honce) ?_
        · simp [callee, tevf, tevp, q1]
        rw [i31_1.dst]
        refine WO.cons ok (v := r.1) (h1 := r.2) (g i31_2) (St.pop i31_2.clean i31_2.kind (by simp [Zq.pop, i31_2.op, tevp, tput_size, q1])) ?_
        rw [i31_2.dst]
        refine WO.nil ?_
        show W _ _ _ _ _
        refine W.ret ⟨fun id => by simp, r.1, ?_, rfl, rfl⟩
        have hres : (tput (tput (tput a2 (some 169) (tev a1 (.tmp 8))) (some 170) r.1) (some 2) r.1).getD 2 undef = r.1 := by
          rw [tput_getD, if_pos ⟨rfl, by simp only [tput_size]; omega⟩]
        simp only [resV, rRes, List.mapM_cons, List.mapM_nil, resOf, hres]
        rfl
      · exact (ok_bad (hok e he) hbad).elim
end Go.Proofs.Zq
