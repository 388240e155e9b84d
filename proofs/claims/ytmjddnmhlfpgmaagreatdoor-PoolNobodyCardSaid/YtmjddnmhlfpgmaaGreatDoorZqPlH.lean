import Derived.Test.YtmjddnmhlfpgmaaGreatDoorZqPlG
import Derived.Test.YtmjddnmhlfpgmaaGreatDoorZqEvW
namespace Go.Proofs.Zq
open Go.Proofs
set_option maxRecDepth 1000000

theorem globs : Nat.ble Tryz.prog.globals.size 1000 = true := by kernel_rfl
theorem alive_WC (h : H) : WC Tryz.prog 9 #[] (fun v h' => v = .bool true ∧ h' = h) h := by
  refine WC.reloc (K := 1000) (by simp) (Nat.le_of_ble_eq_true globs) ?_ (fun v hv => by subst hv; rfl) h
  cases hr : gcall Tryz.prog O1 rightOr 1000 100 9 [] hS with
  | none => have := alive_run; rw [hr] at this; cases this
  | some r =>
    have := alive_run
    rw [hr] at this
    simp only [Option.map_some, Option.some.injEq] at this
    refine ((gcall_ok ok1 rightOr_WC rightOr_plain 100).1 9 [] hS r hr).mono ?_
    rintro v h' ⟨rfl, _⟩
    exact this

noncomputable def aliveOr (f : FuncId) (xs : List Value) (h : H) : Option (Value × H) := bif Nat.beq f 9 then (match xs with | [] => some (.bool true, h) | _ => none) else none
theorem aliveOr_WC : WCOk Tryz.prog aliveOr := by
  intro f xs h r hs
  unfold aliveOr at hs
  cases hb : Nat.beq f 9 with
  | false => rw [hb] at hs; cases hs
  | true =>
    have := Nat.eq_of_beq_eq_true hb
    subst this
    rw [hb, cond_true] at hs
    cases xs with
    | cons x xs => cases hs
    | nil =>
      injection hs with hs
      subst hs
      exact alive_WC h
theorem body9 : Tryz.f9.body.isSome = true := by kernel_rfl
theorem aliveOr_plain : PlainF Tryz.prog aliveOr := by
  intro f xs h r hs
  unfold aliveOr at hs
  cases hb : Nat.beq f 9 with
  | false => rw [hb] at hs; cases hs
  | true =>
    have := Nat.eq_of_beq_eq_true hb
    subst this
    exact ⟨Tryz.f9, Tryz.func9, body9, ok_fn Tryz.func9⟩

def isTrue : Option (Value × H) → Bool
  | some (.bool b, _) => b
  | _ => false
noncomputable def nobArg (k i ev s0 s1 s2 s3 : Int) : Value := .agg #[.int .u8 k, .int .i64 i, .int .i64 ev, .int .u64 s0, .int .u64 s1, .int .u64 s2, .int .u64 s3]
noncomputable def nob (k : Nat) (i ev s0 s1 s2 s3 : Int) : Bool := isTrue (gcall Tryz.prog O1 aliveOr 1000 100 5 [nobArg (.ofNat k) i ev s0 s1 s2 s3] hS)
noncomputable def nobs (a n : Nat) (i ev s0 s1 s2 s3 : Int) : Bool := (List.range n).all fun k => nob (a + k) i ev s0 s1 s2 s3
theorem nobs_at {a n : Nat} {i ev s0 s1 s2 s3 : Int} (h : nobs a n i ev s0 s1 s2 s3 = true) {k : Nat} (h1 : a ≤ k) (h2 : k < a + n) : nob k i ev s0 s1 s2 s3 = true := by
  unfold nobs at h
  have := (List.all_eq_true.1 h) (k - a) (List.mem_range.2 (by omega))
  rwa [Nat.add_sub_cancel' h1] at this
end Go.Proofs.Zq
