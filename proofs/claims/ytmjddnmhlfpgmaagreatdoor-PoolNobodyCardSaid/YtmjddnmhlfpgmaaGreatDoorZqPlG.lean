import Derived.Test.YtmjddnmhlfpgmaaGreatDoorZqPlF
namespace Go.Proofs.Zq
open Go.Proofs
set_option maxRecDepth 1000000

noncomputable def rightOr (f : FuncId) (xs : List Value) (h : H) : Option (Value × H) := bif Nat.beq f 30 then rightF O1 1000 100 xs h else none
theorem rightOr_WC : WCOk Tryz.prog rightOr := by
  intro f xs h r hs
  unfold rightOr at hs
  cases hb : Nat.beq f 30 with
  | false => rw [hb] at hs; cases hs
  | true =>
    have := Nat.eq_of_beq_eq_true hb
    subst this
    rw [hb, cond_true] at hs
    exact rightF_WC ok1 Tryz.func54 (fun _ _ => rfl) hs
theorem rightOr_plain : PlainF Tryz.prog rightOr := by
  intro f xs h r hs
  unfold rightOr at hs
  cases hb : Nat.beq f 30 with
  | false => rw [hb] at hs; cases hs
  | true =>
    have := Nat.eq_of_beq_eq_true hb
    subst this
    exact ⟨Tryz.f30, Tryz.func30, by rw [rFunc]; rfl, ok_fn Tryz.func30⟩
def hS : H := ⟨.nil, 1000⟩
theorem alive_run : ((gcall Tryz.prog O1 rightOr 1000 100 9 [] hS).map fun r => r.1) = some (.bool true) := by kernel_rfl
end Go.Proofs.Zq
