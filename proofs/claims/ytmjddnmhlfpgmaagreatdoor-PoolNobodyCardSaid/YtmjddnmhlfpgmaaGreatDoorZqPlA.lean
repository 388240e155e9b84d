import Derived.Test.YtmjddnmhlfpgmaaGreatDoorProg
import Derived.Test.YtmjddnmhlfpgmaaGreatDoorZqEvU
import Derived.Test.YtmjddnmhlfpgmaaGreatDoorZqEvR
import Derived.KernelRfl
namespace Go.Proofs.Zq
open Go.Proofs
theorem rn_nil_cons_dummy : True := trivial
variable {O : Orc}
set_option maxRecDepth 10000
theorem within_ev (hf : O.fn 54 = some Tryz.f54) (ho : ∀ xs h, O.or 54 xs h = none) (n lo hi : Int) (h : H) :
    Ev Tryz.prog O 54 #[.int .i64 n, .int .i64 lo, .int .i64 hi] h (.bool (decide (lo ≤ n) && decide (n ≤ hi)), h) := by
  refine ⟨20, ?_⟩
  rw [call_succ, ho, hf]
  simp only [Tryz.f54]
  by_cases h1 : lo ≤ n <;>
  simp [exec_seq, exec_region, runOps_cons, runOps, exec, opStep, cleanOps, cleanOp, Op.operands, kindOf, pop, tev, tput, pbin, pint, isShift, Region.wanted, yielded, clean, flat, resOf, h1]
end Go.Proofs.Zq
