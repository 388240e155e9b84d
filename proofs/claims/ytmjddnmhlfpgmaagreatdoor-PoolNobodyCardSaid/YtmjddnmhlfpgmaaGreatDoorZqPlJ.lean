/- PoolNobody of any call: true. -/
import Derived.Test.YtmjddnmhlfpgmaaGreatDoorZqPlI0
import Derived.Test.YtmjddnmhlfpgmaaGreatDoorZqPlI1
import Derived.Test.YtmjddnmhlfpgmaaGreatDoorZqPlI2
import Derived.Test.YtmjddnmhlfpgmaaGreatDoorZqPlI3
import Derived.Test.YtmjddnmhlfpgmaaGreatDoorZqPlI4
import Derived.Test.YtmjddnmhlfpgmaaGreatDoorZqPlI5
import Derived.Test.YtmjddnmhlfpgmaaGreatDoorZqPlI6
import Derived.Test.YtmjddnmhlfpgmaaGreatDoorZqPlI7
namespace Go.Proofs.Zq
open Go.Proofs

theorem nob_all (k : Nat) (hk : k < 256) (i ev s0 s1 s2 s3 : Int) : nob k i ev s0 s1 s2 s3 = true := by
  by_cases h0 : k < 32
  · exact nobs_at (nobs0 i ev s0 s1 s2 s3) (by omega) (by omega)
  by_cases h1 : k < 64
  · exact nobs_at (nobs1 i ev s0 s1 s2 s3) (by omega) (by omega)
  by_cases h2 : k < 96
  · exact nobs_at (nobs2 i ev s0 s1 s2 s3) (by omega) (by omega)
  by_cases h3 : k < 128
  · exact nobs_at (nobs3 i ev s0 s1 s2 s3) (by omega) (by omega)
  by_cases h4 : k < 160
  · exact nobs_at (nobs4 i ev s0 s1 s2 s3) (by omega) (by omega)
  by_cases h5 : k < 192
  · exact nobs_at (nobs5 i ev s0 s1 s2 s3) (by omega) (by omega)
  by_cases h6 : k < 224
  · exact nobs_at (nobs6 i ev s0 s1 s2 s3) (by omega) (by omega)
  · exact nobs_at (nobs7 i ev s0 s1 s2 s3) (by omega) (by omega)

theorem nobody_WC (k : Nat) (hk : k < 256) (i ev s0 s1 s2 s3 : Int) : WC Tryz.prog 5 #[nobArg (.ofNat k) i ev s0 s1 s2 s3] (fun v _ => v = .bool true) hS := by
  have h := nob_all k hk i ev s0 s1 s2 s3
  unfold nob at h
  cases hr : gcall Tryz.prog O1 aliveOr 1000 100 5 [nobArg (.ofNat k) i ev s0 s1 s2 s3] hS with
  | none => rw [hr] at h; cases h
  | some r =>
    rw [hr] at h
    refine ((gcall_ok ok1 aliveOr_WC aliveOr_plain 100).1 5 _ hS r hr).mono ?_
    rintro v h' ⟨rfl, _⟩
    obtain ⟨v, h2⟩ := r
    unfold isTrue at h
    split at h
    · rename_i b h3 e
      simp only [Option.some.injEq, Prod.mk.injEq] at e
      rw [e.1, h]
    · cases h
end Go.Proofs.Zq
