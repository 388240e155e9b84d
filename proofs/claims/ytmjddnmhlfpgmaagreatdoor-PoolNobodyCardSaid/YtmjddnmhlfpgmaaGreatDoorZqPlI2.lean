import Derived.Test.YtmjddnmhlfpgmaaGreatDoorZqPlH
namespace Go.Proofs.Zq
set_option maxRecDepth 1000000
theorem nobs2 (i ev s0 s1 s2 s3 : Int) : nobs 64 32 i ev s0 s1 s2 s3 = true := by kernel_rfl
end Go.Proofs.Zq
