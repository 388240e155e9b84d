/- PoolNobody: the row and the card. -/
import Derived.Test.YtmjddnmhlfpgmaaGreatDoorZqPlJ
import Derived.Test.YtmjddnmhlfpgmaaGreatDoorZqEvX
import Derived.Test.YtmjddnmhlfpgmaaGreatDoorRows
import Derived.Test.YtmjddnmhlfpgmaaGreatDoorTie
import Derived.Test.YtmjddnmhlfpgmaaGreatDoorCards
import Derived.ProofKit
import Derived.OpenShut
import Derived.LaidMore
import Derived.Lay
import Derived.SevenTiedAt
import Derived.Deep.DeepHandedRow
namespace Go.Proofs.YtmjddnmhlfpgmaaGreatDoor
open Go.ChangeShapes Go.WideShapes Go.RowKit Go.Proofs.Zq
set_option maxRecDepth 100000

theorem own : ownKnob Tryz.prog.godebug = none := by kernel_rfl
theorem c5 : Tryz.prog.cellsOf 5 = 1 := by kernel_rfl
theorem c3 : Tryz.prog.cellsOf 3 = 1 := by kernel_rfl
theorem c42 : Tryz.prog.cellsOf 42 = 1 := by kernel_rfl
theorem c44 : Tryz.prog.cellsOf 44 = 4 := by kernel_rfl
theorem c46 : Tryz.prog.cellsOf 46 = 7 := by kernel_rfl

section
variable {H : Type} {enc : TypeId × Value → H} {w : World} {base : Nat} {spare : Nat → Bool} {held : Bool}
theorem act_shape {b0 : Nat} {v : Value} {d : DataW H} {ps : List MemPlace} (hv : Value.okWide Tryz.prog w .any b0 46 v) (h : DataW.Trod enc Tryz.prog w base spare held 46 v d ps) :
    ∃ k i ev s0 s1 s2 s3, v = nobArg k i ev s0 s1 s2 s3 ∧ 0 ≤ k ∧ k ≤ 255 ∧ ps = [] := by
  obtain ⟨cs, rfl, hsz⟩ := okWide_struct Tryz.underlying46 hv
  obtain ⟨fuel, h⟩ := h
  obtain ⟨xs, n, _, hx, hlen, hxl, hf⟩ := DataW.trod_struct Tryz.underlying46 h
  simp only [Value.cells] at hlen hf
  rw [c46] at hlen
  obtain ⟨a0, a1, a2, a3, a4, a5, a6, hcs⟩ : ∃ a0 a1 a2 a3 a4 a5 a6, cs.toList = [a0, a1, a2, a3, a4, a5, a6] := by
    match hc : cs.toList, hlen with
    | [a0, a1, a2, a3, a4, a5, a6], _ => exact ⟨a0, a1, a2, a3, a4, a5, a6, rfl⟩
  rw [hcs] at hf
  obtain ⟨x0, x1, x2, x3, rfl⟩ : ∃ x0 x1 x2 x3, xs = [x0, x1, x2, x3] := by
    have : xs.length = 4 := hxl
    match xs, this with
    | [x0, x1, x2, x3], _ => exact ⟨x0, x1, x2, x3, rfl⟩
  have f0 := hf 0 _ rfl
  have f1 := hf 1 _ rfl
  have f2 := hf 2 _ rfl
  have f3 := hf 3 _ rfl
  simp only [c5, c3, c44, List.drop_zero, List.drop_succ_cons, List.take_succ_cons, List.take_zero, List.getElem?_cons_zero, List.getElem?_cons_succ] at f0 f1 f2 f3
  obtain ⟨k, e0, rfl, wk⟩ := DataW.trod_int Tryz.underlying5 f0
  obtain ⟨i, e1, rfl, _⟩ := DataW.trod_int Tryz.underlying3 f1
  obtain ⟨ev, e2, rfl, _⟩ := DataW.trod_int Tryz.underlying3 f2
  obtain ⟨ys, m, _, rfl, _, hyl, hy⟩ := DataW.trod_array Tryz.underlying44 f3
  obtain ⟨y0, y1, y2, y3, rfl⟩ : ∃ x0 x1 x2 x3, ys = [x0, x1, x2, x3] := by
    match ys, hyl with
    | [x0, x1, x2, x3], _ => exact ⟨x0, x1, x2, x3, rfl⟩
  have g0 := hy 0 (by omega)
  have g1 := hy 1 (by omega)
  have g2 := hy 2 (by omega)
  have g3 := hy 3 (by omega)
  simp only [c42, Nat.zero_mul, Nat.one_mul, Nat.mul_one, List.drop_zero, List.drop_succ_cons, List.take_succ_cons, List.take_zero, List.getElem?_cons_zero, List.getElem?_cons_succ] at g0 g1 g2 g3
  obtain ⟨s0, u0, rfl, _⟩ := DataW.trod_int Tryz.underlying42 g0
  obtain ⟨s1, u1, rfl, _⟩ := DataW.trod_int Tryz.underlying42 g1
  obtain ⟨s2, u2, rfl, _⟩ := DataW.trod_int Tryz.underlying42 g2
  obtain ⟨s3, u3, rfl, _⟩ := DataW.trod_int Tryz.underlying42 g3
  injection e0 with e0; injection e1 with e1; injection e2 with e2
  injection u0 with u0; injection u1 with u1; injection u2 with u2; injection u3 with u3
  subst e0; subst e1; subst e2; subst u0; subst u1; subst u2; subst u3
  obtain ⟨k1, k2⟩ := bounds_u8 wk
  refine ⟨k, i, ev, s0, s1, s2, s3, ?_, k1, k2, ?_⟩
  · unfold nobArg
    congr 1
    exact Array.toList_inj.1 hcs
  · rw [Prod.mk.injEq] at hx
    rw [hx.2]
    rfl
end

theorem laid12 : laidOutB Tryz.prog = true := by kernel_rfl
theorem params5 : Tryz.f5.params = #[46] := by kernel_rfl
theorem results5 : Tryz.f5.resultTypes = #[4] := by kernel_rfl
theorem nobody_calls (W : World) {k i ev s0 s1 s2 s3 : Int} (h1 : 0 ≤ k) (h2 : k ≤ 255) : Calls Tryz.prog 5 #[nobArg k i ev s0 s1 s2 s3] W fun e w' => ∃ v, e = .returned v ∧ v = .bool true ∧ Same W w' := by
  obtain ⟨n, rfl⟩ : ∃ n : Nat, k = .ofNat n := ⟨k.toNat, by simp only [Int.ofNat_eq_natCast]; omega⟩
  exact calls_of_empty (K := 1000) (by simp [nobArg, clean, flat]) (Nat.le_of_ble_eq_true globs) (nobody_WC n (by simp only [Int.ofNat_eq_natCast] at h2; omega) i ev s0 s1 s2 s3) (fun v hv => by subst hv; rfl) W

theorem poolNobody_lifted (os : Os) (started : os.Started) (H : Type) (enc : TypeId × Value → H) (F : Stop.Interp) :
    ReturnsInHanded {} Tryz.checked os 5 .any ((OpenSpec.ofChange Rows.poolNobodySpec).preRow enc Tryz.prog Tryz.f5 Rows.poolNobodyRow.domain false Rows.poolNobodyRow.laid) (((OpenSpec.ofChange Rows.poolNobodySpec).at F).post enc Tryz.prog Tryz.f5 false true false false) := by
  refine returnsInHanded_of_row (C := Tryz.checked) (s := OpenSpec.ofChange Rows.poolNobodySpec) own started (by kernel_rfl) Tryz.func5
    ⟨World.laidAll Tryz.prog os Rows.poolNobodyRow.laid, fun _ _ => 0, ⟨#[], #[nobArg 0 0 0 0 0 0 0], []⟩, World.laidAll_os _ _ _, World.shaped_of_ZipB (by kernel_rfl) (by kernel_rfl), rfl, ?_, ?_, ?_⟩ ?_
  · exact (Input.okWide_of_okWideB (base := 0) (by kernel_rfl)).2
  · refine OpenSpec.preRow_of_cond 8 (x := ([.agg [.lit (.int .u8 0), .lit (.int .i64 0), .lit (.int .i64 0), .agg [.lit (.int .u64 0), .lit (.int .u64 0), .lit (.int .u64 0), .lit (.int .u64 0)]]], [], [])) (by kernel_rfl) (by kernel_rfl) (fun k hk => by cases hk) (by kernel_rfl) ?_
    exact laidMet_laidAll _ (by kernel_rfl) (by kernel_rfl)
  · simp only [Assume.holds]
    exact ⟨by simp, by simp, by simp, by simp, by simp⟩
  intro W base args ds gs before hval hW _ _ _ hL _ _
  have hW' := hW
  obtain ⟨p, q, hA0, hV, rfl, hfz, hnd⟩ := hW
  have hA : DataW.TrodAll enc Tryz.prog W 0 (fun _ => true) true Tryz.f5.params.toList args.toList ds p := hA0
  rw [params5] at hA hval
  obtain ⟨v0, d0, rfl, rfl, h0⟩ := trodAll_one hA
  obtain ⟨rfl, rfl⟩ := trodVars_none hV
  obtain ⟨k, i, ev, s0, s1, s2, s3, rfl, k1, k2, rfl⟩ := act_shape (hval 0 46 v0 rfl rfl) h0
  refine (nobody_calls W k1 k2).mono ?_
  rintro e W' ⟨v, rfl, rfl, hs⟩
  exact ⟨_, rfl, law_post hW' hs rfl laid12 (by kernel_rfl) results5 Tryz.underlying4 rfl⟩

theorem poolNobody_said : Rows.PoolNobodySaid :=
  OpenClaim.holds_of_cond 5 Tryz.f5 rfl rfl rfl rfl rfl rfl rfl ⟨rfl, rfl, rfl, rfl, rfl⟩ rfl rfl rfl rfl rfl (by kernel_rfl) Tryz.func5 (by kernel_rfl)
    (of_decide_eq_true (by kernel_rfl)) (by unfold Func.isWrapper; first | (rw [if_pos (by decide +kernel)]; kernel_rfl) | (rw [if_neg (by decide +kernel)]; exact ⟨rfl, rfl⟩))
    (fun os started H enc _ F => by rw [OpenClaim.pre_eq_preRow]; exact poolNobody_lifted os started H enc F)

theorem poolNobody_plain (f : FuncId) (fn : Func) (hf : Tryz.pinned.checked.prog.funcNamed "marlinspike/marlinspikelaw12.PoolNobody" = some f) (hfn : Tryz.pinned.checked.prog.funcs[f]? = some fn) :
    true = Tryz.pinned.checked.prog.looks [] ∧ ∀ (j : Nat) t, fn.params[j]? = some t → Tryz.pinned.checked.prog.wantsStandIn t = false := by
  obtain rfl : f = 5 := Option.some.inj ((show Tryz.prog.funcNamed "marlinspike/marlinspikelaw12.PoolNobody" = some 5 by kernel_rfl).symm.trans hf) |>.symm
  obtain rfl : fn = Tryz.f5 := (Option.some.inj (Tryz.func5.symm.trans hfn)).symm
  refine ⟨by kernel_rfl, fun j t ht => ?_⟩
  rw [params5] at ht
  have hm : t ∈ [46] := by simpa using Array.mem_of_getElem? ht
  have hall : ([46].all fun u => !Tryz.prog.wantsStandIn u) = true := by kernel_rfl
  exact (show Tryz.prog.wantsStandIn t = false by simpa using List.all_eq_true.1 hall t hm)

theorem poolNobody_card : Rows.PoolNobodyCardSaid :=
  Claim7.holds_tied_plain_at .later [] _ _ _ _ poolNobody_said (fun _ h => by cases h) (by kernel_rfl) (fun _ h => by cases h) poolNobody_row_tie rfl ⟨rfl, rfl⟩ (by kernel_rfl) rfl poolNobody_plain (by kernel_rfl)
#print axioms poolNobody_card
end Go.Proofs.YtmjddnmhlfpgmaaGreatDoor
