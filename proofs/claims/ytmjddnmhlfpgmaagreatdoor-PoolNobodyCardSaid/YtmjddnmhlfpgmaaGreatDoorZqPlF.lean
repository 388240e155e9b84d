import Derived.Test.YtmjddnmhlfpgmaaGreatDoorZqPlE
namespace Go.Proofs.Zq
open Go.Proofs
set_option maxRecDepth 100000

noncomputable def O0 : Orc := ⟨fun f => Tryz.prog.funcs[f]?, fun _ _ _ => none⟩
theorem names : (Tryz.funcs.toList.all fun fn => !(fn.name == "runtime.NumGoroutine")) = true := by kernel_rfl
theorem ok_fn {f : FuncId} {fn : Func} (h : Tryz.prog.funcs[f]? = some fn) : (fn.name == "runtime.NumGoroutine") = false := by
  have hm : fn ∈ Tryz.funcs.toList := by
    have : Tryz.funcs[f]? = some fn := h
    rw [← Array.getElem?_toList] at this
    exact List.mem_of_getElem? this
  have := (List.all_eq_true.1 names) fn hm
  simpa using this
theorem ok0 : Ok Tryz.prog O0 where
  mx := by kernel_rfl
  fn f fn h := ⟨h, ok_fn h⟩
  call f xs h v h' hs := by cases hs
  next f xs h v h' hs := by cases hs
  plain f xs h r hs := by cases hs

theorem pw0 (h : H) : fcall Tryz.prog O0 100 5 162 [.int .i64 (.ofNat 0)] h = some (.int .u64 (.ofNat 1), h) := by kernel_rfl
theorem pw1 (h : H) : fcall Tryz.prog O0 100 5 162 [.int .i64 (.ofNat 1)] h = some (.int .u64 (.ofNat 2), h) := by kernel_rfl
theorem pw2 (h : H) : fcall Tryz.prog O0 100 5 162 [.int .i64 (.ofNat 2)] h = some (.int .u64 (.ofNat 4), h) := by kernel_rfl
theorem pw3 (h : H) : fcall Tryz.prog O0 100 5 162 [.int .i64 (.ofNat 3)] h = some (.int .u64 (.ofNat 8), h) := by kernel_rfl
theorem pw4 (h : H) : fcall Tryz.prog O0 100 5 162 [.int .i64 (.ofNat 4)] h = some (.int .u64 (.ofNat 16), h) := by kernel_rfl
theorem pw5 (h : H) : fcall Tryz.prog O0 100 5 162 [.int .i64 (.ofNat 5)] h = some (.int .u64 (.ofNat 32), h) := by kernel_rfl
theorem pw6 (h : H) : fcall Tryz.prog O0 100 5 162 [.int .i64 (.ofNat 6)] h = some (.int .u64 (.ofNat 64), h) := by kernel_rfl
theorem pw7 (h : H) : fcall Tryz.prog O0 100 5 162 [.int .i64 (.ofNat 7)] h = some (.int .u64 (.ofNat 128), h) := by kernel_rfl
theorem pw8 (h : H) : fcall Tryz.prog O0 100 5 162 [.int .i64 (.ofNat 8)] h = some (.int .u64 (.ofNat 256), h) := by kernel_rfl
theorem pw9 (h : H) : fcall Tryz.prog O0 100 5 162 [.int .i64 (.ofNat 9)] h = some (.int .u64 (.ofNat 512), h) := by kernel_rfl
theorem pw10 (h : H) : fcall Tryz.prog O0 100 5 162 [.int .i64 (.ofNat 10)] h = some (.int .u64 (.ofNat 1024), h) := by kernel_rfl
theorem pw11 (h : H) : fcall Tryz.prog O0 100 5 162 [.int .i64 (.ofNat 11)] h = some (.int .u64 (.ofNat 2048), h) := by kernel_rfl
theorem pw12 (h : H) : fcall Tryz.prog O0 100 5 162 [.int .i64 (.ofNat 12)] h = some (.int .u64 (.ofNat 4096), h) := by kernel_rfl
theorem pw13 (h : H) : fcall Tryz.prog O0 100 5 162 [.int .i64 (.ofNat 13)] h = some (.int .u64 (.ofNat 8192), h) := by kernel_rfl
theorem pw14 (h : H) : fcall Tryz.prog O0 100 5 162 [.int .i64 (.ofNat 14)] h = some (.int .u64 (.ofNat 16384), h) := by kernel_rfl
theorem pw15 (h : H) : fcall Tryz.prog O0 100 5 162 [.int .i64 (.ofNat 15)] h = some (.int .u64 (.ofNat 32768), h) := by kernel_rfl
theorem pw16 (h : H) : fcall Tryz.prog O0 100 5 162 [.int .i64 (.ofNat 16)] h = some (.int .u64 (.ofNat 65536), h) := by kernel_rfl
theorem pw17 (h : H) : fcall Tryz.prog O0 100 5 162 [.int .i64 (.ofNat 17)] h = some (.int .u64 (.ofNat 131072), h) := by kernel_rfl
theorem pw18 (h : H) : fcall Tryz.prog O0 100 5 162 [.int .i64 (.ofNat 18)] h = some (.int .u64 (.ofNat 262144), h) := by kernel_rfl
theorem pw19 (h : H) : fcall Tryz.prog O0 100 5 162 [.int .i64 (.ofNat 19)] h = some (.int .u64 (.ofNat 524288), h) := by kernel_rfl
theorem pw20 (h : H) : fcall Tryz.prog O0 100 5 162 [.int .i64 (.ofNat 20)] h = some (.int .u64 (.ofNat 1048576), h) := by kernel_rfl
theorem pw21 (h : H) : fcall Tryz.prog O0 100 5 162 [.int .i64 (.ofNat 21)] h = some (.int .u64 (.ofNat 2097152), h) := by kernel_rfl
theorem pw22 (h : H) : fcall Tryz.prog O0 100 5 162 [.int .i64 (.ofNat 22)] h = some (.int .u64 (.ofNat 4194304), h) := by kernel_rfl
theorem pw23 (h : H) : fcall Tryz.prog O0 100 5 162 [.int .i64 (.ofNat 23)] h = some (.int .u64 (.ofNat 8388608), h) := by kernel_rfl
theorem pw24 (h : H) : fcall Tryz.prog O0 100 5 162 [.int .i64 (.ofNat 24)] h = some (.int .u64 (.ofNat 16777216), h) := by kernel_rfl
theorem pw25 (h : H) : fcall Tryz.prog O0 100 5 162 [.int .i64 (.ofNat 25)] h = some (.int .u64 (.ofNat 33554432), h) := by kernel_rfl
theorem pw26 (h : H) : fcall Tryz.prog O0 100 5 162 [.int .i64 (.ofNat 26)] h = some (.int .u64 (.ofNat 67108864), h) := by kernel_rfl
theorem pw27 (h : H) : fcall Tryz.prog O0 100 5 162 [.int .i64 (.ofNat 27)] h = some (.int .u64 (.ofNat 134217728), h) := by kernel_rfl
theorem pw28 (h : H) : fcall Tryz.prog O0 100 5 162 [.int .i64 (.ofNat 28)] h = some (.int .u64 (.ofNat 268435456), h) := by kernel_rfl
theorem pw29 (h : H) : fcall Tryz.prog O0 100 5 162 [.int .i64 (.ofNat 29)] h = some (.int .u64 (.ofNat 536870912), h) := by kernel_rfl
theorem pw30 (h : H) : fcall Tryz.prog O0 100 5 162 [.int .i64 (.ofNat 30)] h = some (.int .u64 (.ofNat 1073741824), h) := by kernel_rfl
theorem pw31 (h : H) : fcall Tryz.prog O0 100 5 162 [.int .i64 (.ofNat 31)] h = some (.int .u64 (.ofNat 2147483648), h) := by kernel_rfl
theorem pw32 (h : H) : fcall Tryz.prog O0 100 5 162 [.int .i64 (.ofNat 32)] h = some (.int .u64 (.ofNat 4294967296), h) := by kernel_rfl
theorem pw33 (h : H) : fcall Tryz.prog O0 100 5 162 [.int .i64 (.ofNat 33)] h = some (.int .u64 (.ofNat 8589934592), h) := by kernel_rfl
theorem pw34 (h : H) : fcall Tryz.prog O0 100 5 162 [.int .i64 (.ofNat 34)] h = some (.int .u64 (.ofNat 17179869184), h) := by kernel_rfl
theorem pw35 (h : H) : fcall Tryz.prog O0 100 5 162 [.int .i64 (.ofNat 35)] h = some (.int .u64 (.ofNat 34359738368), h) := by kernel_rfl
theorem pw36 (h : H) : fcall Tryz.prog O0 100 5 162 [.int .i64 (.ofNat 36)] h = some (.int .u64 (.ofNat 68719476736), h) := by kernel_rfl
theorem pw37 (h : H) : fcall Tryz.prog O0 100 5 162 [.int .i64 (.ofNat 37)] h = some (.int .u64 (.ofNat 137438953472), h) := by kernel_rfl
theorem pw38 (h : H) : fcall Tryz.prog O0 100 5 162 [.int .i64 (.ofNat 38)] h = some (.int .u64 (.ofNat 274877906944), h) := by kernel_rfl
theorem pw39 (h : H) : fcall Tryz.prog O0 100 5 162 [.int .i64 (.ofNat 39)] h = some (.int .u64 (.ofNat 549755813888), h) := by kernel_rfl
theorem pw40 (h : H) : fcall Tryz.prog O0 100 5 162 [.int .i64 (.ofNat 40)] h = some (.int .u64 (.ofNat 1099511627776), h) := by kernel_rfl
theorem pw41 (h : H) : fcall Tryz.prog O0 100 5 162 [.int .i64 (.ofNat 41)] h = some (.int .u64 (.ofNat 2199023255552), h) := by kernel_rfl
theorem pw42 (h : H) : fcall Tryz.prog O0 100 5 162 [.int .i64 (.ofNat 42)] h = some (.int .u64 (.ofNat 4398046511104), h) := by kernel_rfl
theorem pw43 (h : H) : fcall Tryz.prog O0 100 5 162 [.int .i64 (.ofNat 43)] h = some (.int .u64 (.ofNat 8796093022208), h) := by kernel_rfl
theorem pw44 (h : H) : fcall Tryz.prog O0 100 5 162 [.int .i64 (.ofNat 44)] h = some (.int .u64 (.ofNat 17592186044416), h) := by kernel_rfl
theorem pw45 (h : H) : fcall Tryz.prog O0 100 5 162 [.int .i64 (.ofNat 45)] h = some (.int .u64 (.ofNat 35184372088832), h) := by kernel_rfl
theorem pw46 (h : H) : fcall Tryz.prog O0 100 5 162 [.int .i64 (.ofNat 46)] h = some (.int .u64 (.ofNat 70368744177664), h) := by kernel_rfl
theorem pw47 (h : H) : fcall Tryz.prog O0 100 5 162 [.int .i64 (.ofNat 47)] h = some (.int .u64 (.ofNat 140737488355328), h) := by kernel_rfl
theorem pw48 (h : H) : fcall Tryz.prog O0 100 5 162 [.int .i64 (.ofNat 48)] h = some (.int .u64 (.ofNat 281474976710656), h) := by kernel_rfl
theorem pw49 (h : H) : fcall Tryz.prog O0 100 5 162 [.int .i64 (.ofNat 49)] h = some (.int .u64 (.ofNat 562949953421312), h) := by kernel_rfl
theorem pw50 (h : H) : fcall Tryz.prog O0 100 5 162 [.int .i64 (.ofNat 50)] h = some (.int .u64 (.ofNat 1125899906842624), h) := by kernel_rfl
theorem pw51 (h : H) : fcall Tryz.prog O0 100 5 162 [.int .i64 (.ofNat 51)] h = some (.int .u64 (.ofNat 2251799813685248), h) := by kernel_rfl
theorem pw52 (h : H) : fcall Tryz.prog O0 100 5 162 [.int .i64 (.ofNat 52)] h = some (.int .u64 (.ofNat 4503599627370496), h) := by kernel_rfl
theorem pw53 (h : H) : fcall Tryz.prog O0 100 5 162 [.int .i64 (.ofNat 53)] h = some (.int .u64 (.ofNat 9007199254740992), h) := by kernel_rfl
theorem pw54 (h : H) : fcall Tryz.prog O0 100 5 162 [.int .i64 (.ofNat 54)] h = some (.int .u64 (.ofNat 18014398509481984), h) := by kernel_rfl
theorem pw55 (h : H) : fcall Tryz.prog O0 100 5 162 [.int .i64 (.ofNat 55)] h = some (.int .u64 (.ofNat 36028797018963968), h) := by kernel_rfl
theorem pw56 (h : H) : fcall Tryz.prog O0 100 5 162 [.int .i64 (.ofNat 56)] h = some (.int .u64 (.ofNat 72057594037927936), h) := by kernel_rfl
theorem pw57 (h : H) : fcall Tryz.prog O0 100 5 162 [.int .i64 (.ofNat 57)] h = some (.int .u64 (.ofNat 144115188075855872), h) := by kernel_rfl
theorem pw58 (h : H) : fcall Tryz.prog O0 100 5 162 [.int .i64 (.ofNat 58)] h = some (.int .u64 (.ofNat 288230376151711744), h) := by kernel_rfl
theorem pw59 (h : H) : fcall Tryz.prog O0 100 5 162 [.int .i64 (.ofNat 59)] h = some (.int .u64 (.ofNat 576460752303423488), h) := by kernel_rfl
theorem pw60 (h : H) : fcall Tryz.prog O0 100 5 162 [.int .i64 (.ofNat 60)] h = some (.int .u64 (.ofNat 1152921504606846976), h) := by kernel_rfl
theorem pw61 (h : H) : fcall Tryz.prog O0 100 5 162 [.int .i64 (.ofNat 61)] h = some (.int .u64 (.ofNat 2305843009213693952), h) := by kernel_rfl
theorem pw62 (h : H) : fcall Tryz.prog O0 100 5 162 [.int .i64 (.ofNat 62)] h = some (.int .u64 (.ofNat 4611686018427387904), h) := by kernel_rfl
theorem pw63 (h : H) : fcall Tryz.prog O0 100 5 162 [.int .i64 (.ofNat 63)] h = some (.int .u64 (.ofNat 9223372036854775808), h) := by kernel_rfl
theorem pw (n : Nat) (hn : n < 64) (h : H) : fcall Tryz.prog O0 100 5 162 [.int .i64 (.ofNat n)] h = some (.int .u64 (.ofNat (2 ^ n)), h) := by
  have hc : n = 0 ∨ n = 1 ∨ n = 2 ∨ n = 3 ∨ n = 4 ∨ n = 5 ∨ n = 6 ∨ n = 7 ∨ n = 8 ∨ n = 9 ∨ n = 10 ∨ n = 11 ∨ n = 12 ∨ n = 13 ∨ n = 14 ∨ n = 15 ∨ n = 16 ∨ n = 17 ∨ n = 18 ∨ n = 19 ∨ n = 20 ∨ n = 21 ∨ n = 22 ∨ n = 23 ∨ n = 24 ∨ n = 25 ∨ n = 26 ∨ n = 27 ∨ n = 28 ∨ n = 29 ∨ n = 30 ∨ n = 31 ∨ n = 32 ∨ n = 33 ∨ n = 34 ∨ n = 35 ∨ n = 36 ∨ n = 37 ∨ n = 38 ∨ n = 39 ∨ n = 40 ∨ n = 41 ∨ n = 42 ∨ n = 43 ∨ n = 44 ∨ n = 45 ∨ n = 46 ∨ n = 47 ∨ n = 48 ∨ n = 49 ∨ n = 50 ∨ n = 51 ∨ n = 52 ∨ n = 53 ∨ n = 54 ∨ n = 55 ∨ n = 56 ∨ n = 57 ∨ n = 58 ∨ n = 59 ∨ n = 60 ∨ n = 61 ∨ n = 62 ∨ n = 63 := by omega
  rcases hc with rfl | rfl | rfl | rfl | rfl | rfl | rfl | rfl | rfl | rfl | rfl | rfl | rfl | rfl | rfl | rfl | rfl | rfl | rfl | rfl | rfl | rfl | rfl | rfl | rfl | rfl | rfl | rfl | rfl | rfl | rfl | rfl | rfl | rfl | rfl | rfl | rfl | rfl | rfl | rfl | rfl | rfl | rfl | rfl | rfl | rfl | rfl | rfl | rfl | rfl | rfl | rfl | rfl | rfl | rfl | rfl | rfl | rfl | rfl | rfl | rfl | rfl | rfl | rfl
  · exact pw0 h
  · exact pw1 h
  · exact pw2 h
  · exact pw3 h
  · exact pw4 h
  · exact pw5 h
  · exact pw6 h
  · exact pw7 h
  · exact pw8 h
  · exact pw9 h
  · exact pw10 h
  · exact pw11 h
  · exact pw12 h
  · exact pw13 h
  · exact pw14 h
  · exact pw15 h
  · exact pw16 h
  · exact pw17 h
  · exact pw18 h
  · exact pw19 h
  · exact pw20 h
  · exact pw21 h
  · exact pw22 h
  · exact pw23 h
  · exact pw24 h
  · exact pw25 h
  · exact pw26 h
  · exact pw27 h
  · exact pw28 h
  · exact pw29 h
  · exact pw30 h
  · exact pw31 h
  · exact pw32 h
  · exact pw33 h
  · exact pw34 h
  · exact pw35 h
  · exact pw36 h
  · exact pw37 h
  · exact pw38 h
  · exact pw39 h
  · exact pw40 h
  · exact pw41 h
  · exact pw42 h
  · exact pw43 h
  · exact pw44 h
  · exact pw45 h
  · exact pw46 h
  · exact pw47 h
  · exact pw48 h
  · exact pw49 h
  · exact pw50 h
  · exact pw51 h
  · exact pw52 h
  · exact pw53 h
  · exact pw54 h
  · exact pw55 h
  · exact pw56 h
  · exact pw57 h
  · exact pw58 h
  · exact pw59 h
  · exact pw60 h
  · exact pw61 h
  · exact pw62 h
  · exact pw63 h

/-- The powers of two, at once. -/
noncomputable def powO (f : FuncId) (xs : Array Value) (h : H) : Option (Value × H) :=
  bif Nat.beq f 162 then (match xs.toList with
    | [.int .i64 (.ofNat n)] => bif Nat.blt n 64 then some (.int .u64 (.ofNat (2 ^ n)), h) else none
    | _ => none) else none
noncomputable def O1 : Orc := ⟨fun f => Tryz.prog.funcs[f]?, powO⟩
theorem powO_ev {f : FuncId} {xs : Array Value} {h : H} {r : Value × H} (hs : powO f xs h = some r) : f = 162 ∧ Ev Tryz.prog O0 f xs h r ∧ r.2 = h := by
  unfold powO at hs
  cases hb : Nat.beq f 162 with
  | false => rw [hb] at hs; cases hs
  | true =>
    have := Nat.eq_of_beq_eq_true hb
    subst this
    rw [hb, cond_true] at hs
    split at hs <;> try (cases hs; done)
    rename_i n hx
    cases hn : Nat.blt n 64 with
    | false => rw [hn] at hs; cases hs
    | true =>
      rw [hn, cond_true] at hs
      injection hs with hs; subst hs
      have hlt : n < 64 := by simpa [Nat.blt_eq] using hn
      have he := ev_of_fcall (pw n hlt h)
      have hxs : xs = [Value.int .i64 (.ofNat n)].toArray := by
        apply Array.toList_inj.1
        rw [hx]
      rw [hxs]
      exact ⟨rfl, he, rfl⟩
theorem ok1 : Ok Tryz.prog O1 where
  mx := by kernel_rfl
  fn f fn h := ⟨h, ok_fn h⟩
  call f xs h v h' hs := by
    obtain ⟨_, ⟨n, he⟩, _⟩ := powO_ev hs
    exact (sound ok0 n).1.2.2.1 f xs h v h' he
  next f xs h v h' hs := by
    obtain ⟨_, _, e⟩ := powO_ev hs
    dsimp only at e
    rw [e]; exact Nat.le_refl _
  plain f xs h r hs := by
    obtain ⟨_, ⟨n, he⟩, _⟩ := powO_ev hs
    exact (sound ok0 n).2.2.1 f xs h r he
end Go.Proofs.Zq
