import Derived.Test.YtmjddnmhlfpgmaaGreatDoorZqPlC
namespace Go.Proofs.Zq
open Go.Proofs
variable {O : Orc}

theorem WO.low {P : Program} {all : Array Oper} {os : List Oper} {Q : Tmps → H → Prop} {a : Tmps} {h : H} (hw : (∀ b x, h.get b = some x → b < h.next) → WO P all os Q a h) : WO P all os Q a h := fun N σ w ar hr hd R f => hw R.low' N σ w ar hr hd R f

def okE (h : H) (v : Value) : Prop := ∃ n lo hi, ValAt h v n lo hi ∧ lo ≤ n ∧ n ≤ hi
def badE (h : H) (v : Value) : Prop := ∃ n lo hi, ValAt h v n lo hi ∧ ¬ (lo ≤ n ∧ n ≤ hi)

/-- The heap behind the loop. -/
def hL (h2 : H) (b : Nat) (m : Nat) : H := { (h2.del b) with next := h2.next + 1 + m }

theorem rM_W (ok : Ok Tryz.prog O) (hf : O.fn 54 = some Tryz.f54) (ho : ∀ xs h, O.or 54 xs h = none) {a : Tmps} {h h2 : H} {pv : Value} {b : Nat} {es : List (Value × Value)} (hz : a.size = 171) (hp : tev a (.tmp 1) = pv)
    (hvals : Ev Tryz.prog O 62 #[pv] h (.map (some b), h2)) (hes : h2.get b = some (.map es)) (hall : ∀ e ∈ es, ValOk (h2.del b) e.2) :
    W Tryz.prog rM (fun e a' h' => Sub h' (hL h2 b es.length) ∧ (e = .normal ∧ a'.size = 171 ∧ tev a' (.tmp 8) = tev a (.tmp 8) ∧ (∀ e ∈ es, okE (h2.del b) e.2) ∨ e = .ret ∧ tev a' (.tmp 2) = .bool false ∧ ∃ e ∈ es, badE (h2.del b) e.2)) a h := by
  rw [rM_eq]
  have g : ∀ {o : Oper} {x d n}, Is o x d n → ∀ {all : Array Oper} {a : Tmps}, Region.wanted o (yielded all a) = true := by
    intro o x d n i all a
    unfold Region.wanted
    rw [i.guard]
  have u117 : Tryz.prog.underlying 117 = some (.map 9 121) := by kernel_rfl
  refine W.mapRange (it := 154) (n := 155) (c := 156) (e := 157) (Q0 := fun a' h' => h' = h2 ∧ a'.size = 171 ∧ tev a' (.tmp 8) = tev a (.tmp 8) ∧ tev a' (.tmp 153) = .map (some b))
    (I := fun rem a' h' => a'.size = 171 ∧ tev a' (.tmp 8) = tev a (.tmp 8) ∧ h'.next + rem.length = h2.next + 1 + es.length ∧ (∀ c x, (h2.del b).get c = some x → h'.get c = some x) ∧ ∃ done, (done ++ rem).Perm es ∧ ∀ e ∈ done, okE (h2.del b) e.2)
    l26 i26_1.op i26_1.dst i26_1.guard u117 rfl l27 i27_0.op i27_0.dst i27_0.guard i27_1.op i27_1.dst i27_1.guard l28 i28_0.op i28_0.dst i28_0.guard (by decide) (by decide) ?_ ?_ ?_ ?_
  · refine WO.cons ok (g i26_0) (St.call i26_0.clean i26_0.op (g := 62) (xs := #[pv]) ?_ hvals) (WO.nil ?_)
    · simp [callee, tevf, hp]
    · rw [i26_0.dst]
      refine ⟨rfl, by simp [tput_size, hz], ?_, ?_⟩
      · simp [tevp]
      · simp [tevp, hz]
  · rintro a' h' ⟨rfl, q1, q2, q3⟩
    refine ⟨b, es, q3, hes, by rw [q1]; decide, by rw [q1]; decide, by rw [q1]; decide, fun v => ⟨by simp [tput_size, q1], by simp [tevp, q2], by simp [H.bump], fun c x hc => hc, [], by simp, by simp⟩⟩
  · rintro rem a' h' k v rem' ⟨q1, q2, q3, q4, done, q5, q6⟩ hperm
    refine WO.low fun low => ?_
    have hmem : (k, v) ∈ es := q5.mem_iff.1 (List.mem_append.2 (.inr (hperm.mem_iff.2 (by simp))))
    obtain ⟨n, lo, hi, hval⟩ := hall _ hmem
    obtain ⟨pb, off, hv, hcell⟩ := id hval
    dsimp only at hv
    subst hv
    refine round28 ok q1 fun a1 h1 r1 r2 r3 r4 r5 r6 => ?_
    have hold : ∀ c x, h'.get c = some x → h1.get c = some x := fun c x hc => by
      have := low c x hc
      rw [r6, if_neg (by omega)]; exact hc
    have hcell' : h1.cells pb off 1 = some [.int .i64 n] := cells_sub hold (cells_sub q4 hcell)
    obtain ⟨a2, e2, s1, s2, s3, s4⟩ := round29 (O := O) hf ho r1 r2 (by rw [r6, if_pos rfl]) hcell'
    have hlen := hperm.length_eq
    simp only [List.length_cons] at hlen
    have hsub : Sub h1 (hL h2 b es.length) := ⟨by simp only [hL]; omega, fun c x hc => hold c x (q4 c x hc)⟩
    rw [rB_eq]
    refine W.seq (W.of_ex ok e2 ?_)
    dsimp only [thenW]
    by_cases hin : lo ≤ n ∧ n ≤ hi
    · refine W.cond (b := false) rfl (by rw [s2]; simp [hin]) ?_
      rw [if_neg (by simp)]
      refine W.skip ?_
      refine ⟨⟨s1, by rw [s3, r3]; exact q2, by omega, fun c x hc => hold c x (q4 c x hc), done ++ [(k, .agg #[.pointer (some ⟨pb, off, none⟩), .int .i64 lo, .int .i64 hi])], ?_, fun e he => ?_⟩, ?_, by rw [s1, q1]⟩
      · rw [List.append_assoc]
        exact ((hperm.symm.append_left done)).trans q5
      · rcases List.mem_append.1 he with he | he
        · exact q6 e he
        · simp only [List.mem_singleton] at he
          subst he
          exact ⟨n, lo, hi, hval, hin⟩
      · have := s4.trans r4
        exact this
    · refine W.cond (b := true) rfl (by rw [s2]; simp only [Value.bool.injEq]; rw [Bool.not_eq_true', Bool.and_eq_false_iff]; simp only [decide_eq_false_iff_not]; omega) ?_
      rw [if_pos rfl]
      refine W.seq (W.region ?_)
      rw [l30]
      refine WO.cons ok (g i30_0) (St.pop (v := .bool false) i30_0.clean i30_0.kind (by simp [Zq.pop, i30_0.op, tevc])) (WO.nil ?_)
      show W _ _ _ _ _
      refine W.ret ?_
      show _ ∧ _
      refine ⟨hsub, .inr ⟨rfl, ?_, _, hmem, n, lo, hi, hval, hin⟩⟩
      rw [i30_0.dst]
      simp [tevp, s1]
  · rintro a' h' ⟨q1, q2, q3, q4, done, q5, q6⟩
    refine ⟨⟨by simp only [hL]; simp at q3; omega, fun c x hc => q4 c x hc⟩, .inl ⟨rfl, by simp [tput_size, q1], by simp [tevp, q2], fun e he => ?_⟩⟩
    rw [List.append_nil] at q5
    exact q6 e (q5.mem_iff.2 he)
end Go.Proofs.Zq
