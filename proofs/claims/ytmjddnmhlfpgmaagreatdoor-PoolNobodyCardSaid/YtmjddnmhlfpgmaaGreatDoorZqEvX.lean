/- From the evaluator's contracts to the model's: where the arguments bear no address. -/
import Derived.Test.YtmjddnmhlfpgmaaGreatDoorZqEvW
import Derived.ChangeSame
import Derived.RowKit3
import Derived.RowKit
import Derived.WideKeyArgs
namespace Go.Proofs.Zq
open Go Go.ChangeShapes Go.WideShapes Go.RowKit
variable {P : Program}

/-- Nothing of what was there is another. -/
structure Same (w w' : World) : Prop where
  os : w'.os = w.os
  output : w'.output = w.output
  size : w.heap.size ≤ w'.heap.size
  heap : ∀ r, r < w.heap.size → w'.heap[r]? = w.heap[r]?

theorem Same.keptBut {w w' : World} (s : Same w w') (may : MemPlace → Prop) : w.keptBut w' may := by
  refine World.keptBut_mono (fun _ f => f.elim) (show w.keptBut w' (fun _ => False) from ⟨s.os, s.output, fun i hi => ?_⟩)
  rw [s.heap i hi]
  cases w.heap[i]? with
  | none => rfl
  | some o => cases o <;> simp
theorem Same.cell {w w' : World} (s : Same w w') {a : Addr} (h : a.block < w.heap.size) : w'.cell? a = w.cell? a := by
  unfold World.cell?
  rw [s.heap _ h]
theorem Same.frozen {w w' : World} (s : Same w w') {a : Addr} (h : a.block < w.heap.size) : w'.frozen? a = w.frozen? a := by
  unfold World.frozen?
  rw [s.heap _ h]

/-- 'post_of_same', where of new blocks nothing is known. -/
theorem post_same {H : Type} {enc : TypeId × Value → H} {f : Func} {s : ChangeSpec} {apart fresh handsOn again : Bool} {W W' : World} {args : Array Value} {v : Value} {ds gs : List (DataW H)} {before pa pv : List MemPlace}
    (hW : DataW.Whole enc P f.params.toList s.vars apart W args.toList ds gs before) (hs : Same W W')
    (hres : ∀ (b : Nat) (sp : Nat → Bool) (hd : Bool), DataW.TrodAll enc P W' b sp hd f.resultTypes.toList (v.resultList f.resultTypes.size) (s.fn H (ds ++ gs)).results [])
    (hargs : ∀ sp : Nat → Bool, (∀ p ∈ before, sp p.block = true) → DataW.TrodAll enc P W' 0 sp true f.params.toList args.toList (s.fn H (ds ++ gs)).args pa)
    (hvars : ∀ sp : Nat → Bool, (∀ p ∈ before, sp p.block = true) → DataW.TrodVars enc P W' sp s.vars (s.fn H (ds ++ gs)).vars pv)
    (hps : before = pa ++ pv)
    (hok : ∀ (j : Nat) (t : TypeId) (r : Value), f.resultTypes[j]? = some t → (v.resultList f.resultTypes.size)[j]? = some r → Value.okWide P W' .any 0 t r) :
    s.post enc P f apart fresh handsOn again W args v W' := by
  have hlt : ∀ p ∈ before, p.block < W.heap.size := hW.lt
  have hold : ∀ p ∈ before, (fun b => decide (b < W.heap.size)) p.block = true := fun p hp => by simpa using hlt p hp
  refine ⟨ds, gs, before, [], pa, pv, hW, hres _ _ _, hargs _ hold, hvars _ hold, hs.keptBut _, fun _ => ?_⟩
  obtain ⟨_, _, _, _, _, hz, hn⟩ := hW
  refine ⟨hok, _, _, ([] ++ pa) ++ pv, ⟨[] ++ pa, pv, trodAll_append (hargs _ (fun _ _ => rfl)) (hres _ _ _), hvars _ (fun _ _ => rfl), rfl, ?_, ?_⟩, ?_⟩
  · intro b off hp
    have hp' : MemPlace.cell b off ∈ before := by rw [hps]; simpa using hp
    rw [hs.frozen (hlt _ hp')]
    exact hz b off hp'
  · intro ha
    have := hn ha
    rw [hps] at this
    simpa using this
  · intro p hp _
    rw [hps]
    simpa using hp

/-- The evaluator's empty heap, at any world: whose package-level variables are there. -/
theorem rel_empty {K : Nat} {w : World} : Rel P w.heap.size P.globals.size (fun b => if b < P.globals.size then some ⟨b, 0, 0, 0⟩ else none) ⟨.nil, K⟩ w := by
  have hget : ∀ b x, (⟨.nil, K⟩ : H).get b ≠ some x := fun b x e => by cases b <;> simp [H.get, Tri.get] at e
  exact ⟨Nat.le_refl _, fun g hg => ⟨_, if_pos hg, rfl, rfl⟩, fun b x e => absurd e (hget b x), fun b c x y i j e => absurd e (hget b x), fun b x e => absurd e (hget b x)⟩

/-- A contract on the empty heap, for arguments without an address, is the model's. -/
theorem calls_of_empty {f : FuncId} {xs : Array Value} {C : Value → Prop} {K : Nat} (hx : xs.all clean = true) (hK : P.globals.size ≤ K) (hc : WC P f xs (fun v _ => C v) ⟨.nil, K⟩) (hcl : ∀ v, C v → clean v = true) (w : World) :
    Calls P f xs w fun e w' => ∃ v, e = .returned v ∧ C v ∧ Same w w' := by
  have hxs : AR (fun b => if b < P.globals.size then some ⟨b, 0, 0, 0⟩ else none) xs xs := ⟨rfl, fun i h1 h2 => VR.clean (by simpa using (Array.all_eq_true.1 hx) i h1)⟩
  refine (hc w.heap.size _ w xs hxs rel_empty (fun b hb => by
    have : K ≤ b := hb
    rw [if_neg (by omega)])).mono ?_
  rintro e w' ⟨v, h1, v', rfl, hC, σ', hv, R1, K1, f1⟩
  have e := clean_same hv (hcl v hC)
  subst e
  have hget : ∀ b x, (⟨.nil, K⟩ : H).get b ≠ some x := fun b x e => by cases b <;> simp [H.get, Tri.get] at e
  exact ⟨_, rfl, hC, K1.os, K1.output, K1.size, fun r hr => K1.frame r hr (fun b x i e => absurd e (hget b x))⟩

theorem Same.at {w w' : World} (s : Same w w') {p : MemPlace} (h : p.block < w.heap.size) : w.sameAt w' p := by
  cases p with
  | cell b off => exact s.cell (a := ⟨b, off, none⟩) h
  | map b => exact s.heap b h
theorem trodAll_stays (hl : laidOutB P = true) {H : Type} {enc : TypeId × Value → H} {W W' : World} {sp : Nat → Bool} : ∀ {ts : List TypeId} {vs : List Value} {ds : List (DataW H)} {ps : List MemPlace}, (ts.all fun t => P.readableRec t && Nat.blt t P.types.size) = true → DataW.TrodAll enc P W 0 (fun _ => true) true ts vs ds ps →
    (∀ p ∈ ps, W.sameAt W' p) → (∀ p ∈ ps, sp p.block = true) → DataW.TrodAll enc P W' 0 sp true ts vs ds ps
  | [], vs, ds, ps, _, h, _, _ => by
    obtain ⟨rfl, rfl, rfl⟩ := trodAll_nil h
    exact trodAll_mk0
  | t :: ts, vs, ds, ps, ht, h, h1, h2 => by
    simp only [List.all_cons, Bool.and_eq_true, Nat.blt_eq] at ht
    obtain ⟨v, vs', d, ds', p, q, rfl, rfl, rfl, hd, hr⟩ := trodAll_cons h
    refine ⟨p, q, ?_, trodAll_stays hl ht.2 hr (fun x hx => h1 x (List.mem_append_right _ hx)) (fun x hx => h2 x (List.mem_append_right _ hx)), rfl⟩
    exact Go.WideElems.Trod_stays hl ht.1.1 ht.1.2 hd (fun x hx => h1 x (List.mem_append_left _ hx)) (fun x hx => h2 x (List.mem_append_left _ hx))

/-- What a law leaves: true, and all as it was. -/
theorem law_post {H : Type} {enc : TypeId × Value → H} {f : Func} {s : ChangeSpec} {apart fresh handsOn again : Bool} {W W' : World} {args : Array Value} {ds gs : List (DataW H)} {before : List MemPlace}
    (hW : DataW.Whole enc P f.params.toList s.vars apart W args.toList ds gs before) (hs : Same W W') (hv : s.vars = []) (hl : laidOutB P = true) (hp : (f.params.toList.all fun t => P.readableRec t && Nat.blt t P.types.size) = true) (hr : f.resultTypes = #[4]) (h4 : P.underlying 4 = some .bool)
    (hfn : s.fn H ds = { results := [.lit (.bool true)], args := ds }) :
    s.post enc P f apart fresh handsOn again W args (.bool true) W' := by
  have hlt : ∀ p ∈ before, p.block < W.heap.size := hW.lt
  obtain ⟨p, q, hA, hV, hpq, hz, hn⟩ := id hW
  rw [hv] at hV
  obtain ⟨rfl, rfl⟩ := trodVars_none hV
  rw [List.append_nil] at hpq
  subst hpq
  refine post_same (pa := before) (pv := []) hW hs ?_ ?_ ?_ (by simp) ?_
  · intro b sp hd
    rw [List.append_nil, hfn, hr]
    exact trodAll_mk1 (shut_bool h4 _)
  · intro sp hsp
    rw [List.append_nil, hfn]
    exact trodAll_stays hl hp hA (fun x hx => hs.at (hlt x hx)) hsp
  · intro sp hsp
    rw [hv, List.append_nil, hfn]
    rfl
  · exact ok_one hr rfl (okWide_bool_mk h4 _)
end Go.Proofs.Zq
