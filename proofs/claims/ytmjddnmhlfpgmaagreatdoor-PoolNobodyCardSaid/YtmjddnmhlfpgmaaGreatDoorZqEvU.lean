/- A loop over a map's entries, in whatever order they come. -/
import Derived.Test.YtmjddnmhlfpgmaaGreatDoorZqEvT
import Derived.Maps.RangeRun
namespace Go.Proofs.Zq
open Go.ChangeMaps (setBlock)
variable {P : Program} {O : Orc} {N : Nat} {σ : Sg} {h : H} {w : World}

def H.bump (h : H) : H := { h with next := h.next + 1 }

theorem Rel.bump (R : Rel P N P.globals.size σ h w) (hf : σ h.next = none) {w' : World} {o : Obj} (g : Grew w w' o) (i : BI) :
    Rel P N P.globals.size (upd σ h.next i) h.bump w' ∧ Kept σ h w (upd σ h.next i) h.bump w' := by
  have hsz : w'.heap.size = w.heap.size + 1 := by rw [g.heap]; simp
  have hold : ∀ r, r < w.heap.size → w'.heap[r]? = w.heap[r]? := fun r hr => by rw [g.heap, Array.getElem?_push]; simp [Nat.ne_of_lt hr]
  refine ⟨(R.ext (upd_mono hf) hold (by omega)).sub ⟨by simp [H.bump], fun b x hx => hx⟩, ⟨by simp [H.bump], fun b hb => upd_ne i (fun e => hb (by subst e; simp [H.bump])), by omega, fun r hr _ => hold r hr, fun b x l hb hx hl => ?_, g.os, g.output⟩⟩
  have hlt : b < h.next := R.low' b x hb
  rw [upd_ne i (by omega)] at hl
  exact .inl ⟨b, x, l, hb, hx, hl, rfl⟩

/-- Entries, place by place. -/
def LE (σ : Sg) (l : List (Value × Value)) (L : List MapEntry) : Prop := l.length = L.length ∧ ∀ k (h : k < l.length) (h' : k < L.length), VR σ (l[k]).1 (L[k]).key ∧ VR σ (l[k]).2 (L[k]).val
theorem LE.mono {σ' : Sg} (hs : ∀ b i, σ b = some i → σ' b = some i) {l : List (Value × Value)} {L : List MapEntry} (h : LE σ l L) : LE σ' l L :=
  ⟨h.1, fun k h1 h2 => ⟨(h.2 k h1 h2).1.mono hs, (h.2 k h1 h2).2.mono hs⟩⟩
theorem LE.erase {l : List (Value × Value)} {L : List MapEntry} (h : LE σ l L) (j : Nat) : LE σ (l.eraseIdx j) (L.eraseIdx j) := by
  refine ⟨by simp [List.length_eraseIdx, h.1], fun k h1 h2 => ?_⟩
  simp only [List.getElem_eraseIdx]
  split
  · exact h.2 k _ _
  · exact h.2 (k + 1) _ _

theorem filter_erase : ∀ (L : List MapEntry) (j : Nat) (e : MapEntry), (L.map (·.born)).Nodup → L[j]? = some e → L.filter (fun y => !(y.born == e.born)) = L.eraseIdx j
  | [], j, e, _, h => by simp at h
  | y :: L, 0, e, hn, h => by
    simp only [List.getElem?_cons_zero, Option.some.injEq] at h
    subst h
    simp only [List.map_cons, List.nodup_cons] at hn
    simp only [List.eraseIdx_zero, List.tail_cons, List.filter_cons, beq_self_eq_true, Bool.not_true, Bool.false_eq_true, if_false]
    rw [List.filter_eq_self]
    intro z hz
    have : z.born ≠ y.born := fun e => hn.1 (by rw [← e]; exact List.mem_map.2 ⟨z, hz, rfl⟩)
    simp [this]
  | y :: L, j + 1, e, hn, h => by
    simp only [List.map_cons, List.nodup_cons] at hn
    simp only [List.getElem?_cons_succ] at h
    have hm : e ∈ L := List.mem_of_getElem? h
    have : y.born ≠ e.born := fun eq => hn.1 (by rw [eq]; exact List.mem_map.2 ⟨e, hm, rfl⟩)
    simp only [List.eraseIdx_cons_succ, List.filter_cons]
    rw [if_pos (by simp [this]), filter_erase L j e hn.2 h]

theorem left_push (en : Array MapEntry) (seen : Array Nat) (b : Nat) : (leftOf en (seen.push b)).toList = (leftOf en seen).toList.filter (fun y => !(y.born == b)) := by
  unfold leftOf
  simp only [Array.toList_filter, List.filter_filter]
  congr 1
  funext y
  rw [contains_push]
  cases seen.contains y.born <;> cases (y.born == b) <;> rfl

theorem erase_perm {α : Type} : ∀ (l : List α) (j : Nat) (hj : j < l.length), l.Perm (l[j] :: l.eraseIdx j)
  | x :: l, 0, _ => by simp
  | x :: l, j + 1, hj => by
    simp only [List.getElem_cons_succ, List.eraseIdx_cons_succ]
    exact ((erase_perm l j (by simpa using hj)).cons x).trans (List.Perm.swap _ _ _)

/-- The loop under way. -/
structure MR (P : Program) (N : Nat) (σ1 : Sg) (h1 : H) (w1 : World) (mb r x : Nat) (en : Array MapEntry) (cl : Nat) (σ : Sg) (h : H) (w : World) (seen : Array Nat) (c0 : Nat) (rem : List (Value × Value)) : Prop where
  rel : Rel P N P.globals.size σ h w
  fr : Free σ h.next
  hx : σ x = some ⟨r, 0, 0, 0⟩
  wm : w.heap[mb]? = some (.map en cl)
  wi : w.heap[r]? = some (.mapIter (some mb) cl seen c0)
  cc : cl ≤ c0
  ne : mb ≠ r
  nr : N ≤ r
  rr : w1.heap.size ≤ r
  ap : ∀ c z i, h.get c = some z → z.own = true → σ c = some i → i.blk ≠ mb ∧ i.blk ≠ r
  li : ∃ rem0, rem0.Perm rem ∧ LE σ rem0 (leftOf en seen).toList
  k1 : Kept σ1 h1 w1 σ h w

section
variable {σ1 : Sg} {h1 : H} {w1 : World} {mb r x : Nat} {en : Array MapEntry} {cl : Nat} {seen : Array Nat} {c0 : Nat} {rem : List (Value × Value)}

theorem MR.lt_r (M : MR P N σ1 h1 w1 mb r x en cl σ h w seen c0 rem) : r < w.heap.size := (Array.getElem?_eq_some_iff.1 M.wi).1
theorem MR.lt_m (M : MR P N σ1 h1 w1 mb r x en cl σ h w seen c0 rem) : mb < w.heap.size := (Array.getElem?_eq_some_iff.1 M.wm).1

/-- Whatever the evaluator does leaves the loop where it is. -/
theorem MR.step (M : MR P N σ1 h1 w1 mb r x en cl σ h w seen c0 rem) {σ' : Sg} {h' : H} {w' : World} (R : Rel P N P.globals.size σ' h' w') (K : Kept σ h w σ' h' w') : MR P N σ1 h1 w1 mb r x en cl σ' h' w' seen c0 rem where
  rel := R
  fr := M.fr.kept K
  hx := K.mono M.fr.fresh _ _ M.hx
  wm := by rw [K.frame mb M.lt_m (fun b z i hb hz hi => (M.ap b z i hb hz hi).1)]; exact M.wm
  wi := by rw [K.frame r M.lt_r (fun b z i hb hz hi => (M.ap b z i hb hz hi).2)]; exact M.wi
  cc := M.cc
  ne := M.ne
  nr := M.nr
  rr := M.rr
  ap c z i hc hz hi := by
    have a1 := M.lt_m
    have a2 := M.lt_r
    rcases K.from_ c z i hc hz hi with ⟨d, y, j, hd, hy, hj, e⟩ | e
    · rw [← e]; exact M.ap d y j hd hy hj
    · exact ⟨by omega, by omega⟩
  li := by obtain ⟨rem0, p, l⟩ := M.li; exact ⟨rem0, p, l.mono (K.mono M.fr.fresh)⟩
  k1 := M.k1.trans K

/-- The iterator's own step. -/
theorem MR.next (M : MR P N σ1 h1 w1 mb r x en cl σ h w seen c0 rem) (hn : (en.toList.map (·.born)).Nodup) {w2 : World} (hw2 : w2 = w ∨ w2 = w.drew) {e : MapEntry} (he : e ∈ (leftOf en seen).toList) :
    ∃ k v rem', rem.Perm ((k, v) :: rem') ∧ VR σ k e.key ∧ VR σ v e.val ∧ MR P N σ1 h1 w1 mb r x en cl σ h (setBlock w2 r (.mapIter (some mb) cl (seen.push e.born) cl)) (seen.push e.born) cl rem' := by
  have hh2 : w2.heap = w.heap := by rcases hw2 with rfl | rfl <;> rfl
  have hset : (setBlock w2 r (.mapIter (some mb) cl (seen.push e.born) cl)).heap[r]? = some (.mapIter (some mb) cl (seen.push e.born) cl) ∧ ∀ q, q ≠ r → (setBlock w2 r (.mapIter (some mb) cl (seen.push e.born) cl)).heap[q]? = w.heap[q]? := by
    have := MapKept.heap_set (o' := .mapIter (some mb) cl (seen.push e.born) cl) M.wi
    simp only [setBlock, hh2]
    exact this
  obtain ⟨rem0, p, l⟩ := M.li
  obtain ⟨j, hj, hje⟩ := List.getElem_of_mem he
  have hj0 : j < rem0.length := by rw [l.1]; exact hj
  obtain ⟨v1, v2⟩ := l.2 j hj0 hj
  rw [hje] at v1 v2
  have hperm : rem0.Perm (rem0[j] :: rem0.eraseIdx j) := erase_perm rem0 j hj0
  have hlive : ∀ c z i, h.get c = some z → σ c = some i → i.blk ≠ r := fun c z i hc hi => by
    cases hz : z.own with
    | true => exact (M.ap c z i hc hz hi).2
    | false =>
      obtain ⟨i', hi', hb⟩ := M.rel.live c z hc
      rw [hi] at hi'; injection hi' with hi'; subst hi'
      cases z with
      | cells cs el own opn =>
        obtain ⟨_, _, _, _, _, _, _, _, _, h6⟩ := hb
        have := h6 hz
        have := M.nr
        omega
      | map es => simp [Blk.own] at hz
      | siter s p => simp [Blk.own] at hz
  refine ⟨(rem0[j]).1, (rem0[j]).2, rem0.eraseIdx j, p.symm.trans hperm, v1, v2, ?_⟩
  have hsz : (setBlock w2 r (.mapIter (some mb) cl (seen.push e.born) cl)).heap.size = w.heap.size := by simp [setBlock, hh2]
  have hr' := M.rr
  exact {
    rel := ⟨by rw [hsz]; exact M.rel.low, M.rel.glob, fun c z hc => by
      obtain ⟨i, hi, hb⟩ := M.rel.live c z hc
      exact ⟨i, hi, hb.mono (fun _ _ h => h) (hset.2 _ (hlive c z i hc hi))⟩, M.rel.inj, M.rel.low'⟩
    fr := M.fr, hx := M.hx
    wm := by rw [hset.2 _ M.ne]; exact M.wm
    wi := hset.1
    cc := Nat.le_refl _
    ne := M.ne, nr := M.nr, rr := M.rr, ap := M.ap
    li := ⟨rem0.eraseIdx j, List.Perm.refl _, by
      rw [left_push]
      have hnd : ((leftOf en seen).toList.map (·.born)).Nodup := by
        unfold leftOf
        simp only [Array.toList_filter]
        exact hn.sublist (List.Sublist.map _ List.filter_sublist)
      rw [filter_erase _ j e hnd (by rw [List.getElem?_eq_getElem hj, hje])]
      exact l.erase j⟩
    k1 := by
      have hos : w2.os = w.os ∧ w2.output = w.output := by rcases hw2 with rfl | rfl <;> exact ⟨rfl, rfl⟩
      exact ⟨M.k1.nx, M.k1.sg, by rw [hsz]; exact M.k1.size, fun q hq hn => by rw [hset.2 q (by omega)]; exact M.k1.frame q hq hn, M.k1.from_, hos.1.trans M.k1.os, hos.2.trans M.k1.output⟩ }
end

/-- What one operation gives, if its run is known. -/
theorem wpList_run {all : Array Oper} {o : Oper} {os : List Oper} {ar : Act} {w w' : World} {v : Value} {Q : Exit → Act → World → Prop} (hg : o.guard = none) (run : (execOp ar.eval o).run P w = .ok (.value v) w')
    (hx : wpList P all Q os (ar.put o.dst v) w') : wpList P all Q (o :: os) ar w := by
  unfold wpList
  rw [if_pos (by unfold Region.wanted; rw [hg])]
  left
  unfold Oper.wp
  rw [run]
  exact hx

section
variable {id0 id id2 id27 id28 : Nat} {ops ops27 ops28 : Array Oper} {os0 os28 : List Oper} {orng onext oext oent : Oper} {B : Code} {mt kt vt : TypeId} {m : Operand} {it n c e : Tmp}
  {Q : Ext → Tmps → H → Prop} {Q0 : Tmps → H → Prop} {I : List (Value × Value) → Tmps → H → Prop}

/-- A round's end. -/
def roundEnd (id id2 : Nat) (Q : Ext → Tmps → H → Prop) (J : Tmps → H → Prop) (e : Ext) (a : Tmps) (h : H) : Prop :=
  match inBlk id2 e with
  | .normal => J a h
  | e' => Q (inBlk id e') a h

theorem W.mapRange {a : Tmps} {h : H}
    (e0 : ops.toList = os0 ++ [orng]) (r1 : orng.op = .range mt m) (r2 : orng.dst = some it) (r3 : orng.guard = none) (u0 : P.underlying mt = some (.map kt vt)) (hm : cleanOp P m = true)
    (e1 : ops27.toList = [onext, oext]) (n1 : onext.op = .next (.tmp it) false) (n2 : onext.dst = some n) (n3 : onext.guard = none) (x1 : oext.op = .extract (.tmp n) 0) (x2 : oext.dst = some c) (x3 : oext.guard = none)
    (e2 : ops28.toList = oent :: os28) (t1 : oent.op = .entry (.tmp it)) (t2 : oent.dst = some e) (t3 : oent.guard = none)
    (d1 : it ≠ n) (d2 : it ≠ c)
    (h0 : WO P ops os0 Q0 a h)
    (hQ0 : ∀ a h, Q0 a h → ∃ b es, tev a m = .map (some b) ∧ h.get b = some (.map es) ∧ it < a.size ∧ n < a.size ∧ c < a.size ∧ ∀ v, I es (tput a (some it) v) (h.del b).bump)
    (hround : ∀ rem a h k v rem', I rem a h → rem.Perm ((k, v) :: rem') →
      WO P ops28 os28 (W P B (roundEnd id id2 Q (fun a' h' => I rem' a' h' ∧ a'.getD it undef = a.getD it undef ∧ a'.size = a.size))) (tput (tput (tput a (some n) (.tuple #[.bool true, k, v])) (some c) (.bool true)) (some e) (.tuple #[k, v])) h)
    (hend : ∀ a h, I [] a h → Q .normal (tput (tput a (some n) (.tuple #[.bool false])) (some c) (.bool false)) h) :
    W P (.seq (.region id0 ops false) (.block id (.loop (.seq (.region id27 ops27 false) (.seq (.cond (.tmp c) .skip (.exit id)) (.block id2 (.seq (.region id28 ops28 false) B))))))) Q a h := by
  intro N σ w ar hr hd R f
  refine wp_seq (wp_region_list ?_)
  rw [e0]
  -- the operations ahead of 'range'
  have split : ∀ (os : List Oper) (ar : Act) (w : World) (Qf : Exit → Act → World → Prop) (K : Exit → Act → World → Prop), (∀ ex ar w, K ex ar w → ex = .normal ∧ wpList P ops Qf [orng] ar w) → wpList P ops K os ar w → wpList P ops Qf (os ++ [orng]) ar w := by
    intro os
    induction os with
    | nil => intro ar w Qf K hK hw; exact (hK _ _ _ hw).2
    | cons o os ih =>
      intro ar w Qf K hK hw
      rw [List.cons_append]
      unfold wpList at hw ⊢
      split
      · rename_i hwt
        rw [if_pos hwt] at hw
        rcases hw with hw | ⟨_, a0, w0, hw⟩
        · refine .inl ?_
          unfold Oper.wp at hw ⊢
          generalize (execOp ar.eval o).run P w = q at hw ⊢
          cases q with
          | ok nx w' =>
            cases nx <;> simp only [Oper.upon] at hw ⊢ <;> first
              | exact ih _ _ _ _ hK hw
              | exact Calls.mono hw (fun e w'' he => by
                  cases e with
                  | returned v => exact ih _ _ _ _ hK he
                  | panicked c => exact absurd (hK _ _ _ he).1 (by simp)
                  | outgrown => obtain ⟨a0, w0, h0⟩ := he; exact absurd (hK _ _ _ h0).1 (by simp))
              | exact Rows.mono hw (fun _ _ he => ih _ _ _ _ hK he)
          | halt x w' => cases x <;> simp only [Oper.upon] at hw ⊢ <;> first | exact absurd (hK _ _ _ hw).1 (by simp) | exact hw
        · exact absurd (hK _ _ _ hw).1 (by simp)
      · rename_i hwt
        rw [if_neg hwt] at hw
        exact ih _ _ _ _ hK hw
  refine split os0 ar w _ _ (fun ex ar1 w1 hk => ?_) (h0 N σ w ar hr hd R f)
  obtain ⟨ee, a1, h1, rfl, hd1, ⟨rfl, hq⟩, σ1, hr1, R1, K1, f1⟩ := hk
  refine ⟨rfl, ?_⟩
  obtain ⟨b, es, hmv, hgb, hit, hnt, hct, hI⟩ := hQ0 a1 h1 hq
  have hmr := tev_rel R1 hr1 hm
  rw [hmv] at hmr
  obtain ⟨i, hi, hbr⟩ := R1.live b _ hgb
  have hmv' : ar1.eval m = .map (some i.blk) := by
    generalize ar1.eval m = y at hmr
    cases hmr with | mp h => rw [hi] at h; injection h with h; subst h; rfl
  obtain ⟨en, cl, es', m1, m2, m3, m4, m5, m6, m7, m8⟩ := hbr
  have run0 : (execOp ar1.eval orng).run P w1 = .ok (.value (.pointer (some ⟨w1.heap.size, 0, none⟩))) (w1.alloc (.mapIter (some i.blk) cl #[] cl)) := by
    simp only [execOp, r1, hmv', Sem.run_bind, run_range_map (P := P) w1 mt kt vt i.blk en cl u0 m1]
    rfl
  refine wpList_run r3 run0 ?_
  -- the facts of the map
  have hborn : ∀ y ∈ en.toList, y.born < cl := fun y hy => by
    obtain ⟨j, hj, rfl⟩ := List.getElem_of_mem hy
    have := m6 j (by simpa using hj)
    simp only [Array.getElem_toList, this, m7]
    simpa using hj
  have hnod : (en.toList.map (·.born)).Nodup := by
    rw [List.nodup_iff_pairwise_ne, List.pairwise_iff_getElem]
    intro p q hp hq' hpq
    simp only [List.length_map, Array.length_toList] at hp hq'
    simp only [List.getElem_map, Array.getElem_toList, m6 p hp, m6 q hq']
    omega
  have hleft : leftOf en #[] = en := by unfold leftOf; simp
  have hmlt : i.blk < w1.heap.size := (Array.getElem?_eq_some_iff.1 m1).1
  have g := Grew.alloc (w := w1) (.mapIter (some i.blk) cl #[] cl)
  obtain ⟨Rd, Kd⟩ := R1.delB b
  have hfx : σ1 (h1.del b).next = none := f1 _ (Nat.le_refl _)
  obtain ⟨R2, K2⟩ := Rd.bump hfx g ⟨w1.heap.size, 0, 0, 0⟩
  have hold : ∀ q, q < w1.heap.size → (w1.alloc (.mapIter (some i.blk) cl #[] cl)).heap[q]? = w1.heap[q]? := fun q hq => by rw [g.heap, Array.getElem?_push]; simp [Nat.ne_of_lt hq]
  have K12 := Kd.trans K2
  have M : MR P N σ1 h1 w1 i.blk w1.heap.size (h1.del b).next en cl (upd σ1 (h1.del b).next ⟨w1.heap.size, 0, 0, 0⟩) (h1.del b).bump (w1.alloc (.mapIter (some i.blk) cl #[] cl)) #[] cl es := {
    rel := R2
    fr := f1.kept K12
    hx := upd_same _ _
    wm := by rw [hold _ hmlt]; exact m1
    wi := by rw [g.heap]; simp
    cc := Nat.le_refl _
    ne := by omega
    nr := R1.low
    rr := Nat.le_refl _
    ap := fun d z l hdz hz hl => by
      have hdz' : (h1.del b).get d = some z := hdz
      have hdb : d ≠ b := fun e => by subst e; rw [H.get_del_same] at hdz'; cases hdz'
      rw [H.get_del_ne _ _ _ hdb] at hdz'
      have hlt : d < h1.next := R1.low' d z hdz'
      rw [upd_ne _ (by simp; omega)] at hl
      obtain ⟨l', hl', hbr'⟩ := R1.live d z hdz'
      rw [hl] at hl'; injection hl' with hl'; subst hl'
      have := hbr'.lt
      exact ⟨fun e => hdb (R1.inj d b z _ l i hdz' hgb hz rfl hl hi e), by omega⟩
    li := ⟨es', m3, by
      rw [hleft]
      exact ⟨by simpa using m4.symm, fun k q1 q2 => by
        have := m5 k q1 (by simpa using q2)
        simp only [Array.getElem_toList]
        exact ⟨this.1.mono (upd_mono hfx), this.2.mono (upd_mono hfx)⟩⟩⟩
    k1 := K12 }
  -- the rounds
  have key : ∀ (len : Nat) (rem : List (Value × Value)) (seen : Array Nat) (c0 : Nat) (σ2 : Sg) (h2 : H) (w2 : World) (ar2 : Act) (a2 : Tmps), rem.length = len → MR P N σ1 h1 w1 i.blk w1.heap.size (h1.del b).next en cl σ2 h2 w2 seen c0 rem →
      AR σ2 a2 ar2.tmps → ar2.defers = [] → a2.getD it undef = .pointer (some ⟨(h1.del b).next, 0, none⟩) → a2.size = a1.size → I rem a2 h2 →
      Code.rounds P (.seq (.region id27 ops27 false) (.seq (.cond (.tmp c) .skip (.exit id)) (.block id2 (.seq (.region id28 ops28 false) B)))) (Out P N σ1 h1 w1 (fun e a h => Q (inBlk id e) a h)) (len + 1) ar2 w2 := by
    intro len
    induction len with
    | zero =>
      intro rem seen c0 σ2 h2 w2 ar2 a2 hl M2 hr2 hd2 hp2 hs2 hI2
      have hrem : rem = [] := List.length_eq_zero_iff.1 hl
      subst hrem
      have hnil : (leftOf en seen).size = 0 := by
        obtain ⟨rem0, p, l⟩ := M2.li
        have := l.1
        rw [List.Perm.length_eq p] at this
        simpa using this.symm
      have hitv : ar2.eval (.tmp it) = .pointer (some ⟨w1.heap.size, 0, none⟩) := by
        have := hr2.getD it
        rw [hp2] at this
        obtain ⟨l, hl', e'⟩ := VR.ptr_inv this
        rw [M2.hx] at hl'; injection hl' with hl'; subst hl'
        exact e'
      refine wp_seq (wp_region_list ?_)
      rw [e1]
      rcases run_next_at (P := P) w2 onext.type w1.heap.size i.blk cl c0 seen en cl M2.wi M2.wm hborn M2.cc with ⟨_, hrun⟩ | ⟨ex, hex, _⟩
      · refine wpList_run n3 (v := .tuple #[.bool false]) (w' := w2) (by simp only [execOp, n1, hitv, Sem.run_bind, hrun]; rfl) ?_
        have hrn : AR σ2 (tput a2 (some n) (.tuple #[.bool false])) (ar2.put (some n) (.tuple #[.bool false])).tmps := hr2.put _ (VR.tup' (LR.toArray (LR.cons (.bool false) LR.nil)))
        rw [n2]
        have hnv : (ar2.put (some n) (.tuple #[.bool false])).eval (.tmp n) = .tuple #[.bool false] := by
          show (ar2.put (some n) _).tmps.getD n undef = _
          rw [put_getD, if_pos ⟨rfl, by rw [← hr2.1, hs2]; exact hnt⟩]
        refine wpList_run x3 (v := .bool false) (w' := w2) (by simp [execOp, x1, hnv, Instr.extract]) ?_
        have hrc : AR σ2 (tput (tput a2 (some n) (.tuple #[.bool false])) (some c) (.bool false)) ((ar2.put (some n) (.tuple #[.bool false])).put (some c) (.bool false)).tmps := hrn.put _ (.bool false)
        rw [x2]
        show Code.wp P _ _ _ _
        have hcv : ((ar2.put (some n) (.tuple #[.bool false])).put (some c) (.bool false)).eval (.tmp c) = .bool false := by
          show ((ar2.put (some n) _).put (some c) _).tmps.getD c undef = _
          rw [put_getD, if_pos ⟨rfl, by rw [put_size, ← hr2.1, hs2]; exact hct⟩]
        refine wp_seq (wp_cond_false hcv (wp_exit ?_))
        exact ⟨.exit id, _, h2, rfl, by rw [Zq.put_defers, Zq.put_defers]; exact hd2, by simp only [inBlk, if_true]; exact hend a2 h2 hI2, σ2, hrc, M2.rel, M2.k1, M2.fr⟩
      · exfalso
        have : (leftOf en seen).toList = [] := by rw [Array.eq_empty_of_size_eq_zero hnil]
        rw [this] at hex; cases hex
    | succ len ih =>
      intro rem seen c0 σ2 h2 w2 ar2 a2 hl M2 hr2 hd2 hp2 hs2 hI2
      have hitv : ar2.eval (.tmp it) = .pointer (some ⟨w1.heap.size, 0, none⟩) := by
        have := hr2.getD it
        rw [hp2] at this
        obtain ⟨l, hl', e'⟩ := VR.ptr_inv this
        rw [M2.hx] at hl'; injection hl' with hl'; subst hl'
        exact e'
      refine wp_seq (wp_region_list ?_)
      rw [e1]
      rcases run_next_at (P := P) w2 onext.type w1.heap.size i.blk cl c0 seen en cl M2.wi M2.wm hborn M2.cc with ⟨h0', _⟩ | ⟨ex, hex, w3, hw3, hrun⟩
      · exfalso
        obtain ⟨rem0, p, l⟩ := M2.li
        have := l.1
        rw [List.Perm.length_eq p, hl] at this
        simp [h0'] at this
      · obtain ⟨k, v, rem', hperm, vk, vv, M3⟩ := M2.next hnod hw3 hex
        refine wpList_run n3 (v := .tuple #[.bool true, ex.key, ex.val]) (w' := setBlock w3 w1.heap.size (.mapIter (some i.blk) cl (seen.push ex.born) cl)) (by simp only [execOp, n1, hitv, Sem.run_bind, hrun]; rfl) ?_
        have hrn : AR σ2 (tput a2 (some n) (.tuple #[.bool true, k, v])) (ar2.put (some n) (.tuple #[.bool true, ex.key, ex.val])).tmps :=
          hr2.put _ (VR.tup' (LR.toArray (LR.cons (.bool true) (LR.cons vk (LR.cons vv LR.nil)))))
        rw [n2]
        have hnv : (ar2.put (some n) (.tuple #[.bool true, ex.key, ex.val])).eval (.tmp n) = .tuple #[.bool true, ex.key, ex.val] := by
          show (ar2.put (some n) _).tmps.getD n undef = _
          rw [put_getD, if_pos ⟨rfl, by rw [← hr2.1, hs2]; exact hnt⟩]
        refine wpList_run x3 (v := .bool true) (w' := setBlock w3 w1.heap.size (.mapIter (some i.blk) cl (seen.push ex.born) cl)) (by simp [execOp, x1, hnv, Instr.extract]) ?_
        have hrc : AR σ2 (tput (tput a2 (some n) (.tuple #[.bool true, k, v])) (some c) (.bool true)) ((ar2.put (some n) (.tuple #[.bool true, ex.key, ex.val])).put (some c) (.bool true)).tmps := hrn.put _ (.bool true)
        rw [x2]
        show Code.wp P _ _ _ _
        have hcv : ((ar2.put (some n) (.tuple #[.bool true, ex.key, ex.val])).put (some c) (.bool true)).eval (.tmp c) = .bool true := by
          show ((ar2.put (some n) _).put (some c) _).tmps.getD c undef = _
          rw [put_getD, if_pos ⟨rfl, by rw [put_size, ← hr2.1, hs2]; exact hct⟩]
        refine wp_seq (wp_cond_true hcv (wp_skip ?_))
        show Code.wp P _ _ _ _
        refine wp_block (wp_seq (wp_region_list ?_))
        rw [e2]
        have hitv3 : ((ar2.put (some n) (.tuple #[.bool true, ex.key, ex.val])).put (some c) (.bool true)).eval (.tmp it) = .pointer (some ⟨w1.heap.size, 0, none⟩) := by
          rw [← hitv]
          show ((ar2.put (some n) _).put (some c) _).tmps.getD it undef = ar2.tmps.getD it undef
          rw [put_getD, if_neg (by simp [Ne.symm d2]), put_getD, if_neg (by simp [Ne.symm d1])]
        have hent := run_entry_at (P := P) (setBlock w3 w1.heap.size (.mapIter (some i.blk) cl (seen.push ex.born) cl)) w1.heap.size i.blk cl seen en cl ex M3.wi M3.wm (mem_left hex).1 hnod
        refine wpList_run t3 (v := .tuple #[ex.key, ex.val]) (w' := setBlock w3 w1.heap.size (.mapIter (some i.blk) cl (seen.push ex.born) cl)) (by simp only [execOp, t1, hitv3, Sem.run_bind, hent]; rfl) ?_
        rw [t2]
        have hre := hrc.put (some e) (VR.tup' (LR.toArray (LR.cons vk (LR.cons vv LR.nil))))
        refine wpList_mono ?_ _ _ _ (hround rem a2 h2 k v rem' hI2 hperm N σ2 _ _ hre (by rw [Zq.put_defers, Zq.put_defers, Zq.put_defers]; exact hd2) M3.rel M3.fr)
        rintro ex3 ar3 w4 ⟨ee, a3, h3, rfl, hd3, ⟨rfl, hWB⟩, σ3, hr3, R3, K3, f3⟩
        have M4 := M3.step R3 K3
        refine Code.wp_mono ?_ (hWB N σ3 w4 ar3 hr3 hd3 R3 f3)
        rintro ex5 ar5 w5 ⟨e5, a5, h5, rfl, hd5, hq5, σ5, hr5, R5, K5, f5⟩
        have M5 := M4.step R5 K5
        have fin : ∀ e6, inBlk id2 e5 = e6 → e6 ≠ .normal → Out P N σ1 h1 w1 (fun e a h => Q (inBlk id e) a h) e6.up ar5 w5 := fun e6 he6 hne => by
          refine ⟨e6, a5, h5, rfl, hd5, ?_, σ5, hr5, M5.rel, M5.k1, M5.fr⟩
          unfold roundEnd at hq5
          rw [he6] at hq5
          cases e6 with
          | normal => exact absurd rfl hne
          | exit id' => exact hq5
          | ret => exact hq5
        have back : inBlk id2 e5 = .normal → Code.rounds P (.seq (.region id27 ops27 false) (.seq (.cond (.tmp c) .skip (.exit id)) (.block id2 (.seq (.region id28 ops28 false) B)))) (Out P N σ1 h1 w1 (fun e a h => Q (inBlk id e) a h)) (len + 1) ar5 w5 := fun he6 => by
          unfold roundEnd at hq5
          rw [he6] at hq5
          obtain ⟨q1, q2, q3⟩ := hq5
          refine ih rem' (seen.push ex.born) cl σ5 h5 w5 ar5 a5 ?_ M5 hr5 hd5 (by rw [q2]; exact hp2) (by rw [q3]; exact hs2) q1
          have := hperm.length_eq
          simp at this; omega
        cases e5 with
        | normal => exact back rfl
        | ret => exact fin .ret rfl (by simp)
        | exit id' =>
          by_cases hid : id' = id2
          · have hn : inBlk id2 (.exit id') = .normal := by simp [inBlk, hid]
            simp only [Ext.up, Exit.inBlock, if_pos hid]
            exact back hn
          · have hn : inBlk id2 (.exit id') = .exit id' := by simp [inBlk, hid]
            simp only [Ext.up, Exit.inBlock, if_neg hid]
            exact fin (.exit id') hn (by simp)
  show Code.wp P _ _ _ _
  refine wp_block (Code.wp_mono ?_ (wp_loop_rounds (es.length + 1) (key es.length es #[] cl _ _ _ (ar1.put orng.dst _) (tput a1 (some it) (.pointer (some ⟨(h1.del b).next, 0, none⟩))) rfl M ?_ ?_ ?_ ?_ (hI _))))
  · rintro ex ar2 w2 ⟨ee, a2, h2, rfl, q2, q3, σ2, q4, q5, q6, q7⟩
    have K0 := K1.trans q6
    cases ee with
    | normal => exact ⟨.normal, a2, h2, rfl, q2, q3, σ2, q4, q5, K0, q7⟩
    | ret => exact ⟨.ret, a2, h2, rfl, q2, q3, σ2, q4, q5, K0, q7⟩
    | exit id' =>
      simp only [Ext.up, Exit.inBlock]
      simp only [inBlk] at q3
      by_cases hid : id' = id
      · rw [if_pos hid] at q3 ⊢
        exact ⟨.normal, a2, h2, rfl, q2, q3, σ2, q4, q5, K0, q7⟩
      · rw [if_neg hid] at q3 ⊢
        exact ⟨.exit id', a2, h2, rfl, q2, q3, σ2, q4, q5, K0, q7⟩
  · rw [r2]
    have hp := VR.ptr (o := 0) (upd_same (σ := σ1) (h1.del b).next ⟨w1.heap.size, 0, 0, 0⟩)
    exact (hr1.mono (upd_mono hfx)).put _ hp
  · rw [Zq.put_defers]; exact hd1
  · rw [tput_getD, if_pos ⟨rfl, hit⟩]
  · rw [tput_size]
end
end Go.Proofs.Zq
