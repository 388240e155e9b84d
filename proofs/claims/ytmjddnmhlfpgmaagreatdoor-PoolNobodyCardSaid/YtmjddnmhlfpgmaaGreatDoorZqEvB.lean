/- The evaluator's heap, and how it stands to the model's world. -/
import Derived.Test.YtmjddnmhlfpgmaaGreatDoorZqEvA
namespace Go.Proofs.Zq

def flat : Value → Bool
  | .bool _ | .int _ _ | .float _ _ | .string _ | .pointer none | .slice none _ _ | .map none | .nilFunc | .nilIface => true
  | .func _ xs ys => xs.size == 0 && ys.size == 0
  | _ => false
/-- A value without an address in it. -/
def clean : Value → Bool
  | .agg cs => cs.all flat
  | .tuple cs => cs.all flat
  | v => flat v

theorem VR.flat {σ : Sg} {v : Value} (h : flat v = true) : VR σ v v := by
  cases v with
  | bool b => exact .bool b
  | int k n => exact .int k n
  | float k n => exact .float k n
  | string s => exact .str s
  | pointer a => cases a <;> first | exact .nilp | simp [Zq.flat] at h
  | slice a n c => cases a <;> first | exact .nils n c | simp [Zq.flat] at h
  | map r => cases r <;> first | exact .nilm | simp [Zq.flat] at h
  | func f xs ys =>
    simp [Zq.flat] at h
    obtain ⟨rfl, rfl⟩ := h
    exact .fn f rfl (fun i h => by simp at h) rfl (fun i h => by simp at h)
  | nilFunc => exact .nilf
  | nilIface => exact .nili
  | _ => simp [Zq.flat] at h
theorem VR.clean {σ : Sg} {v : Value} (h : clean v = true) : VR σ v v := by
  cases v with
  | agg cs =>
    refine .agg rfl fun i h1 h2 => VR.flat ?_
    have := (Array.all_eq_true.1 h) i h1
    simpa using this
  | tuple cs =>
    refine .tup rfl fun i h1 h2 => VR.flat ?_
    have := (Array.all_eq_true.1 h) i h1
    simpa using this
  | _ => exact VR.flat h

/-- A tree of places. -/
inductive Tri (α : Type) where
  | nil
  | node (v : Option α) (l r : Tri α)
namespace Tri
variable {α : Type}
def get : Tri α → Nat → Option α
  | .nil, _ => none
  | .node v l r, k => match k with
    | 0 => v
    | k + 1 => if k % 2 = 0 then l.get (k / 2) else r.get (k / 2)
def put (x : Option α) : Nat → Tri α → Nat → Tri α
  | 0, t, _ => t
  | n + 1, t, k => match k with
    | 0 => (match t with | .nil => .node x .nil .nil | .node _ l r => .node x l r)
    | k + 1 => (match t with
      | .nil => if k % 2 = 0 then .node none (put x n .nil (k / 2)) .nil else .node none .nil (put x n .nil (k / 2))
      | .node v l r => if k % 2 = 0 then .node v (put x n l (k / 2)) r else .node v l (put x n r (k / 2)))
theorem get_put_same (x : Option α) : ∀ (n : Nat) (t : Tri α) (k : Nat), k < n → (put x n t k).get k = x
  | 0, _, _, h => by omega
  | n + 1, t, 0, _ => by cases t <;> simp [put, get]
  | n + 1, t, k + 1, h => by
    have ih := fun u => get_put_same x n u (k / 2) (by omega)
    cases t <;> by_cases hk : k % 2 = 0 <;> simp [put, get, hk, ih]
theorem get_put_ne (x : Option α) : ∀ (n : Nat) (t : Tri α) (k j : Nat), j ≠ k → (put x n t k).get j = t.get j
  | 0, t, _, _, _ => rfl
  | n + 1, t, 0, j, h => by
    cases j with
    | zero => exact absurd rfl h
    | succ j => cases t <;> simp [put, get]
  | n + 1, t, k + 1, j, h => by
    have ih := fun u i hi => get_put_ne x n u (k / 2) i hi
    cases j with
    | zero => cases t <;> by_cases hk : k % 2 = 0 <;> simp [put, get, hk]
    | succ j =>
      cases t <;> by_cases hk : k % 2 = 0 <;> by_cases hj : j % 2 = 0 <;> simp [put, get, hk, hj]
      all_goals
        have hne : j / 2 ≠ k / 2 := by omega
        rw [ih _ _ hne]
        try rfl
end Tri

inductive Blk where
  | cells (cs : List Value) (elem : TypeId) (own opn : Bool)
  | map (es : List (Value × Value))
  | siter (s : ByteArray) (pos : Nat)

def Blk.own : Blk → Bool
  | .cells _ _ own _ => own
  | _ => true

structure H where
  m : Tri Blk
  next : Nat

namespace H
def get (h : H) (b : Nat) : Option Blk := h.m.get b
def set (h : H) (b : Nat) (x : Blk) : H := { h with m := h.m.put (some x) (b + 1) b }
def del (h : H) (b : Nat) : H := { h with m := h.m.put none (b + 1) b }
/-- A new block, its number 'next'. -/
def add (h : H) (x : Blk) : H := { m := h.m.put (some x) (h.next + 1) h.next, next := h.next + 1 }
variable (h : H) (b c : Nat) (x y : Blk)
@[simp] theorem get_set_same : (h.set b x).get b = some x := Tri.get_put_same _ _ _ _ (by omega)
theorem get_set_ne (hne : c ≠ b) : (h.set b x).get c = h.get c := Tri.get_put_ne _ _ _ _ _ hne
@[simp] theorem get_del_same : (h.del b).get b = none := Tri.get_put_same _ _ _ _ (by omega)
theorem get_del_ne (hne : c ≠ b) : (h.del b).get c = h.get c := Tri.get_put_ne _ _ _ _ _ hne
@[simp] theorem get_add_same : (h.add x).get h.next = some x := Tri.get_put_same _ _ _ _ (by omega)
theorem get_add_ne (hne : c ≠ h.next) : (h.add x).get c = h.get c := Tri.get_put_ne _ _ _ _ _ hne
@[simp] theorem next_set : (h.set b x).next = h.next := rfl
@[simp] theorem next_del : (h.del b).next = h.next := rfl
@[simp] theorem next_add : (h.add x).next = h.next + 1 := rfl
end H

/-- What a block of the model's holds, for a block of the evaluator's. -/
def BR (P : Program) (N : Nat) (σ : Sg) (i : BI) (w : World) : Blk → Prop
  | .cells cs elem own opn => ∃ rc re fr, w.heap[i.blk]? = some (.cells rc re fr) ∧ i.off + i.room ≤ rc.size ∧ cs.length ≤ i.room ∧
      LR σ cs ((rc.toList.drop i.off).take cs.length) ∧ (own = true → N ≤ i.blk ∧ (fr.2 ≤ fr.1 ∨ rc.size ≤ fr.1)) ∧ (i.esz ≠ 0 → opn = true ∧ P.cellsOf elem = i.esz) ∧ (own = false → i.blk < N)
  | .map es => ∃ en cl es', w.heap[i.blk]? = some (.map en cl) ∧ N ≤ i.blk ∧ List.Perm es' es ∧ en.size = es'.length ∧ (∀ k (h : k < es'.length) (h' : k < en.size), VR σ (es'[k]).1 (en[k]).key ∧ VR σ (es'[k]).2 (en[k]).val) ∧
      (∀ k (h : k < en.size), (en[k]).born = k) ∧ cl = en.size ∧ es.Pairwise (fun x y => x.1 ≠ y.1)
  | .siter s pos => w.heap[i.blk]? = some (.stringIter s pos) ∧ N ≤ i.blk ∧ i.off = 0

/-- The evaluator's heap and the model's world. N: how many blocks lay there when the whole began; the evaluator's own blocks lie beyond. G: so many package-level variables stand under their own numbers. -/
structure Rel (P : Program) (N G : Nat) (σ : Sg) (h : H) (w : World) : Prop where
  low : N ≤ w.heap.size
  glob : ∀ g, g < G → ∃ i, σ g = some i ∧ i.blk = g ∧ i.off = 0
  live : ∀ b x, h.get b = some x → ∃ i, σ b = some i ∧ BR P N σ i w x
  inj : ∀ b c x y i j, h.get b = some x → h.get c = some y → x.own = true → y.own = true → σ b = some i → σ c = some j → i.blk = j.blk → b = c
  low' : ∀ b x, h.get b = some x → b < h.next

/-- No number from a to b is taken. -/
def Fresh (σ : Sg) (a b : Nat) : Prop := ∀ k, a ≤ k → k < b → σ k = none

/-- What one step of the evaluator's leaves as it was. -/
structure Kept (σ : Sg) (h : H) (w : World) (σ' : Sg) (h' : H) (w' : World) : Prop where
  nx : h.next ≤ h'.next
  sg : ∀ b, ¬ (h.next ≤ b ∧ b < h'.next) → σ' b = σ b
  size : w.heap.size ≤ w'.heap.size
  frame : ∀ r, r < w.heap.size → (∀ b x i, h.get b = some x → x.own = true → σ b = some i → i.blk ≠ r) → w'.heap[r]? = w.heap[r]?
  from_ : ∀ b x i, h'.get b = some x → x.own = true → σ' b = some i → (∃ c y j, h.get c = some y ∧ y.own = true ∧ σ c = some j ∧ j.blk = i.blk) ∨ w.heap.size ≤ i.blk
  os : w'.os = w.os
  output : w'.output = w.output

theorem Kept.refl (σ : Sg) (h : H) (w : World) : Kept σ h w σ h w where
  nx := Nat.le_refl _
  sg _ _ := rfl
  size := Nat.le_refl _
  frame _ _ _ := rfl
  from_ b x i hb hx hi := .inl ⟨b, x, i, hb, hx, hi, rfl⟩
  os := rfl
  output := rfl

theorem Kept.trans {σ σ1 σ2 : Sg} {h h1 h2 : H} {w w1 w2 : World} (k : Kept σ h w σ1 h1 w1) (k' : Kept σ1 h1 w1 σ2 h2 w2) : Kept σ h w σ2 h2 w2 where
  nx := Nat.le_trans k.nx k'.nx
  sg b hb := by
    have := k.nx; have := k'.nx
    rw [k'.sg b (by omega), k.sg b (by omega)]
  size := Nat.le_trans k.size k'.size
  frame r hr hn := by
    rw [k'.frame r (Nat.lt_of_lt_of_le hr k.size) (fun b x i hb hx hi => ?_), k.frame r hr hn]
    intro he
    rcases k.from_ b x i hb hx hi with ⟨c, y, j, hc, hy, hj, e⟩ | e
    · exact hn c y j hc hy hj (e.trans he)
    · omega
  from_ b x i hb hx hi := by
    rcases k'.from_ b x i hb hx hi with ⟨c, y, j, hc, hy, hj, e⟩ | e
    · rcases k.from_ c y j hc hy hj with ⟨d, z, l, hd, hz, hl, e'⟩ | e'
      · exact .inl ⟨d, z, l, hd, hz, hl, e'.trans e⟩
      · exact .inr (by rw [← e]; exact e')
    · exact .inr (Nat.le_trans k.size e)
  os := k'.os.trans k.os
  output := k'.output.trans k.output

theorem Kept.mono {σ σ' : Sg} {h h' : H} {w w' : World} (k : Kept σ h w σ' h' w') (hf : Fresh σ h.next h'.next) : ∀ b i, σ b = some i → σ' b = some i := fun b i hi => by
  by_cases hb : h.next ≤ b ∧ b < h'.next
  · rw [hf b hb.1 hb.2] at hi; cases hi
  · rw [k.sg b hb]; exact hi

theorem Fresh.left {σ : Sg} {a b c : Nat} (h : Fresh σ a c) (hb : b ≤ c) : Fresh σ a b := fun k h1 h2 => h k h1 (by omega)
theorem Kept.fresh {σ σ' : Sg} {h h' : H} {w w' : World} {c : Nat} (k : Kept σ h w σ' h' w') (hf : Fresh σ h.next c) : Fresh σ' h'.next c := fun b h1 h2 => by
  have := k.nx
  rw [k.sg b (by omega)]; exact hf b (by omega) h2

end Go.Proofs.Zq
