/- The abstract heap of an evaluator over any program: values whose block numbers are its own, a relation to the model's values and worlds, and what a step keeps. No program of a seat in sight. -/
import Derived.Calls
import Derived.Laws.World
import Derived.Laws.Cells
import Derived.Laws.CopyRow
namespace Go.Proofs.Zq

/-- What is known of one of the evaluator's blocks: the model's block, from which cell on, how many cells it may use there, and how many cells an element takes if its spare room is open (0: it is not). -/
structure BI where
  blk : Nat
  off : Nat
  room : Nat
  esz : Nat

abbrev Sg := Nat → Option BI

/-- One of the evaluator's values and one of the model's. -/
inductive VR (σ : Sg) : Value → Value → Prop
  | bool (b : Bool) : VR σ (.bool b) (.bool b)
  | int (k : IntKind) (n : Int) : VR σ (.int k n) (.int k n)
  | float (k : FloatKind) (n : Nat) : VR σ (.float k n) (.float k n)
  | str (s : ByteArray) : VR σ (.string s) (.string s)
  | nilp : VR σ (.pointer none) (.pointer none)
  | ptr {b o : Nat} {i : BI} (h : σ b = some i) : VR σ (.pointer (some ⟨b, o, none⟩)) (.pointer (some ⟨i.blk, i.off + o, none⟩))
  | nils (n c : Nat) : VR σ (.slice none n c) (.slice none n c)
  | slc {b o n c c' : Nat} {i : BI} (h : σ b = some i) (hc : c' = c ∨ (i.esz ≠ 0 ∧ c ≤ c' ∧ o + c' * i.esz ≤ i.room)) :
      VR σ (.slice (some ⟨b, o, none⟩) n c) (.slice (some ⟨i.blk, i.off + o, none⟩) n c')
  | slc0 {b o o' c' : Nat} {i : BI} (h : σ b = some i) (he : i.esz ≠ 0) (hc : o' + c' * i.esz ≤ i.room) :
      VR σ (.slice (some ⟨b, o, none⟩) 0 0) (.slice (some ⟨i.blk, i.off + o', none⟩) 0 c')
  | nilm : VR σ (.map none) (.map none)
  | mp {b : Nat} {i : BI} (h : σ b = some i) : VR σ (.map (some b)) (.map (some i.blk))
  | fn (f : Fn) {xs xs' ys ys' : Array Value} (hx : xs.size = xs'.size) (hxs : ∀ i (h : i < xs.size) (h' : i < xs'.size), VR σ xs[i] xs'[i])
      (hy : ys.size = ys'.size) (hys : ∀ i (h : i < ys.size) (h' : i < ys'.size), VR σ ys[i] ys'[i]) : VR σ (.func f xs ys) (.func f xs' ys')
  | nilf : VR σ .nilFunc .nilFunc
  | nili : VR σ .nilIface .nilIface
  | ifc (t : TypeId) {v v' : Value} (h : VR σ v v') : VR σ (.iface t v) (.iface t v')
  | agg {xs xs' : Array Value} (hx : xs.size = xs'.size) (h : ∀ i (h : i < xs.size) (h' : i < xs'.size), VR σ xs[i] xs'[i]) : VR σ (.agg xs) (.agg xs')
  | tup {xs xs' : Array Value} (hx : xs.size = xs'.size) (h : ∀ i (h : i < xs.size) (h' : i < xs'.size), VR σ xs[i] xs'[i]) : VR σ (.tuple xs) (.tuple xs')

theorem VR.mono {σ σ' : Sg} (hs : ∀ b i, σ b = some i → σ' b = some i) {v v' : Value} (h : VR σ v v') : VR σ' v v' := by
  induction h with
  | bool b => exact .bool b
  | int k n => exact .int k n
  | float k n => exact .float k n
  | str s => exact .str s
  | nilp => exact .nilp
  | ptr h => exact .ptr (hs _ _ h)
  | nils n c => exact .nils n c
  | slc h hc => exact .slc (hs _ _ h) hc
  | slc0 h he hc => exact .slc0 (hs _ _ h) he hc
  | nilm => exact .nilm
  | mp h => exact .mp (hs _ _ h)
  | fn f hx _ hy _ ih1 ih2 => exact .fn f hx ih1 hy ih2
  | nilf => exact .nilf
  | nili => exact .nili
  | ifc t _ ih => exact .ifc t ih
  | agg hx _ ih => exact .agg hx ih
  | tup hx _ ih => exact .tup hx ih

/-- Arrays of values, place by place. -/
def AR (σ : Sg) (xs xs' : Array Value) : Prop := xs.size = xs'.size ∧ ∀ i (h : i < xs.size) (h' : i < xs'.size), VR σ xs[i] xs'[i]
/-- Lists of values. -/
def LR (σ : Sg) (xs xs' : List Value) : Prop := xs.length = xs'.length ∧ ∀ i (h : i < xs.length) (h' : i < xs'.length), VR σ xs[i] xs'[i]

theorem AR.toList {σ : Sg} {xs xs' : Array Value} (h : AR σ xs xs') : LR σ xs.toList xs'.toList :=
  ⟨by simpa using h.1, fun i h1 h2 => by simpa using h.2 i (by simpa using h1) (by simpa using h2)⟩
theorem LR.toArray {σ : Sg} {xs xs' : List Value} (h : LR σ xs xs') : AR σ xs.toArray xs'.toArray :=
  ⟨by simpa using h.1, fun i h1 h2 => by simpa using h.2 i (by simpa using h1) (by simpa using h2)⟩
theorem LR.nil {σ : Sg} : LR σ [] [] := ⟨rfl, fun i h => by simp at h⟩
theorem LR.cons {σ : Sg} {x x' : Value} {xs xs' : List Value} (h : VR σ x x') (hs : LR σ xs xs') : LR σ (x :: xs) (x' :: xs') :=
  ⟨by simp [hs.1], fun i h1 h2 => by
    cases i with
    | zero => exact h
    | succ i => exact hs.2 i (by simpa using h1) (by simpa using h2)⟩
theorem LR.uncons {σ : Sg} {x x' : Value} {xs xs' : List Value} (h : LR σ (x :: xs) (x' :: xs')) : VR σ x x' ∧ LR σ xs xs' :=
  ⟨h.2 0 (by simp) (by simp), by have := h.1; simpa using this, fun i h1 h2 => h.2 (i + 1) (by simpa using h1) (by simpa using h2)⟩
theorem LR.append {σ : Sg} {xs xs' ys ys' : List Value} (h : LR σ xs xs') (hy : LR σ ys ys') : LR σ (xs ++ ys) (xs' ++ ys') := by
  refine ⟨by simp [h.1, hy.1], fun i h1 h2 => ?_⟩
  have e := h.1
  by_cases hi : i < xs.length
  · rw [List.getElem_append_left hi, List.getElem_append_left (by omega)]; exact h.2 i hi (by omega)
  · rw [List.getElem_append_right (by omega), List.getElem_append_right (by omega)]
    have := hy.2 (i - xs.length) (by simp at h1; omega) (by simp at h2; omega)
    simpa [e] using this
theorem LR.take {σ : Sg} {xs xs' : List Value} (h : LR σ xs xs') (n : Nat) : LR σ (xs.take n) (xs'.take n) :=
  ⟨by simp [h.1], fun i h1 h2 => by
    simp only [List.getElem_take]; exact h.2 i (by simp at h1; omega) (by simp at h2; omega)⟩
theorem LR.drop {σ : Sg} {xs xs' : List Value} (h : LR σ xs xs') (n : Nat) : LR σ (xs.drop n) (xs'.drop n) :=
  ⟨by simp [h.1], fun i h1 h2 => by
    simp only [List.getElem_drop]; exact h.2 _ (by simp at h1; omega) (by simp at h2; omega)⟩
theorem LR.mono {σ σ' : Sg} (hs : ∀ b i, σ b = some i → σ' b = some i) {xs xs' : List Value} (h : LR σ xs xs') : LR σ' xs xs' :=
  ⟨h.1, fun i h1 h2 => (h.2 i h1 h2).mono hs⟩
theorem AR.mono {σ σ' : Sg} (hs : ∀ b i, σ b = some i → σ' b = some i) {xs xs' : Array Value} (h : AR σ xs xs') : AR σ' xs xs' :=
  ⟨h.1, fun i h1 h2 => (h.2 i h1 h2).mono hs⟩
theorem LR.get? {σ : Sg} {xs xs' : List Value} (h : LR σ xs xs') {i : Nat} {v : Value} (hv : xs[i]? = some v) : ∃ v', xs'[i]? = some v' ∧ VR σ v v' := by
  obtain ⟨h1, rfl⟩ := List.getElem?_eq_some_iff.1 hv
  have h2 : i < xs'.length := by have := h.1; omega
  exact ⟨_, List.getElem?_eq_getElem h2, h.2 i h1 h2⟩
theorem AR.get? {σ : Sg} {xs xs' : Array Value} (h : AR σ xs xs') {i : Nat} {v : Value} (hv : xs[i]? = some v) : ∃ v', xs'[i]? = some v' ∧ VR σ v v' := by
  obtain ⟨h1, rfl⟩ := Array.getElem?_eq_some_iff.1 hv
  have h2 : i < xs'.size := by have := h.1; omega
  exact ⟨_, Array.getElem?_eq_getElem h2, h.2 i h1 h2⟩

theorem VR.agg' {σ : Sg} {xs xs' : Array Value} (h : AR σ xs xs') : VR σ (.agg xs) (.agg xs') := .agg h.1 h.2
theorem VR.agg_inv {σ : Sg} {xs : Array Value} {v' : Value} (h : VR σ (.agg xs) v') : ∃ xs', v' = .agg xs' ∧ AR σ xs xs' := by
  cases h with | agg hx h => exact ⟨_, rfl, hx, h⟩
theorem VR.tup' {σ : Sg} {xs xs' : Array Value} (h : AR σ xs xs') : VR σ (.tuple xs) (.tuple xs') := .tup h.1 h.2
theorem VR.undef {σ : Sg} : VR σ undef undef := .tup rfl (fun i h => by simp at h)

/-- The cells of related values are related. -/
theorem VR.cells {σ : Sg} {v v' : Value} (h : VR σ v v') : AR σ v.cells v'.cells := by
  cases h <;> first
    | exact ⟨by assumption, by assumption⟩
    | (refine ⟨rfl, fun i h1 h2 => ?_⟩
       have : i = 0 := by simpa [Value.cells] using h1
       subst this
       simp only [Value.cells, List.getElem_toArray, List.getElem_cons_zero]
       first
         | exact .bool _ | exact .int _ _ | exact .float _ _ | exact .str _ | exact .nilp | exact .ptr (by assumption) | exact .nils _ _
         | exact .slc (by assumption) (by assumption) | exact .slc0 (by assumption) (by assumption) (by assumption) | exact .nilm | exact .mp (by assumption)
         | exact .fn _ (by assumption) (by assumption) (by assumption) (by assumption) | exact .nilf | exact .nili | exact .ifc _ (by assumption)
         | exact .tup (by assumption) (by assumption))
theorem VR.oneCell {σ : Sg} {v v' : Value} (h : VR σ v v') : v'.oneCell' = v.oneCell' := by cases h <;> rfl

end Go.Proofs.Zq
