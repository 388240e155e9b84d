/- A call of values without an address, run on an empty heap of the evaluator's, does the same wherever it is called. -/
import Derived.Test.YtmjddnmhlfpgmaaGreatDoorZqEvV
namespace Go.Proofs.Zq
variable {P : Program} {O : Orc}

theorem flat_same {σ : Sg} {v v' : Value} (h : VR σ v v') (hf : flat v = true) : v' = v := by
  cases h <;> first | rfl | (simp [flat] at hf; done) | skip
  case fn f xs xs' ys ys' hx _ hy _ =>
    simp [flat] at hf
    obtain ⟨rfl, rfl⟩ := hf
    have e1 : xs' = #[] := by apply Array.eq_empty_of_size_eq_zero; simpa using hx.symm
    have e2 : ys' = #[] := by apply Array.eq_empty_of_size_eq_zero; simpa using hy.symm
    subst e1; subst e2; rfl
theorem clean_same {σ : Sg} {v v' : Value} (h : VR σ v v') (hf : clean v = true) : v' = v := by
  cases h with
  | agg hx h =>
    simp only [clean, Array.all_eq_true] at hf
    congr 1
    exact (Array.ext hx fun i h1 h2 => (flat_same (h i h1 h2) (hf i h1)).symm).symm
  | tup hx h =>
    simp only [clean, Array.all_eq_true] at hf
    congr 1
    exact (Array.ext hx fun i h1 h2 => (flat_same (h i h1 h2) (hf i h1)).symm).symm
  | bool b => rfl
  | int k n => rfl
  | float k n => rfl
  | str s => rfl
  | nilp => rfl
  | ptr h => simp [clean, flat] at hf
  | nils n c => rfl
  | slc h hc => simp [clean, flat] at hf
  | slc0 h he hc => simp [clean, flat] at hf
  | nilm => rfl
  | mp h => simp [clean, flat] at hf
  | fn f hx h1 hy h2 => exact flat_same (.fn f hx h1 hy h2) hf
  | nilf => rfl
  | nili => rfl
  | ifc t h => simp [clean, flat] at hf
theorem clean_any {σ σ' : Sg} {v v' : Value} (h : VR σ v v') (hf : clean v = true) : VR σ' v v' := by
  rw [clean_same h hf]; exact VR.clean hf

/-- The package-level variables alone. -/
def glo (G : Nat) (σ : Sg) : Sg := fun b => if b < G then σ b else none

theorem WC.reloc {f : FuncId} {xs : Array Value} {C : Value → Prop} {K : Nat} (hx : xs.all clean = true) (hK : P.globals.size ≤ K) (hc : WC P f xs (fun v _ => C v) ⟨.nil, K⟩) (hcl : ∀ v, C v → clean v = true) (h : H) :
    WC P f xs (fun v h' => C v ∧ h' = h) h := fun N σ w xs' hr R fr => by
  have hget : ∀ b x, (⟨.nil, K⟩ : H).get b ≠ some x := fun b x e => by cases b <;> simp [H.get, Tri.get] at e
  have hxs : AR (glo P.globals.size σ) xs xs' := ⟨hr.1, fun i h1 h2 => clean_any (hr.2 i h1 h2) (by simpa using (Array.all_eq_true.1 hx) i h1)⟩
  have R0 : Rel P N P.globals.size (glo P.globals.size σ) ⟨.nil, K⟩ w := ⟨R.low, fun g hg => by
      obtain ⟨i, h1, h2⟩ := R.glob g hg
      exact ⟨i, by simp [glo, hg, h1], h2⟩,
    fun b x e => absurd e (hget b x), fun b c x y i j e => absurd e (hget b x), fun b x e => absurd e (hget b x)⟩
  refine (hc N _ w xs' hxs R0 (fun b hb => by
    have : K ≤ b := hb
    have : ¬ b < P.globals.size := by omega
    simp [glo, this])).mono ?_
  rintro e w' ⟨v, h1, v', rfl, hC, σ', hv, R1, K1, f1⟩
  have hfr : ∀ r, r < w.heap.size → w'.heap[r]? = w.heap[r]? := fun r hr => K1.frame r hr (fun b x i e => absurd e (hget b x))
  refine ⟨v, h, v', rfl, ⟨hC, rfl⟩, σ, clean_any hv (hcl v hC), R.ext (fun _ _ h => h) hfr K1.size, ⟨Nat.le_refl _, fun _ _ => rfl, K1.size, fun r hr _ => hfr r hr, fun b x i hb hx hi => .inl ⟨b, x, i, hb, hx, hi, rfl⟩, K1.os, K1.output⟩, fr⟩
end Go.Proofs.Zq
