/- Equality once more, so that the kernel runs it. -/
import Derived.Test.YtmjddnmhlfpgmaaGreatDoorZqEvP
namespace Go.Proofs.Zq
variable {P : Program}

def ffields (P : Program) (rec : TypeId → Value → Value → Option Bool) : List Field → Array Value → Array Value → Option Bool
  | [], _, _ => some true
  | f :: fs, xs, ys =>
    if f.name = "_" then ffields P rec fs xs ys else
    match ppart P f.type xs f.offset, ppart P f.type ys f.offset with
    | some a, some b => (match rec f.type a b with
      | some true => ffields P rec fs xs ys
      | some false => some false
      | none => none)
    | _, _ => none
def felems (P : Program) (rec : TypeId → Value → Value → Option Bool) (e s : Nat) (xs ys : Array Value) : List Nat → Option Bool
  | [] => some true
  | i :: is =>
    match ppart P e xs (i * s), ppart P e ys (i * s) with
    | some a, some b => (match rec e a b with
      | some true => felems P rec e s xs ys is
      | some false => some false
      | none => none)
    | _, _ => none
def fpeq (P : Program) : Nat → TypeId → Value → Value → Option Bool
  | 0 => fun _ _ _ => none
  | d + 1 => fun t x y =>
    match P.underlying t, x, y with
    | some .bool, .bool a, .bool b => some (a == b)
    | some (.int _), .int k a, .int k' b => if k = k' then some (a == b) else none
    | some .string, .string a, .string b => some (a == b)
    | some (.pointer _), .pointer none, .pointer b => some b.isNone
    | some (.pointer _), .pointer _, .pointer none => some false
    | some (.interface _), .nilIface, .nilIface => some true
    | some (.interface _), .nilIface, .iface _ _ => some false
    | some (.interface _), .iface _ _, .nilIface => some false
    | some (.struct fs), .agg xs, .agg ys => if P.stoodInHeld t then none else ffields P (fpeq P d) fs.toList xs ys
    | some (.array n e), .agg xs, .agg ys => (match psz P e with | some s => felems P (fpeq P d) e s xs ys (List.range n) | none => none)
    | some (.slice _), .slice none _ _, .slice b _ _ => some b.isNone
    | some (.slice _), .slice _ _ _, .slice none _ _ => some false
    | some (.map _ _), .map none, .map b => some b.isNone
    | some (.map _ _), .map _, .map none => some false
    | some (.func _ _ _), .nilFunc, .nilFunc => some true
    | some (.func _ _ _), .nilFunc, .func _ _ _ => some false
    | some (.func _ _ _), .func _ _ _, .nilFunc => some false
    | _, _, _ => none
theorem ffields_eq {d : Nat} (h : ∀ t x y, fpeq P d t x y = peq P d t x y) : ∀ (fs : List Field) (xs ys : Array Value), ffields P (fpeq P d) fs xs ys = peq.fields P d fs xs ys
  | [], _, _ => by rw [ffields, peq.fields]
  | f :: fs, xs, ys => by
    rw [ffields, peq.fields]
    simp only [ffields_eq h fs, h]
    rfl
theorem felems_eq {d : Nat} (h : ∀ t x y, fpeq P d t x y = peq P d t x y) (e s : Nat) (xs ys : Array Value) : ∀ (l : List Nat), felems P (fpeq P d) e s xs ys l = peq.elems P d e s xs ys l
  | [] => by rw [felems, peq.elems]
  | i :: l => by
    rw [felems, peq.elems]
    simp only [felems_eq h e s xs ys l, h]
    rfl
theorem fpeq_eq : ∀ (d : Nat) (t : TypeId) (x y : Value), fpeq P d t x y = peq P d t x y
  | 0, t, x, y => by rw [peq.eq_def]; rfl
  | d + 1, t, x, y => by
    unfold fpeq
    rw [peq.eq_def]
    simp only [ffields_eq (fpeq_eq d), felems_eq (fpeq_eq d)]
    rfl
end Go.Proofs.Zq
