/- The evaluator: what each operation comes to on the evaluator's own heap, and the code. -/
import Derived.Test.YtmjddnmhlfpgmaaGreatDoorZqEvB
import Derived.Laws.Tables
import Derived.Laws.Build
import Derived.Orders
namespace Go.Proofs.Zq

/-- A zero value that can stand in cells: no address in it, and each cell is one value. -/
def zok (z : Value) : Bool := clean z && z.cells.all (·.oneCell')

def psz (P : Program) (t : TypeId) : Option Nat := (P.info? t).map (·.size)
def pzero (P : Program) (t : TypeId) : Option Value := (P.info? t).bind (·.zero)
def pagg (P : Program) (t : TypeId) : Option Bool :=
  match P.underlying t with
  | some (.struct _) => some true
  | some (.array _ _) => some true
  | some _ => some false
  | none => none

/-- A part of a struct or of an array. -/
def ppart (P : Program) (t : TypeId) (cs : Array Value) (off : Nat) : Option Value :=
  match pagg P t with
  | some true => (match psz P t with
    | some n => if off + n ≤ cs.size then some (.agg (cs.extract off (off + n))) else none
    | none => none)
  | some false => cs[off]?
  | none => none

/-- '==' where no address is asked. -/
def peq (P : Program) : Nat → TypeId → Value → Value → Option Bool
  | 0, _, _, _ => none
  | d + 1, t, x, y =>
    match P.underlying t, x, y with
    | some .bool, .bool a, .bool b => some (a == b)
    | some (.int _), .int k a, .int k' b => if k = k' then some (a == b) else none
    | some .string, .string a, .string b => some (a == b)
    | some (.pointer _), .pointer none, .pointer b => some b.isNone
    | some (.pointer _), .pointer _, .pointer none => some false
    | some (.interface _), .nilIface, .nilIface => some true
    | some (.interface _), .nilIface, .iface _ _ => some false
    | some (.interface _), .iface _ _, .nilIface => some false
    | some (.struct fs), .agg xs, .agg ys => if P.stoodInHeld t then none else fields d fs.toList xs ys
    | some (.array n e), .agg xs, .agg ys => (match psz P e with | some s => elems d e s xs ys (List.range n) | none => none)
    | some (.slice _), .slice none _ _, .slice b _ _ => some b.isNone
    | some (.slice _), .slice _ _ _, .slice none _ _ => some false
    | some (.map _ _), .map none, .map b => some b.isNone
    | some (.map _ _), .map _, .map none => some false
    | some (.func _ _ _), .nilFunc, .nilFunc => some true
    | some (.func _ _ _), .nilFunc, .func _ _ _ => some false
    | some (.func _ _ _), .func _ _ _, .nilFunc => some false
    | _, _, _ => none
where
  fields (d : Nat) : List Field → Array Value → Array Value → Option Bool
    | [], _, _ => some true
    | f :: fs, xs, ys =>
      if f.name = "_" then fields d fs xs ys else
      match ppart P f.type xs f.offset, ppart P f.type ys f.offset with
      | some a, some b => (match peq P d f.type a b with
        | some true => fields d fs xs ys
        | some false => some false
        | none => none)
      | _, _ => none
  elems (d : Nat) (e s : Nat) (xs ys : Array Value) : List Nat → Option Bool
    | [] => some true
    | i :: is =>
      match ppart P e xs (i * s), ppart P e ys (i * s) with
      | some a, some b => (match peq P d e a b with
        | some true => elems d e s xs ys is
        | some false => some false
        | none => none)
      | _, _ => none

def pint (op : BinOp) (k : IntKind) (a b : Int) : Option Value :=
  match op with
  | .add => some (.int k (k.wrap (a + b)))
  | .sub => some (.int k (k.wrap (a - b)))
  | .mul => some (.int k (k.wrap (a * b)))
  | .quo => if b = 0 then none else some (.int k (k.wrap (a.tdiv b)))
  | .rem => if b = 0 then none else some (.int k (a.tmod b))
  | .and => some (.int k (k.wrap (BitVec.ofInt k.bits a &&& BitVec.ofInt k.bits b).toNat))
  | .or => some (.int k (k.wrap (BitVec.ofInt k.bits a ||| BitVec.ofInt k.bits b).toNat))
  | .xor => some (.int k (k.wrap (BitVec.ofInt k.bits a ^^^ BitVec.ofInt k.bits b).toNat))
  | .andNot => some (.int k (k.wrap (BitVec.ofInt k.bits a &&& ~~~BitVec.ofInt k.bits b).toNat))
  | .eql => some (.bool (a == b))
  | .neq => some (.bool (a != b))
  | .lss => some (.bool (a < b))
  | .leq => some (.bool (a ≤ b))
  | .gtr => some (.bool (a > b))
  | .geq => some (.bool (a ≥ b))
  | .shl => if b < 0 then none else some (.int k (k.wrap (a * 2 ^ min b.toNat k.bits)))
  | .shr => if b < 0 then none else some (.int k (a.fdiv (2 ^ min b.toNat k.bits)))

def pstr (op : BinOp) (a b : ByteArray) : Option Value :=
  match op with
  | .add => if a.size + b.size ≤ 9223372036854775807 then some (.string (a ++ b)) else none
  | .eql => some (.bool (a.toList == b.toList))
  | .neq => some (.bool !(a.toList == b.toList))
  | .lss => some (.bool (Op.bytesLess a.toList b.toList))
  | .leq => some (.bool (Op.bytesLess a.toList b.toList || a.toList == b.toList))
  | .gtr => some (.bool !(Op.bytesLess a.toList b.toList || a.toList == b.toList))
  | .geq => some (.bool !(Op.bytesLess a.toList b.toList))
  | _ => none

def isShift : BinOp → Bool
  | .shl | .shr => true
  | _ => false

def pbin (P : Program) (op : BinOp) (t : TypeId) (x y : Value) : Option Value :=
  match x, y with
  | .int k a, .int k' b => if isShift op || k = k' then pint op k a b else none
  | .string a, .string b => pstr op a b
  | .agg xs, .agg ys =>
    if P.eqGuardType P.depth t then none else
    (match op with
     | .eql => (peq P 10000 t (.agg xs) (.agg ys)).map .bool
     | .neq => (peq P 10000 t (.agg xs) (.agg ys)).map fun b => .bool !b
     | _ => none)
  | .nilIface, .nilIface => none
  | x, y =>
    (match op with
     | .eql => (peq P 10000 t x y).map .bool
     | .neq => (peq P 10000 t x y).map fun b => .bool !b
     | _ => none)

def pindexInt : Value → Option Int
  | .int _ n => some n
  | _ => none

/-- The bounds of 's[lo:hi]' (no third): each that is given is an int in its bounds. -/
def pbounds (len cap : Nat) (lo hi : Option Value) : Option (Nat × Nat) :=
  match (match hi with
    | none => some len
    | some (.int _ n) => if 0 ≤ n ∧ n ≤ (cap : Int) then some n.toNat else none
    | _ => none) with
  | none => none
  | some h => match lo with
    | none => some (0, h)
    | some (.int _ n) => if 0 ≤ n ∧ n ≤ (h : Int) then some (n.toNat, h) else none
    | _ => none

/-- Operations that ask nothing of the heap. -/
def pop (P : Program) (ρ : Operand → Value) (o : Oper) : Option Value :=
  match o.op with
  | .move x => some (ρ x)
  | .assign x => some (ρ x)
  | .pick c a b => (match ρ c with | .bool t => some (if t then ρ a else ρ b) | _ => none)
  | .build t ps => (match pzero P t with
    | some z => if clean z then (P.built t (ps.toList.map fun p => (p.1, ρ p.2))).map .agg else none
    | none => none)
  | .nilCheck x => (match ρ x with
    | .pointer (some a) => some (.pointer (some a))
    | .iface t v => some (.iface t v)
    | .func (.func f) xs ys => some (.func (.func f) xs ys)
    | _ => none)
  | .binOp op t x y _ => pbin P op t (ρ x) (ρ y)
  | .unOp op _ x => (match op, ρ x with
    | .not, .bool b => some (.bool !b)
    | .neg, .int k n => pint .sub k 0 n
    | .xor, .int k n => pint .xor k (if k.signed then -1 else k.max) n
    | _, _ => none)
  | .convert s d x => (match P.underlying s, P.underlying d, ρ x with
    | some _, some (.int k), .int _ n => some (.int k (k.wrap n))
    | some .string, some .string, .string b => some (.string b)
    | _, _, _ => none)
  | .makeInterface t x => if P.concrete t then some (.iface t (ρ x)) else none
  | .makeFunc fn first captured => some (.func fn (first.map ρ) (captured.map ρ))
  | .fieldAddr s x f => (match P.underlying s, ρ x with
    | some (.struct fs), .pointer (some ⟨b, off, none⟩) => (match fs[f]? with
      | some fd => (match psz P fd.type with
        | some (_ + 1) => some (.pointer (some ⟨b, off + fd.offset, none⟩))
        | _ => none)
      | none => none)
    | _, _ => none)
  | .field t x f => (match P.underlying t, ρ x with
    | some (.struct fs), .agg cs => (match fs[f]? with
      | some fd => ppart P fd.type cs fd.offset
      | none => none)
    | _, _ => none)
  | .index t x i => (match P.underlying t, ρ x, ρ i with
    | some (.array n e), .agg cs, .int _ j => (match psz P e with
      | some s => if 0 ≤ j ∧ j < (n : Int) then ppart P e cs (j.toNat * s) else none
      | none => none)
    | some .string, .string s, .int _ j => if 0 ≤ j then (match s[j.toNat]? with | some b => some (.int .u8 b.toNat) | none => none) else none
    | _, _, _ => none)
  | .indexAddr t x i => (match P.underlying t, ρ x, ρ i with
    | some (.array n e), .pointer (some ⟨b, off, none⟩), .int _ j => (match psz P e with
      | some s => if 0 ≤ j ∧ j < (n : Int) then some (.pointer (some ⟨b, off + j.toNat * s, none⟩)) else none
      | none => none)
    | some (.slice e), .slice (some ⟨b, off, none⟩) n _, .int _ j => (match psz P e with
      | some s => if 0 ≤ j ∧ j < (n : Int) then some (.pointer (some ⟨b, off + j.toNat * s, none⟩)) else none
      | none => none)
    | _, _, _ => none)
  | .extract t i => (match ρ t with | .tuple vs => vs[i]? | _ => none)
  | .slice t x lo hi none => (match P.underlying t, ρ x with
    | some .string, .string s => (match pbounds s.size s.size (lo.map ρ) (hi.map ρ) with
      | some (l, h) => some (.string (s.extract l h))
      | none => none)
    | _, _ => none)
  | .call { callee := .builtin .len, args, argTypes } => (match args.toList, argTypes[0]? with
    | [x], some t => (match P.underlying t, ρ x with
      | some .string, .string s => some (.int .i64 s.size)
      | some (.array n _), _ => some (.int .i64 n)
      | some (.slice _), .slice _ n _ => some (.int .i64 n)
      | some (.map _ _), .map none => some (.int .i64 0)
      | _, _ => none)
    | _, _ => none)
  | .call { callee := .builtin .min, args, .. } => (match args.toList.map ρ with
    | [.int k a, .int _ b] => some (.int k (if b < a then b else a))
    | _ => none)
  | .call { callee := .builtin .max, args, .. } => (match args.toList.map ρ with
    | [.int k a, .int _ b] => some (.int k (if b > a then b else a))
    | _ => none)
  | .call { callee := .builtin .cap, args, argTypes } => (match args.toList.map ρ, argTypes[0]? with
    | [.slice none 0 0], some t => (match P.underlying t with | some (.slice _) => some (.int .i64 0) | _ => none)
    | _, _ => none)
  | _ => none

/-- The cells from an address on. -/
def H.cells (h : H) (b off n : Nat) : Option (List Value) :=
  match h.get b with
  | some (.cells cs _ _ _) => if off + n ≤ cs.length then some ((cs.drop off).take n) else none
  | _ => none

def pbytes : List Value → Option (List UInt8)
  | [] => some []
  | .int .u8 n :: vs => (pbytes vs).map (UInt8.ofNat n.toNat :: ·)
  | _ => none

/-- Operations that read the heap. -/
def rop (P : Program) (h : H) (ρ : Operand → Value) (o : Oper) : Option Value :=
  match o.op with
  | .load t a => (match ρ a with
    | .pointer (some ⟨b, off, none⟩) => (match pagg P t, psz P t with
      | some true, some n => (match h.cells b off n with | some cs => some (.agg cs.toArray) | none => none)
      | some false, _ => (match h.cells b off 1 with | some [v] => some v | _ => none)
      | _, _ => none)
    | _ => none)
  | .convert s d x => (match P.underlying s, P.underlying d, ρ x with
    | some (.slice e), some .string, .slice a n _ => (match P.underlying e, a with
      | some (.int .u8), none => if n = 0 then some (.string .empty) else none
      | some (.int .u8), some ⟨b, off, none⟩ => (match h.cells b off n with
        | some cs => (match pbytes cs with | some l => some (.string ⟨l.toArray⟩) | none => none)
        | none => none)
      | _, _ => none)
    | _, _, _ => none)
  | .slice t x lo hi none => (match P.underlying t, ρ x with
    | some (.slice e), .slice none n c => (match psz P e, pbounds n c (lo.map ρ) (hi.map ρ) with
      | some _, some (0, 0) => if c = 0 then some (.slice none 0 0) else none
      | _, _ => none)
    | some (.slice e), .slice (some ⟨b, off, none⟩) n c => (match h.get b, psz P e, pbounds n c (lo.map ρ) (hi.map ρ) with
      | some (.cells _ e' _ opn), some (s + 1), some (l, hh) =>
        if opn && psz P e' ≠ some (s + 1) then none
        else if c = l then (if hh = l then some (.slice (some ⟨b, off, none⟩) 0 0) else none)
        else if l < c then some (.slice (some ⟨b, off + l * (s + 1), none⟩) (hh - l) (c - l)) else none
      | _, _, _ => none)
    | some (.array n e), .pointer (some ⟨b, off, none⟩) => (match h.get b, psz P e, pbounds n n (lo.map ρ) (hi.map ρ) with
      | some (.cells _ _ _ false), some s, some (l, hh) => if n = l then none else some (.slice (some ⟨b, off + l * s, none⟩) (hh - l) (n - l))
      | _, _, _ => none)
    | some (.pointer arr), .pointer (some ⟨b, off, none⟩) => (match P.underlying arr with
      | some (.array n e) => (match h.get b, psz P e, pbounds n n (lo.map ρ) (hi.map ρ) with
        | some (.cells _ _ _ false), some s, some (l, hh) => if n = l then none else some (.slice (some ⟨b, off + l * s, none⟩) (hh - l) (n - l))
        | _, _, _ => none)
      | _ => none)
    | _, _ => none)
  | _ => none

/-- Operations that make one block: its cells, their type, and what is handed on. -/
def aop (P : Program) (ρ : Operand → Value) (o : Oper) : Option (List Value × TypeId × (Nat → Value)) :=
  match o.op with
  | .alloc t => (match pzero P t with
    | some z => if zok z then some (z.cells.toList, t, fun b => .pointer (some ⟨b, 0, none⟩)) else none
    | none => none)
  | .box t x => some ((ρ x).cells.toList, t, fun b => .pointer (some ⟨b, 0, none⟩))
  | .buildSlice t n ps => (match P.underlying t with
    | some (.slice e) => (match psz P e, pzero P e with
      | some s, some z =>
        if n * s ≤ 2 ^ 24 ∧ zok z = true ∧ z.cells.size = s ∧ s ≠ 0 then
          (match Instr.fill (fun i => some (i * s, s)) ((Array.range (n * s)).map (z.cells[· % z.cells.size]!)) (ps.toList.map fun p => (p.1, ρ p.2)) with
          | some cs => some (cs.toList, e, fun b => .slice (some ⟨b, 0, none⟩) n n)
          | none => none)
        else none
      | _, _ => none)
    | _ => none)
  | .makeSlice t l c => (match P.underlying t, ρ l, ρ c with
    | some (.slice e), .int _ n, .int _ m => (match P.info? e with
      | some ie => (match ie.zero with
        | some z =>
          if 0 ≤ n ∧ n ≤ m ∧ ie.bytes * m ≤ 1099511627776 ∧ m ≤ 1099511627776 ∧ zok z = true ∧ z.cells.size = ie.size ∧ ie.size ≠ 0 then
            some (((Array.range (m.toNat * ie.size)).map (z.cells[· % z.cells.size]!)).toList, e, fun b => .slice (some ⟨b, 0, none⟩) n.toNat m.toNat)
          else none
        | none => none)
      | none => none)
    | _, _, _ => none)
  | _ => none

def splice (cs : List Value) (off : Nat) (vs : List Value) : List Value := cs.take off ++ vs ++ cs.drop (off + vs.length)

/-- What is written, written. -/
def H.write (h : H) (b off : Nat) (vs : List Value) : Option H :=
  match h.get b with
  | some (.cells cs e true opn) => if off + vs.length ≤ cs.length ∧ vs.all (·.oneCell') then some (h.set b (.cells (splice cs off vs) e true opn)) else none
  | _ => none

def isIntD : TypeDesc → Bool
  | .int _ => true
  | _ => false

/-- The elements of what is appended. -/
def appended (h : H) (s : Nat) : Value → Option (Nat × List Value)
  | .slice none 0 _ => some (0, [])
  | .slice (some ⟨b, off, none⟩) n _ => (h.cells b off (n * s)).map (n, ·)
  | .string x => if s = 1 then some (x.size, x.data.toList.map fun c => .int .u8 c.toNat) else none
  | _ => none

/-- An append of n elements, their cells vs, to the slice s. -/
def append1 (P : Program) (h : H) (e bytes sz n : Nat) (vs : List Value) (s : Value) : Option (Value × H) :=
  match s with
  | .slice none 0 0 =>
    if n = 0 then some (.slice none 0 0, h)
    else if n * bytes ≤ 1099511627776 ∧ n ≤ 1099511627776 ∧ vs.all (·.oneCell') then some (.slice (some ⟨h.next, 0, none⟩) n n, h.add (.cells vs e true true))
    else none
  | .slice (some ⟨b, off, none⟩) m c =>
    if m + n ≤ c then (h.write b (off + m * (sz + 1)) vs).map (.slice (some ⟨b, off, none⟩) (m + n) c, ·)
    else (match h.get b, h.cells b off (m * (sz + 1)) with
      | some (.cells _ e' own opn), some old =>
        if (m + n) * bytes ≤ 1099511627776 ∧ m + n ≤ 1099511627776 ∧ vs.all (·.oneCell') ∧ old.all (·.oneCell') then
          (if opn then (if own ∧ psz P e' = some (sz + 1) then some (.slice (some ⟨h.next, 0, none⟩) (m + n) (m + n), (h.del b).add (.cells (old ++ vs) e true true)) else none)
           else some (.slice (some ⟨h.next, 0, none⟩) (m + n) (m + n), h.add (.cells (old ++ vs) e true true)))
        else none
      | _, _ => none)
  | _ => none

/-- A key that is told by itself. -/
def isKeyB : TypeDesc → Value → Bool
  | .bool, .bool _ => true
  | .int k, .int k' _ => decide (k' = k)
  | .string, .string _ => true
  | _, _ => false

/-- Operations that write. -/
def xop (P : Program) (h : H) (ρ : Operand → Value) (o : Oper) : Option (Value × H) :=
  match o.op with
  | .store t a x => (match ρ a, psz P t with
    | .pointer (some ⟨b, off, none⟩), some n => if (ρ x).cells.size = n then (h.write b off (ρ x).cells.toList).map (undef, ·) else none
    | _, _ => none)
  | .call { callee := .builtin .append, args, argTypes } => (match args.toList.map ρ, argTypes.toList with
    | [s, x], [st, xt] => (match P.underlying st, P.underlying xt with
      | some (.slice e), some xd => if isIntD xd then none else (match P.info? e with
        | some ie => (match ie.zero, ie.size with
          | some z, sz + 1 =>
            if z.cells.size = sz + 1 ∧ zok z = true then
              (match appended h (sz + 1) x with
              | some (n, vs) => append1 P h e ie.bytes sz n vs s
              | none => none)
            else none
          | _, _ => none)
        | none => none)
      | _, _ => none)
    | _, _ => none)
  | .makeMap t none => (match P.underlying t with
    | some (.map _ _) => some (.map (some h.next), h.add (.map []))
    | _ => none)
  | .insert mt m k x => (match P.underlying mt, ρ m with
    | some (.map kt _), .map (some b) => (match P.underlying kt, h.get b with
      | some d, some (.map es) =>
        if isKeyB d (ρ k) && es.all (fun e => isKeyB d e.1 && Instr.sameNow d (ρ k) e.1 == some false) then some (undef, h.set b (.map (es ++ [(ρ k, ρ x)]))) else none
      | _, _ => none)
    | _, _ => none)
  | .convert s d x => (match P.underlying s, P.underlying d, ρ x with
    | some .string, some (.slice e), .string b => (match P.underlying e with
      | some (.int .u8) => if b.size ≤ 1099511627776 ∧ P.cellsOf e = 1 then some (.slice (some ⟨h.next, 0, none⟩) b.size b.size, h.add (.cells (b.data.toList.map fun c => .int .u8 c.toNat) e true true)) else none
      | _ => none)
    | _, _, _ => none)
  | _ => none

/-- The kinds of operations, as far as they are told by their text: 0 asks nothing of the heap, 1 reads, 2 makes a block, 3 writes or calls. -/
def kindOf (P : Program) (o : Oper) : Nat :=
  match o.op with
  | .move _ | .assign _ | .pick .. | .build .. | .nilCheck _ | .binOp .. | .unOp .. | .makeInterface .. | .makeFunc .. | .fieldAddr .. | .field .. | .index .. | .indexAddr .. | .extract .. => 0
  | .convert s d _ => (match P.underlying s, P.underlying d with
    | some (.slice _), some .string => 1
    | some .string, some (.slice _) => 3
    | _, _ => 0)
  | .slice t .. => (match P.underlying t with | some .string => 0 | _ => 1)
  | .load .. => 1
  | .alloc _ | .box .. | .buildSlice .. | .makeSlice .. => 2
  | .call { callee := .builtin .len, .. } | .call { callee := .builtin .min, .. } | .call { callee := .builtin .max, .. } | .call { callee := .builtin .cap, .. } => 0
  | _ => 3

inductive Ext where
  | normal
  | exit (id : Nat)
  | ret

/-- Which function a call calls, with which arguments. -/
def callee (ρ : Operand → Value) (c : Call) : Option (FuncId × Array Value) :=
  match c.callee with
  | .value f => (match ρ f with
    | .func (.func g) first captured => some (g, first ++ c.args.map ρ ++ captured)
    | _ => none)
  | _ => none

abbrev Tmps := Array Value
def tev (a : Tmps) : Operand → Value
  | .tmp t => a.getD t undef
  | .const v => v
  | .global g => .pointer (some ⟨g, 0, none⟩)
  | .func f => .func (.func f) #[] #[]
def tput (a : Tmps) (d : Option Tmp) (v : Value) : Tmps :=
  match d with
  | some d => a.setIfInBounds d v
  | none => a

/-- Which operations stand ahead of each, as bits. -/
def preds (ops : Array Oper) : Array Nat := Region.before ops

/-- A constant bears no address; a package-level variable is there. -/
def cleanOp (P : Program) : Operand → Bool
  | .const v => clean v
  | .global g => decide (g < P.globals.size)
  | _ => true
def cleanOps (P : Program) (o : Oper) : Bool := o.op.operands.all (cleanOp P)

/-- What the results of a function are. -/
def resOf (P : Program) (h : H) (a : Tmps) : ResultVar → Option Value
  | .tmp t => some (a.getD t undef)
  | .cell p ty => (match a.getD p undef with
    | .pointer (some ⟨b, off, none⟩) => (match pagg P ty, psz P ty with
      | some true, some n => (match h.cells b off n with | some cs => some (.agg cs.toArray) | none => none)
      | some false, _ => (match h.cells b off 1 with | some [v] => some v | _ => none)
      | _, _ => none)
    | _ => none)

structure Orc where
  fn : FuncId → Option Func
  or : FuncId → Array Value → H → Option (Value × H)

/-- One operation; 'cl' is what a call comes to. -/
def opStep (P : Program) (cl : FuncId → Array Value → H → Option (Value × H)) (o : Oper) (a : Tmps) (h : H) : Option (Value × H) :=
  if cleanOps P o then
    (match kindOf P o with
    | 0 => (match pop P (tev a) o with
      | some v => some (v, h)
      | none => none)
    | 1 => (match rop P h (tev a) o with
      | some v => some (v, h)
      | none => none)
    | 2 => (match aop P (tev a) o with
      | some (cs, t, f) => some (f h.next, h.add (.cells cs t true false))
      | none => none)
    | _ => (match o.op with
      | .call { callee := .value f, args, .. } => (match callee (tev a) { callee := .value f, args, argTypes := #[] } with
        | some (g, xs) => cl g xs h
        | none => none)
      | _ => xop P h (tev a) o))
  else none

/-- What stood ahead of an operation, and what it came to. -/
structure Rec where
  a : Tmps
  h : H
  v : Value

def fveq : Value → Value → Bool
  | .bool a, .bool b => a == b
  | .int k a, .int l b => decide (k = l) && a == b
  | .string a, .string b => decide (a = b)
  | .pointer a, .pointer b => decide (a = b)
  | .slice a n c, .slice b m d => decide (a = b) && n == m && c == d
  | .map a, .map b => decide (a = b)
  | .nilFunc, .nilFunc => true
  | .nilIface, .nilIface => true
  | .func f xs ys, .func g xs' ys' => decide (f = g) && xs.size == 0 && ys.size == 0 && xs'.size == 0 && ys'.size == 0
  | _, _ => false
def lveq : List Value → List Value → Bool
  | [], [] => true
  | x :: xs, y :: ys => fveq x y && lveq xs ys
  | _, _ => false
/-- Two values are one (where they are not, or it is not seen: false). -/
def veq : Value → Value → Bool
  | .agg xs, .agg ys => lveq xs.toList ys.toList
  | x, y => fveq x y

/-- Which operations stand ahead of each, as bits. -/
def mask (acc : Array Nat) (o : Oper) : Nat := o.after.toList.foldl (fun s e => if Region.binds .any e then s ||| 2 ^ e.on ||| acc.getD e.on 0 else s) 0
def masks : List Oper → Array Nat → Array Nat
  | [], acc => acc
  | o :: os, acc => masks os (acc.push (mask acc o))

/-- The temporaries that an operation reads. -/
def looks (ops : Array Oper) (o : Oper) : List Tmp := Oper.looksAt ops o

/-- What is asked of a region whose order is drawn, off its text. -/
def drawText (P : Program) (ops : Array Oper) (ms : Array Nat) : Bool :=
  (List.range ops.size).all fun j => match ops[j]? with
    | none => false
    | some oj =>
      (oj.after.toList.all fun e => !Region.binds .any e || e.on < j) &&
      (List.range ops.size).all fun i => match ops[i]? with
        | none => false
        | some oi =>
          (i == j || match oi.dst with
            | none => true
            | some d => oj.dst != some d && (!(looks ops oj).contains d || (ms.getD j 0).testBit i || (ms.getD i 0).testBit j)) &&
          (!(i < j) || kindOf P oj != 3 || (kindOf P oi != 3 && kindOf P oi != 2) || (ms.getD j 0).testBit i) &&
          (match oi.dst with | some d => i != j || !(looks ops oj).contains d | none => true)

/-- What is asked of the text, without a word of effects. -/
def drawTmps (ops : Array Oper) (ms : Array Nat) : Bool :=
  (List.range ops.size).all fun j => match ops[j]? with
    | none => false
    | some oj =>
      (oj.after.toList.all fun e => !Region.binds .any e || e.on < j) &&
      (List.range ops.size).all fun i => match ops[i]? with
        | none => false
        | some oi =>
          (i == j || match oi.dst with
            | none => true
            | some d => oj.dst != some d && (!(looks ops oj).contains d || (ms.getD j 0).testBit i || (ms.getD i 0).testBit j)) &&
          (match oi.dst with | some d => i != j || !(looks ops oj).contains d | none => true)

/-- An insert of an entry at a text's own string. -/
def litIns (d0 : Tmp) (o : Oper) : Bool :=
  match o.op with
  | .insert _ (.tmp d) (.const (.string _)) _ => d == d0 && o.dst.isNone
  | _ => false
def litOp (P : Program) (d0 : Tmp) (o : Oper) : Bool := o.guard.isNone && (kindOf P o == 0 || litIns d0 o)
def litText (P : Program) (ops : Array Oper) (ms : Array Nat) (sz : Nat) : Bool :=
  drawTmps ops ms && (match ops[0]? with
    | some o => (match o.op, o.dst with
      | .makeMap _ none, some d0 => o.guard.isNone && decide (d0 < sz) && (List.range ops.size).all fun j => j == 0 || (match ops[j]? with | some oj => litOp P d0 oj | none => false)
      | _, _ => false)
    | none => false)

/-- The heap behind the operations ahead of place m. -/
def heapAt (recs : List Rec) (hf : H) (m : Nat) : H := match recs[m]? with | some r => r.h | none => hf

/-- An operation that is carried out and writes. -/
def effAt (P : Program) (ops : Array Oper) (recs : List Rec) (e : Nat) : Bool :=
  match ops[e]?, recs[e]? with
  | some o, some r => kindOf P o == 3 && Region.wanted o (yielded ops r.a)
  | _, _ => false

/-- What is asked of it, off its run: what is read is the same at whatever place the order may put it. -/
def drawReads (P : Program) (ops : Array Oper) (ms : Array Nat) (recs : List Rec) (hf : H) : Bool :=
  (List.range ops.size).all fun j => match ops[j]?, recs[j]? with
    | some o, some r =>
      kindOf P o != 1 || !Region.wanted o (yielded ops r.a) ||
      (List.range (ops.size + 1)).all fun m =>
        -- m: so many places, the last of them a write (or none)
        (m != 0 && !effAt P ops recs (m - 1)) ||
        ((List.range ops.size).any fun e => effAt P ops recs e && (((ms.getD j 0).testBit e && m ≤ e) || ((ms.getD e 0).testBit j && e < m))) ||
        (match rop P (heapAt recs hf m) (tev r.a) o with | some v => veq v r.v | none => false)
    | _, _ => false

/-- Whatever reads stands ahead of whatever writes; nothing makes a block. -/
def readsFirst (P : Program) (ops : Array Oper) (ms : Array Nat) : Bool :=
  (List.range ops.size).all fun j => match ops[j]? with
    | some o => kindOf P o != 2 && (kindOf P o != 1 || (List.range ops.size).all fun e => match ops[e]? with
      | some oe => kindOf P oe != 3 || (ms.getD e 0).testBit j
      | none => false)
    | none => false

mutual
def exec (P : Program) (O : Orc) : Nat → Code → Tmps → H → Option (Ext × Tmps × H)
  | 0, _, _, _ => none
  | n + 1, c, a, h => match c with
    | .skip => some (.normal, a, h)
    | .label _ => some (.normal, a, h)
    | .seq x y => (match exec P O n x a h with
      | some (.normal, a, h) => exec P O n y a h
      | r => r)
    | .cond c x y => if cleanOp P c then (match tev a c with
      | .bool true => exec P O n x a h
      | .bool false => exec P O n y a h
      | _ => none) else none
    | .block id b => (match exec P O n b a h with
      | some (.exit id', a, h) => if id' = id then some (.normal, a, h) else some (.exit id', a, h)
      | r => r)
    | .loop b => (match exec P O n b a h with
      | some (.normal, a, h) => exec P O n (.loop b) a h
      | r => r)
    | .exit id => some (.exit id, a, h)
    | .ret => some (.ret, a, h)
    | .region _ ops false => (match runOps P O n ops.toList a h ops with
      | some (a, h) => some (.normal, a, h)
      | none => none)
    | .region _ ops true => (match trace P O n ops.toList a h ops with
      | some (recs, a1, h1) =>
        if drawText P ops (masks ops.toList #[]) && (readsFirst P ops (masks ops.toList #[]) || drawReads P ops (masks ops.toList #[]) recs h1) || litText P ops (masks ops.toList #[]) a.size then some (.normal, a1, h1) else none
      | none => none)
    | _ => none
def runOps (P : Program) (O : Orc) : Nat → List Oper → Tmps → H → Array Oper → Option (Tmps × H)
  | 0, _, _, _, _ => none
  | n + 1, os, a, h, all => match os with
    | [] => some (a, h)
    | o :: os =>
      if Region.wanted o (yielded all a) then
        (match opStep P (fun g xs h => call P O n g xs h) o a h with
        | some (v, h) => runOps P O n os (tput a o.dst v) h all
        | none => none)
      else runOps P O n os (tput a o.dst undef) h all
def trace (P : Program) (O : Orc) : Nat → List Oper → Tmps → H → Array Oper → Option (List Rec × Tmps × H)
  | 0, _, _, _, _ => none
  | n + 1, os, a, h, all => match os with
    | [] => some ([], a, h)
    | o :: os =>
      if Region.wanted o (yielded all a) then
        (match opStep P (fun g xs h => call P O n g xs h) o a h with
        | some (v, h1) => (match trace P O n os (tput a o.dst v) h1 all with
          | some (recs, a2, h2) => some (⟨a, h, v⟩ :: recs, a2, h2)
          | none => none)
        | none => none)
      else (match trace P O n os (tput a o.dst undef) h all with
        | some (recs, a2, h2) => some (⟨a, h, undef⟩ :: recs, a2, h2)
        | none => none)
def call (P : Program) (O : Orc) : Nat → FuncId → Array Value → H → Option (Value × H)
  | 0, _, _, _ => none
  | n + 1, f, xs, h =>
    match O.or f xs h with
    | some r => some r
    | none => (match O.fn f with
      | some fn => (match fn.body with
        | some body =>
          (match exec P O n body (xs ++ Array.replicate (fn.ntmps - xs.size) undef) h with
          | some (.exit _, _, _) => none
          | some (_, a, h) => (match fn.results.toList.mapM (resOf P h a) with
            | some [v] => some (v, h)
            | some vs => some (.tuple vs.toArray, h)
            | none => none)
          | none => none)
        | none => none)
      | none => none)
end
end Go.Proofs.Zq
