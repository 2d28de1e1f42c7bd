/- A part of the proof of a statement of this seat: the program logic; no condition. -/
import Derived.Test.YtmdeppkfboaepaaGreatAbBase
import Derived.Laws.Sem
import Derived.Laws.Cells
namespace Go.Ab
set_option linter.unusedVariables false
abbrev D44 : Value := .chan (some 0)
def gv : List Value → Nat → Value
 | [], _ => D44
 | v :: _, 0 => v
 | _ :: l, n + 1 => gv l n
inductive Opd where
 | v (i : Nat)
 | t (i : Nat)
 | c (x : Value)
 | f (g : FuncId)
def Opd.ev (e t : List Value) : Opd → Value
 | .v i => gv e i
 | .t i => gv t i
 | .c x => x
 | .f g => .func (.func g) #[] #[]
def J9 (op : BinOp) : Value → Value → Option Value
 | .int k a, .int k' b =>
   match op with
   | .shl => if b < 0 then none else some (.int k (k.wrap (a * 2 ^ min b.toNat k.bits)))
   | .shr => if b < 0 then none else some (.int k (a.fdiv (2 ^ min b.toNat k.bits)))
   | op =>
     if k ≠ k' then none else
     match op with
     | .add => some (.int k (k.wrap (a + b)))
     | .sub => some (.int k (k.wrap (a - b)))
     | .mul => some (.int k (k.wrap (a * b)))
     | .quo => if b = 0 then none else some (.int k (k.wrap (a.tdiv b)))
     | .rem => if b = 0 then none else some (.int k (a.tmod b))
     | .eql => some (.bool (a == b))
     | .neq => some (.bool (a != b))
     | .lss => some (.bool (decide (a < b)))
     | .leq => some (.bool (decide (a ≤ b)))
     | .gtr => some (.bool (decide (a > b)))
     | .geq => some (.bool (decide (a ≥ b)))
     | .or => some (.int k (k.wrap ((BitVec.ofInt k.bits a ||| BitVec.ofInt k.bits b).toNat)))
     | .and => some (.int k (k.wrap ((BitVec.ofInt k.bits a &&& BitVec.ofInt k.bits b).toNat)))
     | _ => none
 | .string x, .string y =>
   match op with
   | .add => if ((x.size + y.size : Nat) : Int) > IntKind.i64.max then none else some (.string (x ++ y))
   | .eql => some (.bool (x.toList == y.toList))
   | .neq => some (.bool (!(x.toList == y.toList)))
   | .lss => some (.bool (Op.bytesLess x.toList y.toList))
   | .leq => some (.bool (Op.bytesLess x.toList y.toList || x.toList == y.toList))
   | .gtr => some (.bool (!(Op.bytesLess x.toList y.toList || x.toList == y.toList)))
   | .geq => some (.bool (!Op.bytesLess x.toList y.toList))
   | _ => none
 | _, _ => none
def A4c (neg : Bool) : Value → Value → Option Value
 | .bool a, .bool b => some (.bool (if neg then !(a == b) else a == b))
 | _, _ => none
inductive NK where | slice | pointer | func | iface
def K9 : NK → Value → Option Bool
 | .slice, .slice none _ _ => some true
 | .slice, .slice (some _) _ _ => some false
 | .pointer, .pointer none => some true
 | .pointer, .pointer (some _) => some false
 | .func, .nilFunc => some true
 | .func, .func _ _ _ => some false
 | .iface, .nilIface => some true
 | .iface, .iface _ _ => some false
 | _, _ => none
def unV (op : UnOp) : Value → Option Value
 | .int k n => match op with | .neg => some (.int k (k.wrap (0 - n))) | _ => none
 | .bool b => match op with | .not => some (.bool !b) | _ => none
 | _ => none
def P6 (H : A1) (b o n : Nat) : Option (List Value) := (H.blk b).bind fun cs => if o + n ≤ cs.length then some ((cs.drop o).take n) else none
def C5f : Value → Option Int
 | .int _ n => some n
 | _ => none
def Q0 (x : Value) (y : Nat) : Option Nat := (C5f x).bind fun i => if 0 ≤ i ∧ i ≤ y then some i.toNat else none
def Y7 (len cap : Nat) (lo hi mx : Option Value) : Option (Nat × Nat × Nat) :=
 match mx with
 | some v => (Q0 v cap).bind fun m => match hi with
   | some u => (Q0 u m).bind fun h => match lo with
     | some x => (Q0 x h).bind fun l => some (l, h, m)
     | none => some (0, h, m)
   | none => none
 | none => match hi with
   | some u => (Q0 u cap).bind fun h => match lo with
     | some x => (Q0 x h).bind fun l => some (l, h, cap)
     | none => some (0, h, cap)
   | none => match lo with
     | some x => (Q0 x len).bind fun l => some (l, len, cap)
     | none => some (0, len, cap)
inductive POp where
 | id (x : Opd)
 | pick (c a b : Opd)
 | bin (op : BinOp) (x y : Opd)
 | beq (neg : Bool) (x y : Opd)
 | eqI (neg : Bool) (n : Nat) (x y : Opd)
 | isnil (k : NK) (neg : Bool) (x : Opd)
 | un (op : UnOp) (x : Opd)
 | conv (k : IntKind) (x : Opd)
 | load1 (a : Opd)
 | loadN (n : Nat) (a : Opd)
 | fad (off : Nat) (a : Opd)
 | iad (sz : Nat) (x i : Opd)
 | aad (len sz : Nat) (x i : Opd)
 | fld1 (off : Nat) (x : Opd)
 | fldN (off n : Nat) (x : Opd)
 | aix1 (len sz : Nat) (x i : Opd)
 | six (x i : Opd)
 | ext (i : Nat) (x : Opd)
 | len (x : Opd)
 | slen (x : Opd)
 | cap (x : Opd)
 | slc (sz : Nat) (x : Opd) (lo hi mx : Option Opd)
 | aslc (n sz : Nat) (x : Opd) (lo hi mx : Option Opd)
 | sslc (x : Opd) (lo hi : Option Opd)
 | fn (f : FuncId) (caps : List Opd)
 | max2 (x y : Opd)
 | min2 (x y : Opd)
 | nilchk (x : Opd)
 | bld (zero : List Value) (parts : List (Nat × Nat × Opd))
def C2 : Value → Option (List Value)
 | .agg cs => some cs.toList
 | .tuple _ => none
 | .chan _ => none
 | v => some [v]
def C9 (cells : List Value) : List (Nat × Nat × Value) → Option (List Value)
 | [] => some cells
 | (off, n, v) :: rest =>
   (C2 v).bind fun l => if l.length = n ∧ off + n ≤ cells.length then C9 (cells.take off ++ l ++ cells.drop (off + n)) rest else none
def O0 (c a b : Value) : Option Value := match c with | .bool true => some a | .bool false => some b | _ => none
def P5 (k : IntKind) : Value → Option Value
 | .int _ n => some (.int k (k.wrap n))
 | _ => none
def F5 (H : A1) : Value → Option Value
 | .pointer (some ⟨b, o, none⟩) => H.cell b o
 | _ => none
def D5 (H : A1) (n : Nat) : Value → Option Value
 | .pointer (some ⟨b, o, none⟩) => (P6 H b o n).map fun l => .agg l.toArray
 | _ => none
def Z1 (off : Nat) : Value → Option Value
 | .pointer (some ⟨b, o, none⟩) => some (.pointer (some ⟨b, o + off, none⟩))
 | _ => none
def F1 (sz : Nat) : Value → Value → Option Value
 | .slice (some ⟨b, o, _⟩) ln _, .int _ n => if 0 ≤ n ∧ n < ln then some (.pointer (some ⟨b, o + n.toNat * sz, none⟩)) else none
 | _, _ => none
def A1s (ln sz : Nat) : Value → Value → Option Value
 | .pointer (some ⟨b, o, none⟩), .int _ n => if 0 ≤ n ∧ n < ln then some (.pointer (some ⟨b, o + n.toNat * sz, none⟩)) else none
 | _, _ => none
def T2 (off : Nat) : Value → Option Value
 | .agg cs => cs[off]?
 | _ => none
def T5 (off n : Nat) : Value → Option Value
 | .agg cs => some (.agg (cs.extract off (off + n)))
 | _ => none
def R1 (ln sz : Nat) : Value → Value → Option Value
 | .agg cs, .int _ n => if 0 ≤ n ∧ n < ln then cs[n.toNat * sz]? else none
 | _, _ => none
def A1m : Value → Value → Option Value
 | .string s, .int _ n => if 0 ≤ n then (s[n.toNat]?).map fun b => .int .u8 b.toNat else none
 | _, _ => none
def l6 (i : Nat) : Value → Option Value
 | .tuple cs => cs[i]?
 | _ => none
def O6 : Value → Option Value
 | .slice _ n _ => some (.int .i64 n)
 | _ => none
def O3 : Value → Option Value
 | .string s => some (.int .i64 s.size)
 | _ => none
def A0m : Value → Option Value
 | .slice none _ _ => some (.int .i64 0)
 | .slice (some ⟨_, _, some 0⟩) _ c => some (.int .i64 c)
 | _ => none
def O5 (sz : Nat) (x : Value) (lo hi mx : Option Value) : Option Value :=
 match x with
 | .slice a ln cp => (Y7 ln cp lo hi mx).bind fun (l, h, m) =>
   match a with
   | none => some (.slice none 0 0)
   | some ⟨b, o, sp⟩ => if sp = some 0 ∨ sp = some sz then some (.slice (some ⟨b, o + l * sz, if mx.isSome then some 0 else sp⟩) (h - l) (m - l)) else none
 | _ => none
def R5 (n sz : Nat) (x : Value) (lo hi mx : Option Value) : Option Value :=
 match x with
 | .pointer (some ⟨b, o, none⟩) => (Y7 n n lo hi mx).bind fun (l, h, m) => some (.slice (some ⟨b, o + l * sz, some 0⟩) (h - l) (m - l))
 | _ => none
def T4 (x : Value) (lo hi : Option Value) : Option Value :=
 match x with
 | .string s => (Y7 s.size s.size lo hi none).bind fun (l, h, _) => some (.string (s.extract l h))
 | _ => none
def P4 : Value → Value → Option Value
 | .int k a, .int _ b => some (.int k (if b > a then b else a))
 | _, _ => none
def P2 : Value → Value → Option Value
 | .int k a, .int _ b => some (.int k (if b < a then b else a))
 | _, _ => none
def F6 : Value → Option Value
 | .pointer (some a) => some (.pointer (some a))
 | .func (.func f) fs cs => some (.func (.func f) fs cs)
 | _ => none
def eqL : List Value → List Value → Option Bool
 | [], [] => some true
 | .int k a :: l, .int k' b :: l' => if k = k' then (eqL l l').map fun r => a == b && r else none
 | _, _ => none
def C5s (neg : Bool) (n : Nat) : Value → Value → Option Value
 | .agg xs, .agg ys => if xs.size = n then (eqL xs.toList ys.toList).map fun b => .bool (if neg then !b else b) else none
 | _, _ => none
def POp.ev (H : A1) (e t : List Value) : POp → Option Value
 | .id x => some (x.ev e t)
 | .pick c a b => O0 (c.ev e t) (a.ev e t) (b.ev e t)
 | .bin op x y => J9 op (x.ev e t) (y.ev e t)
 | .beq neg x y => A4c neg (x.ev e t) (y.ev e t)
 | .eqI neg n x y => C5s neg n (x.ev e t) (y.ev e t)
 | .isnil k neg x => (K9 k (x.ev e t)).map fun b => .bool (if neg then !b else b)
 | .un op x => unV op (x.ev e t)
 | .conv k x => P5 k (x.ev e t)
 | .load1 a => F5 H (a.ev e t)
 | .loadN n a => D5 H n (a.ev e t)
 | .fad off a => Z1 off (a.ev e t)
 | .iad sz x i => F1 sz (x.ev e t) (i.ev e t)
 | .aad ln sz x i => A1s ln sz (x.ev e t) (i.ev e t)
 | .fld1 off x => T2 off (x.ev e t)
 | .fldN off n x => T5 off n (x.ev e t)
 | .aix1 ln sz x i => R1 ln sz (x.ev e t) (i.ev e t)
 | .six x i => A1m (x.ev e t) (i.ev e t)
 | .ext i x => l6 i (x.ev e t)
 | .len x => O6 (x.ev e t)
 | .slen x => O3 (x.ev e t)
 | .cap x => A0m (x.ev e t)
 | .slc sz x lo hi mx => O5 sz (x.ev e t) (lo.map (·.ev e t)) (hi.map (·.ev e t)) (mx.map (·.ev e t))
 | .aslc n sz x lo hi mx => R5 n sz (x.ev e t) (lo.map (·.ev e t)) (hi.map (·.ev e t)) (mx.map (·.ev e t))
 | .sslc x lo hi => T4 (x.ev e t) (lo.map (·.ev e t)) (hi.map (·.ev e t))
 | .fn f caps => some (.func (.func f) #[] (caps.map (·.ev e t)).toArray)
 | .max2 x y => P4 (x.ev e t) (y.ev e t)
 | .min2 x y => P2 (x.ev e t) (y.ev e t)
 | .nilchk x => F6 (x.ev e t)
 | .bld zero parts => (C9 zero (parts.map fun (o, n, x) => (o, n, x.ev e t))).map fun l => .agg l.toArray
end Go.Ab
