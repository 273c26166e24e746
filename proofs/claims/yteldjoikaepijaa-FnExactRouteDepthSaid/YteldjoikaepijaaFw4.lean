/- The compact operations: what they are, that they stand for the model's, what they come to. -/
import Derived.Test.YteldjoikaepijaaFw3
import Derived.IntWalk
namespace Go.Fw
open Go

inductive K where
  | mv (x : Ar)
  | pick (c a b : Ar)
  | boxi (n : Nat) (x : Ar)
  | boxm (n : Nat) (x : Ar)
  | alloc (zs : List AV)
  | build (zs : List AV) (parts : List (Nat × Nat × Ar))
  | bsl (es : Nat) (parts : List Ar)
  | bsl0
  | bslm (es : Nat) (parts : List Ar)
  | load (n : Option Nat) (x : Ar)
  | store (n : Nat) (a x : Ar)
  | nilc (x : Ar)
  | bin (op : BinOp) (x y : Ar)
  | beq (op : BinOp) (x y : Ar)
  | not (x : Ar)
  | neg (x : Ar)
  | conv (k : IntKind) (x : Ar)
  | b2s (x : Ar)
  | sub (x : Ar) (lo hi : Option Ar)
  | slc (es : Nat) (x : Ar) (lo hi : Option Ar)
  | fa (off : Nat) (x : Ar)
  | field (off : Nat) (n : Option Nat) (x : Ar)
  | ia (es : Nat) (x i : Ar)
  | idx (x i : Ar)
  | lens (x : Ar)
  | lenl (x : Ar)
  | app (es : Nat) (x y : Ar)
  | apps (x y : Ar)
  | call (f : FuncId) (args : List Ar)
  | callv (f : Ar) (args : List Ar)
  | ext (x : Ar) (i : Nat)
  | mkfn (f : FuncId) (caps : List Ar)
  | mks (es : Nat) (zs : List AV) (l : Ar)
  | mx (big : Bool) (x y : Ar)

def InR (k : IntKind) (n : Int) : Prop := k.min ≤ n ∧ n ≤ k.max
@[simp] theorem InR_i64 {n : Int} : InR .i64 n ↔ -9223372036854775808 ≤ n ∧ n ≤ 9223372036854775807 := by
  have h1 : IntKind.i64.min = -9223372036854775808 := by decide
  have h2 : IntKind.i64.max = 9223372036854775807 := by decide
  simp [InR, h1, h2]

def LIM : Nat := 1099511627776
def nth (rows : List (List AV)) (i : Nat) : List AV := rows.getD i []
@[simp] theorem nth_map {α : Type} (l : List α) (f : α → List AV) (i : Nat) (h : i < l.length) : nth (l.map f) i = f l[i] := by
  simp [nth, h]
theorem nth_eq {rows : List (List AV)} {i : Nat} (h : i < rows.length) : rows[i]? = some (nth rows i) := by simp [nth, h]

def pickAV (t : Bool) : AV → AV → Option (Prop × AV)
  | .bool x, .bool y => some (True, .bool (bif t then x else y))
  | .bool x, .opt g (.bool y) => some (t = false → g = true, .bool (bif t then x else y))
  | .opt g (.bool x), .bool y => some (t = true → g = true, .bool (bif t then x else y))
  | .bool x, .junk => some (t = true, .bool x)
  | .junk, .bool y => some (t = false, .bool y)
  | _, _ => none

def evArith (k : IntKind) (n : Int) : Prop × AV :=
  match k with
  | .i64 => (InR .i64 n, .int .i64 n)
  | k => (True, .int k (k.wrap n))

def evBin (op : BinOp) (x y : AV) : Option (Prop × AV) :=
  match x, y with
  | .int k a, .int k' b =>
    match op with
    | .add => some (k = k' ∧ (evArith k (a + b)).1, (evArith k (a + b)).2)
    | .sub => some (k = k' ∧ (evArith k (a - b)).1, (evArith k (a - b)).2)
    | .mul => some (k = k' ∧ (evArith k (a * b)).1, (evArith k (a * b)).2)
    | .quo => some (k = k' ∧ b ≠ 0 ∧ (evArith k (a.tdiv b)).1, (evArith k (a.tdiv b)).2)
    | .rem => some (k = k' ∧ b ≠ 0, .int k (a.tmod b))
    | .eql => some (k = k', .bool (a == b))
    | .neq => some (k = k', .bool (a != b))
    | .lss => some (k = k', .bool (decide (a < b)))
    | .leq => some (k = k', .bool (decide (a ≤ b)))
    | .gtr => some (k = k', .bool (decide (a > b)))
    | .geq => some (k = k', .bool (decide (a ≥ b)))
    | .xor => some (k = k', .int k (k.wrap (BitVec.ofInt k.bits a ^^^ BitVec.ofInt k.bits b).toNat))
    | .and => some (k = k', .int k (k.wrap (BitVec.ofInt k.bits a &&& BitVec.ofInt k.bits b).toNat))
    | _ => none
  | .str a, .str b =>
    match op with
    | .add => some (a.length + b.length ≤ BIG, .str (a ++ b))
    | .eql => some (True, .bool (a == b))
    | .neq => some (True, .bool (a != b))
    | .lss => some (True, .bool (Op.bytesLess a b))
    | .leq => some (True, .bool (Op.bytesLess a b || a == b))
    | .gtr => some (True, .bool (!(Op.bytesLess a b || a == b)))
    | .geq => some (True, .bool (!(Op.bytesLess a b)))
    | _ => none
  | _, _ => none

def bnd (env : List (Nat × AV)) (dflt : Int) : Option Ar → Option Int
  | none => some dflt
  | some a => match ar env a with
    | .int _ n => some n
    | _ => none

/-- The rows that a slice shows. -/
def rowsOf (mem : List Ent) (es : Nat) : AV → Option (List (List AV))
  | .e0 => some []
  | .sl es' rows => if es' = es then some rows else none
  | .ms i es' off len => match mem[i]? with
    | some (.arr es'' rows) => if es' = es ∧ es'' = es ∧ off + len ≤ rows.length then some ((rows.drop off).take len) else none
    | _ => none
  | _ => none

def encB (b : UInt8) : List AV := [.int .u8 b.toNat]
def byteOf : List AV → UInt8
  | [.int .u8 n] => UInt8.ofNat n.toNat
  | _ => 0
def isB : List AV → Bool
  | [.int .u8 _] => true
  | _ => false

def fillc (zs : List AV) : List (Nat × List AV) → List AV
  | [] => zs
  | (o, cs) :: r => fillc (zs.take o ++ cs ++ zs.drop (o + cs.length)) r

abbrev Ev := Prop × AV × List Ent

def evApp (mem : List Ent) (es : Nat) (x : AV) (ys : List (List AV)) : Option Ev :=
  match x with
  | .e0 => some (ys.length ≤ LIM, .ms mem.length es 0 ys.length, mem ++ [.arr es ys])
  | .ms i es' off len => match mem[i]? with
    | some (.arr es'' rows) => some (es' = es ∧ es'' = es ∧ off = 0 ∧ len ≤ rows.length ∧ len + ys.length ≤ LIM,
        .ms mem.length es 0 (len + ys.length), mem.set i .dead ++ [.arr es (rows.take len ++ ys)])
    | _ => none
  | _ => none

def evK (k : K) (env : List (Nat × AV)) (mem : List Ent) : Option Ev :=
  match k with
  | .mv x => some (True, ar env x, mem)
  | .pick c a b => match ar env c with
    | .bool t => match pickAV t (ar env a) (ar env b) with
      | some (p, v) => some (p, v, mem)
      | none => none
    | _ => none
  | .boxi n x => some ((ar env x).cells.length = n ∧ ((ar env x).cells.all fun c => c.isCell && c.pure) = true, .ip (ar env x).cells, mem)
  | .boxm n x => some ((ar env x).cells.length = n ∧ ((ar env x).cells.all AV.isCell) = true, .mp mem.length 0 0, mem ++ [.arr n [(ar env x).cells]])
  | .alloc zs => some (True, .mp mem.length 0 0, mem ++ [.arr zs.length [zs]])
  | .build zs parts => some ((parts.all fun (o, s, x) => (ar env x).cells.length == s && (ar env x).cells.all AV.isCell && decide (o + s ≤ zs.length)) = true,
      .agg (fillc zs (parts.map fun (o, _, x) => (o, (ar env x).cells))), mem)
  | .bsl es parts => some ((parts.all fun x => (ar env x).cells.length == es && (ar env x).cells.all fun c => c.isCell && c.pure) = true,
      .sl es (parts.map fun x => (ar env x).cells), mem)
  | .bsl0 => some (True, .e0, mem)
  | .bslm es parts => some ((parts.all fun x => (ar env x).cells.length == es && (ar env x).cells.all AV.isCell) = true,
      .ms mem.length es 0 parts.length, mem ++ [.arr es (parts.map fun x => (ar env x).cells)])
  | .load none x => match ar env x with
    | .ip cs => match cs.head? with
      | some c => some (True, c, mem)
      | none => none
    | .mp i r off => match mem[i]? with
      | some (.arr _ rows) => match rows[r]? with
        | some row => match row[off]? with
          | some c => some (True, c, mem)
          | none => none
        | none => none
      | _ => none
    | _ => none
  | .load (some n) x => match ar env x with
    | .ip cs => some (n ≤ cs.length, .agg (cs.take n), mem)
    | .mp i r off => match mem[i]? with
      | some (.arr _ rows) => match rows[r]? with
        | some row => some (off + n ≤ row.length, .agg ((row.drop off).take n), mem)
        | none => none
      | _ => none
    | _ => none
  | .store n a x => match ar env a with
    | .mp i r off => match mem[i]? with
      | some (.arr es rows) => match rows[r]? with
        | some row => some ((ar env x).cells.length = n ∧ ((ar env x).cells.all AV.isCell) = true ∧ off + n ≤ row.length, .junk,
            mem.set i (.arr es (rows.set r (row.take off ++ (ar env x).cells ++ row.drop (off + n)))))
        | none => none
      | _ => none
    | _ => none
  | .nilc x => match ar env x with
    | .ip cs => some (True, .ip cs, mem)
    | .mp i r off => some (True, .mp i r off, mem)
    | _ => none
  | .bin op x y => match evBin op (ar env x) (ar env y) with
    | some (p, v) => some (p, v, mem)
    | none => none
  | .beq op x y => match ar env x, ar env y, op with
    | .bool a, .bool b, .eql => some (True, .bool (a == b), mem)
    | .bool a, .bool b, .neq => some (True, .bool (a != b), mem)
    | _, _, _ => none
  | .not x => match ar env x with
    | .bool b => some (True, .bool (!b), mem)
    | _ => none
  | .neg x => match ar env x with
    | .int k n => some ((evArith k (0 - n)).1, (evArith k (0 - n)).2, mem)
    | _ => none
  | .conv k x => match ar env x with
    | .int _ n => some (True, .int k (k.wrap n), mem)
    | _ => none
  | .b2s x => match rowsOf mem 1 (ar env x) with
    | some rows => some ((rows.all isB) = true ∧ rows.length ≤ BIG, .str (rows.map byteOf), mem)
    | none => none
  | .sub x lo hi => match ar env x with
    | .str s => match bnd env 0 lo, bnd env s.length hi with
      | some l, some h => some (0 ≤ l ∧ l ≤ h ∧ h ≤ s.length, .str ((s.drop l.toNat).take (h.toNat - l.toNat)), mem)
      | _, _ => none
    | _ => none
  | .slc sz x lo hi => match ar env x with
    | .sl es rows => match bnd env 0 lo, bnd env rows.length hi with
      | some l, some h => some (sz = es ∧ 0 ≤ l ∧ l ≤ h ∧ h ≤ rows.length, .sl es ((rows.drop l.toNat).take (h.toNat - l.toNat)), mem)
      | _, _ => none
    | .ms i es off len => match bnd env 0 lo, bnd env len hi with
      | some l, some h => some (sz = es ∧ 0 ≤ l ∧ l ≤ h ∧ h ≤ len, .ms i es (off + l.toNat) (h.toNat - l.toNat), mem)
      | _, _ => none
    | .e0 => match bnd env 0 lo, bnd env 0 hi with
      | some l, some h => some (l = 0 ∧ h = 0, .e0, mem)
      | _, _ => none
    | _ => none
  | .fa off x => match ar env x with
    | .ip cs => some (off ≤ cs.length, .ip (cs.drop off), mem)
    | .mp i r o => some (True, .mp i r (o + off), mem)
    | _ => none
  | .field off none x => match ar env x with
    | .agg cs => match cs[off]? with
      | some c => some (True, c, mem)
      | none => none
    | _ => none
  | .field off (some n) x => match ar env x with
    | .agg cs => some (off + n ≤ cs.length, .agg ((cs.drop off).take n), mem)
    | _ => none
  | .ia es x i => match ar env x, ar env i with
    | .sl es' rows, .int _ n => some (es' = es ∧ 0 ≤ n ∧ n < rows.length, .ip (nth rows n.toNat), mem)
    | .ms j es' off len, .int _ n => some (es' = es ∧ 0 ≤ n ∧ n < len, .mp j (off + n.toNat) 0, mem)
    | _, _ => none
  | .idx x i => match ar env x, ar env i with
    | .str s, .int _ n => some (0 ≤ n ∧ n < s.length, .int .u8 (s.getD n.toNat 0).toNat, mem)
    | _, _ => none
  | .lens x => match ar env x with
    | .str s => some (True, .int .i64 s.length, mem)
    | _ => none
  | .lenl x => match ar env x with
    | .sl _ rows => some (True, .int .i64 rows.length, mem)
    | .ms _ _ _ len => some (True, .int .i64 len, mem)
    | .e0 => some (True, .int .i64 0, mem)
    | _ => none
  | .app es x y => match rowsOf mem es (ar env y) with
    | some ys => evApp mem es (ar env x) ys
    | none => none
  | .apps x y => match ar env y with
    | .str s => evApp mem 1 (ar env x) (s.map encB)
    | _ => none
  | .ext x i => match ar env x with
    | .tup vs => match vs[i]? with
      | some v => some (True, v, mem)
      | none => none
    | _ => none
  | .mkfn f caps => some (True, .fn f (caps.map (ar env)), mem)
  | .mks es zs l => match ar env l with
    | .int _ n => some (0 ≤ n ∧ n ≤ LIM, .ms mem.length es 0 n.toNat, mem ++ [.arr es (List.replicate n.toNat zs)])
    | _ => none
  | .mx b x y => match ar env x, ar env y with
    | .int k m, .int k' n => some (k = k', .int k (bif b then max m n else min m n), mem)
    | _, _ => none
  | .call _ _ | .callv _ _ => none

/-! ## The check against the model's operation -/

def szB (P : Program) (t : TypeId) : Option Nat := (P.info? t).map (·.size)
def aggB (P : Program) (t : TypeId) : Option Bool := (P.underlying t).map fun | .struct _ | .array _ _ => true | _ => false
def elemB (P : Program) (t : TypeId) : Option TypeId := match P.underlying t with | some (.slice e) => some e | _ => none
def fieldB (P : Program) (t : TypeId) (f : Nat) : Option (Nat × TypeId) :=
  match P.underlying t with
  | some (.struct fs) => (fs[f]?).map fun x => (x.offset, x.type)
  | _ => none
def isStr (P : Program) (t : TypeId) : Bool := match P.underlying t with | some .string => true | _ => false
def isBool (P : Program) (t : TypeId) : Bool := match P.underlying t with | some .bool => true | _ => false
def isIntK (P : Program) (t : TypeId) (k : IntKind) : Bool := match P.underlying t with | some (.int k') => k == k' | _ => false
def zeroOk (P : Program) (t : TypeId) (zs : List AV) : Bool :=
  match (P.info? t).bind (·.zero) with
  | some z => constOkL zs z.cells.toList
  | none => false

def placesB (P : Program) (t : TypeId) : Option (List (Nat × Nat)) :=
  match P.underlying t with
  | some (.struct fs) => fs.toList.mapM fun f => (P.info? f.type).map fun i => (f.offset, i.size)
  | _ => none

def chkO : Option Ar → Option Operand → Bool
  | none, none => true
  | some a, some b => chkAr a b
  | _, _ => false

def chkParts (P : Program) (t : TypeId) : List (Nat × Nat × Ar) → List (Nat × Operand) → Bool
  | [], [] => true
  | (o, s, x) :: r, (i, y) :: r' => (match fieldB P t i with | some (o', t') => o == o' && szB P t' == some s | none => false) && chkAr x y && chkParts P t r r'
  | _, _ => false
def chkList (n : Nat) : List Ar → List (Nat × Operand) → Bool
  | [], [] => true
  | x :: r, (i, y) :: r' => i == n && chkAr x y && chkList (n + 1) r r'
  | _, _ => false
def chkArs : List Ar → List Operand → Bool
  | [], [] => true
  | x :: r, y :: r' => chkAr x y && chkArs r r'
  | _, _ => false

def chkK (P : Program) (k : K) (op : Op) : Bool :=
  match k, op with
  | .mv x, .move y => chkAr x y
  | .mv x, .assign y => chkAr x y
  | .pick c a b, .pick c' a' b' => chkAr c c' && chkAr a a' && chkAr b b'
  | .boxi n x, .box t y => chkAr x y && szB P t == some n
  | .boxm n x, .box t y => chkAr x y && szB P t == some n
  | .alloc zs, .alloc t => zeroOk P t zs && szB P t == some zs.length
  | .build zs parts, .build t ps => zeroOk P t zs && (placesB P t).isSome && chkParts P t parts ps.toList
  | .bsl es parts, .buildSlice t n ps => (match elemB P t with | some e => szB P e == some es && (P.info? e).any (·.zero.isSome) | none => false) && n == parts.length && decide (0 < es) && decide (n * es ≤ 16777216) && chkList 0 parts ps.toList
  | .bslm es parts, .buildSlice t n ps => (match elemB P t with | some e => szB P e == some es && (P.info? e).any (·.zero.isSome) | none => false) && n == parts.length && decide (0 < es) && decide (n * es ≤ 16777216) && chkList 0 parts ps.toList
  | .bsl0, .buildSlice t n ps => (match elemB P t with | some e => (szB P e).isSome | none => false) && n == 0 && ps.size == 0
  | .load none x, .load t y => chkAr x y && aggB P t == some false
  | .load (some n) x, .load t y => chkAr x y && aggB P t == some true && szB P t == some n
  | .store n a x, .store t b y => chkAr a b && chkAr x y && szB P t == some n
  | .nilc x, .nilCheck y => chkAr x y
  | .bin op x y, .binOp op' _ x' y' _ => op == op' && chkAr x x' && chkAr y y'
  | .beq op x y, .binOp op' t x' y' _ => op == op' && chkAr x x' && chkAr y y' && isBool P t
  | .not x, .unOp .not _ y => chkAr x y
  | .neg x, .unOp .neg _ y => chkAr x y
  | .conv k x, .convert s d y => chkAr x y && isIntK P d k && (P.underlying s).isSome
  | .b2s x, .convert s d y => chkAr x y && isStr P d && (match elemB P s with | some e => isIntK P e .u8 | none => false)
  | .sub x lo hi, .slice t y lo' hi' none => chkAr x y && chkO lo lo' && chkO hi hi' && isStr P t
  | .slc es x lo hi, .slice t y lo' hi' none => chkAr x y && chkO lo lo' && chkO hi hi' && (match elemB P t with | some e => szB P e == some es | none => false)
  | .fa off x, .fieldAddr t y f => chkAr x y && (match fieldB P t f with | some (o, t') => o == off && (match szB P t' with | some n => decide (0 < n) | none => false) | none => false)
  | .field off none x, .field t y f => chkAr x y && (match fieldB P t f with | some (o, t') => o == off && aggB P t' == some false | none => false)
  | .field off (some n) x, .field t y f => chkAr x y && (match fieldB P t f with | some (o, t') => o == off && aggB P t' == some true && szB P t' == some n | none => false)
  | .ia es x i, .indexAddr t y j => chkAr x y && chkAr i j && (match elemB P t with | some e => szB P e == some es | none => false)
  | .idx x i, .index t y j => chkAr x y && chkAr i j && isStr P t
  | .lens x, .call { callee := .builtin .len, args, argTypes } => (match args.toList, argTypes.toList with | [y], [t] => chkAr x y && isStr P t | _, _ => false)
  | .lenl x, .call { callee := .builtin .len, args, argTypes } => (match args.toList, argTypes.toList with | [y], [t] => chkAr x y && (elemB P t).isSome | _, _ => false)
  | .app es x y, .call { callee := .builtin .append, args, argTypes } =>
    (match args.toList, argTypes.toList with
     | [x', y'], [t, u] => chkAr x x' && chkAr y y' && (elemB P u).isSome && (match elemB P t with
        | some e => szB P e == some es && decide (0 < es) && (match P.info? e with | some i => decide (i.bytes ≤ 128) && (match i.zero with | some z => z.cells.size == es | none => false) | none => false)
        | none => false)
     | _, _ => false)
  | .apps x y, .call { callee := .builtin .append, args, argTypes } =>
    (match args.toList, argTypes.toList with
     | [x', y'], [t, u] => chkAr x x' && chkAr y y' && isStr P u && (match elemB P t with
        | some e => isIntK P e .u8 && szB P e == some 1 && (match P.info? e with | some i => decide (i.bytes ≤ 128) && (match i.zero with | some z => z.cells.size == 1 | none => false) | none => false)
        | none => false)
     | _, _ => false)
  | .ext x i, .extract y j => chkAr x y && i == j
  | .mkfn f caps, .makeFunc (.func g) fst cs => f == g && fst.size == 0 && chkArs caps cs.toList
  | .mks es zs l, .makeSlice t l' c' => chkAr l l' && chkAr l c' && (match elemB P t with
      | some e => szB P e == some es && zeroOk P e zs && zs.length == es && decide (0 < es) && (match P.info? e with | some i => decide (i.bytes ≤ 128) | none => false)
      | none => false)
  | .mx true x y, .call { callee := .builtin .max, args, .. } => (match args.toList with | [x', y'] => chkAr x x' && chkAr y y' | _ => false)
  | .mx false x y, .call { callee := .builtin .min, args, .. } => (match args.toList with | [x', y'] => chkAr x x' && chkAr y y' | _ => false)
  | .call f args, .call { callee := .value (.func g), args := as, .. } => f == g && chkArs args as.toList
  | .callv f args, .call { callee := .value g, args := as, .. } => chkAr f g && chkArs args as.toList
  | _, _ => false

end Go.Fw
