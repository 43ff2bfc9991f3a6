/- What a small operation makes of abstract values, and that the machine's operation does just that. Over any program. -/
import Derived.Test.YtcmlhhjnbopbnaaJoJ1
namespace Go.Jo
open Go.RowKit
set_option autoImplicit false

inductive Out where
  | bad
  | val (p : Prop) (r : AV)
  | box (p : Prop) (cs : List AV) (t : Nat)
  | row (p : Prop) (k n : Nat) (f : Nat → List D) (t : Nat)
  | lit (p : Prop) (k n : Nat) (f : Nat → List D) (t : Nat)
  | call (f : FuncId) (args : List D)
  | mk (z : D) (zc : List Value) (za : Bool) (zs : List Value) (ag : Bool)
  | ent (p : Prop) (d : D) (b : Nat) (K : List Value) (ob : HObj)

def byteAt (s : ByteArray) (n : Nat) : Int := ((s[n]?).map (fun b => (b.toNat : Int))).getD 0

def bitsI (op : BinOp) (k : IntKind) (x y : Int) : Int :=
  match op with
  | .and => k.wrap (BitVec.ofInt k.bits x &&& BitVec.ofInt k.bits y).toNat
  | .or => k.wrap (BitVec.ofInt k.bits x ||| BitVec.ofInt k.bits y).toNat
  | .xor => k.wrap (BitVec.ofInt k.bits x ^^^ BitVec.ofInt k.bits y).toNat
  | _ => k.wrap (BitVec.ofInt k.bits x &&& ~~~(BitVec.ofInt k.bits y)).toNat

def iop (op : BinOp) (k : IntKind) (a b : Int) : Out :=
  match op with
  | .add => .val True (.d (.v (.int k (k.wrap (a + b)))))
  | .sub => .val True (.d (.v (.int k (k.wrap (a - b)))))
  | .mul => .val True (.d (.v (.int k (k.wrap (a * b)))))
  | .quo => .val (b ≠ 0) (.d (.v (.int k (k.wrap (a.tdiv b)))))
  | .rem => .val (b ≠ 0) (.d (.v (.int k (a.tmod b))))
  | .and => .val True (.d (.v (.int k (bitsI .and k a b))))
  | .or => .val True (.d (.v (.int k (bitsI .or k a b))))
  | .xor => .val True (.d (.v (.int k (bitsI .xor k a b))))
  | .andNot => .val True (.d (.v (.int k (bitsI .andNot k a b))))
  | .eql => .val True (.d (.v (.bool (a == b))))
  | .neq => .val True (.d (.v (.bool (a != b))))
  | .lss => .val True (.d (.v (.bool (decide (a < b)))))
  | .leq => .val True (.d (.v (.bool (decide (a ≤ b)))))
  | .gtr => .val True (.d (.v (.bool (decide (a > b)))))
  | .geq => .val True (.d (.v (.bool (decide (a ≥ b)))))
  | _ => .bad

def sop (op : BinOp) (a b : ByteArray) : Out :=
  match op with
  | .add => .val (((a.size + b.size : Nat) : Int) ≤ IntKind.i64.max) (.d (.v (.string (a ++ b))))
  | .eql => .val True (.d (.v (.bool (a.toList == b.toList))))
  | .neq => .val True (.d (.v (.bool (!(a.toList == b.toList)))))
  | _ => .bad

/-- '==' of two rows of plain cells. -/
def eqCells : List D → List D → Option Bool
  | [], [] => some true
  | .v (.int k a) :: xs, .v (.int k' b) :: ys => if k = k' then (eqCells xs ys).map ((a == b) && ·) else none
  | .v (.bool a) :: xs, .v (.bool b) :: ys => (eqCells xs ys).map ((a == b) && ·)
  | .v (.string a) :: xs, .v (.string b) :: ys => (eqCells xs ys).map ((a == b) && ·)
  | _, _ => none

/-- Cells of the kinds of these. -/
def likeZ : List Value → List D → Bool
  | [], [] => true
  | .int k _ :: zs, .v (.int k' _) :: xs => decide (k = k') && likeZ zs xs
  | .bool _ :: zs, .v (.bool _) :: xs => likeZ zs xs
  | .string _ :: zs, .v (.string _) :: xs => likeZ zs xs
  | _, _ => false

def bop (T : Nat → Option TI) (Q : Nat → Bool) (t : Nat) (op : BinOp) (x y : AV) : Out :=
  match x, y with
  | .d (.v (.int k a)), .d (.v (.int k' b)) =>
    match op with
    | .shl => .val (0 ≤ b) (.d (.v (.int k (k.wrap (a * 2 ^ (min b.toNat k.bits))))))
    | .shr => .val (0 ≤ b) (.d (.v (.int k (a.fdiv (2 ^ (min b.toNat k.bits))))))
    | _ => if k = k' then iop op k a b else .bad
  | .d (.v (.string a)), .d (.v (.string b)) => sop op a b
  | .d (.v (.bool a)), .d (.v (.bool b)) =>
    match T t with
    | some ti =>
      match ti.tk with
      | .bool =>
        match op with
        | .eql => .val True (.d (.v (.bool (a == b))))
        | .neq => .val True (.d (.v (.bool (!(a == b)))))
        | _ => .bad
      | _ => .bad
    | none => .bad
  | .d (.ag xs), .d (.ag ys) =>
    match Q t, T t, eqCells xs ys with
    | true, some ti, some c =>
      if likeZ ti.zero xs = true then
        match op with
        | .eql => .val True (.d (.v (.bool c)))
        | .neq => .val True (.d (.v (.bool (!c))))
        | _ => .bad
      else .bad
    | _, _, _ => .bad
  | _, _ => .bad

/-- A part of a struct or an array by value. -/
def apart (ag : Bool) (sz off : Nat) (x : AV) : Out :=
  match x with
  | .d (.ag ds) => if ag then .val (off + sz ≤ ds.length) (.d (.ag ((ds.drop off).take sz))) else
      match ds.drop off with
      | d :: _ => .val True (.d d)
      | [] => .bad
  | .ag cs => if ag then .val (off + sz ≤ cs.length) (mkAg ((cs.drop off).take sz)) else
      match cs.drop off with
      | c :: _ => .val True c
      | [] => .bad
  | _ => .bad

def ald (ti : TI) (h : List HObj) (x : AV) : Out :=
  match x with
  | .rp cs => if ti.ag then .val (ti.size ≤ cs.length) (.d (.ag (cs.take ti.size))) else
      match cs with
      | c :: _ => .val True (.d c)
      | [] => .bad
  | .bp b off =>
    match h[b]? with
    | some (.box _ cs _) => if ti.ag then .val (off + ti.size ≤ cs.length) (mkAg ((cs.drop off).take ti.size)) else
        match cs.drop off with
        | c :: _ => .val True c
        | [] => .bad
    | _ => .bad
  | .ep b k i off =>
    match h[b]? with
    | some (.row k' n f _) => if k = k' then (if ti.ag then .val (i < n ∧ off + ti.size ≤ k) (.d (.ag (((f i).drop off).take ti.size))) else
        match (f i).drop off with
        | c :: _ => .val (i < n) (.d c)
        | [] => .bad) else .bad
    | _ => .bad
  | _ => .bad

def amove (o : Nat) (x : AV) : Out :=
  match x with
  | .rp cs => .val True (.rp (cs.drop o))
  | .bp b off => .val True (.bp b (off + o))
  | .ep b k i off => .val True (.ep b k i (off + o))
  | _ => .bad

def aidx (ti : TI) (x i : AV) : Out :=
  match i with
  | .d (.v (.int _ n)) =>
    match ti.tk with
    | .slice _ =>
      match x with
      | .d (.sl k len f) => if ti.esize = k ∧ k ≠ 0 then .val (0 ≤ n ∧ n < (len : Int)) (.rp (f n.toNat)) else .bad
      | .ow b len k => if ti.esize = k ∧ k ≠ 0 then .val (0 ≤ n ∧ n < (len : Int)) (.ep b k n.toNat 0) else .bad
      | _ => .bad
    | .array len _ => if ti.esize = 0 then .bad else
      match amove (n.toNat * ti.esize) x with
      | .val _ r => .val (0 ≤ n ∧ n < (len : Int)) r
      | _ => .bad
    | _ => .bad
  | _ => .bad

def aindex (ti : TI) (x i : AV) : Out :=
  match i with
  | .d (.v (.int _ n)) =>
    match ti.tk with
    | .string =>
      match x with
      | .d (.v (.string s)) => .val (0 ≤ n ∧ n < (s.size : Int)) (.d (.v (.int .u8 (byteAt s n.toNat))))
      | _ => .bad
    | .array len _ => if ti.esize = 0 then .bad else
      match apart ti.eag ti.esize (n.toNat * ti.esize) x with
      | .val p r => .val (p ∧ 0 ≤ n ∧ n < (len : Int)) r
      | _ => .bad
    | _ => .bad
  | _ => .bad

def intOr (x : Option AV) (n : Int) : Option Int :=
  match x with
  | none => some n
  | some (.d (.v (.int _ m))) => some m
  | _ => none

def aslice (ti : TI) (x : AV) (lo hi : Option AV) : Out :=
  match ti.tk, x with
  | .string, .d (.v (.string s)) =>
    match intOr lo 0, intOr hi s.size with
    | some l, some h => .val (0 ≤ l ∧ l ≤ h ∧ h ≤ (s.size : Int)) (.d (.v (.string (s.extract l.toNat h.toNat))))
    | _, _ => .bad
  | .slice _, .d (.sl k n f) =>
    match intOr lo 0, intOr hi n with
    | some l, some h => if ti.esize = k ∧ k ≠ 0 then .val (0 ≤ l ∧ l ≤ h ∧ h ≤ (n : Int)) (.d (.sl k (h - l).toNat (fun j => f (l.toNat + j)))) else .bad
    | _, _ => .bad
  | _, _ => .bad

/-- Cells written into a row of cells. -/
def wr (cs : List AV) (off : Nat) : List AV → List AV
  | [] => cs
  | x :: l => wr (cs.set off x) (off + 1) l

def fillS (flds : List (Nat × Nat × Bool × Bool)) (cs : List AV) : List (Nat × AV) → Option (List AV)
  | [] => some cs
  | (i, x) :: rest =>
    match flds[i]?, x.cells with
    | some (o, sz, _, _), some xs => if xs.length = sz ∧ o + xs.length ≤ cs.length then fillS flds (wr cs o xs) rest else none
    | _, _ => none

def fillA (k : Nat) (cs : List AV) : List (Nat × AV) → Option (List AV)
  | [] => some cs
  | (i, x) :: rest =>
    match x.cells with
    | some xs => if xs.length = k ∧ i * k + xs.length ≤ cs.length then fillA k (wr cs (i * k) xs) rest else none
    | none => none

def abuild (ti : TI) (parts : List (Nat × AV)) : Out :=
  match ti.tk with
  | .struct =>
    match fillS ti.flds (ti.zero.map fun v => .d (.v v)) parts with
    | some cs => .val (∀ f ∈ ti.flds, f.2.1 ≠ 0) (mkAg cs)
    | none => .bad
  | .array _ _ => if ti.esize = 0 then .bad else
    match fillA ti.esize (ti.zero.map fun v => .d (.v v)) parts with
    | some cs => .val True (mkAg cs)
    | none => .bad
  | _ => .bad

def D.one : D → Bool
  | .ag _ | .tu _ => false
  | _ => true

/-- own: is the slice to be written, or appended to? -/
def abuildSlice (own : Bool) (te : TI) (e len : Nat) (parts : List (Nat × AV)) : Out :=
  if te.size = 0 ∨ len = 0 ∨ len * te.size > 16777216 then .bad else
  match fillA te.size (List.replicate (len * te.size) .junk) parts with
  | some cs =>
    match allD cs with
    | some ds => if own then .row (ds.all D.one = true) te.size len (fun i => (ds.drop (i * te.size)).take te.size) e else .lit (ds.all D.one = true) te.size len (fun i => (ds.drop (i * te.size)).take te.size) e
    | none => .bad
  | none => .bad

def amakeSlice (te : TI) (e : Nat) (l c : AV) : Out :=
  match l, c with
  | .d (.v (.int _ m)), .d (.v (.int _ n)) =>
    if te.size = 0 ∨ te.zero.length ≠ te.size then .bad else .row (m = n ∧ 0 ≤ n ∧ (te.bytes : Int) * n ≤ 281474976710656 ∧ n ≤ 9223372036854775807) te.size n.toNat (fun _ => te.zero.map .v) e
  | _, _ => .bad

def abuiltin (b : Builtin) (ti : Option TI) (args : List AV) : Out :=
  match b, args with
  | .len, [x] =>
    match ti with
    | some ti =>
      match ti.tk, x with
      | .string, .d (.v (.string s)) => .val True (.d (.v (.int .i64 s.size)))
      | .slice _, .d (.sl _ n _) => .val True (.d (.v (.int .i64 n)))
      | .slice _, .d (.v (.slice _ n _)) => .val True (.d (.v (.int .i64 n)))
      | .slice _, .ow _ n _ => .val True (.d (.v (.int .i64 n)))
      | .array n _, _ => .val True (.d (.v (.int .i64 n)))
      | _, _ => .bad
    | none => .bad
  | .min, [.d (.v (.int k a)), .d (.v (.int _ b))] => .val True (.d (.v (.int k (if b < a then b else a))))
  | .max, [.d (.v (.int k a)), .d (.v (.int _ b))] => .val True (.d (.v (.int k (if b > a then b else a))))
  | .min, [.d (.v (.int k a)), .d (.v (.int _ b)), .d (.v (.int _ c))] => .val True (.d (.v (.int k (if c < (if b < a then b else a) then c else (if b < a then b else a)))))
  | .max, [.d (.v (.int k a)), .d (.v (.int _ b)), .d (.v (.int _ c))] => .val True (.d (.v (.int k (if c > (if b > a then b else a) then c else (if b > a then b else a)))))
  | _, _ => .bad

def aun (op : UnOp) (x : AV) : Out :=
  match op, x with
  | .not, .d (.v (.bool b)) => .val True (.d (.v (.bool (!b))))
  | .neg, .d (.v (.int k n)) => .val True (.d (.v (.int k (k.wrap (0 - n)))))
  | _, _ => .bad

def aconv (ts td : Option TI) (x : AV) : Out :=
  match ts, td with
  | some ts, some td =>
    match x with
    | .d (.v (.int _ n)) =>
      match td.tk with
      | .int k => .val True (.d (.v (.int k (k.wrap n))))
      | _ => .bad
    | .d (.v (.string b)) =>
      match ts.tk, td.tk with
      | .string, .string => .val True (.d (.v (.string b)))
      | _, _ => .bad
    | _ => .bad
  | _, _ => .bad

def amki (t : Nat) (ti : Option TI) (x : AV) : Out :=
  match ti, x with
  | some ti, .d y =>
    match ti.tk with
    | .int _ | .string | .struct => .val True (.d (.ic t y))
    | _ => .bad
  | _, _ => .bad

def aextr (i : Nat) (x : AV) : Out :=
  match x with
  | .d (.tu ds) =>
    match ds[i]? with
    | some d => .val True (.d d)
    | none => .bad
  | .tu cs =>
    match cs[i]? with
    | some c => .val True c
    | none => .bad
  | _ => .bad

mutual
/-- A value that is data through and through. -/
def AV.toD : AV → Option D
  | .d x => some x
  | .ag cs => (toDs cs).map .ag
  | _ => none
def toDs : List AV → Option (List D)
  | [] => some []
  | x :: l =>
    match x.toD, toDs l with
    | some y, some ys => some (y :: ys)
    | _, _ => none
end

/-! ### maps -/
def plainVs : List D → Option (List Value)
  | [] => some []
  | .v x :: l => (plainVs l).map (x :: ·)
  | _ :: _ => none

/-- A key's cells. -/
def keyC (ag : Bool) (x : AV) : Option (List Value) :=
  match x with
  | .d (.ag ds) => bif ag then plainVs ds else none
  | .d (.v v) => bif ag then none else some [v]
  | _ => none

/-- The zero value. -/
def zD (ti : TI) : Option D :=
  bif ti.ag then some (.ag (ti.zero.map .v)) else
    match ti.zero with
    | [z] => some (.v z)
    | _ => none

def plainTK : TK → List Value → Bool
  | .int k, [.int k' _] => decide (k = k')
  | .bool, [.bool _] => true
  | .string, [.string _] => true
  | _, _ => false

/-- The same zero cells. -/
def sameZ : List Value → List Value → Bool
  | [], [] => true
  | .int k a :: x, .int k' b :: y => decide (k = k') && decide (a = b) && sameZ x y
  | .bool a :: x, .bool b :: y => (a == b) && sameZ x y
  | .string a :: x, .string b :: y => decide (a = b) && sameZ x y
  | .slice none 0 0 :: x, .slice none 0 0 :: y => sameZ x y
  | .nilFunc :: x, .nilFunc :: y => sameZ x y
  | .nilIface :: x, .nilIface :: y => sameZ x y
  | _, _ => false

/-- May this key be asked for? -/
def keyOK (T : Nat → Option TI) (Q : Nat → Bool) (t : Nat) (zc : List Value) (za : Bool) (zs : List Value) (ag : Bool) (K : List Value) : Bool :=
  match T t with
  | some ti =>
    match ti.tk with
    | .map kt el =>
      match T kt, T el with
      | some tk, some te => likeV tk.zero zs && likeV zs K && (tk.ag == ag) && (bif ag then Q kt else plainTK tk.tk zs) && (te.ag == za) && sameZ te.zero zc
      | _, _ => false
    | _ => false
  | none => false

def amake (T : Nat → Option TI) (t : Nat) : Out :=
  match T t with
  | some ti =>
    match ti.tk with
    | .map k e =>
      match T k, T e with
      | some tk, some te =>
        match zD te with
        | some z => .mk z te.zero te.ag tk.zero tk.ag
        | none => .bad
      | _, _ => .bad
    | _ => .bad
  | none => .bad

def alook (T : Nat → Option TI) (Q : Nat → Bool) (h : List HObj) (t : Nat) (m k : AV) (ok : Bool) : Out :=
  match m with
  | .mv b =>
    match h[b]? with
    | some (.mp zc za val has ps zs ag) =>
      match keyC ag k with
      | some K => bif keyOK T Q t zc za zs ag K then
          bif ok then
            match ps with
            | [] => .val True (.d (.tu [val K, .v (.bool (has K))]))
            | _ => .bad
          else .val True (.d (val K))
        else .bad
      | none => .bad
    | _ => .bad
  | _ => .bad

def aent (T : Nat → Option TI) (Q : Nat → Bool) (h : List HObj) (t : Nat) (m k : AV) : Out :=
  match m with
  | .mv b =>
    match h[b]? with
    | some (.mp zc za val has ps zs ag) =>
      match keyC ag k with
      | some K => bif keyOK T Q t zc za zs ag K then .ent (has K = false → K ∈ ps) (val K) b K (.mp zc za val has ps zs ag) else .bad
      | none => .bad
    | _ => .bad
  | _ => .bad

/-- Does an operation look at a map? -/
def mapRd : Op → Bool
  | .lookup _ _ _ _ | .mapEntry _ _ _ => true
  | _ => false

def pop (T : Nat → Option TI) (Q O : Nat → Bool) (h : List HObj) (e : Operand → AV) (op : Op) : Out :=
  match op with
  | .move x | .assign x => .val True (e x)
  | .alloc t =>
    match T t with
    | some ti => .box True (ti.zero.map fun v => .d (.v v)) t
    | none => .bad
  | .box t x =>
    match (e x).cells with
    | some cs => .box True cs t
    | none => .bad
  | .load t a =>
    match T t with
    | some ti => ald ti h (e a)
    | none => .bad
  | .fieldAddr s x f =>
    match T s with
    | some ti =>
      match ti.tk, ti.flds[f]? with
      | .struct, some (o, sz, _, _) => if sz = 0 then .bad else amove o (e x)
      | _, _ => .bad
    | none => .bad
  | .field s x f =>
    match T s with
    | some ti =>
      match ti.tk, ti.flds[f]? with
      | .struct, some (o, sz, ag, _) => if sz = 0 then .bad else apart ag sz o (e x)
      | _, _ => .bad
    | none => .bad
  | .indexAddr t x i =>
    match T t with
    | some ti => aidx ti (e x) (e i)
    | none => .bad
  | .index t x i =>
    match T t with
    | some ti => aindex ti (e x) (e i)
    | none => .bad
  | .slice t x lo hi mx =>
    match mx, T t with
    | none, some ti => aslice ti (e x) (lo.map e) (hi.map e)
    | _, _ => .bad
  | .binOp op t x y _ => bop T Q t op (e x) (e y)
  | .unOp op _ x =>
    aun op (e x)
  | .convert s d x =>
    aconv (T s) (T d) (e x)
  | .makeInterface t x =>
    amki t (T t) (e x)
  | .makeFunc fn first cap => .val True (.fn fn (first.toList.map e) (cap.toList.map e))
  | .extract t i =>
    aextr i (e t)
  | .build t parts =>
    match T t with
    | some ti => abuild ti (parts.toList.map fun p => (p.1, e p.2))
    | none => .bad
  | .buildSlice t len parts =>
    match T t with
    | some ti =>
      match ti.tk with
      | .slice el =>
        match T el with
        | some te => abuildSlice (O t) te el len (parts.toList.map fun p => (p.1, e p.2))
        | none => .bad
      | _ => .bad
    | none => .bad
  | .makeSlice t l c =>
    match T t with
    | some ti =>
      match ti.tk with
      | .slice el =>
        match T el with
        | some te => amakeSlice te el (e l) (e c)
        | none => .bad
      | _ => .bad
    | none => .bad
  | .makeMap t none => amake T t
  | .lookup t m k ok => alook T Q h t (e m) (e k) ok
  | .mapEntry t m k => aent T Q h t (e m) (e k)
  | .call c =>
    match c.callee with
    | .builtin b => abuiltin b ((c.argTypes[0]?).bind T) (c.args.toList.map e)
    | .value (.func f) =>
      match toDs (c.args.toList.map e) with
      | some ds => .call f ds
      | none => .bad
    | _ => .bad
  | _ => .bad

end Go.Jo
