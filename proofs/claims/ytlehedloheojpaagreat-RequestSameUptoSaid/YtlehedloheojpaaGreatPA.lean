/- The engine, first half: data, values, an abstract evaluator and its soundness. Conditions: none. -/
import Derived.Calls
import Derived.Orders
import Derived.Scope
import Derived.ArgAppend
import Derived.WalkKit
import Derived.Laws.BytesString
import Derived.Laws.Cover3
import Derived.Laws.Tables
import Derived.Laws.Concat
import Derived.Laws.StructEq
import Derived.Lib.ConvBytes
import Derived.Laws.BytesArg
set_option linter.unusedVariables false
set_option linter.unusedSimpArgs false
namespace Go.Eng
inductive D where
  | lit (v : Value)
  | str (s : List UInt8)
  | agg (l : List D)
  | sl (l : List D)
inductive AV where
  | d (x : D)
  | snil
  | full (l : List D)
  | ptr (loc ep idx off : Nat)
  | sref (loc ep es off len : Nat)
  | eptr (x : D) (off : Nat)
  | tptr (t n loc off : Nat)
  | tsref (t loc ep es len : Nat)
  | fn (f : FuncId) (cap : List AV)
  | agg (l : List AV)
  | tup (l : List AV)
  | undef
structure Blk where
  es : Nat
  elems : List AV
  row : Bool
  shut : Bool
  virt : Bool
abbrev Store := List Blk
structure S where
  t : List (Nat × AV)
  st : Store
inductive TK where
  | int (k : IntKind) | bool | str | slice (e : TypeId) | struct (fs : Option (List (Nat × Nat))) | arr (n : Nat) (e : TypeId) | ptr | fn | other
structure TI where
  k : TK
  size : Nat
  bytes : Nat
  zero : Option Value
def kOf (P : Program) : TypeDesc → TK
  | .int k => .int k
  | .bool => .bool
  | .string => .str
  | .slice e => .slice e
  | .struct fs => .struct (fs.toList.mapM fun f => (P.info? f.type).map fun i => (f.offset, i.size))
  | .array n e => .arr n e
  | .pointer _ => .ptr
  | .func .. => .fn
  | _ => .other
def tiOf (P : Program) (t : TypeId) : Option TI :=
  match P.info? t, P.underlying t with
  | some i, some d => some ⟨kOf P d, i.size, i.bytes, i.zero⟩
  | _, _ => none
def TI.agg (i : TI) : Bool := match i.k with | .struct _ | .arr _ _ => true | _ => false
structure Ann where
  keep : List (Nat × List Nat) := []      -- by the region's number: temporaries that live on behind it
  loops : List (Nat × List Nat) := []     -- by the first region's number of the body: temporaries that live at the head
  virt : List Nat := []                   -- destinations whose nil slices are rows to come
  wr : List Nat := []                     -- destinations whose new rows may be written
  ty : List Nat := []                     -- new variables whose type is kept with their address
  dyn : List (Nat × Nat) := []            -- drawn regions whose operations from a place on may come in any order, being apart
  late : List (Nat × List (Nat × Nat)) := []  -- drawn regions' loads that may come behind stores elsewhere: (load, store)
structure Ctx where
  P : Program
  use : FuncId → Bool
  pure : FuncId → Bool
  prim : FuncId → Option (List AV → Store → Option (AV × Store))
  ann : FuncId → Ann
def look : List (Nat × AV) → Nat → AV
  | [], _ => .undef
  | (j, v) :: r, k => bif j == k then v else look r k
def upd : List (Nat × AV) → Nat → AV → List (Nat × AV)
  | [], k, v => [(k, v)]
  | (j, u) :: r, k, v => bif j == k then (k, v) :: r else (j, u) :: upd r k v
def assoc : List (Nat × List Nat) → Nat → Option (List Nat)
  | [], _ => none
  | (j, v) :: r, k => bif j == k then some v else assoc r k
def memN : List Nat → Nat → Bool
  | [], _ => false
  | j :: r, k => j == k || memN r k
def keepT (ks : List Nat) : List (Nat × AV) → List (Nat × AV)
  | [] => []
  | (j, v) :: r => bif memN ks j then (j, v) :: keepT ks r else keepT ks r
def constAV1 : Value → AV
  | .string s => .d (.str s.data.toList)
  | .slice none 0 0 => .snil
  | .agg _ => .undef
  | .tuple _ => .undef
  | v => .d (.lit v)
def cellV : Value → Bool
  | .agg _ => false
  | .tuple _ => false
  | _ => true
def allCell : List Value → Bool
  | [] => true
  | v :: r => cellV v && allCell r
def constAV : Value → AV
  | .agg cs => bif allCell cs.toList then .agg (cs.toList.map constAV1) else .undef
  | v => constAV1 v
def opv (t : List (Nat × AV)) : Operand → AV
  | .tmp k => look t k
  | .const v => constAV v
  | .func f => .fn f []
  | .global _ => .undef
def AV.cells : AV → List AV
  | .d (.agg l) => l.map .d
  | .agg l => l
  | .tup _ => []
  | .undef => []
  | v => [v]
def AV.isAgg : AV → Bool
  | .d (.agg _) => true
  | .agg _ => true
  | _ => false
def part (agg : Bool) (size off : Nat) (v : AV) : Option AV :=
  bif agg then
    match v with
    | .d (.agg l) => bif off == 0 && l.length == size then some v else bif Nat.ble (off + size) l.length then some (.d (.agg ((l.drop off).take size))) else none
    | .agg l => bif off == 0 && l.length == size then some v else bif Nat.ble (off + size) l.length then some (.agg ((l.drop off).take size)) else none
    | _ => none
  else v.cells[off]?
def setPart (off : Nat) (new v : AV) : Option AV :=
  bif v.isAgg then
    bif new.isAgg && (off == 0 && new.cells.length == v.cells.length) then some new
    else bif Nat.ble (off + new.cells.length) v.cells.length then some (.agg (v.cells.take off ++ (new.cells ++ v.cells.drop (off + new.cells.length)))) else none
  else bif off == 0 && !new.isAgg && v.cells.length == 1 then some new else none
def getBlk (st : Store) (loc ep : Nat) : Option Blk :=
  match st[loc]? with
  | some b => bif b.elems.length == ep then some b else none
  | none => none
def fzAll (f : AV → Option D) : List AV → Option (List D)
  | [] => some []
  | a :: r => match f a, fzAll f r with
    | some x, some l => some (x :: l)
    | _, _ => none
def fz (brw : Bool) (st : Store) : Nat → AV → Option D
  | 0, _ => none
  | n + 1, v => match v with
    | .d x => some x
    | .snil => some (.sl [])
    | .full l => some (.sl l)
    | .fn f [] => some (.lit (.func (.func f) #[] #[]))
    | .agg l => (fzAll (fz brw st n) l).map .agg
    | .sref loc ep _ off len => (getBlk st loc ep).bind fun b =>
        bif b.row && (brw || b.shut) && Nat.ble (off + len) b.elems.length then (fzAll (fz brw st n) ((b.elems.drop off).take len)).map .sl else none
    | _ => none
def fzE (st : Store) (v : AV) : AV :=
  match fz false st 6 v with
  | some x => .d x
  | none => v
-- holds data no slice?
mutual
def D.flat : D → Bool
  | .lit _ => true
  | .str _ => true
  | .agg l => D.flats l
  | .sl _ => false
def D.flats : List D → Bool
  | [] => true
  | x :: r => x.flat && D.flats r
end
mutual
def AV.under1 (n : Nat) : AV → Bool
  | .ptr loc _ _ _ => Nat.blt loc n
  | .tptr _ _ loc _ => Nat.blt loc n
  | .tsref _ loc _ _ _ => Nat.blt loc n
  | .sref loc _ _ _ _ => Nat.blt loc n
  | .fn _ l => AV.under1s n l
  | .agg l => AV.under1s n l
  | .tup l => AV.under1s n l
  | _ => true
def AV.under1s (n : Nat) : List AV → Bool
  | [] => true
  | x :: r => x.under1 n && AV.under1s n r
end
def belowT (n : Nat) : List (Nat × AV) → Bool
  | [] => true
  | (_, v) :: r => v.under1 n && belowT n r
def belowB (n : Nat) : Store → Bool
  | [] => true
  | b :: r => AV.under1s n b.elems && belowB n r
def trimS (n0 : Nat) (s : S) : S :=
  bif belowT n0 s.t && belowB n0 (s.st.take n0) then ⟨s.t, s.st.take n0⟩ else s
def asI : AV → Option Int
  | .d (.lit (.int _ n)) => some n
  | _ => none
def asB : AV → Option Bool
  | .d (.lit (.bool b)) => some b
  | _ => none
abbrev R := Option (AV × Store)
def val (st : Store) (v : Option AV) : R := v.map fun v => (v, st)
def virtCells (sh : Bool) (n : Nat) : List AV → List AV × List Blk
  | [] => ([], [])
  | .snil :: r => let (cs, bs) := virtCells sh (n + 1) r; (.sref n 0 0 0 0 :: cs, ⟨0, [], true, sh, true⟩ :: bs)
  | v :: r => let (cs, bs) := virtCells sh n r; (v :: cs, bs)
def virtAV (sh : Bool) (n : Nat) (v : AV) : AV × List Blk :=
  match v with
  | .agg l => let (cs, bs) := virtCells sh n l; (.agg cs, bs)
  | .snil => (.sref n 0 0 0 0, [⟨0, [], true, sh, true⟩])
  | v => (v, [])
def newVarV (st : Store) (size : Nat) (vi sh : Bool) (v : AV) : R :=
  bif vi then
    let (v', bs) := virtAV sh (st.length + 1) v
    some (.ptr st.length 1 0 0, st ++ (⟨size, [v'], false, false, false⟩ :: bs))
  else some (.ptr st.length 1 0 0, st ++ [⟨size, [v], false, false, false⟩])
def tagR (t n loc : Nat) (r : R) : R := r.map fun p => (.tptr t n loc 0, p.2)
def newRowV (st : Store) (size : Nat) (wr : Bool) (l : List AV) : R :=
  some (.sref st.length l.length size 0 l.length, st ++ [⟨size, l, true, !wr, false⟩])
def AV.unt : AV → AV
  | .tptr _ _ loc off => .ptr loc 1 0 off
  | .tsref _ loc ep es len => .sref loc ep es 0 len
  | v => v
def ldPtr0 (st : Store) (i : TI) : AV → Option AV
  | .ptr loc ep idx off => (getBlk st loc ep).bind fun b => (b.elems[idx]?).bind fun e => part i.agg i.size off e
  | .eptr x off => part i.agg i.size off (.d x)
  | _ => none
def ldPtr (st : Store) (i : TI) (p : AV) : Option AV := ldPtr0 st i p.unt
def stPtr0 (st : Store) (i : TI) (p v : AV) : R :=
  match p with
  | .ptr loc ep idx off => (getBlk st loc ep).bind fun b =>
      bif b.shut || !(v.cells.length == i.size && !(i.size == 0)) then none else
      (b.elems[idx]?).bind fun e => (setPart off v e).map fun e' => (.tup [], st.set loc { b with elems := b.elems.set idx e' })
  | _ => none
def stPtr (st : Store) (i : TI) (p v : AV) : R := stPtr0 st i p.unt v
def nilOk (x : AV) : Option AV :=
  match x with
  | .tptr .. => some x
  | .ptr .. => some x
  | .eptr .. => some x
  | .fn .. => some x
  | _ => none
def fieldP (i : TI) (f : Nat) (p : AV) : Option AV :=
  match i.k with
  | .struct (some fs) => (fs[f]?).bind fun (o, sz) => bif sz == 0 then none else
    match p with
    | .ptr loc ep idx off => some (.ptr loc ep idx (off + o))
    | .eptr x off => some (.eptr x (off + o))
    | .tptr t n loc off => some (.tptr t n loc (off + o))
    | _ => none
  | _ => none
def idxI (i : Int) (n : Nat) : Option Nat := if 0 ≤ i then (bif Nat.blt i.toNat n then some i.toNat else none) else none
def indexP (P : Program) (i : TI) (x : AV) (ix : Int) : Option AV :=
  match i.k with
  | .slice e => (tiOf P e).bind fun ei => match x with
    | .sref loc ep es off len => bif es == ei.size then (idxI ix len).map fun k => .ptr loc ep (off + k) 0 else none
    | .d (.sl l) => (idxI ix l.length).bind fun k => (l[k]?).bind fun e => bif (AV.d e).cells.length == ei.size then some (.eptr e 0) else none
    | .full l => (idxI ix l.length).bind fun k => (l[k]?).bind fun e => bif (AV.d e).cells.length == ei.size then some (.eptr e 0) else none
    | _ => none
  | .arr n e => (tiOf P e).bind fun ei => bif ei.size == 0 then none else (idxI ix n).bind fun k => match x with
    | .ptr loc ep idx off => some (.ptr loc ep idx (off + k * ei.size))
    | .eptr x off => some (.eptr x (off + k * ei.size))
    | _ => none
  | _ => none
def indexV (i : TI) (x : AV) (ix : Int) : Option AV :=
  match i.k with
  | .str => match x with
    | .d (.str s) => (idxI ix s.length).bind fun k => (s[k]?).map fun c => .d (.lit (.int .u8 c.toNat))
    | _ => none
  | _ => none
def binI (op : BinOp) (k : IntKind) (a b : Int) : Option D :=
  match op with
  | .add => some (.lit (.int k (k.wrap (a + b))))
  | .sub => some (.lit (.int k (k.wrap (a - b))))
  | .mul => some (.lit (.int k (k.wrap (a * b))))
  | .quo => if b = 0 then none else some (.lit (.int k (k.wrap (a.tdiv b))))
  | .rem => if b = 0 then none else some (.lit (.int k (a.tmod b)))
  | .and => some (.lit (.int k (k.wrap (BitVec.ofInt k.bits a &&& BitVec.ofInt k.bits b).toNat)))
  | .or => some (.lit (.int k (k.wrap (BitVec.ofInt k.bits a ||| BitVec.ofInt k.bits b).toNat)))
  | .xor => some (.lit (.int k (k.wrap (BitVec.ofInt k.bits a ^^^ BitVec.ofInt k.bits b).toNat)))
  | .andNot => some (.lit (.int k (k.wrap (BitVec.ofInt k.bits a &&& ~~~ BitVec.ofInt k.bits b).toNat)))
  | .eql => some (.lit (.bool (a == b)))
  | .neq => some (.lit (.bool (a != b)))
  | .lss => some (.lit (.bool (decide (a < b))))
  | .leq => some (.lit (.bool (decide (a ≤ b))))
  | .gtr => some (.lit (.bool (decide (a > b))))
  | .geq => some (.lit (.bool (decide (a ≥ b))))
  | _ => none
def shiftI (op : BinOp) (k : IntKind) (a b : Int) : Option D :=
  if b < 0 then none else
  match op with
  | .shl => some (.lit (.int k (k.wrap (a * 2 ^ (min b.toNat k.bits)))))
  | .shr => some (.lit (.int k (a.fdiv (2 ^ (min b.toNat k.bits)))))
  | _ => none
def strMost : Nat := 2 ^ 60
def binS (op : BinOp) (a b : List UInt8) : Option D :=
  match op with
  | .add => bif Nat.ble (a.length + b.length) strMost then some (.str (a ++ b)) else none
  | .eql => some (.lit (.bool (a == b)))
  | .neq => some (.lit (.bool (!(a == b))))
  | .lss => some (.lit (.bool (Op.bytesLess a b)))
  | .leq => some (.lit (.bool (Op.bytesLess a b || a == b)))
  | .gtr => some (.lit (.bool (!(Op.bytesLess a b || a == b))))
  | .geq => some (.lit (.bool (!(Op.bytesLess a b))))
  | _ => none
def binB (op : BinOp) (a b : Bool) : Option D :=
  match op with
  | .eql => some (.lit (.bool (a == b)))
  | .neq => some (.lit (.bool (!(a == b))))
  | _ => none
def isNilS (st : Store) : AV → Option Bool
  | .snil => some true
  | .full (_ :: _) => some false
  | .d (.sl (_ :: _)) => some false
  | .sref loc ep _ _ _ => (getBlk st loc ep).map (·.virt)
  | _ => none
def isNilP : AV → Option Bool
  | .tptr .. => some false
  | .ptr .. => some false
  | .eptr .. => some false
  | .d (.lit (.pointer none)) => some true
  | _ => none
def isNilF : AV → Option Bool
  | .fn .. => some false
  | .d (.lit .nilFunc) => some true
  | _ => none
def isNil (st : Store) (k : TK) (x : AV) : Option Bool :=
  match k with
  | .slice _ => isNilS st x
  | .ptr => isNilP x
  | .fn => isNilF x
  | _ => none
def isNilLit (k : TK) (y : AV) : Bool :=
  match k with
  | .slice _ => (match y with | .snil => true | _ => false)
  | .ptr => (match y with | .d (.lit (.pointer none)) => true | _ => false)
  | .fn => (match y with | .d (.lit .nilFunc) => true | _ => false)
  | _ => false
def tkOf (P : Program) (t : TypeId) : TK := match tiOf P t with | some i => i.k | none => .other
def nilV (k : TK) (op : BinOp) (st : Store) (x y : AV) : Option AV :=
  bif isNilLit k y then (match op with
    | .eql => (isNil st k x).map fun b => .d (.lit (.bool b))
    | .neq => (isNil st k x).map fun b => .d (.lit (.bool (!b)))
    | _ => none)
  else none
def strs2 : AV → Option (List UInt8 × List UInt8)
  | .d (.agg [.str a, .str b]) => some (a, b)
  | .agg [.d (.str a), .d (.str b)] => some (a, b)
  | _ => none
def pair2 (P : Program) (t : TypeId) : Bool :=
  match P.underlying t with
  | some (.struct fs) => (match fs.toList with
    | [f, g] => f.name != "_" && g.name != "_" && f.offset == 0 && g.offset == 1 && (match tkOf P f.type, tkOf P g.type with | .str, .str => true | _, _ => false) && !(P.stoodInHeld t) && !(P.eqGuardType P.depth t)
    | _ => false)
  | _ => false
def binV (P : Program) (t : TypeId) (op : BinOp) (st : Store) (x y : AV) : Option AV :=
  match x, y with
  | .d (.lit (.int k a)), .d (.lit (.int k' b)) =>
    match op with
    | .shl => (shiftI .shl k a b).map .d
    | .shr => (shiftI .shr k a b).map .d
    | op => if k = k' then (binI op k a b).map .d else none
  | .d (.str a), .d (.str b) => (binS op a b).map .d
  | .d (.lit (.bool a)), .d (.lit (.bool b)) => (match tkOf P t with | .bool => (binB op a b).map .d | _ => none)
  | x, y => match strs2 y, strs2 x with
    | some (c, d), some (a, b) => bif pair2 P t then (match op with
      | .eql => some (.d (.lit (.bool (a == c && b == d))))
      | .neq => some (.d (.lit (.bool (!(a == c && b == d)))))
      | _ => none) else none
    | _, _ => nilV (tkOf P t) op st x y
def unV (op : UnOp) (x : AV) : Option AV :=
  match op, x with
  | .not, .d (.lit (.bool b)) => some (.d (.lit (.bool (!b))))
  | .neg, .d (.lit (.int k n)) => some (.d (.lit (.int k (k.wrap (0 - n)))))
  | .xor, .d (.lit (.int k n)) => some (.d (.lit (.int k (k.wrap (BitVec.ofInt k.bits (if k.signed then -1 else k.max) ^^^ BitVec.ofInt k.bits n).toNat))))
  | _, _ => none
def elemsOf (st : Store) : AV → Option (List AV)
  | .snil => some []
  | .full l => some (l.map .d)
  | .d (.sl l) => some (l.map .d)
  | .d (.str s) => some (s.map fun c => .d (.lit (.int .u8 c.toNat)))
  | .sref loc ep _ off len => (getBlk st loc ep).bind fun b => bif Nat.ble (off + len) b.elems.length then some ((b.elems.drop off).take len) else none
  | _ => none
def sliceMost : Nat := 2 ^ 30
def fitL (n : Nat) : List AV → Bool
  | [] => true
  | x :: r => x.cells.length == n && fitL n r
def zeroOk (ei : TI) : Bool :=
  match ei.zero with
  | some z => z.cells.size == ei.size
  | none => false
def appV (st : Store) (ei : TI) (wr : Bool) (base x : AV) : R :=
  (elemsOf st x).bind fun xs =>
  bif ei.size == 0 || Nat.blt 16384 ei.bytes || !(fitL ei.size xs && zeroOk ei) then none else
  match base with
  | .snil => bif xs.isEmpty then some (base, st) else bif Nat.blt sliceMost xs.length then none else newRowV st ei.size wr (xs.map (fzE st))
  | .full l => bif xs.isEmpty then some (base, st) else bif Nat.blt sliceMost (l.length + xs.length) || !(fitL ei.size (l.map .d)) then none else newRowV st ei.size wr (l.map .d ++ xs.map (fzE st))
  | .d (.sl _) => bif xs.isEmpty then some (base, st) else none
  | .sref loc ep _ 0 len => (getBlk st loc ep).bind fun b =>
      bif b.row && b.elems.length == len && (b.virt || b.es == ei.size) && !(Nat.blt sliceMost (len + xs.length)) then
        some (.sref loc (len + xs.length) ei.size 0 (len + xs.length), st.set loc { es := ei.size, elems := b.elems ++ xs.map (fzE st), row := true, shut := b.shut, virt := b.virt && xs.isEmpty })
      else none
  | _ => none
def lenV : AV → Option Nat
  | .snil => some 0
  | .full l => some l.length
  | .d (.sl l) => some l.length
  | .d (.str s) => some s.length
  | .sref _ _ _ _ len => some len
  | _ => none
def intD (n : Int) : AV := .d (.lit (.int .i64 n))
def bnd (d : Nat) : Option AV → Option Nat
  | none => some d
  | some v => (asI v).bind fun n => if 0 ≤ n then some n.toNat else none
def sliceV (P : Program) (st : Store) (i : TI) (x : AV) (lo hi mx : Option AV) : Option AV :=
  match i.k with
  | .str => match x, mx with
    | .d (.str s), none => (bnd 0 lo).bind fun l => (bnd s.length hi).bind fun h => bif Nat.ble l h && Nat.ble h s.length then some (.d (.str ((s.drop l).take (h - l)))) else none
    | _, _ => none
  | .slice e => (tiOf P e).bind fun ei => (lenV x).bind fun n => (bnd 0 lo).bind fun l => (bnd n hi).bind fun h => (bnd h mx).bind fun m =>
      bif Nat.ble l h && Nat.ble h n && m == h && (hi.isSome || mx.isNone) && !(ei.size == 0) then
        (bif mx.isNone then (match x with
          | .sref loc ep es off _ => bif es == ei.size then (bif l == h then some (.d (.sl [])) else some (.sref loc ep es (off + l) (h - l))) else none
          | .d (.sl v) => bif l == 0 || fitL ei.size (v.map .d) then some (.d (.sl ((v.drop l).take (h - l)))) else none
          | .full v => bif l == 0 || fitL ei.size (v.map .d) then (bif h == n then some (.full ((v.drop l).take (h - l))) else some (.d (.sl ((v.drop l).take (h - l))))) else none
          | .snil => some .snil
          | _ => none)
        else (match x with
          | .d (.sl v) => bif l == 0 || fitL ei.size (v.map .d) then some (.full ((v.drop l).take (h - l))) else none
          | .full v => bif l == 0 || fitL ei.size (v.map .d) then some (.full ((v.drop l).take (h - l))) else none
          | .snil => some .snil
          | .sref loc ep es off _ => bif es == ei.size then (bif l == h then some (.full []) else match fz false st 6 (.sref loc ep es (off + l) (h - l)) with
            | some (.sl v) => some (.full v)
            | _ => none) else none
          | _ => none))
      else none
  | _ => none
def bytesOf : List AV → Option (List UInt8)
  | [] => some []
  | .d (.lit (.int .u8 n)) :: r => (bytesOf r).map (UInt8.ofNat n.toNat :: ·)
  | _ => none
def convV (P : Program) (src dst : TypeId) (wr : Bool) (st : Store) (x : AV) : R :=
  match tiOf P src, tiOf P dst with
  | some si, some di =>
    match di.k, x with
    | .int k, .d (.lit (.int _ n)) => val st (some (.d (.lit (.int k (k.wrap n)))))
    | .str, .d (.str s) => val st (some (.d (.str s)))
    | .slice e, .d (.str s) => (match tiOf P e with
      | some ⟨.int .u8, _, _, _⟩ => bif Nat.ble s.length sliceMost then newRowV st 1 wr (s.map fun c => .d (.lit (.int .u8 c.toNat))) else none
      | _ => none)
    | .str, x => (match si.k with
      | .slice e => (match tiOf P e with
        | some ⟨.int .u8, _, _, _⟩ => (elemsOf st x).bind fun l => val st ((bytesOf l).map fun s => .d (.str s))
        | _ => none)
      | _ => none)
    | _, _ => none
  | _, _ => none
def pickV (c : Bool) (x y : AV) : AV :=
  match x, y with
  | .d (.lit (.bool p)), .d (.lit (.bool q)) => .d (.lit (.bool (bif c then p else q)))
  | .d (.lit (.int k p)), .d (.lit (.int k' q)) => if k = k' then .d (.lit (.int k (bif c then p else q))) else bif c then x else y
  | .d (.str p), .d (.str q) => .d (.str (bif c then p else q))
  | x, y => bif c then x else y
def fillL : List (Nat × AV) → List AV → Option (List AV)
  | [], l => some l
  | (i, v) :: r, l => bif Nat.blt i l.length then fillL r (l.set i v) else none
def buildV (i : TI) (parts : List (Nat × AV)) : Option AV :=
  match i.k, i.zero with
  | .struct (some fs), some z => bif (constAV z).cells.length == i.size && !(i.size == 0) then buildS fs (constAV z) parts else none
  | _, _ => none
where
  buildS (fs : List (Nat × Nat)) (z : AV) : List (Nat × AV) → Option AV
    | [] => some (.agg z.cells)
    | (f, v) :: r => (fs[f]?).bind fun (o, sz) =>
        bif v.cells.length == sz && Nat.ble (o + sz) z.cells.length && !(sz == 0) then
          buildS fs (.agg (z.cells.take o ++ (v.cells ++ z.cells.drop (o + sz)))) r
        else none
def buildSl (P : Program) (t : TypeId) (len : Nat) (row wr : Bool) (parts : List (Nat × AV)) (st : Store) : R :=
  match tiOf P t with
  | some ⟨.slice e, _, _, _⟩ => (match tiOf P e with
    | some ei => (match ei.zero with
      | some z => bif ei.size == 0 || Nat.blt 1000 len || Nat.blt 1000 ei.size || !(fitL ei.size (parts.map (·.2))) || !((constAV z).cells.length == ei.size) then none else
        (fillL parts (List.replicate len (constAV z))).bind fun l =>
        match (bif row then none else fzAll (fz false st 6) l) with
        | some ds => some (.full ds, st)
        | none => newRowV st ei.size wr (l.map (fzE st))
      | none => none)
    | none => none)
  | _ => none
def max2V (mn : Bool) (a y : AV) : Option AV :=
  match a, y with
  | .d (.lit (.int k p)), .d (.lit (.int _ q)) => some (.d (.lit (.int k (if mn then (if q < p then q else p) else (if q > p then q else p)))))
  | _, _ => none
def maxF (mn : Bool) : AV → List AV → Option AV
  | x, [] => some x
  | x, y :: r => (max2V mn x y).bind fun z => maxF mn z r
def maxL (mn : Bool) : List AV → Option AV
  | [] => none
  | x :: r => maxF mn x r
inductive PV where
  | d (x : D)
  | own (es : Nat) (l : List AV) (shut : Bool)
  | full (l : List D)
  | snil
inductive PR where
  | one (v : PV)
  | tup (v : PV) (r : List D)
  | unit
def pv1 (st : Store) : AV → Option PV
  | .snil => some .snil
  | .full l => some (.full l)
  | .sref loc ep _ 0 len => (getBlk st loc ep).bind fun b =>
      bif !b.row || !(b.elems.length == len) then none else
      bif b.virt then some .snil else (fzAll (fz b.shut st 6) b.elems).map fun l => .own b.es (l.map .d) b.shut
  | v => (fz true st 6 v).map .d
def prOf (r : AV × Store) : Option PR :=
  match r.1 with
  | .tup [] => some .unit
  | .tup (a :: l) => (pv1 r.2 a).bind fun v => (fzAll (fz true r.2 6) l).map fun l => .tup v l
  | a => (pv1 r.2 a).map .one
def PV.flat : PV → Bool
  | .d x => x.flat
  | .snil => true
  | _ => false
def PR.flat : PR → Bool
  | .unit => true
  | .one v => v.flat
  | .tup v l => v.flat && D.flats l
def pvIn (wr lone : Bool) (st : Store) : PV → AV × Store
  | .d x => (.d x, st)
  | .own es l shut => (.sref st.length l.length es 0 l.length, st ++ [⟨es, l, true, shut || !(wr && lone), false⟩])
  | .full l => (.full l, st)
  | .snil => (.snil, st)
def prIn (wr : Bool) (st : Store) : PR → AV × Store
  | .unit => (.tup [], st)
  | .one v => pvIn wr true st v
  | .tup v l => let (a, st') := pvIn wr false st v; (.tup (a :: l.map .d), st')
abbrev Call := FuncId → List AV → Store → R
def pureCall (call : Call) (f : FuncId) (ds : List D) : Option PR := (call f (ds.map .d) []).bind prOf
def trimR (n0 : Nat) (r : AV × Store) : AV × Store :=
  bif r.1.under1 n0 && belowB n0 (r.2.take n0) then (r.1, r.2.take n0) else r
def callV (X : Ctx) (call : Call) (wr : Bool) (f : FuncId) (args : List AV) (st : Store) : R :=
  match X.prim f with
  | some p => p args st
  | none =>
    bif X.pure f then
      match fzAll (fz false st 6) args with
      | some ds => (pureCall call f ds).map (prIn wr st)
      | none => (fzAll (fz true st 6) args).bind fun ds => (pureCall call f ds).bind fun r => bif r.flat then some (prIn wr st r) else none
    else (call f args st).map (trimR st.length)
def targetOf : AV → Option (FuncId × List AV)
  | .fn f cap => some (f, cap)
  | .d (.lit (.func (.func f) ⟨[]⟩ ⟨[]⟩)) => some (f, [])
  | _ => none
def elemTI (P : Program) (t : TypeId) : Option TI :=
  match tiOf P t with
  | some ⟨.slice e, _, _, _⟩ => tiOf P e
  | _ => none
def lenSl (x : AV) : Option AV :=
  match x with
  | .snil => some (intD 0)
  | .full l => some (intD l.length)
  | .d (.sl l) => some (intD l.length)
  | .sref _ _ _ _ len => some (intD len)
  | _ => none
def lenStr (x : AV) : Option AV :=
  match x with
  | .d (.str s) => some (intD s.length)
  | _ => none
def lenOp (P : Program) (types : Array TypeId) (x : AV) : Option AV :=
  match (types[0]?).bind (tiOf P) with
  | some i => (match i.k with
    | .slice _ => lenSl x
    | .str => lenStr x
    | _ => none)
  | none => none
def appOp (P : Program) (types : Array TypeId) (wr : Bool) (st : Store) (x y : AV) : R :=
  match (types[0]?).bind (elemTI P), (types[1]?).bind (tiOf P) with
  | some ei, some ti => (match ti.k with
    | .int _ => none
    | _ => appV st ei wr x y)
  | _, _ => none
def elemId (P : Program) (t : TypeId) : Option TypeId :=
  match tiOf P t with
  | some ⟨.slice e, _, _, _⟩ => some e
  | _ => none
def tagS (t : Nat) : AV → AV
  | .sref loc ep es off len => bif off == 0 then .tsref t loc ep es len else .sref loc ep es off len
  | v => v
def tagOk (t : Nat) : AV → Bool
  | .snil => true
  | .tsref t' _ _ _ _ => t' == t
  | _ => false
def tagA (P : Program) (types : Array TypeId) (ty : Bool) (x : AV) (r : R) : R :=
  bif ty then
    match (types[0]?).bind (elemId P) with
    | some e => bif tagOk e x then r.map fun p => (tagS e p.1, p.2) else r
    | none => r
  else r
def builtinV (X : Ctx) (b : Builtin) (types : Array TypeId) (wr ty : Bool) (args : List AV) (st : Store) : R :=
  match b with
  | .len => (match args with
    | [x] => val st (lenOp X.P types x.unt)
    | _ => none)
  | .append => (match args with
    | [x, y] => tagA X.P types ty x (appOp X.P types wr st x.unt y)
    | _ => none)
  | .max => val st (maxL false args)
  | .min => val st (maxL true args)
  | _ => none
def flagOf (l : List Nat) (d : Option Nat) : Bool :=
  match d with
  | some d => memN l d
  | none => false
def opE (X : Ctx) (an : Ann) (call : Call) (o : Oper) (ρ : Operand → AV) (st : Store) : R :=
  match o.op with
  | .move x => val st (some (ρ x))
  | .assign x => bif (flagOf an.virt o.dst) then (let (v, bs) := virtAV (!(flagOf an.wr o.dst)) st.length (ρ x); some (v, st ++ bs)) else val st (some (ρ x))
  | .pick c a b => val st ((asB (ρ c)).map fun t => pickV t (ρ a) (ρ b))
  | .alloc t => (tiOf X.P t).bind fun i => i.zero.bind fun z => bif (constAV z).cells.length == i.size && !(i.size == 0) then (bif flagOf an.ty o.dst then tagR t i.size st.length (newVarV st i.size (flagOf an.virt o.dst) (!(flagOf an.wr o.dst)) (constAV z)) else newVarV st i.size (flagOf an.virt o.dst) (!(flagOf an.wr o.dst)) (constAV z)) else none
  | .box t v => (tiOf X.P t).bind fun i => bif (ρ v).cells.length == i.size && !(i.size == 0) then newVarV st i.size (flagOf an.virt o.dst) (!(flagOf an.wr o.dst)) (ρ v) else none
  | .build t ps => (tiOf X.P t).bind fun i => val st (buildV i (ps.toList.map fun p => (p.1, ρ p.2)))
  | .buildSlice t n ps => buildSl X.P t n ((flagOf an.wr o.dst) || (flagOf an.virt o.dst)) (flagOf an.wr o.dst) (ps.toList.map fun p => (p.1, ρ p.2)) st
  | .load t a => (tiOf X.P t).bind fun i => val st (ldPtr st i (ρ a))
  | .store t a v => (tiOf X.P t).bind fun i => stPtr st i (ρ a) (ρ v)
  | .nilCheck x => val st (nilOk (ρ x))
  | .binOp op t x y _ => val st (binV X.P t op st (ρ x) (ρ y))
  | .unOp op _ x => val st (unV op (ρ x))
  | .convert s t x => convV X.P s t (flagOf an.wr o.dst) st (ρ x)
  | .makeFunc fn first cap => (match fn with
    | .func f => bif first.size == 0 then val st (some (.fn f (cap.toList.map ρ))) else none
    | _ => none)
  | .slice t x lo hi mx => (tiOf X.P t).bind fun i => val st (sliceV X.P st i (ρ x) (lo.map ρ) (hi.map ρ) (mx.map ρ))
  | .fieldAddr t x f => (tiOf X.P t).bind fun i => val st (fieldP i f (ρ x))
  | .indexAddr t x ix => (tiOf X.P t).bind fun i => (asI (ρ ix)).bind fun n => val st (indexP X.P i (ρ x) n)
  | .index t x ix => (tiOf X.P t).bind fun i => (asI (ρ ix)).bind fun n => val st (indexV i (ρ x) n)
  | .extract x k => (match ρ x with
    | .tup l => val st (l[k]?)
    | _ => none)
  | .call c => (match c.callee with
    | .builtin b => builtinV X b c.argTypes (flagOf an.wr o.dst) (flagOf an.ty o.dst) (c.args.toList.map ρ) st
    | .value f => (targetOf (ρ f)).bind fun (g, cap) => callV X call (flagOf an.wr o.dst) g (c.args.toList.map ρ ++ cap) st
    | .invoke .. => none)
  | _ => none
def putD (t : List (Nat × AV)) (d : Option Nat) (v : AV) : List (Nat × AV) :=
  match d with
  | some k => upd t k v
  | none => t
def stepO (X : Ctx) (an : Ann) (call : Call) (ops : Array Oper) (o : Oper) (s : S) : Option S :=
  match o.guard with
  | none => (opE X an call o (opv s.t) s.st).map fun (v, st) => ⟨putD s.t o.dst v, st⟩
  | some (j, want) =>
    match (ops[j]?).bind (·.dst) with
    | none => none
    | some d =>
      match look s.t d with
      | .d (.lit (.bool b)) => bif b == want then (opE X an call o (opv s.t) s.st).map fun (v, st) => ⟨putD s.t o.dst v, st⟩ else some ⟨putD s.t o.dst (.tup []), s.st⟩
      | .tup [] => some ⟨putD s.t o.dst (.tup []), s.st⟩
      | _ => none
def stepsO (X : Ctx) (an : Ann) (call : Call) (ops : Array Oper) : List Oper → S → Option S
  | [], s => some s
  | o :: r, s => (stepO X an call ops o s).bind (stepsO X an call ops r)
inductive Ex where
  | norm | exit (id : Nat) | goto (l : Nat) | ret
def firstRid : Code → Nat
  | .region id _ _ => id
  | .seq a _ => firstRid a
  | .block _ a => firstRid a
  | .loop a => firstRid a
  | .scope a => firstRid a
  | _ => 0
def headS (an : Ann) (a : Code) (n0 : Nat) (s : S) : S :=
  match assoc an.loops (firstRid a) with
  | some ks => trimS n0 ⟨keepT ks s.t, s.st⟩
  | none => s
def behindS (an : Ann) (id : Nat) (s : S) : S :=
  match assoc an.keep id with
  | some ks => ⟨keepT ks s.t, s.st⟩
  | none => s
def assocN : List (Nat × Nat) → Nat → Option Nat
  | [], _ => none
  | (j, v) :: r, k => bif j == k then some v else assocN r k
def bareO (an : Ann) (o : Oper) : Bool :=
  match o.op with
  | .move _ => true
  | .assign _ => !(flagOf an.virt o.dst)
  | .pick .. => true
  | .fieldAddr .. => true
  | .unOp .. => true
  | .extract .. => true
  | .makeFunc .. => true
  | .nilCheck _ => true
  | .indexAddr .. => true
  | .index .. => true
  | .call c => (match c.callee with
    | .builtin .len => true
    | .builtin .max => true
    | .builtin .min => true
    | _ => false)
  | _ => false
inductive Acc where
  | no
  | at (loc : Nat) (w : Bool)
  | all
def accO (X : Ctx) (an : Ann) (o : Oper) (s : S) : Option Acc :=
  bif !(o.guard.isNone) then none else
  match o.op with
  | .store _ a _ => (match (opv s.t a).unt with
    | .ptr loc _ _ _ => some (.at loc true)
    | _ => none)
  | .load _ a => (match (opv s.t a).unt with
    | .ptr loc _ _ _ => some (.at loc false)
    | .eptr _ _ => some .no
    | _ => none)
  | .call c => (match c.callee with
    | .value (.func f) => bif X.pure f && (X.prim f).isSome then some .all else none
    | .builtin _ => bif bareO an o then some .no else none
    | _ => none)
  | .binOp _ _ x y _ => (match opv s.t x, opv s.t y with
    | .d (.lit (.int _ _)), .d (.lit (.int _ _)) => some .no
    | _, _ => none)
  | _ => bif bareO an o then some .no else none
def noCall : Call := fun _ _ _ => none
def tailA (X : Ctx) (an : Ann) (ops : Array Oper) : List Oper → S → Option (List Acc)
  | [], _ => some []
  | o :: r, s => match accO X an o s, stepO X an noCall ops o s with
    | some a, some s' => (tailA X an ops r s').map (a :: ·)
    | _, _ => none
def apart1 (a b : Acc) : Bool :=
  match a, b with
  | .at x u, .at y v => !(x == y) || !(u || v)
  | .at _ u, .all => !u
  | .all, .at _ u => !u
  | _, _ => true
def apartL : List Acc → Bool
  | [] => true
  | a :: r => r.all (apart1 a) && apartL r
def tailOk (X : Ctx) (an : Ann) (ops : Array Oper) (l : List Oper) (s : S) : Bool :=
  match tailA X an ops l s with
  | some r => apartL r
  | none => false
def accG (ops : Array Oper) (o : Oper) (s : S) : Option Acc :=
  match o.op with
  | .store _ a _ => (match (opv s.t a).unt with
    | .ptr loc _ _ _ => some (.at loc true)
    | _ => none)
  | .load _ a => (match o.guard with
    | none => (match (opv s.t a).unt with
      | .ptr loc _ _ _ => some (.at loc false)
      | .eptr _ _ => some .no
      | _ => none)
    | some (j, want) => (match (ops[j]?).bind (·.dst) with
      | none => none
      | some d => (match look s.t d with
        | .d (.lit (.bool b)) => bif b == want then (match (opv s.t a).unt with
          | .ptr loc _ _ _ => some (.at loc false)
          | .eptr _ _ => some .no
          | _ => none) else some .no
        | .tup [] => some .no
        | _ => none)))
  | _ => none
def stepsA (X : Ctx) (an : Ann) (call : Call) (ops : Array Oper) : List Oper → S → Option (S × List (Option Acc))
  | [], s => some (s, [])
  | o :: r, s => (stepO X an call ops o s).bind fun s' => (stepsA X an call ops r s').map fun q => (q.1, accG ops o s :: q.2)
def late1 : Option (Option Acc) → Option (Option Acc) → Bool
  | some (some .no), some (some (.at _ true)) => true
  | some (some (.at a false)), some (some (.at b true)) => !(a == b)
  | _, _ => false
def lateOk (ps : List (Nat × Nat)) (r : List (Option Acc)) : Bool := ps.all fun p => late1 r[p.1]? r[p.2]?
def lateOf : List (Nat × List (Nat × Nat)) → Nat → List (Nat × Nat)
  | [], _ => []
  | (j, v) :: r, k => bif j == k then v else lateOf r k
def regionO (X : Ctx) (an : Ann) (call : Call) (id : Nat) (ops : Array Oper) (s : S) : Option S :=
  match assocN an.dyn id with
  | none => stepsO X an call ops ops.toList s
  | some p => (stepsO X an call ops (ops.toList.take p) s).bind fun s1 => bif tailOk X an ops (ops.toList.drop p) s1 then stepsO X an call ops (ops.toList.drop p) s1 else none
def regionE (X : Ctx) (an : Ann) (call : Call) (id : Nat) (ops : Array Oper) (s : S) : Option S :=
  match lateOf an.late id with
  | [] => regionO X an call id ops s
  | p :: ps => (stepsA X an call ops ops.toList s).bind fun q => bif lateOk (p :: ps) q.2 then some q.1 else none
def runF (X : Ctx) (an : Ann) (call : Call) : Nat → Code → S → Option (Ex × S)
  | 0, _, _ => none
  | n + 1, c, s => match c with
    | .skip => some (.norm, s)
    | .label _ => some (.norm, s)
    | .region id ops _ => (regionE X an call id ops s).map fun s' => (.norm, behindS an id s')
    | .seq a b => (runF X an call n a s).bind fun r => match r.1 with
      | .norm => runF X an call n b r.2
      | e => some (e, r.2)
    | .cond c a b => (asB (opv s.t c)).bind fun t => bif t then runF X an call n a s else runF X an call n b s
    | .block id a => (runF X an call n a s).map fun r => match r.1 with
      | .exit j => bif j == id then (.norm, r.2) else (.exit j, r.2)
      | e => (e, r.2)
    | .loop a => (runF X an call n a s).bind fun r => match r.1 with
      | .norm => runF X an call n (.loop a) (headS an a s.st.length r.2)
      | e => some (e, r.2)
    | .scope a => (runF X an call n a s).bind fun r => match r.1 with
      | .goto l => (match findLabel a l with
        | some rest => (runF X an call n rest r.2).bind fun r => match r.1 with
          | .goto _ => none
          | e => some (e, r.2)
        | none => none)
      | e => some (e, r.2)
    | .exit id => some (.exit id, s)
    | .goto l => some (.goto l, s)
    | .ret => some (.ret, s)
    | _ => none
def argsT : Nat → List AV → List (Nat × AV)
  | _, [] => []
  | n, v :: r => (n, v) :: argsT (n + 1) r
def resV (P : Program) (s : S) : ResultVar → Option AV
  | .tmp t => some (look s.t t)
  | .cell a t => (tiOf P t).bind fun i => ldPtr s.st i (look s.t a)
def resAll (P : Program) (s : S) : List ResultVar → Option (List AV)
  | [] => some []
  | r :: l => (resV P s r).bind fun v => (resAll P s l).map (v :: ·)
def resE (P : Program) (fn : Func) (s : S) : Option AV :=
  (resAll P s fn.results.toList).map fun
    | [v] => v
    | l => .tup l
def bodyE (X : Ctx) (fn : Func) : Ex × S → R
  | (.norm, s) => (resE X.P fn s).map fun v => (v, s.st)
  | (.ret, s) => (resE X.P fn s).map fun v => (v, s.st)
  | _ => none
def callN (X : Ctx) : Nat → Call
  | 0, _, _, _ => none
  | n + 1, f, args, st =>
    bif X.use f then
      match X.P.funcs[f]? with
      | some fn => match fn.body with
        | some c => (runF X (X.ann f) (callN X n) n c ⟨argsT 0 args, st⟩).bind (bodyE X fn)
        | none => none
      | none => none
    else none
end Go.Eng
namespace Go.Eng
structure Mem where
  m : Nat → Option (Nat × Nat)
  st : Store
  w : World
structure Keep where
  B : Nat
  k : Nat → Nat → Prop
  hk : ∀ b o, B ≤ b → k b o
abbrev cellAt (w : World) (b o : Nat) : Option Value := w.cell? ⟨b, o, none⟩
def Prot (brw : Bool) (m : Nat → Option (Nat × Nat)) (st : Store) (b o : Nat) : Prop :=
  ∀ (i base : Nat) x, m i = some (b, base) → st[i]? = some x → o < base ∨ ((brw = true ∨ x.shut = true) ∧ o < base + x.es * x.elems.length)
def CC (k : Keep) (brw : Bool) (M : Mem) (b o : Nat) (v : Value) : Prop :=
  cellAt M.w b o = some v ∧ k.k b o ∧ Prot brw M.m M.st b o
mutual
def RepD (C : Nat → Nat → Value → Prop) : D → Value → Prop
  | .lit x, v => cellV x = true ∧ v = x
  | .str s, v => ∃ a : ByteArray, v = .string a ∧ a.data.toList = s
  | .agg l, v => ∃ cs : List Value, v = .agg cs.toArray ∧ RepDs C l cs
  | .sl l, v => ∃ a c, v = .slice a l.length c ∧ l.length ≤ c ∧ (l = [] ∨ ∃ b o k, a = some ⟨b, o, none⟩ ∧ RepRow C b k o l)
def RepDs (C : Nat → Nat → Value → Prop) : List D → List Value → Prop
  | [], vs => vs = []
  | x :: r, vs => ∃ v t, vs = v :: t ∧ cellV v = true ∧ RepD C x v ∧ RepDs C r t
def RepRow (C : Nat → Nat → Value → Prop) (b k : Nat) : Nat → List D → Prop
  | _, [] => True
  | o, x :: r => (∃ v, RepD C x v ∧ v.cells.size = k ∧ ∀ j u, v.cells[j]? = some u → C b (o + j) u) ∧ RepRow C b k (o + k) r
end
mutual
theorem RepD.mono {C C' : Nat → Nat → Value → Prop} (h : ∀ b o v, C b o v → C' b o v) : ∀ (x : D) (v : Value), RepD C x v → RepD C' x v
  | .lit x, v, hx => hx
  | .str s, v, hx => hx
  | .agg l, v, ⟨cs, e, hl⟩ => ⟨cs, e, RepDs.mono h l cs hl⟩
  | .sl l, v, ⟨a, c, e, hc, hl⟩ => ⟨a, c, e, hc, hl.imp id fun ⟨b, o, k, ea, hr⟩ => ⟨b, o, k, ea, RepRow.mono h b k o l hr⟩⟩
theorem RepDs.mono {C C' : Nat → Nat → Value → Prop} (h : ∀ b o v, C b o v → C' b o v) : ∀ (l : List D) (vs : List Value), RepDs C l vs → RepDs C' l vs
  | [], vs, hx => hx
  | x :: r, vs, ⟨v, t, e, hc, hx, hr⟩ => ⟨v, t, e, hc, RepD.mono h x v hx, RepDs.mono h r t hr⟩
theorem RepRow.mono {C C' : Nat → Nat → Value → Prop} (h : ∀ b o v, C b o v → C' b o v) (b k : Nat) : ∀ (o : Nat) (l : List D), RepRow C b k o l → RepRow C' b k o l
  | _, [], _ => trivial
  | o, x :: r, ⟨⟨v, hx, hs, hj⟩, hr⟩ => ⟨⟨v, RepD.mono h x v hx, hs, fun j u hu => h _ _ _ (hj j u hu)⟩, RepRow.mono h b k (o + k) r hr⟩
end
-- flat data reads no cell
mutual
theorem RepD.flat {C C' : Nat → Nat → Value → Prop} : ∀ (x : D) (v : Value), x.flat = true → RepD C x v → RepD C' x v
  | .lit x, v, _, hx => hx
  | .str s, v, _, hx => hx
  | .agg l, v, hf, ⟨cs, e, hl⟩ => ⟨cs, e, RepDs.flat l cs (by simpa [D.flat] using hf) hl⟩
  | .sl l, v, hf, _ => by simp [D.flat] at hf
theorem RepDs.flat {C C' : Nat → Nat → Value → Prop} : ∀ (l : List D) (vs : List Value), D.flats l = true → RepDs C l vs → RepDs C' l vs
  | [], vs, _, hx => hx
  | x :: r, vs, hf, ⟨v, t, e, hc, hx, hr⟩ => by
    simp only [D.flats, Bool.and_eq_true] at hf
    exact ⟨v, t, e, hc, RepD.flat x v hf.1 hx, RepDs.flat r t hf.2 hr⟩
end
theorem RepDs.iff {C : Nat → Nat → Value → Prop} : ∀ (l : List D) (vs : List Value), RepDs C l vs ↔
    l.length = vs.length ∧ ∀ (i : Nat) x v, l[i]? = some x → vs[i]? = some v → cellV v = true ∧ RepD C x v
  | [], vs => by simp [RepDs]; exact ⟨fun h => by simp [h], fun h => List.length_eq_zero_iff.1 h.symm⟩
  | x :: r, vs => by
    constructor
    · rintro ⟨v, t, rfl, hc, hx, hr⟩
      have := (RepDs.iff r t).1 hr
      refine ⟨by simp [this.1], fun i y u hy hu => ?_⟩
      cases i with
      | zero => simp at hy hu; subst hy hu; exact ⟨hc, hx⟩
      | succ i => exact this.2 i y u (by simpa using hy) (by simpa using hu)
    · rintro ⟨hl, h⟩
      cases vs with
      | nil => simp at hl
      | cons v t =>
        have h0 := h 0 x v rfl rfl
        exact ⟨v, t, rfl, h0.1, h0.2, (RepDs.iff r t).2 ⟨by simpa using hl, fun i y u hy hu => h (i + 1) y u (by simpa using hy) (by simpa using hu)⟩⟩
theorem RepRow.iff {C : Nat → Nat → Value → Prop} (b k : Nat) : ∀ (l : List D) (o : Nat), RepRow C b k o l ↔
    ∀ i x, l[i]? = some x → ∃ v, RepD C x v ∧ v.cells.size = k ∧ ∀ j u, v.cells[j]? = some u → C b (o + i * k + j) u
  | [], o => by simp [RepRow]
  | x :: r, o => by
    simp only [RepRow, RepRow.iff b k r (o + k)]
    constructor
    · rintro ⟨⟨v, hx, hs, hj⟩, hr⟩ i y hy
      cases i with
      | zero => simp at hy; subst hy; exact ⟨v, hx, hs, by simpa using hj⟩
      | succ i =>
        obtain ⟨v, h1, h2, h3⟩ := hr i y (by simpa using hy)
        refine ⟨v, h1, h2, fun j u hu => ?_⟩
        have := h3 j u hu
        rwa [show o + (i + 1) * k + j = o + k + i * k + j by rw [Nat.add_mul]; omega]
    · intro h
      refine ⟨?_, fun i y hy => ?_⟩
      · obtain ⟨v, h1, h2, h3⟩ := h 0 x rfl
        exact ⟨v, h1, h2, by simpa using h3⟩
      · obtain ⟨v, h1, h2, h3⟩ := h (i + 1) y (by simpa using hy)
        refine ⟨v, h1, h2, fun j u hu => ?_⟩
        have := h3 j u hu
        rwa [show o + (i + 1) * k + j = o + k + i * k + j by rw [Nat.add_mul]; omega] at this
def PtrRep (M : Mem) (loc ep idx off : Nat) (v : Value) : Prop :=
  ∃ x, M.st[loc]? = some x ∧ ep ≤ x.elems.length ∧ (x.elems.length = ep → x.virt = false ∧
    ∃ b base, M.m loc = some (b, base) ∧ v = .pointer (some ⟨b, base + idx * x.es + off, none⟩)) ∧ ∃ a, v = .pointer (some a)
def SrefRep (M : Mem) (loc ep es off len : Nat) (v : Value) : Prop :=
  ∃ x, M.st[loc]? = some x ∧ ep ≤ x.elems.length ∧ (∃ a c, v = .slice a len c ∧ len ≤ c ∧ (len ≠ 0 → a.isSome = true)) ∧ (x.elems.length = ep → x.row = true ∧
    ((x.virt = true ∧ v = .slice none 0 0 ∧ off = 0 ∧ len = 0) ∨
     (x.virt = false ∧ es = x.es ∧ off + len ≤ ep ∧ ∃ b base c, M.m loc = some (b, base) ∧ v = .slice (some ⟨b, base + off * x.es, none⟩) len c ∧ len ≤ c ∧
        ∃ cs e fz, M.w.heap[b]? = some (Obj.cells cs e fz) ∧ base + (off + c) * x.es ≤ cs.size)))
def TyRep (M : Mem) (t n off : Nat) (v : Value) : Prop :=
  ∃ b cs fz, v = .pointer (some ⟨b, off, none⟩) ∧ M.w.heap[b]? = some (Obj.cells cs t fz) ∧ cs.size = n
def SlTy (w : World) (t : TypeId) (v : Value) : Prop :=
  ∀ b o sp n c, v = .slice (some ⟨b, o, sp⟩) n c → o = 0 ∧ ∃ cs fz, w.heap[b]? = some (Obj.cells cs t fz) ∧ fz.1 = 0
mutual
def RepA (k : Keep) (M : Mem) : AV → Value → Prop
  | .d x, v => RepD (CC k false M) x v
  | .snil, v => v = .slice none 0 0
  | .full l, v => ∃ a, v = .slice a l.length l.length ∧ (l = [] ∨ ∃ b o k', a = some ⟨b, o, none⟩ ∧ RepRow (CC k false M) b k' o l)
  | .ptr loc ep idx off, v => PtrRep M loc ep idx off v
  | .sref loc ep es off len, v => SrefRep M loc ep es off len v
  | .eptr x off, v => ∃ b o u, v = .pointer (some ⟨b, o + off, none⟩) ∧ RepD (CC k false M) x u ∧ ∀ j c, u.cells[j]? = some c → CC k false M b (o + j) c
  | .tptr t n loc off, v => PtrRep M loc 1 0 off v ∧ TyRep M t n off v
  | .tsref t loc ep es len, v => SrefRep M loc ep es 0 len v ∧ SlTy M.w t v
  | .fn f cap, v => ∃ cs : List Value, v = .func (.func f) #[] cs.toArray ∧ RepAs k M cap cs
  | .agg l, v => ∃ cs : List Value, v = .agg cs.toArray ∧ RepAs k M l cs ∧ ∀ c ∈ cs, cellV c = true
  | .tup l, v => ∃ cs : List Value, v = .tuple cs.toArray ∧ RepAs k M l cs
  | .undef, _ => True
def RepAs (k : Keep) (M : Mem) : List AV → List Value → Prop
  | [], vs => vs = []
  | x :: r, vs => ∃ v t, vs = v :: t ∧ RepA k M x v ∧ RepAs k M r t
end
theorem RepAs.iff {k : Keep} {M : Mem} : ∀ (l : List AV) (vs : List Value), RepAs k M l vs ↔
    l.length = vs.length ∧ ∀ (i : Nat) x v, l[i]? = some x → vs[i]? = some v → RepA k M x v
  | [], vs => by simp [RepAs]; exact ⟨fun h => by simp [h], fun h => List.length_eq_zero_iff.1 h.symm⟩
  | x :: r, vs => by
    constructor
    · rintro ⟨v, t, rfl, hx, hr⟩
      have := (RepAs.iff r t).1 hr
      refine ⟨by simp [this.1], fun i y u hy hu => ?_⟩
      cases i with
      | zero => simp at hy hu; subst hy hu; exact hx
      | succ i => exact this.2 i y u (by simpa using hy) (by simpa using hu)
    · rintro ⟨hl, h⟩
      cases vs with
      | nil => simp at hl
      | cons v t =>
        exact ⟨v, t, rfl, h 0 x v rfl rfl, (RepAs.iff r t).2 ⟨by simpa using hl, fun i y u hy hu => h (i + 1) y u (by simpa using hy) (by simpa using hu)⟩⟩
structure Evo (M M' : Mem) : Prop where
  len : M.st.length ≤ M'.st.length
  blk : ∀ (i : Nat) x, M.st[i]? = some x → ∃ x', M'.st[i]? = some x' ∧ x.elems.length ≤ x'.elems.length ∧ x'.row = x.row ∧ x'.shut = x.shut ∧
    (x'.elems.length = x.elems.length → x'.virt = x.virt ∧ (x.virt = false → x'.es = x.es) ∧ ∀ p, M.m i = some p → M'.m i = some p)
  cell : ∀ b o v, cellAt M.w b o = some v → Prot false M.m M.st b o → cellAt M'.w b o = some v ∧ Prot false M'.m M'.st b o
  size : ∀ (b : Nat) cs e fz, M.w.heap[b]? = some (Obj.cells cs e fz) → ∃ cs' fz', M'.w.heap[b]? = some (Obj.cells cs' e fz') ∧ cs'.size = cs.size ∧ (fz.1 = 0 → fz'.1 = 0)
  heap : M.w.heap.size ≤ M'.w.heap.size
theorem Evo.refl (M : Mem) : Evo M M :=
  ⟨Nat.le_refl _, fun i x h => ⟨x, h, Nat.le_refl _, rfl, rfl, fun _ => ⟨rfl, fun _ => rfl, fun _ h => h⟩⟩, fun _ _ _ h p => ⟨h, p⟩,
    fun b cs e fz h => ⟨cs, fz, h, rfl, id⟩, Nat.le_refl _⟩
theorem Evo.trans {A B C : Mem} (h : Evo A B) (g : Evo B C) : Evo A C := by
  refine ⟨Nat.le_trans h.len g.len, fun i x hx => ?_, fun b o v hv hp => ?_, fun b cs e fz hb => ?_, Nat.le_trans h.heap g.heap⟩
  · obtain ⟨y, hy, hl, hr, hs, he⟩ := h.blk i x hx
    obtain ⟨z, hz, hl', hr', hs', he'⟩ := g.blk i y hy
    refine ⟨z, hz, Nat.le_trans hl hl', hr'.trans hr, hs'.trans hs, fun e => ?_⟩
    obtain ⟨a1, a2, a3⟩ := he (by omega)
    obtain ⟨b1, b2, b3⟩ := he' (by omega)
    exact ⟨b1.trans a1, fun hv => (b2 (by rw [a1]; exact hv)).trans (a2 hv), fun p hp => b3 p (a3 p hp)⟩
  · obtain ⟨h1, h2⟩ := h.cell b o v hv hp
    exact g.cell b o v h1 h2
  · obtain ⟨cs', fz', h1, h2, h5⟩ := h.size b cs e fz hb
    obtain ⟨cs'', fz'', h3, h4, h6⟩ := g.size b cs' e fz' h1
    exact ⟨cs'', fz'', h3, h4.trans h2, fun e => h6 (h5 e)⟩
theorem CC.evo {k : Keep} {M M' : Mem} (h : Evo M M') : ∀ b o v, CC k false M b o v → CC k false M' b o v :=
  fun b o v ⟨h1, h2, h3⟩ => ⟨(h.cell b o v h1 h3).1, h2, (h.cell b o v h1 h3).2⟩
theorem PtrRep.evo {M M' : Mem} (h : Evo M M') {loc ep idx off : Nat} {v : Value} (hr : PtrRep M loc ep idx off v) : PtrRep M' loc ep idx off v := by
  obtain ⟨x, hx, he, hv, hp⟩ := hr
  obtain ⟨y, hy, hl, hrow, hs, hsame⟩ := h.blk loc x hx
  refine ⟨y, hy, Nat.le_trans he hl, fun e => ?_, hp⟩
  obtain ⟨hvi, b, base, hm, hv'⟩ := hv (by omega)
  obtain ⟨g1, g2, g3⟩ := hsame (by omega)
  exact ⟨by rw [g1]; exact hvi, b, base, g3 _ hm, by rw [g2 hvi]; exact hv'⟩
theorem SrefRep.evo {M M' : Mem} (h : Evo M M') {loc ep es off len : Nat} {v : Value} (hr : SrefRep M loc ep es off len v) : SrefRep M' loc ep es off len v := by
  obtain ⟨x, hx, he, hs0, hv⟩ := hr
  obtain ⟨y, hy, hl, hrow, hs, hsame⟩ := h.blk loc x hx
  refine ⟨y, hy, Nat.le_trans he hl, hs0, fun e => ?_⟩
  obtain ⟨hr1, hv'⟩ := hv (by omega)
  obtain ⟨g1, g2, g3⟩ := hsame (by omega)
  refine ⟨hrow.trans hr1, ?_⟩
  rcases hv' with ⟨hvi, e1⟩ | ⟨hvi, hes, hle, b, base, c, hm, e1, hc, hcap⟩
  · exact .inl ⟨g1.trans hvi, e1⟩
  · obtain ⟨cs0, e0, fz0, h0, hcap⟩ := hcap
    obtain ⟨cs1, fz1, h1, h2, _⟩ := h.size b cs0 e0 fz0 h0
    exact .inr ⟨g1.trans hvi, by rw [g2 hvi]; exact hes, hle, b, base, c, g3 _ hm, by rw [g2 hvi]; exact e1, hc, cs1, e0, fz1, h1, by rw [g2 hvi, h2]; exact hcap⟩
mutual
theorem RepA.evo {k : Keep} {M M' : Mem} (h : Evo M M') : ∀ (x : AV) (v : Value), RepA k M x v → RepA k M' x v
  | .d x, v, hx => RepD.mono (CC.evo h) x v hx
  | .snil, v, hx => hx
  | .full l, v, ⟨a, e, hl⟩ => ⟨a, e, hl.imp id fun ⟨b, o, k', ea, hr⟩ => ⟨b, o, k', ea, RepRow.mono (CC.evo h) b k' o l hr⟩⟩
  | .ptr loc ep idx off, v, hx => PtrRep.evo h hx
  | .sref loc ep es off len, v, hx => SrefRep.evo h hx
  | .eptr x off, v, ⟨b, o, u, e, hx, hj⟩ => ⟨b, o, u, e, RepD.mono (CC.evo h) x u hx, fun j c hc => CC.evo h _ _ _ (hj j c hc)⟩
  | .tptr t n loc off, v, ⟨h1, b, cs, fz, e, h2, h3⟩ => ⟨PtrRep.evo h h1, by
    obtain ⟨cs', fz', g1, g2, _⟩ := h.size b cs t fz h2
    exact ⟨b, cs', fz', e, g1, g2.trans h3⟩⟩
  | .tsref t loc ep es len, v, ⟨h1, h2⟩ => ⟨SrefRep.evo h h1, fun b o sp n c e => by
    obtain ⟨g0, cs, fz, g, gz⟩ := h2 b o sp n c e
    obtain ⟨cs', fz', g1, _, g3⟩ := h.size b cs t fz g
    exact ⟨g0, cs', fz', g1, g3 gz⟩⟩
  | .fn f cap, v, ⟨cs, e, hl⟩ => ⟨cs, e, RepAs.evo h cap cs hl⟩
  | .agg l, v, ⟨cs, e, hl, hc⟩ => ⟨cs, e, RepAs.evo h l cs hl, hc⟩
  | .tup l, v, ⟨cs, e, hl⟩ => ⟨cs, e, RepAs.evo h l cs hl⟩
  | .undef, v, _ => trivial
theorem RepAs.evo {k : Keep} {M M' : Mem} (h : Evo M M') : ∀ (l : List AV) (vs : List Value), RepAs k M l vs → RepAs k M' l vs
  | [], vs, hx => hx
  | x :: r, vs, ⟨v, t, e, hx, hr⟩ => ⟨v, t, e, RepA.evo h x v hx, RepAs.evo h r t hr⟩
end
def BlkRep (k : Keep) (M : Mem) (x : Blk) (b o : Nat) : Prop :=
  x.virt = false ∧ 0 < x.es ∧ ∃ cs e fz, M.w.heap[b]? = some (Obj.cells cs e fz) ∧ o + x.es * x.elems.length ≤ cs.size ∧
    (∀ j, j < cs.size → o ≤ j → (x.shut = true → o + x.es * x.elems.length ≤ j) → ¬ (fz.1 ≤ j ∧ j < fz.2)) ∧
    ∀ (i : Nat) av, x.elems[i]? = some av → ∃ v : Value, RepA k M av v ∧ v.cells.size = x.es ∧ (∀ u ∈ v.cells, cellV u = true) ∧
      ∀ (j : Nat) u, v.cells[j]? = some u → cs[o + i * x.es + j]? = some u
def BlkForm (x : Blk) : Prop :=
  (x.row = false → x.elems.length = 1 ∧ x.shut = false ∧ x.virt = false) ∧ (x.virt = true → x.elems = [])
structure Inv (k : Keep) (M : Mem) : Prop where
  inj : ∀ i j b o o', M.m i = some (b, o) → M.m j = some (b, o') → i = j
  dom : ∀ i p, M.m i = some p → i < M.st.length
  low : ∀ i b o, M.m i = some (b, o) → k.B ≤ b
  big : k.B ≤ M.w.heap.size
  blk : ∀ (i b o : Nat) x, M.m i = some (b, o) → M.st[i]? = some x → BlkRep k M x b o
  frm : ∀ (i : Nat) x, M.st[i]? = some x → BlkForm x
structure Out (M M' : Mem) : Prop where
  os : M'.w.os = M.w.os
  tape : M'.w.tape = M.w.tape
  output : M'.w.output = M.w.output
  old : ∀ b, b < M.w.heap.size → (∀ i o, M.m i ≠ some (b, o)) → M'.w.heap[b]? = M.w.heap[b]?
  new : ∀ i b o, M'.m i = some (b, o) → (∃ j o', M.m j = some (b, o')) ∨ M.w.heap.size ≤ b
structure Stp (k : Keep) (M M' : Mem) : Prop where
  inv : Inv k M'
  evo : Evo M M'
  out : Out M M'
theorem Out.refl (M : Mem) : Out M M := ⟨rfl, rfl, rfl, fun _ _ _ => rfl, fun i b o h => .inl ⟨i, o, h⟩⟩
theorem Out.trans {A B C : Mem} (hh : A.w.heap.size ≤ B.w.heap.size) (h : Out A B) (g : Out B C) : Out A C := by
  refine ⟨g.os.trans h.os, g.tape.trans h.tape, g.output.trans h.output, fun b hb hm => ?_, fun i b o hi => ?_⟩
  · rw [g.old b (by omega) fun i o hi => ?_, h.old b hb hm]
    rcases h.new i b o hi with ⟨j, o', hj⟩ | hlt
    · exact hm j o' hj
    · omega
  · rcases g.new i b o hi with ⟨j, o', hj⟩ | hlt
    · exact h.new j b o' hj
    · exact .inr (by omega)
theorem Stp.refl {k : Keep} {M : Mem} (h : Inv k M) : Stp k M M := ⟨h, Evo.refl M, Out.refl M⟩
theorem Stp.trans {k : Keep} {A B C : Mem} (h : Stp k A B) (g : Stp k B C) : Stp k A C :=
  ⟨g.inv, h.evo.trans g.evo, h.out.trans h.evo.heap g.out⟩
theorem RepA.cells {k : Keep} {M : Mem} {x : AV} {v : Value} (h : RepA k M x v) (hne : x.cells ≠ []) :
    x.cells.length = v.cells.size ∧ (∀ u ∈ v.cells, cellV u = true) ∧ (x.isAgg = true → ∃ cs, v = .agg cs) ∧ (x.isAgg = false → v.cells = #[v]) ∧
    ∀ (j : Nat) a u, x.cells[j]? = some a → v.cells[j]? = some u → RepA k M a u := by
  have one : ∀ (x : AV) (v : Value), RepA k M x v → x.cells = [x] → cellV v = true → x.isAgg = false →
      x.cells.length = v.cells.size ∧ (∀ u ∈ v.cells, cellV u = true) ∧ (x.isAgg = true → ∃ cs, v = .agg cs) ∧ (x.isAgg = false → v.cells = #[v]) ∧
      ∀ (j : Nat) a u, x.cells[j]? = some a → v.cells[j]? = some u → RepA k M a u := by
    intro x v h hx hv hg
    have hc : v.cells = #[v] := by cases v <;> first | rfl | simp [cellV] at hv
    rw [hx, hc]
    refine ⟨rfl, by simpa using hv, by simp [hg], fun _ => rfl, fun j a u ha hu => ?_⟩
    cases j with
    | zero => simp at ha hu; subst ha hu; exact h
    | succ j => simp at ha
  cases x with
  | d x =>
    cases x with
    | lit y => obtain ⟨h1, rfl⟩ := h; exact one _ _ ⟨h1, rfl⟩ rfl h1 rfl
    | str s => obtain ⟨a, rfl, h1⟩ := h; exact one _ _ ⟨a, rfl, h1⟩ rfl rfl rfl
    | sl l => obtain ⟨a, c, rfl, h1⟩ := h; exact one _ _ ⟨a, c, rfl, h1⟩ rfl rfl rfl
    | agg l =>
      obtain ⟨cs, rfl, hl⟩ := h
      obtain ⟨h1, h2⟩ := (RepDs.iff l cs).1 hl
      refine ⟨by simp [AV.cells, Value.cells, h1], fun u hu => ?_, fun _ => ⟨_, rfl⟩, by simp [AV.isAgg], fun j a u ha hu => ?_⟩
      · simp only [Value.cells] at hu
        obtain ⟨i, hi⟩ := List.getElem?_of_mem (List.mem_toArray.1 hu)
        have hlt := (List.getElem?_eq_some_iff.1 hi).1
        obtain ⟨y, hy⟩ : ∃ y, l[i]? = some y := ⟨_, List.getElem?_eq_getElem (by omega)⟩
        exact (h2 i y u hy hi).1
      · simp only [AV.cells, List.getElem?_map, Option.map_eq_some_iff] at ha
        obtain ⟨y, hy, rfl⟩ := ha
        exact (h2 j y u hy (by simpa [Value.cells] using hu)).2
  | snil => have h' : v = .slice none 0 0 := h; subst h'; exact one .snil _ rfl rfl rfl rfl
  | full l => obtain ⟨a, rfl, h1⟩ := h; exact one _ _ ⟨a, rfl, h1⟩ rfl rfl rfl
  | ptr loc ep idx off => have h' := h; obtain ⟨x, _, _, _, a, rfl⟩ := h; exact one _ _ h' rfl rfl rfl
  | sref loc ep es off len => have h' := h; obtain ⟨x, _, _, ⟨a, c, rfl, _, _⟩, _⟩ := h; exact one _ _ h' rfl rfl rfl
  | eptr x off => have h' := h; obtain ⟨b, o, u, rfl, _⟩ := h; exact one _ _ h' rfl rfl rfl
  | fn f cap => have h' := h; obtain ⟨cs, rfl, _⟩ := h; exact one _ _ h' rfl rfl rfl
  | agg l =>
    obtain ⟨cs, rfl, hl, hc⟩ := h
    obtain ⟨h1, h2⟩ := (RepAs.iff l cs).1 hl
    refine ⟨by simp [AV.cells, Value.cells, h1], fun u hu => hc u (by simpa [Value.cells] using hu), fun _ => ⟨_, rfl⟩, by simp [AV.isAgg], fun j a u ha hu => ?_⟩
    exact h2 j a u ha (by simpa [Value.cells] using hu)
  | tsref t loc ep es len => have h' := h; obtain ⟨⟨x, _, _, ⟨a, c, rfl, _, _⟩, _⟩, _⟩ := h; exact one _ _ h' rfl rfl rfl
  | tptr t n loc off => have h' := h; obtain ⟨_, b, cs, fz, rfl, _, _⟩ := h; exact one _ _ h' rfl rfl rfl
  | tup l => simp [AV.cells] at hne
  | undef => simp [AV.cells] at hne
end Go.Eng
namespace Go.Eng
theorem look_upd (t : List (Nat × AV)) (k j : Nat) (v : AV) : look (upd t k v) j = if k = j then v else look t j := by
  induction t with
  | nil =>
    simp only [upd, look]
    by_cases h : k = j
    · simp [h]
    · have h' : (k == j) = false := by simpa using h
      simp [h, h']
  | cons a r ih =>
    obtain ⟨i, u⟩ := a
    simp only [upd]
    by_cases h : i = k
    · subst h
      simp only [beq_self_eq_true, cond_true, look]
      by_cases h2 : i = j
      · simp [h2]
      · have h2' : (i == j) = false := by simpa using h2
        simp [h2, h2']
    · have h' : (i == k) = false := by simpa using h
      simp only [h', cond_false, look, ih]
      by_cases h2 : i = j
      · subst h2; simp; intro e; exact absurd e.symm h
      · have h2' : (i == j) = false := by simpa using h2
        simp [h2']
theorem look_keepT (ks : List Nat) (t : List (Nat × AV)) (j : Nat) : look (keepT ks t) j = look t j ∨ look (keepT ks t) j = .undef := by
  induction t with
  | nil => exact .inl rfl
  | cons a r ih =>
    obtain ⟨i, u⟩ := a
    simp only [keepT]
    by_cases h : memN ks i = true
    · simp only [h, cond_true, look]
      by_cases h2 : (i == j) = true
      · simp [h2]
      · simp only [h2, cond_false]; simpa using ih
    · have h' : memN ks i = false := by simpa using h
      simp only [h', cond_false, look]
      by_cases h2 : (i == j) = true
      · have : i = j := by simpa using h2
        subst this
        right
        clear ih h2 h
        induction r with
        | nil => rfl
        | cons b r ih =>
          obtain ⟨n, v⟩ := b
          simp only [keepT]
          by_cases h3 : n = i
          · subst h3; simp only [h', cond_false]; exact ih
          · by_cases h4 : memN ks n = true
            · have h5 : (n == i) = false := by simpa using h3
              simp only [h4, cond_true, look, h5, cond_false]; exact ih
            · have h4' : memN ks n = false := by simpa using h4
              simp only [h4', cond_false]; exact ih
      · simp only [h2, cond_false]; simpa using ih
structure RepT (k : Keep) (M : Mem) (nt : Nat) (t : List (Nat × AV)) (a : Act) : Prop where
  size : nt ≤ a.tmps.size
  rep : ∀ n, RepA k M (look t n) (a.tmps.getD n undef)
  defers : a.defers = []
theorem RepT.evo {k : Keep} {M M' : Mem} (h : Evo M M') {nt : Nat} {t : List (Nat × AV)} {a : Act} (r : RepT k M nt t a) : RepT k M' nt t a :=
  ⟨r.size, fun n => RepA.evo h _ _ (r.rep n), r.defers⟩
theorem RepT.put {k : Keep} {M : Mem} {nt : Nat} {t : List (Nat × AV)} {a : Act} (r : RepT k M nt t a) {d : Option Nat} (hd : ∀ x, d = some x → x < nt) {x : AV} {v : Value} (h : RepA k M x v) :
    RepT k M nt (putD t d x) (a.put d v) := by
  cases d with
  | none => exact r
  | some d =>
    have hlt : d < a.tmps.size := Nat.lt_of_lt_of_le (hd d rfl) r.size
    refine ⟨by simpa [Act.put] using r.size, fun n => ?_, r.defers⟩
    simp only [putD, look_upd, Act.put]
    by_cases e : d = n
    · subst e
      simp only [if_true]
      rw [show (a.tmps.setIfInBounds d v).getD d undef = v by simp [Array.getElem?_setIfInBounds, hlt]]
      exact h
    · rw [if_neg e, show (a.tmps.setIfInBounds d v).getD n undef = a.tmps.getD n undef by simp [Array.getElem?_setIfInBounds_ne e]]
      exact r.rep n
theorem RepT.keep {k : Keep} {M : Mem} {nt : Nat} {t : List (Nat × AV)} {a : Act} (r : RepT k M nt t a) (ks : List Nat) : RepT k M nt (keepT ks t) a :=
  ⟨r.size, fun n => by
    rcases look_keepT ks t n with h | h
    · rw [h]; exact r.rep n
    · rw [h]; trivial, r.defers⟩
theorem allCell_mem : ∀ (l : List Value), allCell l = true → ∀ u ∈ l, cellV u = true
  | [], _, u, hu => by simp at hu
  | v :: r, h, u, hu => by
    simp only [allCell, Bool.and_eq_true] at h
    rcases List.mem_cons.1 hu with rfl | hu
    · exact h.1
    · exact allCell_mem r h.2 u hu
theorem RepA.const1 (k : Keep) (M : Mem) (v : Value) : RepA k M (constAV1 v) v := by
  unfold constAV1
  split
  · exact ⟨_, rfl, rfl⟩
  · rfl
  · trivial
  · trivial
  · rename_i h1 h2 h3 h4
    refine ⟨?_, rfl⟩
    cases v <;> first | rfl | (exfalso; first | exact h3 _ rfl | exact h4 _ rfl)
theorem RepAs.const1 (k : Keep) (M : Mem) : ∀ l : List Value, RepAs k M (l.map constAV1) l
  | [] => rfl
  | v :: r => ⟨v, r, rfl, RepA.const1 k M v, RepAs.const1 k M r⟩
theorem RepA.const (k : Keep) (M : Mem) (v : Value) : RepA k M (constAV v) v := by
  unfold constAV
  split
  · rename_i cs
    by_cases h : allCell cs.toList = true
    · simp only [h, cond_true]
      exact ⟨cs.toList, by simp, RepAs.const1 k M _, allCell_mem _ h⟩
    · have h' : allCell cs.toList = false := by simpa using h
      simp only [h', cond_false]
      trivial
  · exact RepA.const1 k M v
theorem RepT.opv {k : Keep} {M : Mem} {nt : Nat} {t : List (Nat × AV)} {a : Act} (r : RepT k M nt t a) (x : Operand) : RepA k M (opv t x) (a.eval x) := by
  cases x with
  | tmp n => exact r.rep n
  | const v => exact RepA.const k M v
  | func f => exact ⟨[], rfl, rfl⟩
  | global g => trivial
theorem getBlk_some {st : Store} {loc ep : Nat} {b : Blk} (h : getBlk st loc ep = some b) : st[loc]? = some b ∧ b.elems.length = ep := by
  unfold getBlk at h
  split at h
  · rename_i x hx
    by_cases e : x.elems.length = ep
    · simp [e] at h; subst h; exact ⟨hx, e⟩
    · have : (x.elems.length == ep) = false := by simpa using e
      simp [this] at h
  · cases h
theorem fzAll_some {f : AV → Option D} : ∀ {l : List AV} {ds : List D}, fzAll f l = some ds → l.length = ds.length ∧ ∀ (i : Nat) a, l[i]? = some a → ∃ x, ds[i]? = some x ∧ f a = some x
  | [], ds, h => by simp [fzAll] at h; subst h; exact ⟨rfl, fun i a ha => by simp at ha⟩
  | a :: r, ds, h => by
    simp only [fzAll] at h
    split at h
    · rename_i x l hx hl
      cases h
      have ih := fzAll_some hl
      refine ⟨by simp [ih.1], fun i b hb => ?_⟩
      cases i with
      | zero => simp at hb; subst hb; exact ⟨x, rfl, hx⟩
      | succ i => obtain ⟨y, h1, h2⟩ := ih.2 i b (by simpa using hb); exact ⟨y, by simpa using h1, h2⟩
    · cases h
theorem CC.weak {k : Keep} {M : Mem} {brw : Bool} : ∀ b o v, CC k false M b o v → CC k brw M b o v :=
  fun b o v ⟨h1, h2, h3⟩ => ⟨h1, h2, fun i base x hm hx => (h3 i base x hm hx).imp id fun ⟨h, hl⟩ => ⟨h.imp (fun e => by simp at e) id, hl⟩⟩
theorem CC.brw {k : Keep} {M : Mem} {brw : Bool} : ∀ b o v, CC k brw M b o v → CC k true M b o v :=
  fun b o v ⟨h1, h2, h3⟩ => ⟨h1, h2, fun i base x hm hx => (h3 i base x hm hx).imp id fun ⟨h, hl⟩ => ⟨.inl rfl, hl⟩⟩
theorem fz_sound {k : Keep} {M : Mem} (hI : Inv k M) {st : Store} (hst : ∀ (i : Nat) b, st[i]? = some b → M.st[i]? = some b) {brw : Bool} :
    ∀ (n : Nat) (a : AV) (u : Value) (x : D), RepA k M a u → fz brw st n a = some x → RepD (CC k brw M) x u := by
  intro n
  induction n with
  | zero => intro a u x _ h; simp [fz] at h
  | succ n ih =>
    intro a u x hr h
    unfold fz at h
    split at h
    · cases h; exact RepD.mono CC.weak _ _ hr
    · cases h
      have : u = .slice none 0 0 := hr
      subst this
      exact ⟨none, 0, rfl, Nat.le_refl _, .inl rfl⟩
    · cases h
      rename_i l
      obtain ⟨a, rfl, h1⟩ := hr
      exact ⟨a, l.length, rfl, Nat.le_refl _, h1.imp id fun ⟨b, o, k', e, h2⟩ => ⟨b, o, k', e, RepRow.mono CC.weak b k' o l h2⟩⟩
    · cases h
      obtain ⟨cs, rfl, h1⟩ := hr
      have : cs = [] := h1
      subst this
      exact ⟨rfl, rfl⟩
    · rename_i l
      obtain ⟨ds, hds, rfl⟩ := Option.map_eq_some_iff.1 h
      obtain ⟨cs, rfl, hl, hc⟩ := hr
      obtain ⟨e1, e2⟩ := fzAll_some hds
      obtain ⟨g1, g2⟩ := (RepAs.iff l cs).1 hl
      refine ⟨cs, rfl, (RepDs.iff _ _).2 ⟨by omega, fun i y v hy hv => ?_⟩⟩
      have hlt := (List.getElem?_eq_some_iff.1 hv).1
      obtain ⟨a, ha⟩ : ∃ a, l[i]? = some a := ⟨_, List.getElem?_eq_getElem (by omega)⟩
      obtain ⟨y', hy', hf⟩ := e2 i a ha
      rw [hy] at hy'; cases hy'
      exact ⟨hc v (List.mem_of_getElem? hv), ih a v y (g2 i a v ha hv) hf⟩
    · rename_i loc ep es off len
      obtain ⟨b, hb, h⟩ := Option.bind_eq_some_iff.1 h
      obtain ⟨hb1, hb2⟩ := getBlk_some hb
      by_cases hcond : (b.row && (brw || b.shut) && Nat.ble (off + len) b.elems.length) = true
      · simp only [hcond, cond_true] at h
        simp only [Bool.and_eq_true, Bool.or_eq_true] at hcond
        obtain ⟨⟨hrow, hbs⟩, hle⟩ := hcond
        have hle : off + len ≤ b.elems.length := Nat.le_of_ble_eq_true hle
        obtain ⟨ds, hds, rfl⟩ := Option.map_eq_some_iff.1 h
        obtain ⟨e1, e2⟩ := fzAll_some hds
        have hlen : ds.length = len := by rw [← e1, List.length_take, List.length_drop]; omega
        obtain ⟨y, hy, hep, hs0, hrest⟩ := hr
        rw [hst _ _ hb1] at hy; cases hy
        obtain ⟨_, hcase⟩ := hrest hb2
        rcases hcase with ⟨hv, rfl, rfl, rfl⟩ | ⟨hv, hes0, hle2, blk, base, c, hm, rfl, hc, cs0, e0, fz0, hh0, hcap⟩
        · have : ds = [] := List.length_eq_zero_iff.1 hlen
          subst this
          exact ⟨none, 0, rfl, Nat.le_refl _, .inl rfl⟩
        · refine ⟨_, c, by rw [hlen], by omega, .inr ⟨blk, base + off * b.es, b.es, rfl, (RepRow.iff blk b.es ds _).2 fun i y hy => ?_⟩⟩
          have hilt := (List.getElem?_eq_some_iff.1 hy).1
          obtain ⟨a, ha⟩ : ∃ a, ((b.elems.drop off).take len)[i]? = some a := ⟨_, List.getElem?_eq_getElem (by omega)⟩
          obtain ⟨y', hy', hf⟩ := e2 i a ha
          rw [hy] at hy'; cases hy'
          have ha' : b.elems[off + i]? = some a := by
            rw [List.getElem?_take] at ha
            split at ha
            · rwa [List.getElem?_drop] at ha
            · cases ha
          obtain ⟨_, hes, cs, e, fz', hh, hsz, hfr, hel⟩ := hI.blk _ _ _ _ hm (hst _ _ hb1)
          obtain ⟨v, hv1, hv2, hv3, hv4⟩ := hel _ _ ha'
          refine ⟨v, ih a v y hv1 hf, hv2, fun j u hu => ?_⟩
          have hcell := hv4 j u hu
          have hjlt : j < b.es := by rw [← hv2]; exact (Array.getElem?_eq_some_iff.1 hu).1
          have eoff : base + off * b.es + i * b.es + j = base + (off + i) * b.es + j := by rw [Nat.add_mul]; omega
          refine ⟨?_, k.hk _ _ (hI.low _ _ _ hm), fun i' base' x' hm' hx' => ?_⟩
          · rw [eoff]
            show M.w.cell? _ = _
            rw [cell_of_row M.w blk _ cs e fz' hh]; exact hcell
          · obtain rfl := hI.inj _ _ _ _ _ hm' hm
            rw [hm] at hm'; cases hm'
            rw [hst _ _ hb1] at hx'; cases hx'
            refine .inr ⟨hbs.imp id id, ?_⟩
            rw [eoff]
            have : (off + i) * b.es + b.es ≤ b.elems.length * b.es := by
              rw [← Nat.succ_mul]; exact Nat.mul_le_mul_right _ (by omega)
            rw [Nat.mul_comm b.es]; omega
      · have hcond' : (b.row && (brw || b.shut) && Nat.ble (off + len) b.elems.length) = false := Bool.eq_false_iff.2 hcond
        simp [hcond'] at h
    · cases h
theorem fzAll_sound {k : Keep} {M : Mem} (hI : Inv k M) {st : Store} (hst : ∀ (i : Nat) b, st[i]? = some b → M.st[i]? = some b) {brw : Bool} {n : Nat}
    {l : List AV} {vs : List Value} {ds : List D} (h : RepAs k M l vs) (hf : fzAll (fz brw st n) l = some ds) :
    ds.length = vs.length ∧ ∀ (i : Nat) x v, ds[i]? = some x → vs[i]? = some v → RepD (CC k brw M) x v := by
  obtain ⟨e1, e2⟩ := fzAll_some hf
  obtain ⟨g1, g2⟩ := (RepAs.iff l vs).1 h
  refine ⟨by omega, fun i x v hx hv => ?_⟩
  have hlt := (List.getElem?_eq_some_iff.1 hx).1
  obtain ⟨a, ha⟩ : ∃ a, l[i]? = some a := ⟨_, List.getElem?_eq_getElem (by omega)⟩
  obtain ⟨y, hy, hfa⟩ := e2 i a ha
  rw [hx] at hy; cases hy
  exact fz_sound hI hst n a v x (g2 i a v ha hv) hfa
theorem fzE_sound {k : Keep} {M : Mem} (hI : Inv k M) {st : Store} (hst : ∀ (i : Nat) b, st[i]? = some b → M.st[i]? = some b) {a : AV} {u : Value} (h : RepA k M a u) : RepA k M (fzE st a) u := by
  unfold fzE
  split
  · rename_i x hx; exact fz_sound hI hst 6 a u x h hx
  · exact h
end Go.Eng
namespace Go.Eng
variable {P : Program}
theorem ti_spec {t : TypeId} {i : TI} (h : tiOf P t = some i) : ∃ info d, P.info? t = some info ∧ P.underlying t = some d ∧ i.size = info.size ∧ i.bytes = info.bytes ∧ i.zero = info.zero ∧ i.k = kOf P d := by
  unfold tiOf at h
  split at h
  · rename_i info d h1 h2; cases h; exact ⟨info, d, h1, h2, rfl, rfl, rfl, rfl⟩
  · cases h
theorem run_isAgg {t : TypeId} {i : TI} (h : tiOf P t = some i) (w : World) : (isAgg t).run P w = .ok i.agg w := by
  obtain ⟨info, d, h1, h2, _, _, _, h6⟩ := ti_spec h
  unfold isAgg
  simp only [Sem.run_bind, run_underlying h2, Result.andThen_ok]
  unfold TI.agg
  rw [h6]
  cases d <;> rfl
theorem run_sizeOf' {t : TypeId} {i : TI} (h : tiOf P t = some i) (w : World) : (sizeOf t).run P w = .ok i.size w := by
  obtain ⟨info, d, h1, h2, h3, _⟩ := ti_spec h
  simp [sizeOf, typeInfo, h1, h3]
theorem run_zero {t : TypeId} {i : TI} {z : Value} (h : tiOf P t = some i) (hz : i.zero = some z) (w : World) : (zeroValue t).run P w = .ok z w := by
  obtain ⟨info, d, h1, h2, h3, _, h5, _⟩ := ti_spec h
  simp [zeroValue, typeInfo, h1, ← h5, hz]
theorem part_sound {k : Keep} {M : Mem} {x : AV} {v : Value} {ag : Bool} {size off : Nat} {r : AV} (h : RepA k M x v) (hp : part ag size off x = some r) :
    ∃ vr, RepA k M r vr ∧ (ag = true → vr = .agg (v.cells.extract off (off + size)) ∧ off + size ≤ v.cells.size) ∧ (ag = false → v.cells[off]? = some vr) := by
  unfold part at hp
  cases ag with
  | false =>
    simp only [cond_false] at hp
    have hne : x.cells ≠ [] := by intro e; rw [e] at hp; simp at hp
    obtain ⟨h1, h2, h3, h4, h5⟩ := RepA.cells h hne
    have hlt := (List.getElem?_eq_some_iff.1 hp).1
    obtain ⟨u, hu⟩ : ∃ u, v.cells[off]? = some u := ⟨_, Array.getElem?_eq_getElem (by omega)⟩
    exact ⟨u, h5 off r u hp hu, by simp, fun _ => hu⟩
  | true =>
    simp only [cond_true] at hp
    split at hp
    · rename_i l
      obtain ⟨cs, rfl, hl⟩ := h
      obtain ⟨h1, h2⟩ := (RepDs.iff l cs).1 hl
      by_cases hw : (off == 0 && l.length == size) = true
      · simp only [hw, cond_true] at hp
        cases hp
        simp only [Bool.and_eq_true, beq_iff_eq] at hw
        obtain ⟨rfl, rfl⟩ := hw
        refine ⟨.agg cs.toArray, ⟨cs, rfl, hl⟩, fun _ => ⟨?_, ?_⟩, by simp⟩
        · simp only [Value.cells]; congr 1; rw [h1]; simp
        · simp [Value.cells, h1]
      · have hw' := Bool.eq_false_iff.2 hw
        simp only [hw', cond_false] at hp
        by_cases hle : Nat.ble (off + size) l.length = true
        · simp only [hle, cond_true] at hp
          cases hp
          have hle := Nat.le_of_ble_eq_true hle
          refine ⟨.agg ((cs.drop off).take size).toArray, ⟨_, rfl, (RepDs.iff _ _).2 ⟨by simp [h1], fun i y u hy hu => ?_⟩⟩, fun _ => ⟨?_, ?_⟩, by simp⟩
          · rw [List.getElem?_take] at hy hu
            split at hy
            · rename_i hi
              rw [if_pos hi] at hu
              rw [List.getElem?_drop] at hy hu
              exact h2 _ y u hy hu
            · cases hy
          · simp only [Value.cells]; congr 1; apply Array.ext'; simp [List.take_drop]
          · simp [Value.cells, ← h1]; omega
        · have hle' := Bool.eq_false_iff.2 hle
          simp [hle'] at hp
    · rename_i l
      obtain ⟨cs, rfl, hl, hcell⟩ := h
      obtain ⟨h1, h2⟩ := (RepAs.iff l cs).1 hl
      by_cases hw : (off == 0 && l.length == size) = true
      · simp only [hw, cond_true] at hp
        cases hp
        simp only [Bool.and_eq_true, beq_iff_eq] at hw
        obtain ⟨rfl, rfl⟩ := hw
        refine ⟨.agg cs.toArray, ⟨cs, rfl, hl, hcell⟩, fun _ => ⟨?_, ?_⟩, by simp⟩
        · simp only [Value.cells]; congr 1; rw [h1]; simp
        · simp [Value.cells, h1]
      · have hw' := Bool.eq_false_iff.2 hw
        simp only [hw', cond_false] at hp
        by_cases hle : Nat.ble (off + size) l.length = true
        · simp only [hle, cond_true] at hp
          cases hp
          have hle := Nat.le_of_ble_eq_true hle
          refine ⟨.agg ((cs.drop off).take size).toArray, ⟨_, rfl, (RepAs.iff _ _).2 ⟨by simp [h1], fun i y u hy hu => ?_⟩, fun c hc => hcell c (List.mem_of_mem_drop (List.mem_of_mem_take hc))⟩, fun _ => ⟨?_, ?_⟩, by simp⟩
          · rw [List.getElem?_take] at hy hu
            split at hy
            · rename_i hi
              rw [if_pos hi] at hu
              rw [List.getElem?_drop] at hy hu
              exact h2 _ y u hy hu
            · cases hy
          · simp only [Value.cells]; congr 1; apply Array.ext'; simp [List.take_drop]
          · simp [Value.cells, ← h1]; omega
        · have hle' := Bool.eq_false_iff.2 hle
          simp [hle'] at hp
    · cases hp
theorem run_loadVar_agg {t : TypeId} {i : TI} (h : tiOf P t = some i) (hag : i.agg = true) (w : World) (b o : Nat) (cs : Array Value) (hs : cs.size = i.size)
    (hc : ∀ (j : Nat) u, cs[j]? = some u → cellAt w b (o + j) = some u) : (loadVar t ⟨b, o, none⟩).run P w = .ok (.agg cs) w := by
  have := run_loadCells_list (P := P) w ⟨b, o, none⟩ cs.toList (fun j v hj => by rw [Addr.add_lit]; exact hc j v (by simpa using hj))
  simp only [Array.length_toList, hs] at this
  simp only [loadVar, Sem.run_bind, run_isAgg h, Result.andThen_ok, hag, if_true, run_sizeOf' h, this]
  rfl
theorem run_loadVar_one {t : TypeId} {i : TI} (h : tiOf P t = some i) (hag : i.agg = false) (w : World) (b o : Nat) (u : Value) 
    (hc : cellAt w b o = some u) : (loadVar t ⟨b, o, none⟩).run P w = .ok u w := by
  simp only [loadVar, Sem.run_bind, run_isAgg h, Result.andThen_ok, hag, Bool.false_eq_true, if_false, run_load]
  rw [show w.cell? ⟨b, o, none⟩ = some u from hc]
theorem load_part {k : Keep} {M : Mem} {t : TypeId} {i : TI} (ht : tiOf P t = some i) {x : AV} {v : Value} {off : Nat} {r : AV} (h : RepA k M x v) (hp : part i.agg i.size off x = some r)
    (b o : Nat) (hc : ∀ (j : Nat) u, v.cells[j]? = some u → cellAt M.w b (o + j) = some u) :
    ∃ vr, (loadVar t ⟨b, o + off, none⟩).run P M.w = .ok vr M.w ∧ RepA k M r vr := by
  obtain ⟨vr, h1, h2, h3⟩ := part_sound h hp
  refine ⟨vr, ?_, h1⟩
  cases hag : i.agg with
  | true =>
    obtain ⟨rfl, hle⟩ := h2 hag
    refine run_loadVar_agg ht hag M.w b (o + off) _ (by simp; omega) fun j u hu => ?_
    rw [Array.getElem?_extract] at hu
    split at hu
    · rename_i hlt; rw [Nat.add_assoc]; exact hc _ u hu
    · cases hu
  | false => exact run_loadVar_one ht hag M.w b (o + off) vr (hc off vr (h3 hag))
theorem RepA.unt {k : Keep} {M : Mem} {x : AV} {v : Value} (h : RepA k M x v) : RepA k M x.unt v := by
  cases x with
  | tptr t n loc off => exact h.1
  | tsref t loc ep es len => exact h.1
  | _ => exact h
theorem ldPtr0_sound {k : Keep} {M : Mem} (hI : Inv k M) {st : Store} (hst : ∀ (i : Nat) b, st[i]? = some b → M.st[i]? = some b) {t : TypeId} {i : TI} (ht : tiOf P t = some i)
    {p r : AV} {u : Value} (hu : RepA k M p u) (h : ldPtr0 st i p = some r) : ∃ ad vr, u = .pointer (some ad) ∧ (loadVar t ad).run P M.w = .ok vr M.w ∧ RepA k M r vr := by
  unfold ldPtr0 at h
  split at h
  · rename_i loc ep idx off
    obtain ⟨x, hx, h⟩ := Option.bind_eq_some_iff.1 h
    obtain ⟨e, he, h⟩ := Option.bind_eq_some_iff.1 h
    obtain ⟨hx1, hx2⟩ := getBlk_some hx
    obtain ⟨y, hy, _, hv, _⟩ := hu
    rw [hst _ _ hx1] at hy; cases hy
    obtain ⟨_, b, base, hm, rfl⟩ := hv hx2
    obtain ⟨_, hes, cs, el, fz', hh, hsz, hfr, hel⟩ := hI.blk _ _ _ _ hm (hst _ _ hx1)
    obtain ⟨v, hv1, hv2, hv3, hv4⟩ := hel _ _ he
    obtain ⟨vr, g1, g2⟩ := load_part ht hv1 h b (base + idx * x.es) (fun j u hu => by
      show M.w.cell? _ = _
      rw [cell_of_row M.w b _ cs el fz' hh]; exact hv4 j u hu)
    exact ⟨_, vr, rfl, g1, g2⟩
  · rename_i x off
    obtain ⟨b, o, v, rfl, hx, hj⟩ := hu
    obtain ⟨vr, g1, g2⟩ := load_part ht (x := .d x) hx h b o (fun j u hu => (hj j u hu).1)
    exact ⟨_, vr, rfl, g1, g2⟩
  · cases h
theorem ldPtr_sound {k : Keep} {M : Mem} (hI : Inv k M) {st : Store} (hst : ∀ (i : Nat) b, st[i]? = some b → M.st[i]? = some b) {t : TypeId} {i : TI} (ht : tiOf P t = some i)
    {p r : AV} {u : Value} (hu : RepA k M p u) (h : ldPtr st i p = some r) : ∃ ad vr, u = .pointer (some ad) ∧ (loadVar t ad).run P M.w = .ok vr M.w ∧ RepA k M r vr :=
  ldPtr0_sound hI hst ht hu.unt h
theorem cellAt_alloc (w : World) (o : Obj) (b j : Nat) (h : b < w.heap.size) : cellAt (w.alloc o) b j = cellAt w b j := by
  show World.cell? _ _ = World.cell? _ _
  unfold World.cell?
  rw [show (w.alloc o).heap[b]? = w.heap[b]? from heap_alloc_old w o h]
theorem lt_of_cellAt {w : World} {b j : Nat} {v : Value} (h : cellAt w b j = some v) : b < w.heap.size := World.block_lt_of_cell? w ⟨b, j, none⟩ h
theorem grow {k : Keep} {M : Mem} (hI : Inv k M) {n base : Nat} {x : Blk} (hx : M.st[n]? = some x) (hn : M.m n = none) {cs : Array Value} {e : TypeId} {fz0 : Nat × Nat}
    (w0 : World) (hw : w0.heap = M.w.heap) (ho : w0.os = M.w.os) (htp : w0.tape = M.w.tape) (hout : w0.output = M.w.output)
    (hvi : x.virt = false) (hes : 0 < x.es) (hsz : base + x.es * x.elems.length ≤ cs.size)
    (hfr : ∀ j, j < cs.size → base ≤ j → (x.shut = true → base + x.es * x.elems.length ≤ j) → ¬ (fz0.1 ≤ j ∧ j < fz0.2))
    (hel : ∀ (i : Nat) av, x.elems[i]? = some av → ∃ v : Value, RepA k M av v ∧ v.cells.size = x.es ∧ (∀ u ∈ v.cells, cellV u = true) ∧ ∀ (j : Nat) u, v.cells[j]? = some u → cs[base + i * x.es + j]? = some u) :
    Stp k M ⟨fun j => if j = n then some (M.w.heap.size, base) else M.m j, M.st, w0.alloc (.cells cs e fz0)⟩ := by
  have hsize : (w0.alloc (.cells cs e fz0)).heap.size = M.w.heap.size + 1 := by simp [World.alloc, hw]
  have hold : ∀ b, b < M.w.heap.size → (w0.alloc (.cells cs e fz0)).heap[b]? = M.w.heap[b]? := fun b hb => by
    rw [show (w0.alloc (.cells cs e fz0)).heap[b]? = w0.heap[b]? from heap_alloc_old w0 _ (by rw [hw]; exact hb), hw]
  have hnew : (w0.alloc (.cells cs e fz0)).heap[M.w.heap.size]? = some (.cells cs e fz0) := by rw [← hw]; exact heap_alloc_new w0 _
  have hmlt : ∀ i b o, M.m i = some (b, o) → b < M.w.heap.size := by
    intro i b o hi
    obtain ⟨y, hy⟩ : ∃ y, M.st[i]? = some y := ⟨_, List.getElem?_eq_getElem (hI.dom _ _ hi)⟩
    obtain ⟨_, _, cs', e', f', hh, _⟩ := hI.blk _ _ _ _ hi hy
    exact (Array.getElem?_eq_some_iff.1 hh).1
  have hevo : Evo M ⟨fun j => if j = n then some (M.w.heap.size, base) else M.m j, M.st, w0.alloc (.cells cs e fz0)⟩ := by
    refine ⟨Nat.le_refl _, fun i y hy => ⟨y, hy, Nat.le_refl _, rfl, rfl, fun _ => ⟨rfl, fun _ => rfl, fun p hp => ?_⟩⟩, fun b o v hv hp => ?_, fun b c e' f' hb => ?_, by simp only [hsize]; omega⟩
    · show (if i = n then _ else _) = _
      rw [if_neg (fun e => by subst e; rw [hn] at hp; cases hp)]; exact hp
    · have hlt := lt_of_cellAt hv
      refine ⟨?_, fun i base' y hm hy => ?_⟩
      · show World.cell? _ _ = _
        unfold World.cell?
        rw [show (w0.alloc (.cells cs e fz0)).heap[b]? = _ from hold b hlt]
        exact hv
      · simp only at hm
        by_cases hi : i = n
        · rw [if_pos hi] at hm; cases hm; omega
        · rw [if_neg hi] at hm; exact hp i base' y hm hy
    · exact ⟨c, f', by rw [show (w0.alloc (.cells cs e fz0)).heap[b]? = _ from hold b (Array.getElem?_eq_some_iff.1 hb).1]; exact hb, rfl, id⟩
  refine ⟨⟨fun i j b o o' hi hj => ?_, fun i p hi => ?_, fun i b o hi => ?_, by simp only [hsize]; have := hI.big; omega, fun i b o y hi hy => ?_, hI.frm⟩, hevo, ⟨ho, htp, hout, fun b hb _ => hold b hb, fun i b o hi => ?_⟩⟩
  · simp only at hi hj
    by_cases h1 : i = n <;> by_cases h2 : j = n
    · rw [h1, h2]
    · rw [if_pos h1] at hi; rw [if_neg h2] at hj; cases hi; have := hmlt _ _ _ hj; omega
    · rw [if_neg h1] at hi; rw [if_pos h2] at hj; cases hj; have := hmlt _ _ _ hi; omega
    · rw [if_neg h1] at hi; rw [if_neg h2] at hj; exact hI.inj _ _ _ _ _ hi hj
  · simp only at hi
    by_cases h1 : i = n
    · rw [h1]; exact (List.getElem?_eq_some_iff.1 hx).1
    · rw [if_neg h1] at hi; exact hI.dom _ _ hi
  · simp only at hi
    by_cases h1 : i = n
    · rw [if_pos h1] at hi; cases hi; exact hI.big
    · rw [if_neg h1] at hi; exact hI.low _ _ _ hi
  · simp only at hi
    by_cases h1 : i = n
    · rw [if_pos h1] at hi; cases hi
      subst h1
      simp only at hy
      rw [hx] at hy; cases hy
      refine ⟨hvi, hes, cs, e, fz0, hnew, hsz, hfr, fun i av hi => ?_⟩
      obtain ⟨v, g1, g2⟩ := hel i av hi
      exact ⟨v, RepA.evo hevo _ _ g1, g2⟩
    · rw [if_neg h1] at hi
      obtain ⟨g1, g2, cs', e', f', hh, g3, g4, g5⟩ := hI.blk _ _ _ _ hi hy
      refine ⟨g1, g2, cs', e', f', by rw [show (w0.alloc (.cells cs e fz0)).heap[b]? = _ from hold b (hmlt _ _ _ hi)]; exact hh, g3, g4, fun i av hi => ?_⟩
      obtain ⟨v, q1, q2⟩ := g5 i av hi
      exact ⟨v, RepA.evo hevo _ _ q1, q2⟩
  · simp only at hi
    by_cases h1 : i = n
    · rw [if_pos h1] at hi; cases hi; exact .inr (Nat.le_refl _)
    · rw [if_neg h1] at hi; exact .inl ⟨i, o, hi⟩
end Go.Eng
namespace Go.Eng
variable {P : Program}
theorem cellV_eq (v : Value) : v.oneCell' = cellV v := by cases v <;> rfl
theorem Inv.more {k : Keep} {M : Mem} (hI : Inv k M) {st' : Store} (hpre : ∀ (i : Nat) x, M.st[i]? = some x → st'[i]? = some x) (hlen : M.st.length ≤ st'.length)
    (hf : ∀ (i : Nat) x, st'[i]? = some x → BlkForm x) : Stp k M ⟨M.m, st', M.w⟩ := by
  have hP : ∀ brw b o, Prot brw M.m M.st b o → Prot brw M.m st' b o := fun brw b o h i base x hm hx => by
    obtain ⟨y, hy⟩ : ∃ y, M.st[i]? = some y := ⟨_, List.getElem?_eq_getElem (hI.dom _ _ hm)⟩
    have := hpre i y hy
    rw [hx] at this; cases this
    exact h i base x hm hy
  have hevo : Evo M ⟨M.m, st', M.w⟩ := ⟨hlen, fun i x hx => ⟨x, hpre i x hx, Nat.le_refl _, rfl, rfl, fun _ => ⟨rfl, fun _ => rfl, fun _ h => h⟩⟩, fun b o v hv hp => ⟨hv, hP _ _ _ hp⟩,
    fun b cs e fz h => ⟨cs, fz, h, rfl, id⟩, Nat.le_refl _⟩
  refine ⟨⟨hI.inj, fun i p hi => Nat.lt_of_lt_of_le (hI.dom i p hi) hlen, hI.low, hI.big, fun i b o x hm hx => ?_, hf⟩, hevo, ⟨rfl, rfl, rfl, fun _ _ _ => rfl, fun i b o h => .inl ⟨i, o, h⟩⟩⟩
  obtain ⟨y, hy⟩ : ∃ y, M.st[i]? = some y := ⟨_, List.getElem?_eq_getElem (hI.dom _ _ hm)⟩
  have := hpre i y hy
  simp only at hx
  rw [hx] at this; cases this
  obtain ⟨g1, g2, cs, e, fz, g3, g4, g5, g6⟩ := hI.blk _ _ _ _ hm hy
  refine ⟨g1, g2, cs, e, fz, g3, g4, g5, fun j av hj => ?_⟩
  obtain ⟨v, h1, h2⟩ := g6 j av hj
  exact ⟨v, RepA.evo hevo _ _ h1, h2⟩
theorem Inv.lt {k : Keep} {M : Mem} (hI : Inv k M) {i b o : Nat} (hi : M.m i = some (b, o)) : b < M.w.heap.size := by
  obtain ⟨y, hy⟩ : ∃ y, M.st[i]? = some y := ⟨_, List.getElem?_eq_getElem (hI.dom _ _ hi)⟩
  obtain ⟨_, _, cs', e', f', hh, _⟩ := hI.blk _ _ _ _ hi hy
  exact (Array.getElem?_eq_some_iff.1 hh).1
theorem wrote {k : Keep} {M : Mem} (hI : Inv k M) {loc b base : Nat} {x x' : Blk} (hm : M.m loc = some (b, base)) (hx : M.st[loc]? = some x)
    (hrow : x'.row = x.row) (hsh : x'.shut = x.shut) (hes : x'.es = x.es) (hvi : x'.virt = false) (hlen : x.elems.length ≤ x'.elems.length) (hform : BlkForm x')
    {cs ncs : Array Value} {e : TypeId} {fz0 : Nat × Nat} (hh : M.w.heap[b]? = some (.cells cs e fz0)) {w' : World}
    (hw1 : w'.heap.size = M.w.heap.size) (hw2 : ∀ b', b' ≠ b → w'.heap[b']? = M.w.heap[b']?) (hw3 : w'.heap[b]? = some (.cells ncs e fz0)) (hn : ncs.size = cs.size)
    (ho : w'.os = M.w.os) (htp : w'.tape = M.w.tape) (hout : w'.output = M.w.output)
    (hkeep : ∀ j, (j < base ∨ (x.shut = true ∧ j < base + x.es * x.elems.length)) → ncs[j]? = cs[j]?)
    (hfit : base + x.es * x'.elems.length ≤ cs.size)
    (hel : ∀ (i : Nat) av, x'.elems[i]? = some av → ∃ v : Value, RepA k M av v ∧ v.cells.size = x.es ∧ (∀ u ∈ v.cells, cellV u = true) ∧ ∀ (j : Nat) u, v.cells[j]? = some u → ncs[base + i * x.es + j]? = some u) :
    Stp k M ⟨M.m, M.st.set loc x', w'⟩ := by
  have hloc := hI.dom _ _ hm
  obtain ⟨g1, g2, cs0, e0, fz1, g3, g4, g5, g6⟩ := hI.blk _ _ _ _ hm hx
  rw [hh] at g3; cases g3
  have hget : ∀ (i : Nat) y, (M.st.set loc x')[i]? = some y → (i = loc ∧ y = x') ∨ (i ≠ loc ∧ M.st[i]? = some y) := fun i y hy => by
    by_cases hi : i = loc
    · subst hi; rw [List.getElem?_set_self hloc] at hy; cases hy; exact .inl ⟨rfl, rfl⟩
    · rw [List.getElem?_set_ne (fun e => hi e.symm)] at hy; exact .inr ⟨hi, hy⟩
  have hset : (M.st.set loc x')[loc]? = some x' := List.getElem?_set_self hloc
  have hcell : ∀ b' o v, cellAt M.w b' o = some v → Prot false M.m M.st b' o → cellAt w' b' o = some v := fun b' o v hv hp => by
    by_cases hb : b' = b
    · subst hb
      show w'.cell? _ = _
      rw [cell_of_row w' b' _ ncs e fz0 hw3]
      have hv' : M.w.cell? ⟨b', o, none⟩ = some v := hv
      rw [cell_of_row M.w b' _ cs e fz0 hh] at hv'
      rw [hkeep o ((hp loc base x hm hx).imp id fun ⟨h, hl⟩ => ⟨h.resolve_left (by simp), hl⟩)]
      exact hv'
    · show World.cell? _ _ = _
      unfold World.cell?
      rw [hw2 b' hb]; exact hv
  have hevo : Evo M ⟨M.m, M.st.set loc x', w'⟩ := by
    refine ⟨by simp, fun i y hy => ?_, fun b' o v hv hp => ⟨hcell b' o v hv hp, fun i base' y hm' hy => ?_⟩, fun b' c e' f' hb => ?_, by simp only [hw1]; exact Nat.le_refl _⟩
    · by_cases hi : i = loc
      · subst hi
        rw [hx] at hy; cases hy
        exact ⟨x', hset, hlen, hrow, hsh, fun _ => ⟨by rw [hvi, g1], fun _ => hes, fun p hp => hp⟩⟩
      · exact ⟨y, by simp only; rw [List.getElem?_set_ne (fun e => hi e.symm)]; exact hy, Nat.le_refl _, rfl, rfl, fun _ => ⟨rfl, fun _ => rfl, fun _ h => h⟩⟩
    · simp only at hm' hy
      rcases hget i y hy with ⟨rfl, rfl⟩ | ⟨hi, hy'⟩
      · rw [hm] at hm'; cases hm'
        refine (hp _ _ x hm hx).imp id fun ⟨h, hl⟩ => ⟨h.imp id fun h => by rw [hsh]; exact h, ?_⟩
        rw [hes]
        exact Nat.lt_of_lt_of_le hl (Nat.add_le_add_left (Nat.mul_le_mul_left _ hlen) _)
      · exact hp i base' y hm' hy'
    · by_cases hbb : b' = b
      · subst hbb; rw [hh] at hb; cases hb; exact ⟨ncs, _, hw3, hn, id⟩
      · exact ⟨c, f', by simp only; rw [hw2 b' hbb]; exact hb, rfl, id⟩
  refine ⟨⟨hI.inj, fun i p hi => by simp only [List.length_set]; exact hI.dom i p hi, hI.low, by simp only [hw1]; exact hI.big, fun i b' o y hm' hy => ?_, fun i y hy => ?_⟩, hevo,
    ⟨ho, htp, hout, fun b' hb hno => hw2 b' (fun e => hno loc base (by rw [e]; exact hm)), fun i b' o h => .inl ⟨i, o, h⟩⟩⟩
  · simp only at hm' hy
    rcases hget i y hy with ⟨rfl, rfl⟩ | ⟨hi, hy'⟩
    · rw [hm] at hm'; cases hm'
      refine ⟨hvi, by rw [hes]; exact g2, ncs, e, fz0, hw3, by rw [hes, hn]; exact hfit, fun j hj hbj hs => ?_, fun j av hj => ?_⟩
      · rw [hn] at hj
        refine g5 j hj hbj fun h => ?_
        have := hs (by rw [hsh]; exact h)
        rw [hes] at this
        exact Nat.le_trans (Nat.add_le_add_left (Nat.mul_le_mul_left _ hlen) _) this
      · obtain ⟨v, h1, h2, h3, h4⟩ := hel j av hj
        exact ⟨v, RepA.evo hevo _ _ h1, by rw [hes]; exact h2, h3, fun q u hq => by rw [hes]; exact h4 q u hq⟩
    · have hne : b' ≠ b := fun e => by subst e; exact hi (hI.inj _ _ _ _ _ hm' hm)
      obtain ⟨q1, q2, cs2, e2, fz2, q3, q4, q5, q6⟩ := hI.blk _ _ _ _ hm' hy'
      refine ⟨q1, q2, cs2, e2, fz2, by simp only; rw [hw2 b' hne]; exact q3, q4, q5, fun j av hj => ?_⟩
      obtain ⟨v, h1, h2⟩ := q6 j av hj
      exact ⟨v, RepA.evo hevo _ _ h1, h2⟩
  · rcases hget i y hy with ⟨rfl, rfl⟩ | ⟨hi, hy'⟩
    · exact hform
    · exact hI.frm i y hy'
theorem setCells_spec (b : Nat) (e : TypeId) (fz0 : Nat × Nat) : ∀ (vs : List Value) (o : Nat) (w : World) (cs : Array Value), w.heap[b]? = some (.cells cs e fz0) → o + vs.length ≤ cs.size →
    ∃ ncs : Array Value, (w.setCells b o vs).heap[b]? = some (.cells ncs e fz0) ∧ ncs.size = cs.size ∧ (∀ j, (j < o ∨ o + vs.length ≤ j) → ncs[j]? = cs[j]?) ∧ (∀ (j : Nat) u, vs[j]? = some u → ncs[o + j]? = some u) ∧
      (w.setCells b o vs).heap.size = w.heap.size ∧ (∀ b', b' ≠ b → (w.setCells b o vs).heap[b']? = w.heap[b']?) ∧ (w.setCells b o vs).os = w.os ∧ (w.setCells b o vs).tape = w.tape ∧ (w.setCells b o vs).output = w.output
  | [], o, w, cs, h, _ => ⟨cs, h, rfl, fun _ _ => rfl, fun j u hu => by simp at hu, rfl, fun _ _ => rfl, rfl, rfl, rfl⟩
  | v :: r, o, w, cs, h, hl => by
    simp only [List.length_cons] at hl
    have hb : b < w.heap.size := (Array.getElem?_eq_some_iff.1 h).1
    have h1 : (w.setCell ⟨b, o, none⟩ v).heap[b]? = some (.cells (cs.setIfInBounds o v) e fz0) := by
      simp [World.setCell, Array.getElem?_modify, h]
    obtain ⟨ncs, g1, g2, g3, g4, g5, g6, g7, g8, g9⟩ := setCells_spec b e fz0 r (o + 1) (w.setCell ⟨b, o, none⟩ v) _ h1 (by simp; omega)
    refine ⟨ncs, g1, by rw [g2]; simp, fun j hj => ?_, fun j u hu => ?_, g5.trans (by simp [World.setCell]), fun b' hb' => (g6 b' hb').trans ?_, g7, g8, g9⟩
    · simp only [List.length_cons] at hj
      rw [g3 j (by omega), Array.getElem?_setIfInBounds_ne (by omega)]
    · cases j with
      | zero =>
        simp at hu; subst hu
        rw [Nat.add_zero, g3 o (by omega)]
        simp [Array.getElem?_setIfInBounds, show o < cs.size by omega]
      | succ j =>
        have := g4 j u (by simpa using hu)
        rwa [show o + (j + 1) = o + 1 + j by omega]
    · simp only [World.setCell, Array.getElem?_modify]
      rw [if_neg (by simpa using fun e => hb' e.symm)]
theorem setPart_sound {k : Keep} {M : Mem} {x y r : AV} {v u : Value} {off : Nat} (hx : RepA k M x v) (hy : RepA k M y u) (hyne : y.cells ≠ []) (h : setPart off y x = some r) :
    ∃ vr : Value, RepA k M r vr ∧ vr.cells.size = v.cells.size ∧ (∀ c ∈ vr.cells, cellV c = true) ∧ off + u.cells.size ≤ v.cells.size ∧
      ∀ (j : Nat) c, vr.cells[j]? = some c → (off ≤ j ∧ j < off + u.cells.size ∧ u.cells[j - off]? = some c) ∨ ((j < off ∨ off + u.cells.size ≤ j) ∧ v.cells[j]? = some c) := by
  have hyl : 0 < y.cells.length := List.length_pos_iff.2 hyne
  have hxne : x.cells ≠ [] := by
    intro e
    unfold setPart at h
    rw [e] at h
    cases hag : x.isAgg <;> simp only [hag, cond_true, cond_false] at h
    · simp at h
    · have h1 : (y.cells.length == 0) = false := by apply beq_false_of_ne; omega
      have h2 : Nat.ble (off + y.cells.length) 0 = false := Bool.eq_false_iff.2 fun h3 => by have := Nat.le_of_ble_eq_true h3; omega
      simp [h1, h2] at h
  obtain ⟨x1, x2, x3, x4, x5⟩ := RepA.cells hx hxne
  obtain ⟨y1, y2, y3, y4, y5⟩ := RepA.cells hy hyne
  unfold setPart at h
  by_cases hag : x.isAgg = true
  · simp only [hag, cond_true] at h
    by_cases hw : (y.isAgg && (off == 0 && y.cells.length == x.cells.length)) = true
    · simp only [hw, cond_true] at h
      cases h
      simp only [Bool.and_eq_true, beq_iff_eq] at hw
      obtain ⟨_, rfl, hl⟩ := hw
      refine ⟨u, hy, by omega, y2, by omega, fun j c hc => .inl ⟨Nat.zero_le _, ?_, by simpa using hc⟩⟩
      have := (Array.getElem?_eq_some_iff.1 hc).1; omega
    · simp only [Bool.eq_false_iff.2 hw, cond_false] at h
      by_cases hle : Nat.ble (off + y.cells.length) x.cells.length = true
      · simp only [hle, cond_true] at h
        cases h
        have hle := Nat.le_of_ble_eq_true hle
        obtain ⟨cs, rfl⟩ := x3 hag
        simp only [Value.cells] at x1 x2 x5
        let cs' : List Value := cs.toList.take off ++ (u.cells.toList ++ cs.toList.drop (off + u.cells.size))
        have hsz : cs'.length = cs.size := by simp only [cs', List.length_append, List.length_take, List.length_drop, Array.length_toList]; omega
        have hget : ∀ (j : Nat) c, cs'[j]? = some c → (off ≤ j ∧ j < off + u.cells.size ∧ u.cells[j - off]? = some c) ∨ ((j < off ∨ off + u.cells.size ≤ j) ∧ cs[j]? = some c) := by
          intro j c hc
          have hl1 : (cs.toList.take off).length = off := by simp; omega
          by_cases h1 : j < off
          · right
            rw [List.getElem?_append_left (by omega), List.getElem?_take, if_pos h1] at hc
            exact ⟨.inl h1, by simpa using hc⟩
          · rw [List.getElem?_append_right (by omega), hl1] at hc
            by_cases h2 : j - off < u.cells.toList.length
            · left
              rw [List.getElem?_append_left h2] at hc
              simp only [Array.length_toList] at h2
              exact ⟨by omega, by omega, by simpa using hc⟩
            · right
              rw [List.getElem?_append_right (by omega), List.getElem?_drop] at hc
              simp only [Array.length_toList] at h2 hc
              refine ⟨.inr (by omega), ?_⟩
              rw [show off + u.cells.size + (j - off - u.cells.size) = j by omega] at hc
              simpa using hc
        refine ⟨.agg cs'.toArray, ⟨cs', rfl, (RepAs.iff _ _).2 ⟨?_, fun i a c ha hc => ?_⟩, fun c hc => ?_⟩, by simp [Value.cells, hsz], fun c hc => ?_, by show off + u.cells.size ≤ cs.size; omega, fun j c hc => hget j c (by simpa [Value.cells] using hc)⟩
        · simp only [cs', List.length_append, List.length_take, List.length_drop, Array.length_toList]; omega
        · have hl2 : (x.cells.take off).length = off := by simp; omega
          rcases hget i c hc with ⟨h1, h2, h3⟩ | ⟨h1, h3⟩
          · rw [List.getElem?_append_right (by omega), hl2, List.getElem?_append_left (by omega)] at ha
            exact y5 _ a c ha h3
          · rcases h1 with h1 | h1
            · rw [List.getElem?_append_left (by omega), List.getElem?_take, if_pos h1] at ha
              exact x5 _ a c ha h3
            · rw [List.getElem?_append_right (by omega), hl2, List.getElem?_append_right (by omega), List.getElem?_drop, show off + y.cells.length + (i - off - y.cells.length) = i by omega] at ha
              exact x5 _ a c ha h3
        · obtain ⟨j, hj⟩ := List.getElem?_of_mem hc
          rcases hget j c hj with ⟨_, _, h3⟩ | ⟨_, h3⟩
          · exact y2 c (Array.mem_of_getElem? h3)
          · exact x2 c (Array.mem_of_getElem? h3)
        · simp only [Value.cells] at hc
          obtain ⟨j, hj⟩ := List.getElem?_of_mem (List.mem_toArray.1 hc)
          rcases hget j c hj with ⟨_, _, h3⟩ | ⟨_, h3⟩
          · exact y2 c (Array.mem_of_getElem? h3)
          · exact x2 c (Array.mem_of_getElem? h3)
      · simp [Bool.eq_false_iff.2 hle] at h
  · simp only [Bool.eq_false_iff.2 hag, cond_false] at h
    by_cases hw : (off == 0 && !y.isAgg && x.cells.length == 1) = true
    · simp only [hw, cond_true] at h
      cases h
      simp only [Bool.and_eq_true, beq_iff_eq, Bool.not_eq_true'] at hw
      obtain ⟨⟨rfl, hyag⟩, _⟩ := hw
      have e1 := x4 (Bool.eq_false_iff.2 hag)
      have e2 := y4 hyag
      refine ⟨u, hy, by rw [e1, e2]; rfl, y2, by rw [e1, e2]; simp, fun j c hc => .inl ⟨Nat.zero_le _, ?_, by simpa using hc⟩⟩
      have := (Array.getElem?_eq_some_iff.1 hc).1; omega
    · simp [Bool.eq_false_iff.2 hw] at h
end Go.Eng
namespace Go.Eng
variable {P : Program}
def Pre (st stE : Store) : Prop := ∀ (i : Nat) b, st[i]? = some b → stE[i]? = some b
theorem asI_some {x : AV} {n : Int} (h : asI x = some n) : ∃ k, x = .d (.lit (.int k n)) := by
  unfold asI at h
  split at h
  · cases h; exact ⟨_, rfl⟩
  · cases h
theorem asB_some {x : AV} {n : Bool} (h : asB x = some n) : x = .d (.lit (.bool n)) := by
  unfold asB at h
  split at h
  · cases h; rfl
  · cases h
theorem RepA.int {k : Keep} {M : Mem} {q : IntKind} {n : Int} {v : Value} (h : RepA k M (.d (.lit (.int q n))) v) : v = .int q n := h.2
theorem RepA.bool {k : Keep} {M : Mem} {n : Bool} {v : Value} (h : RepA k M (.d (.lit (.bool n))) v) : v = .bool n := h.2
theorem RepA.mkInt {k : Keep} {M : Mem} (q : IntKind) (n : Int) : RepA k M (.d (.lit (.int q n))) (.int q n) := ⟨rfl, rfl⟩
theorem RepA.mkBool {k : Keep} {M : Mem} (n : Bool) : RepA k M (.d (.lit (.bool n))) (.bool n) := ⟨rfl, rfl⟩
theorem mapM_get {α β : Type} {f : α → Option β} : ∀ {l : List α} {r : List β}, l.mapM f = some r → ∀ (i : Nat) y, r[i]? = some y → ∃ x, l[i]? = some x ∧ f x = some y
  | [], r, h, i, y, hy => by simp at h; subst h; simp at hy
  | a :: l, r, h, i, y, hy => by
    simp only [List.mapM_cons, Option.bind_eq_bind, Option.pure_def] at h
    obtain ⟨b, hb, h2⟩ := Option.bind_eq_some_iff.1 h
    obtain ⟨t, ht, h3⟩ := Option.bind_eq_some_iff.1 h2
    cases h3
    cases i with
    | zero => simp at hy; subst hy; exact ⟨a, rfl, hb⟩
    | succ i => obtain ⟨x, h4, h5⟩ := mapM_get ht i y (by simpa using hy); exact ⟨x, by simpa using h4, h5⟩
theorem fieldP_sound {k : Keep} {M : Mem} {t : TypeId} {i : TI} (ht : tiOf P t = some i) {f : Nat} {p r : AV} {u : Value} (hu : RepA k M p u) (h : fieldP i f p = some r) (w : World) :
    ∃ v, (Instr.fieldAt t u f).run P w = .ok v w ∧ RepA k M r v := by
  obtain ⟨info, d, h1, h2, h3, h4, h5, h6⟩ := ti_spec ht
  unfold fieldP at h
  rw [h6] at h
  cases d <;> simp only [kOf] at h <;> try (cases h; done)
  rename_i fields
  split at h
  case h_2 => cases h
  rename_i l hl
  have hl' : fields.toList.mapM (fun f => (P.info? f.type).map fun i => (f.offset, i.size)) = some l := by injection hl
  obtain ⟨⟨o, sz⟩, hf, h9⟩ := Option.bind_eq_some_iff.1 h
  clear h
  obtain ⟨fd, hfd, hfe⟩ := mapM_get hl' f _ hf
  obtain ⟨inf, hi, hfe⟩ := Option.map_eq_some_iff.1 hfe
  cases hfe
  rw [Array.getElem?_toList] at hfd
  by_cases hz : (inf.size == 0) = true
  · simp [hz] at h9
  · simp only [Bool.eq_false_iff.2 hz, cond_false] at h9
    have hne : inf.size ≠ 0 := by simpa using hz
    have hrun : ∀ a : Addr, (Instr.fieldAt t (.pointer (some a)) f).run P w = .ok (.pointer (some (a.add fd.offset))) w := fun a => by
      simp [Instr.fieldAt, run_underlying h2, hfd, Instr.sureAddr, fieldPlace, sizeOf, typeInfo, hi, hne]
    split at h9
    · cases h9
      rename_i loc ep idx off
      obtain ⟨x, hx, he, hv, a, rfl⟩ := hu
      refine ⟨_, hrun a, x, hx, he, fun e => ?_, _, rfl⟩
      obtain ⟨g1, b, base, hm, hv⟩ := hv e
      cases hv
      exact ⟨g1, b, base, hm, by rw [Addr.add_lit]; simp [Nat.add_assoc]⟩
    · cases h9
      obtain ⟨b, o, v, rfl, hx, hj⟩ := hu
      exact ⟨_, hrun _, b, o, v, by rw [Addr.add_lit]; simp [Nat.add_assoc], hx, hj⟩
    · cases h9
      rename_i t' n loc off
      obtain ⟨⟨x, hx, he, hv, a, ha⟩, b1, cs, fz, e1, e2, e3⟩ := hu
      subst e1
      refine ⟨_, hrun _, ⟨x, hx, he, fun e => ?_, _, rfl⟩, b1, cs, fz, by rw [Addr.add_lit], e2, e3⟩
      obtain ⟨g1, b, base, hm, hv⟩ := hv e
      simp only [Value.pointer.injEq, Option.some.injEq, Addr.mk.injEq] at hv
      obtain ⟨rfl, hb, _⟩ := hv
      refine ⟨g1, b1, base, hm, ?_⟩
      rw [Addr.add_lit]
      simp only [Value.pointer.injEq, Option.some.injEq, Addr.mk.injEq, and_true, true_and]
      omega
    · cases h9
theorem idxI_some {ix : Int} {n j : Nat} (h : idxI ix n = some j) : 0 ≤ ix ∧ ix = (j : Int) ∧ j < n := by
  unfold idxI at h
  split at h
  · rename_i h0
    by_cases hl : Nat.blt ix.toNat n = true
    · simp only [hl, cond_true] at h
      cases h
      have : ix.toNat < n := Nat.le_of_ble_eq_true hl
      exact ⟨h0, by omega, this⟩
    · simp [Bool.eq_false_iff.2 hl] at h
  · cases h
theorem RepRow.get {C : Nat → Nat → Value → Prop} {b k o : Nat} {l : List D} (h : RepRow C b k o l) {i : Nat} {x : D} (hx : l[i]? = some x) :
    ∃ v, RepD C x v ∧ v.cells.size = k ∧ ∀ (j : Nat) u, v.cells[j]? = some u → C b (o + i * k + j) u := (RepRow.iff b k l o).1 h i x hx
theorem AV.d_cells (x : D) : (AV.d x).cells ≠ [] ∨ x = .agg [] := by
  cases x with
  | agg l => cases l <;> simp [AV.cells]
  | _ => left; simp [AV.cells]
theorem indexP_sound {k : Keep} {M : Mem} {t : TypeId} {i : TI} (ht : tiOf P t = some i) {p r : AV} {u : Value} (hu : RepA k M p u) {q : IntKind} {n : Int} (h : indexP P i p n = some r) (w : World) :
    ∃ v, (Instr.indexAt t u (.int q n)).run P w = .ok v w ∧ RepA k M r v := by
  obtain ⟨info, d, h1, h2, h3, h4, h5, h6⟩ := ti_spec ht
  unfold indexP at h
  rw [h6] at h
  cases d <;> simp only [kOf] at h <;> try (cases h; done)
  · rename_i elem
    obtain ⟨ei, hei, h9⟩ := Option.bind_eq_some_iff.1 h
    clear h
    have hrun : ∀ (a : Addr) (len c j : Nat), j < len → (Instr.indexAt t (.slice (some a) len c) (.int q (j : Int))).run P w = .ok (.pointer (some (a.add (j * ei.size)))) w := fun a len c j hj => by
      simp [Instr.indexAt, asIntOf, run_underlying h2, hj, run_sizeOf' hei]
    have hsl : ∀ (l : List D) (a : Option Addr) (c : Nat), (l = [] ∨ ∃ b o k', a = some ⟨b, o, none⟩ ∧ RepRow (CC k false M) b k' o l) →
        ((idxI n l.length).bind fun j => (l[j]?).bind fun e => bif (AV.d e).cells.length == ei.size then some (AV.eptr e 0) else none) = some r →
        ∃ v, (Instr.indexAt t (.slice a l.length c) (.int q n)).run P w = .ok v w ∧ RepA k M r v := by
      clear h9
      intro l a c hl h7
      obtain ⟨j, hj, h8⟩ := Option.bind_eq_some_iff.1 h7
      obtain ⟨e, he, h9⟩ := Option.bind_eq_some_iff.1 h8
      clear h7 h8
      obtain ⟨h0, rfl, hlt⟩ := idxI_some hj
      rcases hl with rfl | ⟨b, o, k', rfl, hrow⟩
      · simp at hlt
      · by_cases hs : ((AV.d e).cells.length == ei.size) = true
        · simp only [hs, cond_true] at h9
          cases h9
          obtain ⟨v, g1, g2, g3⟩ := hrow.get he
          have hk : j * k' = j * ei.size := by
            rcases AV.d_cells e with hne | rfl
            · have := (RepA.cells (k := k) (M := M) (x := .d e) g1 hne).1
              rw [beq_iff_eq] at hs
              rw [← g2, ← this, hs]
            · obtain ⟨cs, rfl, hcs⟩ := g1
              have : cs = [] := hcs
              subst this
              simp [AV.cells] at hs
              simp [Value.cells] at g2
              rw [← g2, ← hs]
          refine ⟨_, hrun _ _ _ _ hlt, b, o + j * k', v, by rw [Addr.add_lit, hk]; simp, g1, fun i c hc => by have := g3 i c hc; exact this⟩
        · simp [Bool.eq_false_iff.2 hs] at h9
    split at h9
    · rename_i loc ep es off len
      by_cases hs : (es == ei.size) = true
      · simp only [hs, cond_true] at h9
        obtain ⟨j, hj, h8⟩ := Option.map_eq_some_iff.1 h9
        cases h8
        clear h9
        obtain ⟨h0, rfl, hlt⟩ := idxI_some hj
        obtain ⟨x, hx, he, ⟨a, c, rfl, _, ha⟩, hv⟩ := hu
        cases a with
        | none => have := ha (by omega); simp at this
        | some a =>
          refine ⟨_, hrun _ _ _ _ hlt, x, hx, he, fun e => ?_, _, rfl⟩
          obtain ⟨hr1, hcase⟩ := hv e
          rcases hcase with ⟨_, hv, _⟩ | ⟨hvi, hes, hle, b, base, c', hm, hv, hc, _⟩
          · cases hv
          · cases hv
            refine ⟨hvi, b, base, hm, ?_⟩
            rw [Addr.add_lit, ← hes, Nat.add_mul, beq_iff_eq.1 hs]; simp [Nat.add_assoc]
      · simp [Bool.eq_false_iff.2 hs] at h9
    · obtain ⟨a, c, rfl, hc, hl⟩ := hu
      exact hsl _ a c hl h9
    · obtain ⟨a, rfl, hl⟩ := hu
      exact hsl _ a _ hl h9
    · cases h9
  · rename_i len elem
    obtain ⟨ei, hei, h9⟩ := Option.bind_eq_some_iff.1 h
    clear h
    by_cases hz : (ei.size == 0) = true
    · simp [hz] at h9
    · simp only [Bool.eq_false_iff.2 hz, cond_false] at h9
      obtain ⟨j, hj, h8⟩ := Option.bind_eq_some_iff.1 h9
      clear h9
      obtain ⟨h0, rfl, hlt⟩ := idxI_some hj
      have hrun : ∀ a : Addr, (Instr.indexAt t (.pointer (some a)) (.int q (j : Int))).run P w = .ok (.pointer (some (a.add (j * ei.size)))) w := fun a => by
        simp [Instr.indexAt, asIntOf, run_underlying h2, hlt, run_sizeOf' hei, Instr.sureAddr]
      split at h8
      · cases h8
        rename_i loc ep idx off
        obtain ⟨x, hx, he, hv, a, rfl⟩ := hu
        refine ⟨_, hrun a, x, hx, he, fun e => ?_, _, rfl⟩
        obtain ⟨g1, b, base, hm, hv⟩ := hv e
        cases hv
        exact ⟨g1, b, base, hm, by rw [Addr.add_lit]; simp [Nat.add_assoc]⟩
      · cases h8
        obtain ⟨b, o, v, rfl, hx, hj⟩ := hu
        exact ⟨_, hrun _, b, o, v, by rw [Addr.add_lit]; simp [Nat.add_assoc], hx, hj⟩
      · cases h8
theorem indexV_sound {k : Keep} {M : Mem} {t : TypeId} {i : TI} (ht : tiOf P t = some i) {p r : AV} {u : Value} (hu : RepA k M p u) {q : IntKind} {n : Int} (h : indexV i p n = some r) (w : World) :
    ∃ v, (Instr.index t u (.int q n)).run P w = .ok v w ∧ RepA k M r v := by
  obtain ⟨info, d, h1, h2, h3, h4, h5, h6⟩ := ti_spec ht
  unfold indexV at h
  rw [h6] at h
  cases d <;> simp only [kOf] at h <;> try (cases h; done)
  · split at h
    · rename_i s
      obtain ⟨j, hj, h⟩ := Option.bind_eq_some_iff.1 h
      obtain ⟨c, hc, h⟩ := Option.map_eq_some_iff.1 h
      cases h
      obtain ⟨a, rfl, rfl⟩ := hu
      obtain ⟨h0, rfl, hlt⟩ := idxI_some hj
      refine ⟨_, ?_, RepA.mkInt _ _⟩
      have hca : a[j]? = some c := by
        rw [Array.getElem?_toList] at hc
        obtain ⟨hlt', hc'⟩ := Array.getElem?_eq_some_iff.1 hc
        rw [getElem?_pos a j (show j < a.size from hlt')]
        exact congrArg some hc'
      simp only [Instr.index, asIntOf, Sem.run_bind, Sem.run_pure, Result.andThen_ok, run_underlying h2]
      rw [if_pos (Int.natCast_nonneg j), Int.toNat_natCast, hca]
      simp only [Sem.run_pure]
    · cases h
theorem run_eqGuard {op : BinOp} {t : TypeId} {x y : Operand} {a b : Value} (w : World) (ha : cellV a = true) (hn : a ≠ .nilIface) : (eqGuard op t x y a b).run P w = .ok () w := by
  cases op <;> first
    | rfl
    | (cases a <;> first
        | (exact absurd rfl hn)
        | (simp [cellV] at ha; done)
        | (cases b <;> rfl))
theorem RepA.cellOf {k : Keep} {M : Mem} {x : AV} {v : Value} (h : RepA k M x v) (h1 : x.isAgg = false) (h2 : x.cells ≠ []) : cellV v = true := by
  obtain ⟨_, g2, _, g4, _⟩ := RepA.cells h h2
  exact g2 v (by rw [g4 h1]; simp)
theorem tkOf_spec {t : TypeId} (h : tkOf P t ≠ .other) : ∃ d, P.underlying t = some d ∧ tkOf P t = kOf P d := by
  unfold tkOf at h ⊢
  cases ht : tiOf P t with
  | none => simp [ht] at h
  | some i =>
    obtain ⟨info, d, h1, h2, h3, h4, h5, h6⟩ := ti_spec ht
    exact ⟨d, h2, h6⟩
theorem binI_sound {op : BinOp} {k : IntKind} {a b : Int} {r : D} (h : binI op k a b = some r) (t : TypeId) (w : World) :
    ∃ v, (binOp op t (.int k a) (.int k b)).run P w = .ok v w ∧ r = .lit v ∧ cellV v = true := by
  unfold binI at h
  cases op <;> simp only at h <;> try (cases h; done)
  case quo | rem =>
    split at h
    · cases h
    · rename_i hb
      cases h
      exact ⟨_, by simp [binOp, Op.intDiv, hb], rfl, rfl⟩
  all_goals
    cases h
    exact ⟨_, by simp [binOp, Op.intArith, Op.intBits, Op.intCmp], rfl, rfl⟩
theorem shiftI_sound {op : BinOp} {k q : IntKind} {a b : Int} {r : D} (ho : op = .shl ∨ op = .shr) (h : shiftI op k a b = some r) (t : TypeId) (w : World) :
    ∃ v, (binOp op t (.int k a) (.int q b)).run P w = .ok v w ∧ r = .lit v ∧ cellV v = true := by
  unfold shiftI at h
  split at h
  · cases h
  · rename_i hb
    rcases ho with rfl | rfl <;> cases h <;> exact ⟨_, by simp [binOp, Op.shift, hb], rfl, rfl⟩
theorem toList_eq (a : ByteArray) : a.toList = a.data.toList := _root_.Go.ByteArray.toList_eq a
theorem binS_sound {op : BinOp} {a b : List UInt8} {r : D} (h : binS op a b = some r) {x y : ByteArray} (hx : x.data.toList = a) (hy : y.data.toList = b) (t : TypeId) (w : World) {C : Nat → Nat → Value → Prop} :
    ∃ v, (binOp op t (.string x) (.string y)).run P w = .ok v w ∧ RepD C r v := by
  subst hx hy
  have e1 : ∀ o, binOp o t (.string x) (.string y) = Op.stringOp o x y := fun o => by cases o <;> rfl
  unfold binS at h
  rw [e1]
  cases op <;> simp only at h <;> try (cases h; done)
  case add =>
    by_cases hl : Nat.ble (x.data.toList.length + y.data.toList.length) strMost = true
    · simp only [hl, cond_true] at h
      cases h
      have hl := Nat.le_of_ble_eq_true hl
      have : x.size + y.size ≤ 9223372036854775807 := by
        have hl' : x.data.size + y.data.size ≤ strMost := by simpa only [Array.length_toList] using hl
        exact Nat.le_trans hl' (by decide)
      exact ⟨_, run_string_add_sum w x y this, _, rfl, by rw [ByteArray.data_append, Array.toList_append]⟩
    · simp only [Bool.eq_false_iff.2 hl, cond_false] at h
      cases h
  all_goals
    cases h
    refine ⟨_, by simp only [Op.stringOp, toList_eq]; rfl, rfl, rfl⟩
theorem nilV_sound {k : Keep} {M : Mem} {st : Store} (hst : Pre st M.st) {t : TypeId} {op : BinOp} {x y r : AV} {u v : Value} (hx : RepA k M x u) (hy : RepA k M y v) (h : nilV (tkOf P t) op st x y = some r) (ox oy : Operand) (w : World) :
    ∃ vr, (do eqGuard op t ox oy u v; binOp op t u v : Sem Value).run P w = .ok vr w ∧ RepA k M r vr := by
  unfold nilV at h
  by_cases hn : isNilLit (tkOf P t) y = true
  · simp only [hn, cond_true] at h
    have hko : tkOf P t ≠ .other := by intro e; rw [e] at hn; simp [isNilLit] at hn
    obtain ⟨d, hd, hk⟩ := tkOf_spec hko
    have key : ∀ b, isNil st (tkOf P t) x = some b → (Op.equal t u v).run P w = .ok b w ∧ cellV u = true ∧ u ≠ .nilIface ∧ (∀ o : BinOp, o = .eql → binOp o t u v = do pure (.bool (← Op.equal t u v))) ∧ (∀ o : BinOp, o = .neq → binOp o t u v = do pure (.bool (!(← Op.equal t u v)))) := by
      intro b hb
      cases hkk : tkOf P t with
      | slice e =>
        rw [hkk] at hn hb hk
        simp only [isNilLit] at hn
        simp only [isNil] at hb
        split at hn
        case h_2 => cases hn
        have hv : v = .slice none 0 0 := hy
        subst hv
        unfold isNilS at hb
        obtain ⟨e', rfl⟩ : ∃ e', d = .slice e' := by cases d <;> simp [kOf] at hk; exact ⟨_, rfl⟩
        have main : ∀ a l c, u = .slice a l c → b = a.isNone → (Op.equal t u (.slice none 0 0)).run P w = .ok b w ∧ cellV u = true ∧ u ≠ .nilIface ∧ (∀ o : BinOp, o = .eql → binOp o t u (.slice none 0 0) = do pure (.bool (← Op.equal t u (.slice none 0 0)))) ∧ (∀ o : BinOp, o = .neq → binOp o t u (.slice none 0 0) = do pure (.bool (!(← Op.equal t u (.slice none 0 0))))) := by
          rintro a l c rfl rfl
          exact ⟨run_equal_slice_nil w t e' a l c hd, rfl, by simp, fun o ho => by subst ho; rfl, fun o ho => by subst ho; rfl⟩
        split at hb
        · cases hb; have hu : u = .slice none 0 0 := hx; exact main none 0 0 hu rfl
        · cases hb; obtain ⟨a, rfl, hl⟩ := hx; rcases hl with hl | ⟨b', o, k', rfl, _⟩
          · simp at hl
          · exact main _ _ _ rfl rfl
        · cases hb; obtain ⟨a, c, rfl, _, hl⟩ := hx; rcases hl with hl | ⟨b', o, k', rfl, _⟩
          · simp at hl
          · exact main _ _ _ rfl rfl
        · obtain ⟨bl, hbl, rfl⟩ := Option.map_eq_some_iff.1 hb
          obtain ⟨g1, g2⟩ := getBlk_some hbl
          obtain ⟨z, hz, hep, _, hrest⟩ := hx
          rw [hst _ _ g1] at hz; cases hz
          obtain ⟨_, hc⟩ := hrest g2
          rcases hc with ⟨hv, rfl, _⟩ | ⟨hv, _, _, b', base, c, _, rfl, _⟩
          · exact main none 0 0 rfl (by rw [hv]; rfl)
          · exact main _ _ _ rfl (by rw [hv]; rfl)
        · cases hb
      | ptr =>
        rw [hkk] at hn hb hk
        simp only [isNilLit] at hn
        simp only [isNil] at hb
        split at hn
        case h_2 => cases hn
        have hv : v = .pointer none := hy.2
        subst hv
        unfold isNilP at hb
        obtain ⟨e', rfl⟩ : ∃ e', d = .pointer e' := by cases d <;> simp [kOf] at hk; exact ⟨_, rfl⟩
        have main : ∀ a, u = .pointer a → b = a.isNone → (Op.equal t u (.pointer none)).run P w = .ok b w ∧ cellV u = true ∧ u ≠ .nilIface ∧ (∀ o : BinOp, o = .eql → binOp o t u (.pointer none) = do pure (.bool (← Op.equal t u (.pointer none)))) ∧ (∀ o : BinOp, o = .neq → binOp o t u (.pointer none) = do pure (.bool (!(← Op.equal t u (.pointer none))))) := by
          rintro a rfl rfl
          refine ⟨?_, rfl, by simp, fun o ho => by subst ho; rfl, fun o ho => by subst ho; rfl⟩
          have e1 : ∀ y z, Op.equal t y z = Op.equalIn (9999 + 1) t y z := fun _ _ => rfl
          cases a <;> (rw [e1, Op.equalIn]; simp only [Sem.run_bind, run_underlying hd, Result.andThen_ok]; rfl)
        split at hb
        · cases hb; obtain ⟨⟨z, _, _, _, a, rfl⟩, _⟩ := hx; exact main _ rfl rfl
        · cases hb; obtain ⟨z, _, _, _, a, rfl⟩ := hx; exact main _ rfl rfl
        · cases hb; obtain ⟨b', o, z, rfl, _⟩ := hx; exact main _ rfl rfl
        · cases hb; exact main none hx.2 rfl
        · cases hb
      | fn =>
        rw [hkk] at hn hb hk
        simp only [isNilLit] at hn
        simp only [isNil] at hb
        split at hn
        case h_2 => cases hn
        have e1 : ∀ y z, Op.equal t y z = Op.equalIn (9999 + 1) t y z := fun _ _ => rfl
        have hv : v = .nilFunc := hy.2
        subst hv
        unfold isNilF at hb
        obtain ⟨e', e'', e3, rfl⟩ : ∃ e' e'' e3, d = .func e' e'' e3 := by cases d <;> simp [kOf] at hk; exact ⟨_, _, _, rfl⟩
        split at hb
        · cases hb; obtain ⟨cs, rfl, _⟩ := hx
          exact ⟨by rw [e1, Op.equalIn]; simp only [Sem.run_bind, run_underlying hd, Result.andThen_ok]; rfl, rfl, by simp, fun o ho => by subst ho; rfl, fun o ho => by subst ho; rfl⟩
        · cases hb; obtain ⟨_, rfl⟩ := hx
          exact ⟨by rw [e1, Op.equalIn]; simp only [Sem.run_bind, run_underlying hd, Result.andThen_ok]; rfl, rfl, by simp, fun o ho => by subst ho; rfl, fun o ho => by subst ho; rfl⟩
        · cases hb
      | _ => rw [hkk] at hn; simp [isNilLit] at hn
    cases op <;> simp only at h <;> try (cases h; done)
    · obtain ⟨b, hb, rfl⟩ := Option.map_eq_some_iff.1 h
      obtain ⟨g1, g2, g3, g4, g5⟩ := key b hb
      refine ⟨_, ?_, RepA.mkBool _⟩
      rw [g4 _ rfl]
      simp only [Sem.run_bind, run_eqGuard w g2 g3, Result.andThen_ok, g1, Sem.run_pure]
    · obtain ⟨b, hb, rfl⟩ := Option.map_eq_some_iff.1 h
      obtain ⟨g1, g2, g3, g4, g5⟩ := key b hb
      refine ⟨_, ?_, RepA.mkBool _⟩
      rw [g5 _ rfl]
      simp only [Sem.run_bind, run_eqGuard w g2 g3, Result.andThen_ok, g1, Sem.run_pure]
  · simp [Bool.eq_false_iff.2 hn] at h
end Go.Eng
namespace Go.Eng
variable {P : Program}
theorem strs2_rep {k : Keep} {M : Mem} {x : AV} {u : Value} {a b : List UInt8} (h : strs2 x = some (a, b)) (hx : RepA k M x u) : ∃ A B : ByteArray, u = .agg #[.string A, .string B] ∧ A.toList = a ∧ B.toList = b := by
  unfold strs2 at h
  split at h
  · cases h
    obtain ⟨cs, rfl, v1, t1, rfl, _, ⟨A, rfl, hA⟩, v2, t2, rfl, _, ⟨B, rfl, hB⟩, rfl⟩ := hx
    exact ⟨A, B, rfl, by rw [toList_eq, hA], by rw [toList_eq, hB]⟩
  · cases h
    obtain ⟨cs, rfl, ⟨v1, t1, rfl, ⟨A, rfl, hA⟩, v2, t2, rfl, ⟨B, rfl, hB⟩, rfl⟩, _⟩ := hx
    exact ⟨A, B, rfl, by rw [toList_eq, hA], by rw [toList_eq, hB]⟩
  · cases h
theorem str_under {t : TypeId} (h : tkOf P t = .str) : P.underlying t = some .string := by
  obtain ⟨d, h1, h2⟩ := tkOf_spec (P := P) (t := t) (by rw [h]; simp)
  rw [h] at h2
  rw [h1]
  cases d <;> simp [kOf] at h2 <;> rfl
theorem run_part_str {t : TypeId} (h : tkOf P t = .str) (cs : Array Value) (off : Nat) (v : Value) (hv : cs[off]? = some v) (w : World) : (Go.part t cs off).run P w = .ok v w := by
  have hu := str_under h
  simp [Go.part, isAgg, Sem.run_bind, run_underlying hu, hv]
theorem pair2_sound {t : TypeId} (h : pair2 P t = true) (A B A' B' : ByteArray) (w : World) : P.eqGuardType P.depth t = false ∧ (Op.equalIn 10000 t (.agg #[.string A, .string B]) (.agg #[.string A', .string B'])).run P w = .ok (A.toList == A'.toList && B.toList == B'.toList) w := by
  unfold pair2 at h
  split at h
  · rename_i fs hfs
    split at h
    · rename_i f g hfg
      simp only [Bool.and_eq_true, bne_iff_ne, ne_eq, beq_iff_eq, Bool.not_eq_true'] at h
      obtain ⟨⟨⟨⟨⟨⟨h1, h2⟩, h3⟩, h4⟩, h5⟩, h6⟩, h7⟩ := h
      have hk : tkOf P f.type = .str ∧ tkOf P g.type = .str := by
        split at h5
        · rename_i e1 e2; exact ⟨e1, e2⟩
        · cases h5
      refine ⟨h7, ?_⟩
      have hF : P.fieldsOf t = fs := by unfold Program.fieldsOf; rw [hfs]
      rw [run_equalIn_agg w 9999 t _ _ (by rw [hF]; exact hfs) h6, hF, hfg]
      have e1 := str_under hk.1
      have e2 := str_under hk.2
      simp only [Op.eqFields, h1, h2, h3, h4, ne_eq, not_false_eq_true, if_true, Sem.run_bind]
      rw [run_part_str hk.1 _ 0 (.string A) rfl]
      simp only [Result.andThen_ok]
      rw [run_part_str hk.1 _ 0 (.string A') rfl]
      simp only [Result.andThen_ok]
      rw [run_equalIn_string w 9998 _ _ _ e1]
      simp only [Result.andThen_ok]
      cases hAA : (A.toList == A'.toList)
      · simp
      · simp only [Bool.not_true, Bool.false_eq_true, if_false, Sem.run_bind]
        rw [run_part_str hk.2 _ 1 (.string B) rfl]
        simp only [Result.andThen_ok]
        rw [run_part_str hk.2 _ 1 (.string B') rfl]
        simp only [Result.andThen_ok]
        rw [run_equalIn_string w 9998 _ _ _ e2]
        simp only [Result.andThen_ok]
        cases (B.toList == B'.toList) <;> simp
    · cases h
  · cases h
theorem binV_sound {k : Keep} {M : Mem} {st : Store} (hst : Pre st M.st) {t : TypeId} {op : BinOp} {x y r : AV} {u v : Value} (hx : RepA k M x u) (hy : RepA k M y v) (h : binV P t op st x y = some r) (ox oy : Operand) (w : World) :
    ∃ vr, (do eqGuard op t ox oy u v; binOp op t u v : Sem Value).run P w = .ok vr w ∧ RepA k M r vr := by
  have fin : ∀ {u v : Value} {vr : Value}, cellV u = true → u ≠ .nilIface → (binOp op t u v).run P w = .ok vr w → (do eqGuard op t ox oy u v; binOp op t u v : Sem Value).run P w = .ok vr w := by
    intro u v vr h1 h2 h3
    simp only [Sem.run_bind, run_eqGuard w h1 h2, Result.andThen_ok, h3]
  unfold binV at h
  split at h
  · rename_i q a q' b
    cases hx.2
    cases hy.2
    split at h
    · obtain ⟨z, hz, rfl⟩ := Option.map_eq_some_iff.1 h
      obtain ⟨vr, g1, rfl, g3⟩ := shiftI_sound (P := P) (q := q') (.inl rfl) hz t w
      exact ⟨vr, fin rfl (by simp) g1, g3, rfl⟩
    · obtain ⟨z, hz, rfl⟩ := Option.map_eq_some_iff.1 h
      obtain ⟨vr, g1, rfl, g3⟩ := shiftI_sound (P := P) (q := q') (.inr rfl) hz t w
      exact ⟨vr, fin rfl (by simp) g1, g3, rfl⟩
    · split at h
      · rename_i hq
        subst hq
        obtain ⟨z, hz, rfl⟩ := Option.map_eq_some_iff.1 h
        obtain ⟨vr, g1, rfl, g3⟩ := binI_sound (P := P) hz t w
        exact ⟨vr, fin rfl (by simp) g1, g3, rfl⟩
      · cases h
  · obtain ⟨z, hz, rfl⟩ := Option.map_eq_some_iff.1 h
    obtain ⟨a, rfl, ha⟩ := hx
    obtain ⟨b, rfl, hb⟩ := hy
    obtain ⟨vr, g1, g2⟩ := binS_sound (P := P) hz ha hb t w (C := CC k false M)
    exact ⟨vr, fin rfl (by simp) g1, g2⟩
  · rename_i a b
    split at h
    · rename_i hk
      obtain ⟨z, hz, rfl⟩ := Option.map_eq_some_iff.1 h
      cases hx.2
      cases hy.2
      obtain ⟨d, hd, hk'⟩ := tkOf_spec (P := P) (t := t) (by rw [hk]; simp)
      rw [hk] at hk'
      obtain rfl : d = .bool := by cases d <;> simp [kOf] at hk' <;> rfl
      have e1 : ∀ y z, Op.equal t y z = Op.equalIn (9999 + 1) t y z := fun _ _ => rfl
      have he : (Op.equal t (.bool a) (.bool b)).run P w = .ok (a == b) w := by
        rw [e1, Op.equalIn]; simp only [Sem.run_bind, run_underlying hd, Result.andThen_ok]; rfl
      unfold binB at hz
      cases op <;> simp only at hz <;> try (cases hz; done)
      · cases hz
        refine ⟨.bool (a == b), fin rfl (by simp) ?_, RepA.mkBool _⟩
        show (do pure (.bool (← Op.equal t (.bool a) (.bool b))) : Sem Value).run P w = _
        simp only [Sem.run_bind, he, Result.andThen_ok, Sem.run_pure]
      · cases hz
        refine ⟨.bool (!(a == b)), fin rfl (by simp) ?_, RepA.mkBool _⟩
        show (do pure (.bool (!(← Op.equal t (.bool a) (.bool b)))) : Sem Value).run P w = _
        simp only [Sem.run_bind, he, Result.andThen_ok, Sem.run_pure]
    · cases h
  · split at h
    · rename_i c d a b e1 e2
      obtain ⟨A, B, rfl, hA, hB⟩ := strs2_rep e2 hx
      obtain ⟨A', B', rfl, hA', hB'⟩ := strs2_rep e1 hy
      cases hp : pair2 P t with
      | false => rw [hp] at h; cases h
      | true =>
        rw [hp] at h
        simp only [cond_true] at h
        obtain ⟨g1, g2⟩ := pair2_sound hp A B A' B' w
        rw [hA, hB, hA', hB'] at g2
        split at h
        · cases h
          refine ⟨.bool (a == c && b == d), ?_, RepA.mkBool _⟩
          simp only [Sem.run_bind, run_eqGuard_agg w _ _ _ _ _ _ g1, Result.andThen_ok, run_eql_struct, g2]
        · cases h
          refine ⟨.bool (!(a == c && b == d)), ?_, RepA.mkBool _⟩
          simp only [Sem.run_bind, run_eqGuard_agg w _ _ _ _ _ _ g1, Result.andThen_ok, run_neq_struct, g2]
        · cases h
    · exact nilV_sound hst hx hy h ox oy w
theorem unV_sound {k : Keep} {M : Mem} {op : UnOp} {x r : AV} {u : Value} (hx : RepA k M x u) (h : unV op x = some r) (w : World) : ∃ vr, (Op.unary op u).run P w = .ok vr w ∧ RepA k M r vr := by
  unfold unV at h
  split at h
  · cases h; cases hx.2; exact ⟨_, rfl, RepA.mkBool _⟩
  · cases h; cases hx.2; exact ⟨_, rfl, RepA.mkInt _ _⟩
  · cases h; cases hx.2; exact ⟨_, rfl, RepA.mkInt _ _⟩
  · cases h
theorem lenV_sound {k : Keep} {M : Mem} {x : AV} {u : Value} {n : Nat} (hx : RepA k M x u) (h : lenV x = some n) : (∃ s : ByteArray, u = .string s ∧ s.size = n) ∨ ∃ a c, u = .slice a n c := by
  unfold lenV at h
  split at h <;> cases h
  · have : u = .slice none 0 0 := hx; exact .inr ⟨_, _, this⟩
  · obtain ⟨a, rfl, _⟩ := hx; exact .inr ⟨_, _, rfl⟩
  · obtain ⟨a, c, rfl, _⟩ := hx; exact .inr ⟨_, _, rfl⟩
  · obtain ⟨a, rfl, rfl⟩ := hx; exact .inl ⟨a, rfl, by rw [Array.length_toList]; rfl⟩
  · obtain ⟨_, _, _, ⟨a, c, rfl, _⟩, _⟩ := hx; exact .inr ⟨_, _, rfl⟩
theorem maxF_sound {k : Keep} {M : Mem} (mn : Bool) : ∀ (l : List AV) (vs : List Value) (x r : AV) (u : Value), RepA k M x u → RepAs k M l vs → maxF mn x l = some r →
    ∀ w : World, ∃ vr, (vs.foldlM (if mn then Builtin.min2 else Builtin.max2) u : Sem Value).run P w = .ok vr w ∧ RepA k M r vr := by
  intro l
  induction l with
  | nil => intro vs x r u hx hl h w; have : vs = [] := hl; subst this; simp only [maxF] at h; cases h; exact ⟨u, rfl, hx⟩
  | cons y l ih =>
    intro vs x r u hx hl h w
    obtain ⟨v, t, rfl, hy, hr⟩ := hl
    simp only [maxF] at h
    obtain ⟨z, hz, h⟩ := Option.bind_eq_some_iff.1 h
    unfold max2V at hz
    split at hz
    · rename_i q p q' p'
      cases hz
      cases hx.2
      cases hy.2
      obtain ⟨vr, g1, g2⟩ := ih t _ r _ (RepA.mkInt _ _) hr h w
      refine ⟨vr, ?_, g2⟩
      rw [List.foldlM_cons]
      simp only [Sem.run_bind]
      cases mn <;> simpa [Builtin.min2, Builtin.max2] using g1
    · cases hz
theorem virtCells_sound {sh : Bool} {k : Keep} {M : Mem} : ∀ (l : List AV) (n : Nat) (vs : List Value), (∀ (i : Nat) b, (virtCells sh n l).2[i]? = some b → M.st[n + i]? = some b) → RepAs k M l vs → RepAs k M (virtCells sh n l).1 vs := by
  intro l
  induction l with
  | nil => intro n vs _ h; exact h
  | cons x r ih =>
    intro n vs hst h
    obtain ⟨v, t, rfl, hx, hr⟩ := h
    cases x with
    | snil =>
      simp only [virtCells] at hst ⊢
      refine ⟨v, t, rfl, ?_, ih (n + 1) t (fun i b hb => by have := hst (i + 1) b (by simpa using hb); rwa [show n + (i + 1) = n + 1 + i by omega] at this) hr⟩
      have hv : v = .slice none 0 0 := hx
      subst hv
      exact ⟨⟨0, [], true, sh, true⟩, by simpa using hst 0 _ rfl, Nat.le_refl _, ⟨none, 0, rfl, by simp, by simp⟩, fun _ => ⟨rfl, .inl ⟨rfl, rfl, rfl, rfl⟩⟩⟩
    | _ => simp only [virtCells] at hst ⊢; exact ⟨v, t, rfl, hx, ih n t hst hr⟩
theorem virtAV_sound {sh : Bool} {k : Keep} {M : Mem} {x : AV} {n : Nat} {u : Value} (hst : ∀ (i : Nat) b, (virtAV sh n x).2[i]? = some b → M.st[n + i]? = some b) (h : RepA k M x u) : RepA k M (virtAV sh n x).1 u := by
  cases x with
  | agg l =>
    obtain ⟨cs, rfl, hl, hc⟩ := h
    exact ⟨cs, rfl, virtCells_sound l n cs hst hl, hc⟩
  | snil =>
    have hv : u = .slice none 0 0 := h
    subst hv
    exact ⟨⟨0, [], true, sh, true⟩, by simpa [virtAV] using hst 0 _ rfl, Nat.le_refl _, ⟨none, 0, rfl, by simp, by simp⟩, fun _ => ⟨rfl, .inl ⟨rfl, rfl, rfl, rfl⟩⟩⟩
  | _ => exact h
theorem virtCells_form (sh : Bool) : ∀ (l : List AV) (n : Nat), (∀ b ∈ (virtCells sh n l).2, BlkForm b ∧ b.virt = true) ∧ (virtCells sh n l).1.length = l.length := by
  intro l
  induction l with
  | nil => intro n; exact ⟨fun b hb => by simp [virtCells] at hb, rfl⟩
  | cons x r ih =>
    intro n
    cases x with
    | snil =>
      simp only [virtCells]
      refine ⟨fun b hb => ?_, by simp [(ih (n + 1)).2]⟩
      rcases List.mem_cons.1 hb with rfl | hb
      · exact ⟨⟨fun h => by simp at h, fun _ => rfl⟩, rfl⟩
      · exact (ih (n + 1)).1 b hb
    | _ => simp only [virtCells]; exact ⟨(ih n).1, by simp [(ih n).2]⟩
theorem virtAV_form (sh : Bool) (x : AV) (n : Nat) : (∀ b ∈ (virtAV sh n x).2, BlkForm b ∧ b.virt = true) ∧ ((virtAV sh n x).1.cells.length = x.cells.length) := by
  cases x with
  | agg l => exact ⟨(virtCells_form sh l n).1, (virtCells_form sh l n).2⟩
  | snil =>
    refine ⟨fun b hb => ?_, rfl⟩
    simp only [virtAV, List.mem_singleton] at hb
    subst hb
    exact ⟨⟨fun h => by simp at h, fun _ => rfl⟩, rfl⟩
  | _ => exact ⟨fun b hb => by simp [virtAV] at hb, rfl⟩
theorem pickV_sound {k : Keep} {M : Mem} {c : Bool} {x y : AV} {u v : Value} (hx : c = true → RepA k M x u) (hy : c = false → RepA k M y v) : RepA k M (pickV c x y) (if c then u else v) := by
  unfold pickV
  cases c
  · have hy := hy rfl
    split
    · exact hy
    · split
      · rename_i e; subst e; exact hy
      · exact hy
    · exact hy
    · exact hy
  · have hx := hx rfl
    split
    · exact hx
    · split
      · exact hx
      · exact hx
    · exact hx
    · exact hx
theorem agg_splice {k : Keep} {M : Mem} {zc ac : List AV} {cs us res : Array Value} {o : Nat} (hl : zc.length = cs.size) (hz : ∀ (j : Nat) a c, zc[j]? = some a → cs[j]? = some c → RepA k M a c) (hzc : ∀ c ∈ cs, cellV c = true)
    (hla : ac.length = us.size) (ha : ∀ (j : Nat) a c, ac[j]? = some a → us[j]? = some c → RepA k M a c) (hac : ∀ c ∈ us, cellV c = true) (hle : o + ac.length ≤ zc.length) (hrs : res.size = cs.size)
    (hres : ∀ j : Nat, res[j]? = if o ≤ j ∧ j < o + us.size then us[j - o]? else cs[j]?) :
    RepA k M (.agg (zc.take o ++ (ac ++ zc.drop (o + ac.length)))) (.agg res) := by
  have hl1 : (zc.take o).length = o := by simp; omega
  refine ⟨res.toList, by simp, (RepAs.iff _ _).2 ⟨?_, fun i a c hi hc => ?_⟩, fun c hc => ?_⟩
  · simp only [List.length_append, List.length_take, List.length_drop, Array.length_toList]; omega
  · rw [Array.getElem?_toList, hres] at hc
    by_cases h1 : i < o
    · rw [if_neg (by omega)] at hc
      rw [List.getElem?_append_left (by omega), List.getElem?_take, if_pos h1] at hi
      exact hz i a c hi hc
    · rw [List.getElem?_append_right (by omega), hl1] at hi
      by_cases h2 : i < o + us.size
      · rw [if_pos ⟨by omega, h2⟩] at hc
        rw [List.getElem?_append_left (by omega)] at hi
        exact ha _ a c hi hc
      · rw [if_neg (by omega)] at hc
        rw [List.getElem?_append_right (by omega), List.getElem?_drop, show o + ac.length + (i - o - ac.length) = i by omega] at hi
        exact hz i a c hi hc
  · obtain ⟨i, hi⟩ := List.getElem?_of_mem hc
    rw [Array.getElem?_toList, hres] at hi
    split at hi
    · exact hac c (Array.mem_of_getElem? hi)
    · exact hzc c (Array.mem_of_getElem? hi)
theorem fold_set (off : Nat) : ∀ (l : List Value) (s : Nat) (cs : Array Value), off + s + l.length ≤ cs.size →
    ((l.zipIdx s).foldl (fun cs (c, j) => cs.setIfInBounds (off + j) c) cs).size = cs.size ∧
    ∀ j : Nat, ((l.zipIdx s).foldl (fun cs (c, j) => cs.setIfInBounds (off + j) c) cs)[j]? = if off + s ≤ j ∧ j < off + s + l.length then l[j - (off + s)]? else cs[j]?
  | [], s, cs, _ => ⟨rfl, fun j => by rw [if_neg (by simp only [List.length_nil]; omega)]; rfl⟩
  | c :: l, s, cs, h => by
    simp only [List.length_cons] at h
    obtain ⟨h1, h2⟩ := fold_set off l (s + 1) (cs.setIfInBounds (off + s) c) (by simp; omega)
    simp only [List.zipIdx_cons, List.foldl_cons, List.length_cons]
    refine ⟨h1.trans (by simp), fun j => ?_⟩
    rw [h2 j]
    by_cases e : j = off + s
    · subst e
      rw [if_neg (by omega), if_pos (by omega)]
      simp [show off + s < cs.size by omega]
    · by_cases e2 : off + s ≤ j ∧ j < off + s + (l.length + 1)
      · rw [if_pos (by omega), if_pos e2, show j - (off + s) = (j - (off + (s + 1))) + 1 by omega]
        rfl
      · rw [if_neg (by omega), if_neg e2, Array.getElem?_setIfInBounds_ne (by omega)]
theorem buildS_sound {k : Keep} {M : Mem} {places : Array (Nat × Nat)} (fs : List (Nat × Nat)) (hp : places.toList = fs) :
    ∀ (parts : List (Nat × AV)) (vs : List (Nat × Value)) (z r : AV) (cs : Array Value), z.cells.length = cs.size → (∀ (j : Nat) a c, z.cells[j]? = some a → cs[j]? = some c → RepA k M a c) → (∀ c ∈ cs, cellV c = true) → parts.length = vs.length →
    (∀ (i : Nat) p q, parts[i]? = some p → vs[i]? = some q → p.1 = q.1 ∧ RepA k M p.2 q.2) → buildV.buildS fs z parts = some r →
    ∃ cs', Instr.fill (places[·]?) cs vs = some cs' ∧ RepA k M r (.agg cs') := by
  intro parts
  induction parts with
  | nil =>
    intro vs z r cs hz1 hz2 hz3 hl _ h
    have : vs = [] := List.length_eq_zero_iff.1 hl.symm
    subst this
    simp only [buildV.buildS] at h
    cases h
    exact ⟨cs, rfl, cs.toList, by simp, (RepAs.iff _ _).2 ⟨by simpa using hz1, fun i x v hx hv => hz2 i x v hx (by simpa using hv)⟩, fun c hc => hz3 c (by simpa using hc)⟩
  | cons p parts ih =>
    intro vs z r cs hz1 hz2 hz3 hl hrep h
    cases vs with
    | nil => simp at hl
    | cons q vs =>
      obtain ⟨f, a⟩ := p
      obtain ⟨f', b⟩ := q
      obtain ⟨e1, hab⟩ := hrep 0 _ _ rfl rfl
      simp only at e1 hab
      subst e1
      simp only [buildV.buildS] at h
      obtain ⟨⟨o, sz⟩, hf, h⟩ := Option.bind_eq_some_iff.1 h
      by_cases hc : (a.cells.length == sz && Nat.ble (o + sz) z.cells.length && !(sz == 0)) = true
      · simp only [hc, cond_true] at h
        simp only [Bool.and_eq_true, beq_iff_eq, Bool.not_eq_true', beq_eq_false_iff_ne] at hc
        obtain ⟨⟨rfl, hle⟩, hz0⟩ := hc
        have hle := Nat.le_of_ble_eq_true hle
        have hane : a.cells ≠ [] := fun e => hz0 (by rw [e]; rfl)
        obtain ⟨a1, a2, a3, a4, a5⟩ := RepA.cells hab hane
        have hplace : places[f]? = some (o, a.cells.length) := by rw [← Array.getElem?_toList, hp]; exact hf
        obtain ⟨f1, f2⟩ := fold_set o b.cells.toList 0 cs (by simp; omega)
        have hagg := agg_splice (k := k) (M := M) (o := o) hz1 hz2 hz3 a1 a5 a2 hle f1 (fun j => by rw [f2 j]; simp)
        obtain ⟨cs', hcs', hl', hcell'⟩ := hagg
        have hcs2 : (b.cells.toList.zipIdx.foldl (fun cs (c, j) => cs.setIfInBounds (o + j) c) cs) = cs'.toArray := by injection hcs'
        obtain ⟨l1, l2⟩ := (RepAs.iff _ _).1 hl'
        obtain ⟨cs2, g1, g2⟩ := ih vs (.agg (z.cells.take o ++ (a.cells ++ z.cells.drop (o + a.cells.length)))) r cs'.toArray (by show List.length (z.cells.take o ++ (a.cells ++ z.cells.drop (o + a.cells.length))) = _; rw [l1]; simp) (fun j x c hx hc => l2 j x c hx (by simpa using hc)) (fun c hc => hcell' c (by simpa using hc)) (by simpa using hl)
          (fun i p q hp hq => hrep (i + 1) p q (by simpa using hp) (by simpa using hq)) h
        refine ⟨cs2, ?_, g2⟩
        simp only [Instr.fill, hplace]
        rw [if_neg (by simp; omega)]
        rw [← g1, ← hcs2, ← Array.foldl_toList, Array.toList_zipIdx]
      · simp [Bool.eq_false_iff.2 hc] at h
end Go.Eng
namespace Go.Eng
variable {P : Program}
def QOk (P : Program) (k : Keep) (M : Mem) (lo hi : Nat) (v : AV) (s : Sem Value) : Prop :=
  ∃ w' m' u, s.run P M.w = .ok u w' ∧ RepA k ⟨m', M.st, w'⟩ v u ∧ Stp k M ⟨m', M.st, w'⟩ ∧ ∀ i, (i < lo ∨ hi ≤ i) → m' i = M.m i
theorem QOk.read {k : Keep} {M : Mem} (hI : Inv k M) {lo hi : Nat} {v : AV} {s : Sem Value} {u : Value} (h : s.run P M.w = .ok u M.w) (hr : RepA k M v u) : QOk P k M lo hi v s :=
  ⟨M.w, M.m, u, h, hr, Stp.refl hI, fun _ _ => rfl⟩
theorem newVar_ok {k : Keep} {M : Mem} (hI : Inv k M) {st st' : Store} {size : Nat} {vi sh : Bool} {v r : AV} {u : Value} (hv : RepA k M v u) (hs : v.cells.length = size) (hs0 : size ≠ 0)
    (h : newVarV st size vi sh v = some (r, st')) (hpre : Pre st' M.st) (hno : ∀ i, st.length ≤ i → i < st'.length → M.m i = none) (t : TypeId) :
    QOk P k M st.length st'.length r (do pure (.pointer (some (← newVar t u)))) := by
  have hne : v.cells ≠ [] := by intro e; rw [e] at hs; exact hs0 hs.symm
  obtain ⟨c1, c2, _, _, _⟩ := RepA.cells hv hne
  have hrun : (do pure (.pointer (some (← newVar t u))) : Sem Value).run P M.w = .ok (.pointer (some ⟨M.w.heap.size, 0, none⟩)) (M.w.alloc (.cells u.cells t)) := by
    simp [newVar, newRow]
  have main : ∀ v', RepA k M v' u → M.st[st.length]? = some ⟨size, [v'], false, false, false⟩ → M.m st.length = none → r = .ptr st.length 1 0 0 → st.length < st'.length →
      QOk P k M st.length st'.length r (do pure (.pointer (some (← newVar t u)))) := by
    intro v' hv' hst hm hr hlt
    subst hr
    have hg := grow hI hst hm (cs := u.cells) (e := t) (fz0 := (0, 0)) (base := 0) M.w rfl rfl rfl rfl rfl (Nat.pos_of_ne_zero hs0) (by simp; omega) (fun j _ _ _ h => by simp at h)
      (fun i av hi => by
        cases i with
        | zero => simp at hi; subst hi; exact ⟨u, hv', by simp; omega, c2, fun j x hx => by simpa using hx⟩
        | succ i => simp at hi)
    exact ⟨_, _, _, hrun, ⟨_, hst, Nat.le_refl _, fun _ => ⟨rfl, M.w.heap.size, 0, by simp, by simp⟩, _, rfl⟩, hg, fun i hi => if_neg (by omega)⟩
  unfold newVarV at h
  cases vi with
  | false =>
    simp only [cond_false, Option.some.injEq, Prod.mk.injEq] at h
    obtain ⟨h1, h2⟩ := h
    subst h2
    exact main v hv (hpre _ _ (by simp)) (hno _ (Nat.le_refl _) (by simp)) h1.symm (by simp)
  | true =>
    simp only [cond_true, Option.some.injEq, Prod.mk.injEq] at h
    obtain ⟨h1, h2⟩ := h
    subst h2
    have hv' : RepA k M (virtAV sh (st.length + 1) v).1 u := virtAV_sound (fun i b hb => hpre _ _ (by
      rw [List.getElem?_append_right (by omega), show st.length + 1 + i - st.length = i + 1 by omega]
      simpa using hb)) hv
    exact main _ hv' (hpre _ _ (by simp)) (hno _ (Nat.le_refl _) (by simp)) h1.symm (by simp)
theorem newVar_ty {k : Keep} {M M' : Mem} {st st' : Store} {size : Nat} {vi sh : Bool} {v r : AV} {u p : Value} {t : TypeId} {w' : World} (hv : RepA k M v u) (hs : v.cells.length = size) (hs0 : size ≠ 0)
    (h : newVarV st size vi sh v = some (r, st')) (hrun : (do pure (.pointer (some (← newVar t u))) : Sem Value).run P M.w = .ok p w') (hr : RepA k ⟨M'.m, M'.st, w'⟩ r p) :
    PtrRep ⟨M'.m, M'.st, w'⟩ st.length 1 0 0 p ∧ TyRep ⟨M'.m, M'.st, w'⟩ t size 0 p := by
  have hne : v.cells ≠ [] := by intro e; rw [e] at hs; exact hs0 hs.symm
  obtain ⟨c1, c2, _, _, _⟩ := RepA.cells hv hne
  have hr0 : r = .ptr st.length 1 0 0 := by
    unfold newVarV at h
    cases vi with
    | false => simp only [cond_false, Option.some.injEq, Prod.mk.injEq] at h; exact h.1.symm
    | true => simp only [cond_true, Option.some.injEq, Prod.mk.injEq] at h; exact h.1.symm
  subst hr0
  have hrun' : (do pure (.pointer (some (← newVar t u))) : Sem Value).run P M.w = .ok (.pointer (some ⟨M.w.heap.size, 0, none⟩)) (M.w.alloc (.cells u.cells t)) := by
    simp [newVar, newRow]
  rw [hrun'] at hrun
  injection hrun with e1 e2
  subst e1
  subst e2
  exact ⟨hr, M.w.heap.size, u.cells, (0, 0), rfl, heap_alloc_new M.w _, by omega⟩
def flatC (us : List Value) : List Value := (us.map (·.cells.toList)).flatten
theorem flatC_len {size : Nat} : ∀ (us : List Value), (∀ u ∈ us, u.cells.size = size) → (flatC us).length = us.length * size
  | [], _ => by simp [flatC]
  | u :: r, h => by
    have := flatC_len r (fun x hx => h x (by simp [hx]))
    simp only [flatC, List.map_cons, List.flatten_cons, List.length_append, Array.length_toList] at this ⊢
    rw [this, h u (by simp), List.length_cons, Nat.succ_mul, Nat.add_comm]
theorem flatC_get {size : Nat} : ∀ (us : List Value), (∀ u ∈ us, u.cells.size = size) → ∀ (i j : Nat) u, us[i]? = some u → j < size → (flatC us)[i * size + j]? = u.cells[j]?
  | [], _, i, j, u, hu, _ => by simp at hu
  | x :: r, h, 0, j, u, hu, hj => by
    simp at hu; subst hu
    have := h x (by simp)
    simp only [flatC, List.map_cons, List.flatten_cons]
    rw [List.getElem?_append_left (by simp; omega)]
    simp
  | x :: r, h, i + 1, j, u, hu, hj => by
    have h1 := h x (by simp)
    have := flatC_get r (fun y hy => h y (by simp [hy])) i j u (by simpa using hu) hj
    simp only [flatC, List.map_cons, List.flatten_cons] at this ⊢
    rw [List.getElem?_append_right (by simp [Nat.succ_mul]; omega)]
    rw [← this]
    congr 1
    simp [Nat.succ_mul]; omega
theorem newRow_ok {k : Keep} {M : Mem} (hI : Inv k M) {n : Nat} {size : Nat} {sh : Bool} {l : List AV} {us : List Value} (hs0 : size ≠ 0) (hl : RepAs k M l us) (hus : ∀ u ∈ us, u.cells.size = size) (huc : ∀ u ∈ us, ∀ c ∈ u.cells, cellV c = true)
    (hst : M.st[n]? = some ⟨size, l, true, sh, false⟩) (hm : M.m n = none) {w0 : World} (hw : w0.heap = M.w.heap) (ho : w0.os = M.w.os) (htp : w0.tape = M.w.tape) (hout : w0.output = M.w.output)
    {cs : Array Value} {e : TypeId} {fz0 : Nat × Nat} {cap : Nat} (hcap : cap * size ≤ cs.size) (hlc : l.length ≤ cap) (hfz : ∀ j, j < cs.size → ¬ (fz0.1 ≤ j ∧ j < fz0.2))
    (hcs : ∀ (j : Nat) c, (flatC us)[j]? = some c → cs[j]? = some c) :
    ∃ m', RepA k ⟨m', M.st, w0.alloc (.cells cs e fz0)⟩ (.sref n l.length size 0 l.length) (.slice (some ⟨M.w.heap.size, 0, none⟩) l.length cap) ∧ Stp k M ⟨m', M.st, w0.alloc (.cells cs e fz0)⟩ ∧ ∀ i, i ≠ n → m' i = M.m i := by
  obtain ⟨l1, l2⟩ := (RepAs.iff l us).1 hl
  have hle : l.length * size ≤ cap * size := Nat.mul_le_mul_right _ hlc
  have hg := grow hI hst hm (cs := cs) (e := e) (fz0 := fz0) (base := 0) w0 hw ho htp hout rfl (Nat.pos_of_ne_zero hs0) (by simp only [Nat.zero_add]; rw [Nat.mul_comm]; omega) (fun j hj _ _ => hfz j hj)
    (fun i av hi => by
      have hlt := (List.getElem?_eq_some_iff.1 hi).1
      simp only at hlt
      obtain ⟨u, hu⟩ : ∃ u, us[i]? = some u := ⟨_, List.getElem?_eq_getElem (by omega)⟩
      have hmem := List.mem_of_getElem? hu
      refine ⟨u, l2 i av u hi hu, hus u hmem, huc u hmem, fun j c hc => ?_⟩
      have hj := (Array.getElem?_eq_some_iff.1 hc).1
      rw [hus u hmem] at hj
      simp only [Nat.zero_add]
      exact hcs _ _ (by rw [flatC_get us hus i j u hu hj]; exact hc))
  have hnew : (w0.alloc (.cells cs e fz0)).heap[M.w.heap.size]? = some (.cells cs e fz0) := by rw [← hw]; exact heap_alloc_new w0 _
  refine ⟨_, ⟨_, hst, Nat.le_refl _, ⟨_, _, rfl, hlc, by simp⟩, fun _ => ⟨rfl, .inr ⟨rfl, rfl, by simp, M.w.heap.size, 0, cap, by simp, by simp, hlc, cs, e, fz0, hnew, by simpa using hcap⟩⟩⟩, hg, fun i hi => if_neg hi⟩
theorem fitL_iff {n : Nat} : ∀ (l : List AV), fitL n l = true ↔ ∀ x ∈ l, x.cells.length = n
  | [] => by simp [fitL]
  | x :: r => by simp [fitL, fitL_iff r]
theorem RepRow.values {k : Keep} {M : Mem} {b k' : Nat} : ∀ (l : List D) (o : Nat), RepRow (CC k false M) b k' o l →
    ∃ us : List Value, RepAs k M (l.map .d) us ∧ (∀ u ∈ us, u.cells.size = k') ∧ ∀ (j : Nat) c, (flatC us)[j]? = some c → CC k false M b (o + j) c
  | [], o, _ => ⟨[], rfl, by simp, fun j c h => by simp [flatC] at h⟩
  | x :: r, o, ⟨⟨v, h1, h2, h3⟩, hr⟩ => by
    obtain ⟨us, g1, g2, g3⟩ := RepRow.values r (o + k') hr
    refine ⟨v :: us, ⟨v, us, rfl, h1, g1⟩, fun u hu => ?_, fun j c hc => ?_⟩
    · rcases List.mem_cons.1 hu with rfl | hu
      · exact h2
      · exact g2 u hu
    · have hc' : (v.cells.toList ++ flatC us)[j]? = some c := hc
      by_cases hj : j < k'
      · rw [List.getElem?_append_left (by simp; omega)] at hc'
        exact h3 j c (by simpa using hc')
      · rw [List.getElem?_append_right (by simp; omega)] at hc'
        have := g3 (j - k') c (by simpa [h2] using hc')
        rwa [show o + k' + (j - k') = o + j by omega] at this
theorem RepAs.cellsOf {k : Keep} {M : Mem} {n : Nat} (hn : n ≠ 0) {l : List AV} {us : List Value} (h : RepAs k M l us) (hf : fitL n l = true) : (∀ u ∈ us, u.cells.size = n) ∧ ∀ u ∈ us, ∀ c ∈ u.cells, cellV c = true := by
  obtain ⟨l1, l2⟩ := (RepAs.iff l us).1 h
  have key : ∀ u ∈ us, u.cells.size = n ∧ ∀ c ∈ u.cells, cellV c = true := fun u hu => by
    obtain ⟨i, hi⟩ := List.getElem?_of_mem hu
    have hlt := (List.getElem?_eq_some_iff.1 hi).1
    obtain ⟨x, hx⟩ : ∃ x, l[i]? = some x := ⟨_, List.getElem?_eq_getElem (by omega)⟩
    have hxn := (fitL_iff l).1 hf x (List.mem_of_getElem? hx)
    obtain ⟨c1, c2, _⟩ := RepA.cells (l2 i x u hx hi) (by intro e; rw [e] at hxn; exact hn hxn.symm)
    exact ⟨by omega, c2⟩
  exact ⟨fun u hu => (key u hu).1, fun u hu => (key u hu).2⟩
theorem elemsOf_sound {k : Keep} {M : Mem} (hI : Inv k M) {st : Store} (hst : Pre st M.st) {x : AV} {u : Value} (hx : RepA k M x u) {xs : List AV} (h : elemsOf st x = some xs) {n : Nat} (hn : n ≠ 0)
    (hf : fitL n xs = true ∨ ∃ loc ep es off len b, x = .sref loc ep es off len ∧ getBlk st loc ep = some b ∧ b.es = n) :
    ∃ us : List Value, RepAs k M xs us ∧ (∀ u ∈ us, u.cells.size = n) ∧ (∀ u ∈ us, ∀ c ∈ u.cells, cellV c = true) ∧ (∀ w : World, (Builtin.lenOf u).run P w = .ok xs.length w) ∧
      ∀ w : World, w.heap = M.w.heap → (Builtin.firstCells n xs.length u).run P w = .ok (flatC us).toArray w := by
  have row : ∀ (b o len c : Nat) (us : List Value), xs.length = len → RepAs k M xs us → (∀ u ∈ us, u.cells.size = n) → (∀ u ∈ us, ∀ c ∈ u.cells, cellV c = true) → (∀ (j : Nat) c, (flatC us)[j]? = some c → cellAt M.w b (o + j) = some c) → u = .slice (some ⟨b, o, none⟩) len c →
      ∃ us : List Value, RepAs k M xs us ∧ (∀ u ∈ us, u.cells.size = n) ∧ (∀ u ∈ us, ∀ c ∈ u.cells, cellV c = true) ∧ (∀ w : World, (Builtin.lenOf u).run P w = .ok xs.length w) ∧ ∀ w : World, w.heap = M.w.heap → (Builtin.firstCells n xs.length u).run P w = .ok (flatC us).toArray w := by
    intro b o len c us hl hr hsz hcl hc hu
    subst hu hl
    obtain ⟨l1, _⟩ := (RepAs.iff xs us).1 hr
    refine ⟨us, hr, hsz, hcl, fun w => rfl, fun w hw => ?_⟩
    refine run_firstCells_some w n xs.length ⟨b, o, none⟩ _ c (flatC us) (by rw [flatC_len us hsz, l1]) (fun j v hj => ?_)
    rw [Addr.add_lit]
    have := hc j v hj
    show w.cell? _ = _
    unfold World.cell?
    rw [hw]; exact this
  have none' : xs = [] → (∃ c, u = .slice none 0 c) → ∃ us : List Value, RepAs k M xs us ∧ (∀ u ∈ us, u.cells.size = n) ∧ (∀ u ∈ us, ∀ c ∈ u.cells, cellV c = true) ∧ (∀ w : World, (Builtin.lenOf u).run P w = .ok xs.length w) ∧ ∀ w : World, w.heap = M.w.heap → (Builtin.firstCells n xs.length u).run P w = .ok (flatC us).toArray w := by
    rintro rfl ⟨c, rfl⟩
    exact ⟨[], rfl, by simp, by simp, fun w => rfl, fun w _ => rfl⟩
  have data : ∀ (l : List D) (a : Option Addr) (c : Nat), fitL n xs = true → xs = l.map .d → u = .slice a l.length c → (l = [] ∨ ∃ b o k', a = some ⟨b, o, none⟩ ∧ RepRow (CC k false M) b k' o l) →
      ∃ us : List Value, RepAs k M xs us ∧ (∀ u ∈ us, u.cells.size = n) ∧ (∀ u ∈ us, ∀ c ∈ u.cells, cellV c = true) ∧ (∀ w : World, (Builtin.lenOf u).run P w = .ok xs.length w) ∧ ∀ w : World, w.heap = M.w.heap → (Builtin.firstCells n xs.length u).run P w = .ok (flatC us).toArray w := by
    intro l a c hf hxs hu hl
    rcases hl with rfl | ⟨b, o, k', rfl, hrow⟩
    · subst hxs hu
      refine ⟨[], rfl, by simp, by simp, fun w => rfl, fun w _ => ?_⟩
      cases a with
      | none => rfl
      | some a => exact run_firstCells_some w n 0 a 0 c [] (by simp) (fun j v h => by simp at h)
    · obtain ⟨us, g1, g2, g3⟩ := hrow.values
      rw [← hxs] at g1
      exact row b o l.length c us (by rw [hxs]; simp) g1 (RepAs.cellsOf hn g1 hf).1 (RepAs.cellsOf hn g1 hf).2 (fun j c hc => (g3 j c hc).1) hu
  have hfit : (∀ loc ep es off len, x ≠ .sref loc ep es off len) → fitL n xs = true := fun hx => hf.resolve_right fun ⟨loc, ep, es, off, len, b, e, _⟩ => hx _ _ _ _ _ e
  unfold elemsOf at h
  split at h
  · cases h
    have hu : u = .slice none 0 0 := hx
    exact none' rfl ⟨0, hu⟩
  · cases h; obtain ⟨a, rfl, hl⟩ := hx; exact data _ a _ (hfit (by simp)) rfl rfl hl
  · cases h; obtain ⟨a, c, rfl, _, hl⟩ := hx; exact data _ a _ (hfit (by simp)) rfl rfl hl
  · cases h
    rename_i s
    obtain ⟨a, rfl, rfl⟩ := hx
    have hrep : ∀ l : List UInt8, RepAs k M (l.map fun c => AV.d (.lit (.int .u8 c.toNat))) (l.map fun c => Value.int .u8 c.toNat) := by
      intro l; induction l with
      | nil => rfl
      | cons c l ih => exact ⟨_, _, rfl, RepA.mkInt _ _, ih⟩
    have hflat : ∀ l : List UInt8, flatC (l.map fun c => Value.int .u8 c.toNat) = l.map fun c => Value.int .u8 c.toNat := by
      intro l; induction l with
      | nil => rfl
      | cons c l ih => simp only [flatC, List.map_cons, List.flatten_cons] at ih ⊢; rw [ih]; rfl
    have hlen : a.data.toList.length = a.size := by rw [Array.length_toList]; rfl
    have hfit' := hfit (by simp)
    have hco := RepAs.cellsOf hn (hrep a.data.toList) hfit'
    refine ⟨_, hrep _, hco.1, hco.2, fun w => ?_, fun w _ => ?_⟩
    · simp only [List.length_map, hlen]; rfl
    · simp only [List.length_map, hlen, Builtin.firstCells]
      rw [hflat]
      have : a.extract 0 a.size = a := by
        apply ByteArray.ext
        simp [ByteArray.data_extract]
      rw [this]
      show Result.ok _ _ = _
      congr 1
      apply Array.ext'
      simp
  · rename_i loc ep es off len
    obtain ⟨bl, hbl, h⟩ := Option.bind_eq_some_iff.1 h
    obtain ⟨b1, b2⟩ := getBlk_some hbl
    by_cases hle : Nat.ble (off + len) bl.elems.length = true
    · simp only [hle, cond_true] at h
      have hle := Nat.le_of_ble_eq_true hle
      cases h
      obtain ⟨y, hy, _, _, hrest⟩ := hx
      rw [hst _ _ b1] at hy; cases hy
      obtain ⟨_, hcase⟩ := hrest b2
      rcases hcase with ⟨hv, rfl, rfl, rfl⟩ | ⟨hv, hes0, hle2, b, base, c, hm, rfl, _, _⟩
      · exact none' (by simp) ⟨0, rfl⟩
      · obtain ⟨_, hes, cs, e, fz', hh, hsz, hfr, hel⟩ := hI.blk _ _ _ _ hm (hst _ _ b1)
        have hlen : ((bl.elems.drop off).take len).length = len := by rw [List.length_take, List.length_drop]; omega
        have hch : ∀ m, m ≤ len → ∃ us : List Value, RepAs k M (((bl.elems.drop off).take len).take m) us ∧ (∀ u ∈ us, u.cells.size = bl.es) ∧ (∀ u ∈ us, ∀ c ∈ u.cells, cellV c = true) ∧ ∀ (j : Nat) c, (flatC us)[j]? = some c → cs[base + off * bl.es + j]? = some c := by
          intro m
          induction m with
          | zero => intro _; exact ⟨[], rfl, by simp, by simp, fun j c h => by simp [flatC] at h⟩
          | succ m ih =>
            intro hm'
            obtain ⟨us, g1, g2, g2', g3⟩ := ih (by omega)
            obtain ⟨av, hav⟩ : ∃ av, ((bl.elems.drop off).take len)[m]? = some av := ⟨_, List.getElem?_eq_getElem (by omega)⟩
            have hav' : bl.elems[off + m]? = some av := by
              rw [List.getElem?_take, if_pos (by omega), List.getElem?_drop] at hav; exact hav
            obtain ⟨v, v1, v2, v3, v4⟩ := hel _ _ hav'
            obtain ⟨q1, q2⟩ := (RepAs.iff _ _).1 g1
            have hul : us.length = m := by rw [← q1, List.length_take]; omega
            refine ⟨us ++ [v], ?_, fun u hu => ?_, fun u hu => ?_, fun j c hc => ?_⟩
            · rw [List.take_add_one, hav]
              refine (RepAs.iff _ _).2 ⟨by simp [q1], fun i x u hx hu => ?_⟩
              simp only [Option.toList] at hx
              by_cases hi : i < us.length
              · rw [List.getElem?_append_left (by omega)] at hx hu
                exact q2 i x u hx hu
              · rw [List.getElem?_append_right (by omega)] at hx hu
                rw [q1] at hx
                have hi0 : i - us.length = 0 := by
                  have := (List.getElem?_eq_some_iff.1 hu).1; simp at this; omega
                rw [hi0] at hx hu
                simp at hx hu
                subst hx hu; exact v1
            · rcases List.mem_append.1 hu with hu | hu
              · exact g2 u hu
              · simp at hu; subst hu; exact v2
            · rcases List.mem_append.1 hu with hu | hu
              · exact g2' u hu
              · simp at hu; subst hu; exact v3
            · have hc' : (flatC us ++ v.cells.toList)[j]? = some c := by
                have : flatC (us ++ [v]) = flatC us ++ v.cells.toList := by simp [flatC]
                rwa [this] at hc
              have hfl := flatC_len us g2
              by_cases hj : j < (flatC us).length
              · rw [List.getElem?_append_left hj] at hc'
                exact g3 j c hc'
              · rw [List.getElem?_append_right (by omega)] at hc'
                have := v4 (j - (flatC us).length) c (by simpa using hc')
                rw [← this, hfl, hul, Nat.add_mul]
                congr 1
                have : m * bl.es ≤ j := by rw [hfl, hul] at hj; omega
                omega
        obtain ⟨us, g1, g2, g2', g3⟩ := hch len (Nat.le_refl _)
        rw [List.take_of_length_le (by omega)] at g1
        have hszn : ∀ u ∈ us, u.cells.size = n := by
          rcases hf with hf | ⟨_, _, _, _, _, b', e, hb', hbe⟩
          · exact (RepAs.cellsOf hn g1 hf).1
          · cases e; rw [hbl] at hb'; cases hb'; rw [← hbe]; exact g2
        refine row b (base + off * bl.es) len c us hlen g1 hszn g2' (fun j c hc => ?_) rfl
        show M.w.cell? _ = _
        rw [cell_of_row M.w b _ cs e fz' hh]; exact g3 j c hc
    · simp [Bool.eq_false_iff.2 hle] at h
  · cases h
theorem fzEs_sound {k : Keep} {M : Mem} (hI : Inv k M) {st : Store} (hst : Pre st M.st) : ∀ (l : List AV) (us : List Value), RepAs k M l us → RepAs k M (l.map (fzE st)) us
  | [], us, h => h
  | x :: r, us, ⟨v, t, e, hx, hr⟩ => ⟨v, t, e, fzE_sound hI hst hx, fzEs_sound hI hst r t hr⟩
end Go.Eng
namespace Go.Eng
variable {P : Program}
theorem reblk {k : Keep} {M : Mem} (hI : Inv k M) {loc : Nat} {x x' : Blk} (hx : M.st[loc]? = some x) (hrow : x'.row = x.row) (hsh : x'.shut = x.shut)
    (hlen : x.elems.length < x'.elems.length ∨ (M.m loc = none ∧ x'.elems.length = x.elems.length ∧ x'.virt = x.virt ∧ (x.virt = false → x'.es = x.es))) (hf : BlkForm x') :
    Stp k M ⟨fun i => if i = loc then none else M.m i, M.st.set loc x', M.w⟩ := by
  have hloc := (List.getElem?_eq_some_iff.1 hx).1
  have hget : ∀ (i : Nat) y, (M.st.set loc x')[i]? = some y → (i = loc ∧ y = x') ∨ (i ≠ loc ∧ M.st[i]? = some y) := fun i y hy => by
    by_cases hi : i = loc
    · subst hi; rw [List.getElem?_set_self hloc] at hy; cases hy; exact .inl ⟨rfl, rfl⟩
    · rw [List.getElem?_set_ne (fun e => hi e.symm)] at hy; exact .inr ⟨hi, hy⟩
  have hset : (M.st.set loc x')[loc]? = some x' := List.getElem?_set_self hloc
  have hP : ∀ b o, Prot false M.m M.st b o → Prot false (fun i => if i = loc then none else M.m i) (M.st.set loc x') b o := fun b o h i base y hm hy => by
    simp only at hm
    by_cases hi : i = loc
    · rw [if_pos hi] at hm; cases hm
    · rw [if_neg hi] at hm
      rcases hget i y hy with ⟨e, _⟩ | ⟨_, hy'⟩
      · exact absurd e hi
      · exact h i base y hm hy'
  have hevo : Evo M ⟨fun i => if i = loc then none else M.m i, M.st.set loc x', M.w⟩ := by
    refine ⟨by simp, fun i y hy => ?_, fun b o v hv hp => ⟨hv, hP b o hp⟩, fun b cs e fz h => ⟨cs, fz, h, rfl, id⟩, Nat.le_refl _⟩
    by_cases hi : i = loc
    · subst hi
      rw [hx] at hy; cases hy
      refine ⟨x', hset, by rcases hlen with h | ⟨_, h, _⟩ <;> omega, hrow, hsh, fun e => ?_⟩
      rcases hlen with h | ⟨h1, h2, h3, h4⟩
      · omega
      · exact ⟨h3, h4, fun p hp => by rw [h1] at hp; cases hp⟩
    · exact ⟨y, by simp only; rw [List.getElem?_set_ne (fun e => hi e.symm)]; exact hy, Nat.le_refl _, rfl, rfl, fun _ => ⟨rfl, fun _ => rfl, fun p hp => by simp only; rw [if_neg hi]; exact hp⟩⟩
  refine ⟨⟨fun i j b o o' hi hj => ?_, fun i p hi => ?_, fun i b o hi => ?_, hI.big, fun i b o y hi hy => ?_, fun i y hy => ?_⟩, hevo, ⟨rfl, rfl, rfl, fun _ _ _ => rfl, fun i b o hi => ?_⟩⟩
  · simp only at hi hj
    by_cases h1 : i = loc
    · rw [if_pos h1] at hi; cases hi
    · by_cases h2 : j = loc
      · rw [if_pos h2] at hj; cases hj
      · rw [if_neg h1] at hi; rw [if_neg h2] at hj; exact hI.inj _ _ _ _ _ hi hj
  · simp only at hi ⊢
    by_cases h1 : i = loc
    · rw [if_pos h1] at hi; cases hi
    · rw [if_neg h1] at hi; rw [List.length_set]; exact hI.dom _ _ hi
  · simp only at hi
    by_cases h1 : i = loc
    · rw [if_pos h1] at hi; cases hi
    · rw [if_neg h1] at hi; exact hI.low _ _ _ hi
  · simp only at hi hy
    by_cases h1 : i = loc
    · rw [if_pos h1] at hi; cases hi
    · rw [if_neg h1] at hi
      rcases hget i y hy with ⟨e, _⟩ | ⟨_, hy'⟩
      · exact absurd e h1
      · obtain ⟨q1, q2, cs2, e2, fz2, q3, q4, q5, q6⟩ := hI.blk _ _ _ _ hi hy'
        refine ⟨q1, q2, cs2, e2, fz2, q3, q4, q5, fun j av hj => ?_⟩
        obtain ⟨v, h1, h2⟩ := q6 j av hj
        exact ⟨v, RepA.evo hevo _ _ h1, h2⟩
  · simp only at hy
    rcases hget i y hy with ⟨_, rfl⟩ | ⟨_, hy'⟩
    · exact hf
    · exact hI.frm i y hy'
  · simp only at hi
    by_cases h1 : i = loc
    · rw [if_pos h1] at hi; cases hi
    · rw [if_neg h1] at hi; exact .inl ⟨i, o, hi⟩
structure AppT (P : Program) (types : Array TypeId) (e : TypeId) (ei : TI) : Prop where
  t0 : ∃ t, types[0]? = some t ∧ P.underlying t = some (.slice e)
  t1 : ∃ t d, types[1]? = some t ∧ P.underlying t = some d ∧ ∀ q, d ≠ .int q
  el : tiOf P e = some ei
theorem notInt {d : TypeDesc} (h : ∀ q, d ≠ .int q) : (match d with | .int _ => true | _ => false) = false := by
  cases d <;> first | rfl | exact absurd rfl (h _)
theorem run_app_room {types : Array TypeId} {e : TypeId} {ei : TI} (hT : AppT P types e ei) (ty : TypeId) {base : Option Addr} {sLen sCap n : Nat} {x : Value} {news : Array Value} {w w' : World}
    (hlen : (Builtin.lenOf x).run P w = .ok n w) (hle : sLen + n ≤ sCap) (hnew : (Builtin.firstCells ei.size n x).run P w = .ok news w)
    (hst : ∀ a, base = some a → (storeCells (a.add (sLen * ei.size)) news.toList).run P w = .ok () w') (hno : base = none → w' = w) :
    (Builtin.append_ types ty #[.slice base sLen sCap, x]).run P w = .ok (.slice base (sLen + n) sCap) w' := by
  obtain ⟨t0, h0, hu0⟩ := hT.t0
  obtain ⟨t1, d1, h1, hu1, hni⟩ := hT.t1
  have hd := notInt hni
  cases base with
  | none =>
    have := hno rfl
    subst this
    simp [Builtin.append_, h0, h1, run_underlying hu0, run_underlying hu1, run_sizeOf' hT.el, hd, hlen, hle, hnew]
  | some a =>
    have := hst a rfl
    simp [Builtin.append_, h0, h1, run_underlying hu0, run_underlying hu1, run_sizeOf' hT.el, hd, hlen, hle, hnew, this]
theorem run_app_grow {types : Array TypeId} {e : TypeId} {ei : TI} (hT : AppT P types e ei) (ty : TypeId) {z : Value} (hz : ei.zero = some z) {base : Option Addr} {sLen sCap n : Nat} {x : Value} {olds news : Array Value} {w : World}
    (hlen : (Builtin.lenOf x).run P w = .ok n w) (hlt : sCap < sLen + n) (hnew : (Builtin.firstCells ei.size n x).run P w.drew = .ok news w.drew) (hold : (Builtin.firstCells ei.size sLen (.slice base sLen sCap)).run P w.drew = .ok olds w.drew)
    (h30 : sLen + n ≤ sliceMost) (hb : ei.bytes ≤ 16384) :
    (Builtin.append_ types ty #[.slice base sLen sCap, x]).run P w =
      .ok (.slice (some ⟨w.heap.size, 0, none⟩) (sLen + n) (grownCap w (sLen + n) sCap e)) (w.drew.alloc (.cells (olds ++ news ++ Builtin.zeroCells z.cells (grownCap w (sLen + n) sCap e - (sLen + n))) e)) := by
  obtain ⟨t0, h0, hu0⟩ := hT.t0
  obtain ⟨t1, d1, h1, hu1, hni⟩ := hT.t1
  have hd := notInt hni
  obtain ⟨info, d, i1, i2, i3, i4, i5, i6⟩ := ti_spec hT.el
  have hn : ¬ (sLen + n ≤ sCap) := by omega
  have hfit : ¬ (281474976710656 < Builtin.nextslicecap (sLen + n) sCap * info.bytes) := by
    have h1 := nextslicecap_le hlt
    have h2 : Builtin.nextslicecap (sLen + n) sCap * info.bytes ≤ (2 * sliceMost) * 16384 := Nat.mul_le_mul (by omega) (by omega)
    have : (2 * sliceMost) * 16384 ≤ 281474976710656 := by decide
    omega
  have h63 : ¬ (9223372036854775807 < ((sLen : Int) + (n : Int))) := by
    have : sliceMost ≤ 9223372036854775807 := by decide
    omega
  have hz' : info.zero = some z := by rw [← i5]; exact hz
  have hs' : info.size = ei.size := i3.symm
  rw [← hs'] at hnew hold
  simp [Builtin.append_, h0, h1, run_underlying hu0, run_underlying hu1, hd, hlen, hn, sizeOf, typeInfo, zeroValue, i1, hz', hfit, h63, Question.forced, hnew, hold, newRow, grownCap]
def LOk (P : Program) (k : Keep) (M : Mem) (e : TypeId) (ub : Value) (st' : Store) (v : AV) (s : Sem Value) : Prop :=
  ∃ w' m' u, s.run P M.w = .ok u w' ∧ RepA k ⟨m', st', w'⟩ v u ∧ Stp k M ⟨m', st', w'⟩ ∧ (SlTy M.w e ub → SlTy w' e u)
theorem SlTy.len {w : World} {e : TypeId} {a : Option Addr} {n n' c c' : Nat} (h : SlTy w e (.slice a n c)) : SlTy w e (.slice a n' c') := by
  intro b o sp m c2 hu
  cases hu
  exact h b o sp n c rfl
theorem SlTy.none {w : World} {e : TypeId} {n c : Nat} : SlTy w e (.slice Option.none n c) := fun b o sp m c2 hu => by cases hu
theorem SlTy.new {w : World} {e : TypeId} {cs : Array Value} {b o n c : Nat} {fz : Nat × Nat} (h : w.heap[b]? = some (Obj.cells cs e fz)) (hz : fz.1 = 0) (ho : o = 0) : SlTy w e (.slice (some ⟨b, o, Option.none⟩) n c) := by
  intro b' o' sp m c2 hu
  cases hu
  exact ⟨ho, cs, fz, h, hz⟩
theorem flatC_append (a b : List Value) : flatC (a ++ b) = flatC a ++ flatC b := by simp [flatC]
theorem RepAs.append {k : Keep} {M : Mem} : ∀ {a b : List AV} {us vs : List Value}, RepAs k M a us → RepAs k M b vs → RepAs k M (a ++ b) (us ++ vs)
  | [], b, us, vs, h, h2 => by have : us = [] := h; subst this; exact h2
  | x :: a, b, us, vs, ⟨v, t, e, hx, hr⟩, h2 => by subst e; exact ⟨v, t ++ vs, rfl, hx, RepAs.append hr h2⟩
theorem storeCells_nil (a : Addr) (w : World) : (storeCells a []).run P w = .ok () w := rfl
theorem zeroOk_some {ei : TI} (h : zeroOk ei = true) : ∃ z, ei.zero = some z ∧ z.cells.size = ei.size := by
  unfold zeroOk at h
  split at h
  · rename_i z hz; exact ⟨z, hz, by simpa using h⟩
  · cases h
theorem app_new {k : Keep} {M : Mem} (hI : Inv k M) {types : Array TypeId} {e : TypeId} {ei : TI} (hT : AppT P types e ei) (ty : TypeId) (hs0 : ei.size ≠ 0) (hb : ei.bytes ≤ 16384) (hzo : zeroOk ei = true)
    {wr : Bool} {l xs : List AV} {us vs : List Value} {a : Option Addr} {cap : Nat} {x : Value} (hcap : cap < l.length + xs.length) (h30 : l.length + xs.length ≤ sliceMost)
    (hl : RepAs k M l us) (hus : ∀ u ∈ us, u.cells.size = ei.size) (huc : ∀ u ∈ us, ∀ c ∈ u.cells, cellV c = true) (hxs : RepAs k M xs vs) (hvs : ∀ u ∈ vs, u.cells.size = ei.size) (hvc : ∀ u ∈ vs, ∀ c ∈ u.cells, cellV c = true)
    (hlen : ∀ w : World, (Builtin.lenOf x).run P w = .ok xs.length w) (hnew : ∀ w : World, w.heap = M.w.heap → (Builtin.firstCells ei.size xs.length x).run P w = .ok (flatC vs).toArray w)
    (hold : ∀ w : World, w.heap = M.w.heap → (Builtin.firstCells ei.size l.length (.slice a l.length cap)).run P w = .ok (flatC us).toArray w) :
    LOk P k M e (.slice a l.length cap) (M.st ++ [⟨ei.size, l ++ xs, true, !wr, false⟩]) (.sref M.st.length (l ++ xs).length ei.size 0 (l ++ xs).length) (Builtin.append_ types ty #[.slice a l.length cap, x]) := by
  obtain ⟨z, hz, hzs⟩ := zeroOk_some hzo
  have hrun := run_app_grow hT ty hz (hlen M.w) hcap (hnew M.w.drew rfl) (hold M.w.drew rfl) h30 hb
  have S1 : Stp k M ⟨M.m, M.st ++ [⟨ei.size, l ++ xs, true, !wr, false⟩], M.w⟩ := hI.more (fun i y hy => by rw [List.getElem?_append_left (List.getElem?_eq_some_iff.1 hy).1]; exact hy) (by simp) (fun i y hy => by
    by_cases hi : i < M.st.length
    · rw [List.getElem?_append_left hi] at hy; exact hI.frm i y hy
    · rw [List.getElem?_append_right (by omega)] at hy
      have : i - M.st.length = 0 := by have := (List.getElem?_eq_some_iff.1 hy).1; simp at this; omega
      rw [this] at hy; simp at hy; subst hy
      exact ⟨fun h => by simp at h, fun h => by simp at h⟩)
  have hall := (RepAs.append hl hxs)
  have hsz : ∀ u ∈ us ++ vs, u.cells.size = ei.size := fun u hu => (List.mem_append.1 hu).elim (hus u) (hvs u)
  have hsc : ∀ u ∈ us ++ vs, ∀ c ∈ u.cells, cellV c = true := fun u hu => (List.mem_append.1 hu).elim (huc u) (hvc u)
  have hge := grownCap_ge M.w (l.length + xs.length) cap e
  have e1 := (RepAs.iff _ _).1 hl |>.1
  have e2 := (RepAs.iff _ _).1 hxs |>.1
  have f1 := flatC_len us hus
  have f2 := flatC_len vs hvs
  have hm : M.m M.st.length = none := by
    cases hh : M.m M.st.length with
    | none => rfl
    | some p => exact absurd (hI.dom _ _ hh) (by omega)
  have hcsz : ((flatC us).toArray ++ (flatC vs).toArray ++ Builtin.zeroCells z.cells (grownCap M.w (l.length + xs.length) cap e - (l.length + xs.length))).size = grownCap M.w (l.length + xs.length) cap e * ei.size := by
    simp only [Array.size_append, List.size_toArray, size_zeroCells, hzs, f1, f2, ← e1, ← e2, ← Nat.add_mul]
    congr 1
    omega
  obtain ⟨m', r1, r2, _⟩ := newRow_ok (M := ⟨M.m, M.st ++ [⟨ei.size, l ++ xs, true, !wr, false⟩], M.w⟩) S1.inv (n := M.st.length) (sh := !wr) hs0 (RepAs.evo S1.evo _ _ hall) hsz hsc
    (by simp) hm (w0 := M.w.drew) rfl rfl rfl rfl (cs := (flatC us).toArray ++ (flatC vs).toArray ++ Builtin.zeroCells z.cells (grownCap M.w (l.length + xs.length) cap e - (l.length + xs.length))) (e := e) (fz0 := (0, 0))
    (cap := grownCap M.w (l.length + xs.length) cap e) (by rw [hcsz]; exact Nat.le_refl _) (by rw [List.length_append]; omega) (fun j _ h => by simp at h)
    (fun j c hc => by
      rw [flatC_append] at hc
      have hj := (List.getElem?_eq_some_iff.1 hc).1
      rw [Array.getElem?_append_left (by simpa using hj)]
      rw [← Array.getElem?_toList]
      simpa using hc)
  refine ⟨_, m', _, hrun, ?_, S1.trans r2, fun _ => SlTy.new (cs := _) (fz := (0, 0)) (heap_alloc_new M.w.drew _) rfl rfl⟩
  simpa only [List.length_append] using r1
theorem app_re {k : Keep} {M : Mem} (hI : Inv k M) {types : Array TypeId} {e : TypeId} {ei : TI} (hT : AppT P types e ei) (ty : TypeId) (hs0 : ei.size ≠ 0) (hb : ei.bytes ≤ 16384) (hzo : zeroOk ei = true)
    {loc : Nat} {b : Blk} (hbk : M.st[loc]? = some b) (hrow : b.row = true)
    {xs : List AV} {us vs : List Value} {a : Option Addr} {cap : Nat} {x : Value} (hcap : cap < b.elems.length + xs.length) (hx0 : xs ≠ []) (h30 : b.elems.length + xs.length ≤ sliceMost)
    (hl : RepAs k M b.elems us) (hus : ∀ u ∈ us, u.cells.size = ei.size) (huc : ∀ u ∈ us, ∀ c ∈ u.cells, cellV c = true) (hxs : RepAs k M xs vs) (hvs : ∀ u ∈ vs, u.cells.size = ei.size) (hvc : ∀ u ∈ vs, ∀ c ∈ u.cells, cellV c = true)
    (hlen : ∀ w : World, (Builtin.lenOf x).run P w = .ok xs.length w) (hnew : ∀ w : World, w.heap = M.w.heap → (Builtin.firstCells ei.size xs.length x).run P w = .ok (flatC vs).toArray w)
    (hold : ∀ w : World, w.heap = M.w.heap → (Builtin.firstCells ei.size b.elems.length (.slice a b.elems.length cap)).run P w = .ok (flatC us).toArray w) :
    LOk P k M e (.slice a b.elems.length cap) (M.st.set loc ⟨ei.size, b.elems ++ xs, true, b.shut, false⟩) (.sref loc (b.elems ++ xs).length ei.size 0 (b.elems ++ xs).length) (Builtin.append_ types ty #[.slice a b.elems.length cap, x]) := by
  obtain ⟨z, hz, hzs⟩ := zeroOk_some hzo
  have hrun := run_app_grow hT ty hz (hlen M.w) hcap (hnew M.w.drew rfl) (hold M.w.drew rfl) h30 hb
  have hloc := (List.getElem?_eq_some_iff.1 hbk).1
  have hxl : 0 < xs.length := List.length_pos_iff.2 hx0
  have S1 := reblk hI hbk (x' := ⟨ei.size, b.elems ++ xs, true, b.shut, false⟩) hrow.symm rfl (.inl (by simp; omega)) ⟨fun h => by simp at h, fun h => by simp at h⟩
  have hall := (RepAs.append hl hxs)
  have hsz : ∀ u ∈ us ++ vs, u.cells.size = ei.size := fun u hu => (List.mem_append.1 hu).elim (hus u) (hvs u)
  have hsc : ∀ u ∈ us ++ vs, ∀ c ∈ u.cells, cellV c = true := fun u hu => (List.mem_append.1 hu).elim (huc u) (hvc u)
  have hge := grownCap_ge M.w (b.elems.length + xs.length) cap e
  have e1 := (RepAs.iff _ _).1 hl |>.1
  have e2 := (RepAs.iff _ _).1 hxs |>.1
  have f1 := flatC_len us hus
  have f2 := flatC_len vs hvs
  have hcsz : ((flatC us).toArray ++ (flatC vs).toArray ++ Builtin.zeroCells z.cells (grownCap M.w (b.elems.length + xs.length) cap e - (b.elems.length + xs.length))).size = grownCap M.w (b.elems.length + xs.length) cap e * ei.size := by
    simp only [Array.size_append, List.size_toArray, size_zeroCells, hzs, f1, f2, ← e1, ← e2, ← Nat.add_mul]
    congr 1
    omega
  obtain ⟨m', r1, r2, _⟩ := newRow_ok S1.inv (n := loc) (sh := b.shut) hs0 (RepAs.evo S1.evo _ _ hall) hsz hsc
    (List.getElem?_set_self hloc) (by simp) (w0 := M.w.drew) rfl rfl rfl rfl (cs := (flatC us).toArray ++ (flatC vs).toArray ++ Builtin.zeroCells z.cells (grownCap M.w (b.elems.length + xs.length) cap e - (b.elems.length + xs.length))) (e := e) (fz0 := (0, 0))
    (cap := grownCap M.w (b.elems.length + xs.length) cap e) (by rw [hcsz]; exact Nat.le_refl _) (by rw [List.length_append]; omega) (fun j _ h => by simp at h)
    (fun j c hc => by
      rw [flatC_append] at hc
      have hj := (List.getElem?_eq_some_iff.1 hc).1
      rw [Array.getElem?_append_left (by simpa using hj)]
      rw [← Array.getElem?_toList]
      simpa using hc)
  refine ⟨_, m', _, hrun, ?_, S1.trans r2, fun _ => SlTy.new (cs := _) (fz := (0, 0)) (heap_alloc_new M.w.drew _) rfl rfl⟩
  simpa only [List.length_append] using r1
theorem appV_sound {k : Keep} {M : Mem} (hI : Inv k M) {types : Array TypeId} {e : TypeId} {ei : TI} (hT : AppT P types e ei) (ty : TypeId) {wr : Bool} {base x r : AV} {ub ux : Value} {st' : Store}
    (hb : RepA k M base ub) (hx : RepA k M x ux) (h : appV M.st ei wr base x = some (r, st'))   : LOk P k M e ub st' r (Builtin.append_ types ty #[ub, ux]) := by
  unfold appV at h
  obtain ⟨xs, hxs, h9⟩ := Option.bind_eq_some_iff.1 h
  clear h
  have h := h9
  clear h9
  by_cases hc : (ei.size == 0 || Nat.blt 16384 ei.bytes || !(fitL ei.size xs && zeroOk ei)) = true
  · simp only [hc, cond_true] at h; cases h
  simp only [Bool.eq_false_iff.2 hc, cond_false] at h
  have hc := Bool.eq_false_iff.2 hc
  simp only [Bool.or_eq_false_iff, beq_eq_false_iff_ne, Bool.not_eq_false', Bool.and_eq_true] at hc
  obtain ⟨⟨hs0, hby⟩, hfit, hzo⟩ := hc
  have hby : ei.bytes ≤ 16384 := by
    rcases Nat.lt_or_ge 16384 ei.bytes with h | h
    · have : Nat.blt 16384 ei.bytes = true := Nat.ble_eq_true_of_le h
      rw [this] at hby; cases hby
    · exact h
  have blt_f : ∀ {a b : Nat}, Nat.blt a b = false → b ≤ a := fun {a b} h => by
    rcases Nat.lt_or_ge a b with h1 | h1
    · have : Nat.blt a b = true := Nat.ble_eq_true_of_le h1
      rw [this] at h; cases h
    · exact h1
  obtain ⟨vs, x1, x2, x3, x4, x5⟩ := elemsOf_sound (P := P) hI (fun _ _ h => h) hx hxs hs0 (.inl hfit)
  have x1' := fzEs_sound hI (st := M.st) (fun _ _ h => h) xs vs x1
  have xl := (RepAs.iff _ _).1 x1 |>.1
  have noop : ∀ (a : Option Addr) (l c : Nat), xs = [] → ub = .slice a l c → l ≤ c → LOk P k M e ub M.st base (Builtin.append_ types ty #[ub, ux]) := by
    intro a l c hxe hu hle
    subst hu hxe
    have hvs : vs = [] := List.length_eq_zero_iff.1 xl.symm
    subst hvs
    have := run_app_room hT ty (base := a) (sLen := l) (sCap := c) (n := 0) (x := ux) (news := #[]) (w := M.w) (w' := M.w) (x4 M.w) (by omega) (x5 M.w rfl) (fun a _ => storeCells_nil _ _) (fun _ => rfl)
    exact ⟨M.w, M.m, _, this, by simpa using hb, Stp.refl hI, fun h => h.len⟩
  split at h
  · -- nil
    have hu : ub = .slice none 0 0 := hb
    by_cases hxe : xs.isEmpty = true
    · simp only [hxe, cond_true] at h
      cases h
      exact noop none 0 0 (List.isEmpty_iff.1 hxe) hu (Nat.le_refl _)
    · simp only [Bool.eq_false_iff.2 hxe, cond_false] at h
      by_cases hm : Nat.blt sliceMost xs.length = true
      · simp [hm] at h
      · simp only [Bool.eq_false_iff.2 hm, cond_false, newRowV] at h
        cases h
        subst hu
        have hlen : 0 < xs.length := by cases xs with | nil => simp at hxe | cons => simp
        have := app_new hI hT ty hs0 hby hzo (wr := wr) (l := []) (xs := xs.map (fzE M.st)) (us := []) (vs := vs) (a := none) (cap := 0) (x := ux) (by simpa using hlen) (by simpa using blt_f (Bool.eq_false_iff.2 hm))
          rfl (by simp) (by simp) x1' x2 x3 (by simpa using x4) (by simpa using x5) (fun w _ => rfl)
        simpa using this
  · -- full
    rename_i l
    obtain ⟨a, rfl, hl⟩ := hb
    by_cases hxe : xs.isEmpty = true
    · simp only [hxe, cond_true] at h
      cases h
      exact noop a l.length l.length (List.isEmpty_iff.1 hxe) rfl (Nat.le_refl _)
    · simp only [Bool.eq_false_iff.2 hxe, cond_false] at h
      by_cases hm : (Nat.blt sliceMost (l.length + xs.length) || !(fitL ei.size (l.map .d))) = true
      · simp [hm] at h
      · simp only [Bool.eq_false_iff.2 hm, cond_false, newRowV] at h
        have hm := Bool.eq_false_iff.2 hm
        simp only [Bool.or_eq_false_iff, Bool.not_eq_false'] at hm
        cases h
        have hlen : 0 < xs.length := by cases xs with | nil => simp at hxe | cons => simp
        obtain ⟨us, u1, u2, u3, u4, u5⟩ := elemsOf_sound (P := P) hI (st := M.st) (fun _ _ h => h) (x := .full l) (u := .slice a l.length l.length) ⟨a, rfl, hl⟩ (xs := l.map .d) rfl hs0 (.inl hm.2)
        have := app_new hI hT ty hs0 hby hzo (wr := wr) (l := l.map .d) (xs := xs.map (fzE M.st)) (us := us) (vs := vs) (a := a) (cap := l.length) (x := ux) (by simp; omega) (by simpa using blt_f hm.1)
          u1 u2 u3 x1' x2 x3 (by simpa using x4) (by simpa using x5) (by simpa using u5)
        simpa using this
  · -- data
    rename_i l
    obtain ⟨a, c, rfl, hle, hl⟩ := hb
    by_cases hxe : xs.isEmpty = true
    · simp only [hxe, cond_true] at h
      cases h
      exact noop a l.length c (List.isEmpty_iff.1 hxe) rfl hle
    · simp [Bool.eq_false_iff.2 hxe] at h
  · -- a row
    rename_i loc ep es len
    obtain ⟨b, hbk, h9⟩ := Option.bind_eq_some_iff.1 h
    clear h
    have h := h9
    clear h9
    obtain ⟨b1, b2⟩ := getBlk_some hbk
    by_cases hm : (b.row && b.elems.length == len && (b.virt || b.es == ei.size) && !(Nat.blt sliceMost (len + xs.length))) = true
    · simp only [hm, cond_true] at h
      simp only [Bool.and_eq_true, beq_iff_eq, Bool.or_eq_true, Bool.not_eq_true'] at hm
      obtain ⟨⟨⟨hrow, hlen⟩, hves⟩, hmost⟩ := hm
      have hmost := blt_f hmost
      cases h
      obtain ⟨y, hy, _, _, hrest⟩ := hb
      rw [b1] at hy; cases hy
      obtain ⟨_, hcase⟩ := hrest b2
      have hloc := (List.getElem?_eq_some_iff.1 b1).1
      have hxm : (xs.map (fzE M.st)).length = xs.length := by simp
      by_cases hxe : xs = []
      · subst hxe
        rcases hcase with ⟨hv, rfl, _, rfl⟩ | ⟨hv, hes, hle, bl, base, c, hm0, rfl, hc, cs0, e0, fz0, hh0, hcap⟩
        · -- a row to come, nothing added
          have he0 : b.elems = [] := List.length_eq_zero_iff.1 hlen
          have hmn : M.m loc = none := by
            cases hh : M.m loc with
            | none => rfl
            | some p => obtain ⟨p1, p2⟩ := p; have := (hI.blk _ _ _ _ hh b1).1; rw [hv] at this; cases this
          have hvs : vs = [] := List.length_eq_zero_iff.1 xl.symm
          subst hvs
          have hrun := run_app_room hT ty (base := none) (sLen := 0) (sCap := 0) (n := 0) (x := ux) (news := #[]) (w := M.w) (w' := M.w) (x4 M.w) (by omega) (x5 M.w rfl) (fun a _ => storeCells_nil _ _) (fun _ => rfl)
          have S1 := reblk hI b1 (x' := ⟨ei.size, b.elems ++ [], true, b.shut, b.virt⟩) hrow.symm rfl (.inr ⟨hmn, by simp, rfl, fun h => by rw [hv] at h; cases h⟩) ⟨fun h => by simp at h, fun _ => by simp [he0]⟩
          refine ⟨M.w, fun i => if i = loc then none else M.m i, _, hrun, ⟨_, List.getElem?_set_self hloc, by simp, ⟨none, 0, rfl, by simp, by simp⟩, fun _ => ⟨rfl, .inl ⟨by simp [hv], rfl, rfl, rfl⟩⟩⟩, ?_, fun h => h.len⟩
          simpa using S1
        · -- nothing added
          have hvs : vs = [] := List.length_eq_zero_iff.1 xl.symm
          subst hvs
          have hes' : b.es = ei.size := hves.resolve_left (by rw [hv]; simp)
          have hrun := run_app_room hT ty (base := some ⟨bl, base + 0 * b.es, none⟩) (sLen := len) (sCap := c) (n := 0) (x := ux) (news := #[]) (w := M.w) (w' := M.w) (x4 M.w) (by omega) (x5 M.w rfl) (fun a _ => storeCells_nil _ _) (fun _ => rfl)
          have hsame : (⟨ei.size, b.elems ++ [], true, b.shut, b.virt && true⟩ : Blk) = b := by
            cases b; simp only at hrow hes' hv ⊢; simp [hrow, hes', hv]
          have hset : M.st.set loc b = M.st := by
            apply List.ext_getElem?
            intro i
            by_cases hi : i = loc
            · subst hi; rw [List.getElem?_set_self hloc]; exact b1.symm
            · rw [List.getElem?_set_ne (fun e => hi e.symm)]
          simp only [List.map_nil, List.isEmpty_nil, hsame, hset, List.length_nil, Nat.add_zero]
          refine ⟨M.w, M.m, _, hrun, ⟨b, b1, by omega, ⟨_, _, rfl, hc, by simp⟩, fun _ => ⟨hrow, .inr ⟨hv, hes'.symm, by omega, bl, base, c, hm0, by simp, hc, cs0, e0, fz0, hh0, hcap⟩⟩⟩, Stp.refl hI, fun h => h.len⟩
      · have hxe' : xs.isEmpty = false := by cases xs with | nil => exact absurd rfl hxe | cons => rfl
        have hxl : 0 < xs.length := List.length_pos_iff.2 hxe
        rw [hxe', Bool.and_false]
        rcases hcase with ⟨hv, rfl, _, rfl⟩ | ⟨hv, hes, hle, bl, base, c, hm0, rfl, hc, cs0, e0, fz0, hh0, hcap⟩
        · have he0 : b.elems = [] := List.length_eq_zero_iff.1 hlen
          have := app_re hI hT ty hs0 hby hzo b1 hrow (xs := xs.map (fzE M.st)) (us := []) (vs := vs) (a := none) (cap := 0) (x := ux) (by rw [hxm]; omega) (by simpa using hxe) (by rw [hxm, he0]; simpa using hmost)
            (by rw [he0]; rfl) (by simp) (by simp) x1' x2 x3 (by simpa using x4) (by simpa using x5) (fun w _ => by rw [he0]; rfl)
          simpa [he0] using this
        · have hes' : b.es = ei.size := hves.resolve_left (by rw [hv]; simp)
          obtain ⟨us, u1, u2, u3, u4, u5⟩ := elemsOf_sound (P := P) hI (st := M.st) (fun _ _ h => h) (x := .sref loc ep b.es 0 len) (u := .slice (some ⟨bl, base + 0 * b.es, none⟩) len c)
            ⟨b, b1, by omega, ⟨_, _, rfl, hc, by simp⟩, fun _ => ⟨hrow, .inr ⟨hv, rfl, by omega, bl, base, c, hm0, rfl, hc, cs0, e0, fz0, hh0, hcap⟩⟩⟩ (xs := b.elems)
            (by simp only [elemsOf, hbk, Option.bind_some]; rw [Nat.ble_eq_true_of_le (by omega)]; simp only [cond_true, List.drop_zero]; rw [List.take_of_length_le (by omega)]) hs0 (.inr ⟨_, _, _, _, _, b, rfl, hbk, hes'⟩)
          by_cases hroom : len + xs.length ≤ c
          · -- in place
            obtain ⟨_, hesp, cs, e1, fz1, hh, hsz, hfr, hel⟩ := hI.blk _ _ _ _ hm0 b1
            rw [hh0] at hh; cases hh
            have hh := hh0
            have f2 := flatC_len vs x2
            have hnl : (flatC vs).length = xs.length * ei.size := by rw [f2, xl]
            have hcap' : base + (len + xs.length) * ei.size ≤ cs0.size := by
              have h1 : (len + xs.length) * ei.size ≤ c * ei.size := Nat.mul_le_mul_right _ hroom
              rw [hes'] at hcap; simp only [Nat.zero_add] at hcap; omega
            have hadd : (len + xs.length) * ei.size = len * ei.size + xs.length * ei.size := Nat.add_mul _ _ _
            obtain ⟨ncs, n1, n2, n3, n4, n5, n6, n7, n8, n9⟩ := setCells_spec bl e0 fz0 (flatC vs) (base + len * ei.size) M.w cs0 hh (by rw [hnl]; omega)
            have hcells : ∀ u ∈ flatC vs, u.oneCell' = true := fun u hu => by
              rw [cellV_eq]
              simp only [flatC, List.mem_flatten, List.mem_map] at hu
              obtain ⟨l, ⟨y, hy, rfl⟩, hu⟩ := hu
              exact x3 y hy u (by simpa using hu)
            have hst := run_storeCells_cells (P := P) bl (base + len * ei.size) (flatC vs) 0 M.w (fun j hj => by
                rw [cell_of_row M.w bl _ cs0 e0 fz0 hh]
                rw [Array.getElem?_eq_getElem (by rw [hnl] at hj; omega)]; rfl) (fun j hj => by
                have := hfr (base + len * ei.size + 0 + j) (by rw [hnl] at hj; omega) (by omega) (fun _ => by rw [hes', hlen, Nat.mul_comm]; omega)
                unfold World.frozen?
                simp only [hh]
                simpa using this) hcells
            simp only [Nat.add_zero] at hst
            have hrun := run_app_room hT ty (base := some ⟨bl, base + 0 * b.es, none⟩) (sLen := len) (sCap := c) (n := xs.length) (x := ux) (news := (flatC vs).toArray) (w := M.w) (w' := M.w.setCells bl (base + len * ei.size) (flatC vs)) (x4 M.w) hroom (x5 M.w rfl)
              (fun a ha => by cases ha; rw [Addr.add_lit]; simpa using hst) (fun h => by cases h)
            have S1 := wrote hI hm0 b1 (x' := ⟨ei.size, b.elems ++ xs.map (fzE M.st), true, b.shut, false⟩) hrow.symm rfl hes'.symm rfl (by simp) ⟨fun h => by simp at h, fun h => by simp at h⟩ hh n5 n6 n1 n2 n7 n8 n9
              (fun j hj => n3 j (by rcases hj with hj | ⟨_, hj⟩
                                    · left; omega
                                    · left; rw [hes', hlen, Nat.mul_comm] at hj; omega))
              (by simp only [List.length_append, hxm, hes', hlen]; rw [Nat.mul_comm]; omega)
              (fun i av hi => by
                rw [hes']
                by_cases hi1 : i < b.elems.length
                · rw [List.getElem?_append_left hi1] at hi
                  obtain ⟨v, v1, v2, v3, v4⟩ := hel i av hi
                  refine ⟨v, v1, by rw [v2, hes'], v3, fun j u hu => ?_⟩
                  have hj := (Array.getElem?_eq_some_iff.1 hu).1
                  rw [v2, hes'] at hj
                  have h1 : (i + 1) * ei.size ≤ len * ei.size := Nat.mul_le_mul_right _ (by omega)
                  rw [Nat.add_mul] at h1
                  rw [n3 _ (.inl (by omega)), ← hes']
                  exact v4 j u hu
                · rw [List.getElem?_append_right (by omega)] at hi
                  have hilt := (List.getElem?_eq_some_iff.1 hi).1
                  rw [hxm] at hilt
                  obtain ⟨u, hu⟩ : ∃ u, vs[i - b.elems.length]? = some u := ⟨_, List.getElem?_eq_getElem (by omega)⟩
                  have hmem := List.mem_of_getElem? hu
                  refine ⟨u, ((RepAs.iff _ _).1 x1').2 _ _ _ hi hu, x2 u hmem, x3 u hmem, fun j q hq => ?_⟩
                  have hj := (Array.getElem?_eq_some_iff.1 hq).1
                  rw [x2 u hmem] at hj
                  have := n4 ((i - b.elems.length) * ei.size + j) q (by rw [flatC_get vs x2 _ j u hu hj]; exact hq)
                  rw [← this]
                  congr 1
                  have : i * ei.size = len * ei.size + (i - b.elems.length) * ei.size := by rw [← Nat.add_mul]; congr 1; omega
                  omega)
            refine ⟨_, M.m, _, hrun, ⟨_, List.getElem?_set_self hloc, by simp; omega, ⟨_, _, rfl, hroom, by simp⟩, fun _ => ⟨rfl, .inr ⟨rfl, rfl, by omega, bl, base, c, hm0, by simp, hroom, ncs, e0, fz0, n1, ?_⟩⟩⟩, S1, fun h => by
              obtain ⟨qo, cs2, fz2, q, qz⟩ := h _ _ _ _ _ rfl
              rw [hh] at q
              cases q
              exact SlTy.new n1 qz qo⟩
            simp only
            rw [n2]; rw [hes'] at hcap; exact hcap
          · -- made anew
            have := app_re hI hT ty hs0 hby hzo b1 hrow (xs := xs.map (fzE M.st)) (us := us) (vs := vs) (a := some ⟨bl, base + 0 * b.es, none⟩) (cap := c) (x := ux) (by rw [hxm]; omega) (by simpa using hxe) (by rw [hxm, hlen]; exact hmost)
              u1 u2 u3 x1' x2 x3 (by simpa using x4) (by simpa using x5) (by rw [hlen] at u5 ⊢; exact u5)
            rw [hlen] at this
            simpa [hlen] using this
    · simp [Bool.eq_false_iff.2 hm] at h
  · cases h
end Go.Eng
namespace Go.Eng
variable {P : Program}
theorem stPtr0_sound {k : Keep} {M : Mem} (hI : Inv k M) {t : TypeId} {i : TI} (ht : tiOf P t = some i) {p v r : AV} {u vv : Value} {st' : Store} (hp : RepA k M p u) (hv : RepA k M v vv) (h : stPtr0 M.st i p v = some (r, st')) :
    r = .tup [] ∧ ∃ ad w', u = .pointer (some ad) ∧ (storeVar t ad vv).run P M.w = .ok () w' ∧ Stp k M ⟨M.m, st', w'⟩ := by
  unfold stPtr0 at h
  split at h
  · rename_i loc ep idx off
    obtain ⟨b, hb, h9⟩ := Option.bind_eq_some_iff.1 h
    clear h
    obtain ⟨b1, b2⟩ := getBlk_some hb
    by_cases hc : (b.shut || !(v.cells.length == i.size && !(i.size == 0))) = true
    · simp only [hc, cond_true] at h9; cases h9
    · simp only [Bool.eq_false_iff.2 hc, cond_false] at h9
      have hc := Bool.eq_false_iff.2 hc
      simp only [Bool.or_eq_false_iff, Bool.not_eq_false', Bool.and_eq_true, beq_iff_eq, Bool.not_eq_true', beq_eq_false_iff_ne] at hc
      obtain ⟨hsh, hvl, hi0⟩ := hc
      obtain ⟨e, he, h8⟩ := Option.bind_eq_some_iff.1 h9
      obtain ⟨e', he', h7⟩ := Option.map_eq_some_iff.1 h8
      cases h7
      clear h8 h9
      obtain ⟨y, hy, _, hval, a, rfl⟩ := hp
      rw [b1] at hy; cases hy
      obtain ⟨hvi, bl, base, hm, hval⟩ := hval b2
      cases hval
      obtain ⟨_, hes, cs, el, fz', hh, hsz, hfr, hel⟩ := hI.blk _ _ _ _ hm b1
      obtain ⟨w0, w1, w2, w3, w4⟩ := hel _ _ he
      have hidx := (List.getElem?_eq_some_iff.1 he).1
      by_cases hvne : v.cells = []
      · -- nothing is stored: no such variable
        exfalso
        exact hi0 (by rw [← hvl, hvne]; rfl)
      · obtain ⟨c1, c2, c3, c4, c5⟩ := RepA.cells hv hvne
        obtain ⟨vr, q1, q2, q3, q4, q5⟩ := setPart_sound w1 hv hvne he'
        have hle : (idx + 1) * b.es ≤ b.elems.length * b.es := Nat.mul_le_mul_right _ (by omega)
        rw [Nat.add_mul, Nat.mul_comm b.elems.length] at hle
        have hvs : vv.cells.toList.length = vv.cells.size := Array.length_toList
        obtain ⟨ncs, n1, n2, n3, n4, n5, n6, n7, n8, n9⟩ := setCells_spec bl el fz' vv.cells.toList (base + idx * b.es + off) M.w cs hh (by rw [hvs]; omega)
        have hst := run_storeCells_cells (P := P) bl (base + idx * b.es + off) vv.cells.toList 0 M.w (fun j hj => by
            rw [cell_of_row M.w bl _ cs el fz' hh]
            rw [Array.getElem?_eq_getElem (by rw [hvs] at hj; omega)]; rfl) (fun j hj => by
            have := hfr (base + idx * b.es + off + 0 + j) (by rw [hvs] at hj; omega) (by omega) (fun h => by rw [hsh] at h; cases h)
            unfold World.frozen?
            simp only [hh]
            simpa using this) (fun c hc => by rw [cellV_eq]; exact c2 c (by simpa using hc))
        have hrun : (storeVar t ⟨bl, base + idx * b.es + off, none⟩ vv).run P M.w = .ok () (M.w.setCells bl (base + idx * b.es + off) vv.cells.toList) := by
          have hsz' : vv.cells.size = i.size := by omega
          simp only [storeVar, Sem.run_bind, run_sizeOf' ht, Result.andThen_ok, hsz', ne_eq, not_true_eq_false, if_false]
          simpa using hst
        refine ⟨rfl, _, _, rfl, hrun, ?_⟩
        refine wrote hI hm b1 (x' := { b with elems := b.elems.set idx e' }) rfl rfl rfl hvi (by simp) ⟨fun h => ?_, fun h => by rw [hvi] at h; cases h⟩ hh n5 n6 n1 n2 n7 n8 n9 (fun j hj => n3 j (hj.elim (fun hj => .inl (by omega)) (fun hj => by rw [hsh] at hj; cases hj.1))) (by simpa using hsz) (fun j av hj => ?_)
        · have := (hI.frm _ _ b1).1 h
          simpa using this
        · simp only at hj
          by_cases hji : j = idx
          · subst hji
            rw [List.getElem?_set_self hidx] at hj
            cases hj
            refine ⟨vr, q1, by omega, q3, fun q c hc => ?_⟩
            have hq := (Array.getElem?_eq_some_iff.1 hc).1
            rcases q5 q c hc with ⟨g1, g2, g3⟩ | ⟨g1, g3⟩
            · have := n4 (q - off) c (by simpa using g3)
              rw [← this]; congr 1; omega
            · rw [n3 _ (by rw [hvs]; omega)]
              exact w4 q c g3
          · rw [List.getElem?_set_ne (fun e => hji e.symm)] at hj
            obtain ⟨v', v1, v2, v3, v4⟩ := hel _ _ hj
            refine ⟨v', v1, v2, v3, fun q c hc => ?_⟩
            have hq := (Array.getElem?_eq_some_iff.1 hc).1
            rw [n3 _ (by
              rw [hvs]
              rcases Nat.lt_or_gt_of_ne hji with h | h
              · left
                have : (j + 1) * b.es ≤ idx * b.es := Nat.mul_le_mul_right _ (by omega)
                rw [Nat.add_mul] at this; omega
              · right
                have : (idx + 1) * b.es ≤ j * b.es := Nat.mul_le_mul_right _ (by omega)
                rw [Nat.add_mul] at this; omega)]
            exact v4 q c hc
  · cases h
theorem stPtr_sound {k : Keep} {M : Mem} (hI : Inv k M) {t : TypeId} {i : TI} (ht : tiOf P t = some i) {p v r : AV} {u vv : Value} {st' : Store} (hp : RepA k M p u) (hv : RepA k M v vv) (h : stPtr M.st i p v = some (r, st')) :
    r = .tup [] ∧ ∃ ad w', u = .pointer (some ad) ∧ (storeVar t ad vv).run P M.w = .ok () w' ∧ Stp k M ⟨M.m, st', w'⟩ :=
  stPtr0_sound hI ht hp.unt hv h
theorem loose {k : Keep} {M : Mem} (hI : Inv k M) {w0 : World} (hw : w0.heap = M.w.heap) (ho : w0.os = M.w.os) (htp : w0.tape = M.w.tape) (hout : w0.output = M.w.output) (o : Obj) : Stp k M ⟨M.m, M.st, w0.alloc o⟩ := by
  have hsize : (w0.alloc o).heap.size = M.w.heap.size + 1 := by simp [World.alloc, hw]
  have hold : ∀ b, b < M.w.heap.size → (w0.alloc o).heap[b]? = M.w.heap[b]? := fun b hb => by
    rw [show (w0.alloc o).heap[b]? = w0.heap[b]? from heap_alloc_old w0 o (by rw [hw]; exact hb), hw]
  have hevo : Evo M ⟨M.m, M.st, w0.alloc o⟩ := by
    refine ⟨Nat.le_refl _, fun i y hy => ⟨y, hy, Nat.le_refl _, rfl, rfl, fun _ => ⟨rfl, fun _ => rfl, fun p hp => hp⟩⟩, fun b j v hv hp => ⟨?_, hp⟩, fun b c e' f' hb => ?_, by simp only [hsize]; omega⟩
    · show World.cell? _ _ = _
      unfold World.cell?
      rw [show (w0.alloc o).heap[b]? = _ from hold b (lt_of_cellAt hv)]
      exact hv
    · exact ⟨c, f', by rw [show (w0.alloc o).heap[b]? = _ from hold b (Array.getElem?_eq_some_iff.1 hb).1]; exact hb, rfl, id⟩
  refine ⟨⟨hI.inj, hI.dom, hI.low, by simp only [hsize]; have := hI.big; omega, fun i b o' y hi hy => ?_, hI.frm⟩, hevo, ⟨ho, htp, hout, fun b hb _ => hold b hb, fun i b o' hi => .inl ⟨i, o', hi⟩⟩⟩
  obtain ⟨g1, g2, cs', e', f', hh, g3, g4, g5⟩ := hI.blk _ _ _ _ hi hy
  refine ⟨g1, g2, cs', e', f', by rw [show (w0.alloc o).heap[b]? = _ from hold b (hI.lt hi)]; exact hh, g3, g4, fun i av hi => ?_⟩
  obtain ⟨v, q1, q2⟩ := g5 i av hi
  exact ⟨v, RepA.evo hevo _ _ q1, q2⟩
def Laid (size : Nat) (us : List Value) (cs : Array Value) : Prop := ∀ (i j : Nat) u, us[i]? = some u → j < size → cs[i * size + j]? = u.cells[j]?
theorem Laid.flat {size : Nat} (h0 : size ≠ 0) {us : List Value} {cs : Array Value} (h : Laid size us cs) (hs : ∀ u ∈ us, u.cells.size = size) : ∀ (j : Nat) c, (flatC us)[j]? = some c → cs[j]? = some c := by
  intro j c hc
  have hj := (List.getElem?_eq_some_iff.1 hc).1
  rw [flatC_len us hs] at hj
  have hdm := Nat.div_add_mod j size
  have hmod := Nat.mod_lt j (Nat.pos_of_ne_zero h0)
  have hq : j / size < us.length := Nat.div_lt_of_lt_mul (by rw [Nat.mul_comm]; exact hj)
  obtain ⟨u, hu⟩ : ∃ u, us[j / size]? = some u := ⟨_, List.getElem?_eq_getElem hq⟩
  have e1 : j / size * size + j % size = j := by rw [Nat.mul_comm]; exact hdm
  have a := flatC_get us hs (j / size) (j % size) u hu hmod
  have b := h (j / size) (j % size) u hu hmod
  rw [e1] at a b
  rw [b, ← a]; exact hc
theorem fill_sound {k : Keep} {M : Mem} {size : Nat} (hs0 : size ≠ 0) : ∀ (parts : List (Nat × AV)) (vs : List (Nat × Value)) (l r : List AV) (us : List Value) (cs : Array Value),
    fitL size (parts.map (·.2)) = true → parts.length = vs.length → (∀ (i : Nat) p q, parts[i]? = some p → vs[i]? = some q → p.1 = q.1 ∧ RepA k M p.2 q.2) →
    RepAs k M l us → (∀ u ∈ us, u.cells.size = size) → (∀ u ∈ us, ∀ c ∈ u.cells, cellV c = true) → cs.size = us.length * size → Laid size us cs → fillL parts l = some r →
    ∃ us' cs', Instr.fill (fun i => some (i * size, size)) cs vs = some cs' ∧ RepAs k M r us' ∧ (∀ u ∈ us', u.cells.size = size) ∧ (∀ u ∈ us', ∀ c ∈ u.cells, cellV c = true) ∧ cs'.size = us'.length * size ∧ Laid size us' cs' ∧ us'.length = us.length := by
  intro parts
  induction parts with
  | nil =>
    intro vs l r us cs _ hl _ h1 h2 h3 h4 h5 h
    have : vs = [] := List.length_eq_zero_iff.1 hl.symm
    subst this
    simp only [fillL] at h
    cases h
    exact ⟨us, cs, rfl, h1, h2, h3, h4, h5, rfl⟩
  | cons p parts ih =>
    intro vs l r us cs hf hl hrep h1 h2 h3 h4 h5 h
    cases vs with
    | nil => simp at hl
    | cons q vs =>
      obtain ⟨i, a⟩ := p
      obtain ⟨i', b⟩ := q
      obtain ⟨e1, hab⟩ := hrep 0 _ _ rfl rfl
      simp only at e1 hab
      subst e1
      simp only [List.map_cons, fitL, Bool.and_eq_true, beq_iff_eq] at hf
      simp only [fillL] at h
      by_cases hi : Nat.blt i l.length = true
      · simp only [hi, cond_true] at h
        have hi : i < l.length := Nat.le_of_ble_eq_true hi
        obtain ⟨q1, q2⟩ := (RepAs.iff l us).1 h1
        have hane : a.cells ≠ [] := by intro e; rw [e] at hf; exact hs0 hf.1.symm
        obtain ⟨a1, a2, _, _, _⟩ := RepA.cells hab hane
        have hbs : b.cells.size = size := by omega
        have hile : (i + 1) * size ≤ us.length * size := Nat.mul_le_mul_right _ (by omega)
        rw [Nat.add_mul] at hile
        obtain ⟨f1, f2⟩ := fold_set (i * size) b.cells.toList 0 cs (by simp only [Array.length_toList, Nat.add_zero]; omega)
        have g1 : RepAs k M (l.set i a) (us.set i b) := by
          refine (RepAs.iff _ _).2 ⟨by simp [q1], fun j x v hx hv => ?_⟩
          by_cases hj : j = i
          · subst hj
            rw [List.getElem?_set_self hi] at hx
            rw [List.getElem?_set_self (by omega)] at hv
            cases hx; cases hv; exact hab
          · rw [List.getElem?_set_ne (fun e => hj e.symm)] at hx hv
            exact q2 j x v hx hv
        have hmem : ∀ u ∈ us.set i b, u = b ∨ u ∈ us := fun u hu => (List.mem_or_eq_of_mem_set hu).symm
        obtain ⟨us', cs', r1, r2, r3, r4, r5, r6, r7⟩ := ih vs (l.set i a) r (us.set i b) _ hf.2 (by simpa using hl) (fun j p q hp hq => hrep (j + 1) p q (by simpa using hp) (by simpa using hq)) g1
          (fun u hu => (hmem u hu).elim (fun e => by rw [e]; exact hbs) (h2 u)) (fun u hu => (hmem u hu).elim (fun e => by rw [e]; exact a2) (h3 u)) (by rw [f1, List.length_set]; exact h4) (fun j m u hu hm => by
            rw [f2]
            simp only [Nat.add_zero, Array.length_toList, hbs]
            by_cases hj : j = i
            · subst hj
              rw [List.getElem?_set_self (by omega)] at hu
              cases hu
              rw [if_pos (by omega), show j * size + m - j * size = m by omega]
              simp
            · rw [List.getElem?_set_ne (fun e => hj e.symm)] at hu
              rw [if_neg ?_]
              · exact h5 j m u hu hm
              · rcases Nat.lt_or_gt_of_ne hj with hlt | hgt
                · have : (j + 1) * size ≤ i * size := Nat.mul_le_mul_right _ (by omega)
                  rw [Nat.add_mul] at this; omega
                · have : (i + 1) * size ≤ j * size := Nat.mul_le_mul_right _ (by omega)
                  rw [Nat.add_mul] at this; omega) h
        refine ⟨us', cs', ?_, r2, r3, r4, r5, r6, by rw [r7, List.length_set]⟩
        simp only [Instr.fill]
        rw [if_neg (by simp; omega)]
        rw [← r1, ← Array.foldl_toList, Array.toList_zipIdx]
      · simp [Bool.eq_false_iff.2 hi] at h
end Go.Eng
namespace Go.Eng
variable {P : Program}
theorem fillL_len : ∀ (parts : List (Nat × AV)) (l r : List AV), fillL parts l = some r → r.length = l.length
  | [], l, r, h => by simp only [fillL] at h; cases h; rfl
  | (i, v) :: p, l, r, h => by
    simp only [fillL] at h
    cases hb : Nat.blt i l.length <;> simp only [hb, cond_true, cond_false] at h
    · cases h
    · rw [fillL_len p _ r h, List.length_set]
theorem RepAs.replicate {k : Keep} {M : Mem} {x : AV} {v : Value} (h : RepA k M x v) : ∀ n, RepAs k M (List.replicate n x) (List.replicate n v)
  | 0 => rfl
  | n + 1 => ⟨v, _, rfl, h, RepAs.replicate h n⟩
theorem const_cells {z : Value} {n : Nat} (hn : n ≠ 0) (h : (constAV z).cells.length = n) : z.cells.size = n ∧ ∀ c ∈ z.cells, cellV c = true := by
  let k : Keep := ⟨0, fun _ _ => True, fun _ _ _ => trivial⟩
  let M : Mem := ⟨fun _ => none, [], default⟩
  obtain ⟨c1, c2, _⟩ := RepA.cells (RepA.const k M z) (by intro e; rw [e] at h; exact hn h.symm)
  exact ⟨by omega, c2⟩
theorem laid_zero {z : Value} {size len : Nat} (hs0 : size ≠ 0) (hz : z.cells.size = size) (zs : Array Value) (hzs : len * size ≠ 0 → zs = z.cells) :
    Laid size (List.replicate len z) ((Array.range (len * size)).map (zs[· % zs.size]!)) := by
  intro i j u hu hj
  obtain ⟨hi, rfl⟩ : i < len ∧ z = u := by
    rw [List.getElem?_replicate] at hu
    split at hu
    · rename_i h; cases hu; exact ⟨h, rfl⟩
    · cases hu
  have hle : (i + 1) * size ≤ len * size := Nat.mul_le_mul_right _ (by omega)
  rw [Nat.add_mul] at hle
  have := hzs (by omega)
  subst this
  simp only [Array.getElem?_map, Array.getElem?_range, show i * size + j < len * size by omega, if_true, Option.map_some, hz]
  rw [Nat.mul_comm i size, Nat.mul_add_mod, Nat.mod_eq_of_lt hj]
  rw [Array.getElem?_eq_getElem (by omega), getElem!_pos _ _ (by omega)]
theorem buildSl_sound {k : Keep} {M : Mem} (hI : Inv k M) {st st' : Store} (hpre0 : Pre st M.st) (hpre : Pre st' M.st) (hno : ∀ i, st.length ≤ i → i < st'.length → M.m i = none) {t : TypeId} {len : Nat} {row wr : Bool} {parts : List (Nat × AV)} {vs : List (Nat × Value)} {r : AV}
    (hl : parts.length = vs.length) (hrep : ∀ (i : Nat) p q, parts[i]? = some p → vs[i]? = some q → p.1 = q.1 ∧ RepA k M p.2 q.2)
    (h : buildSl P t len row wr parts st = some (r, st')) : QOk P k M st.length st'.length r (Instr.buildSlice t len vs.toArray) := by
  unfold buildSl at h
  split at h
  case h_2 => cases h
  rename_i e _ _ _ hti
  split at h
  case h_2 => cases h
  rename_i ei hei
  split at h
  case h_2 => cases h
  rename_i z hz
  by_cases hc : (ei.size == 0 || Nat.blt 1000 len || Nat.blt 1000 ei.size || !(fitL ei.size (parts.map (·.2))) || !((constAV z).cells.length == ei.size)) = true
  · simp only [hc, cond_true] at h; cases h
  simp only [Bool.eq_false_iff.2 hc, cond_false] at h
  have hc := Bool.eq_false_iff.2 hc
  simp only [Bool.or_eq_false_iff, beq_eq_false_iff_ne, Bool.not_eq_false', beq_iff_eq] at hc
  obtain ⟨⟨⟨⟨hs0, hlen⟩, hsz⟩, hfit⟩, hzl⟩ := hc
  have blt_f : ∀ {a b : Nat}, Nat.blt a b = false → b ≤ a := fun {a b} h => by
    rcases Nat.lt_or_ge a b with h1 | h1
    · have : Nat.blt a b = true := Nat.ble_eq_true_of_le h1
      rw [this] at h; cases h
    · exact h1
  have hlen := blt_f hlen
  have hsz := blt_f hsz
  obtain ⟨l, hfl, h9⟩ := Option.bind_eq_some_iff.1 h
  clear h
  have hll := fillL_len _ _ _ hfl
  simp only [List.length_replicate] at hll
  obtain ⟨zc1, zc2⟩ := const_cells hs0 hzl
  obtain ⟨info, d, i1, i2, i3, i4, i5, i6⟩ := ti_spec hti
  obtain ⟨e', rfl, he'⟩ : ∃ e', d = .slice e' ∧ e' = e := by cases d <;> simp [kOf] at i6; exact ⟨_, rfl, i6.symm⟩
  subst he'
  let zs : Array Value := if len * ei.size = 0 then #[] else z.cells
  obtain ⟨us, cs, f1, f2, f3, f4, f5, f6, f7⟩ := fill_sound (k := k) (M := M) hs0 parts vs _ l (List.replicate len z) ((Array.range (len * ei.size)).map (zs[· % zs.size]!)) hfit hl hrep (RepAs.replicate (RepA.const k M z) len)
    (fun u hu => by rw [List.eq_of_mem_replicate hu]; exact zc1) (fun u hu => by rw [List.eq_of_mem_replicate hu]; exact zc2) (by simp) (laid_zero hs0 zc1 zs (fun h => by simp [zs, h])) hfl
  simp only [List.length_replicate] at f7
  have h24 : ¬ (16777216 < len * ei.size) := by
    have := Nat.mul_le_mul hlen hsz; omega
  have hrun : (Instr.buildSlice t len vs.toArray).run P M.w = .ok (.slice (some ⟨M.w.heap.size, 0, none⟩) len len) (M.w.alloc (.cells cs e')) := by
    by_cases hz0 : len * ei.size = 0
    · have hzs : zs = #[] := if_pos hz0
      rw [hzs] at f1
      simp [Instr.buildSlice, run_underlying i2, run_sizeOf' hei, h24, hz0] at f1 ⊢
      simp [f1, newRow]
    · have hzs : zs = z.cells := if_neg hz0
      rw [hzs] at f1
      have hz0' : ¬ (len = 0 ∨ ei.size = 0) := by rw [Nat.mul_eq_zero] at hz0; exact hz0
      simp [Instr.buildSlice, run_underlying i2, run_sizeOf' hei, h24, hz0, hz0', run_zero hei hz, f1, newRow]
  split at h9
  · -- data
    rename_i ds hds
    cases h9
    cases row with
    | true => simp at hds
    | false =>
      simp only [cond_false] at hds
      obtain ⟨d1, d2⟩ := fzAll_sound hI hpre0 f2 hds
      have S := loose hI (w0 := M.w) rfl rfl rfl rfl (.cells cs e')
      refine ⟨_, M.m, _, hrun, ⟨some ⟨M.w.heap.size, 0, none⟩, by rw [d1, f7], .inr ⟨_, _, ei.size, rfl, (RepRow.iff _ _ ds _).2 fun i x hx => ?_⟩⟩, S, fun _ _ => rfl⟩
      have hlt := (List.getElem?_eq_some_iff.1 hx).1
      obtain ⟨u, hu⟩ : ∃ u, us[i]? = some u := ⟨_, List.getElem?_eq_getElem (by omega)⟩
      have hmem := List.mem_of_getElem? hu
      refine ⟨u, RepD.mono (CC.evo S.evo) _ _ (d2 i x u hx hu), f3 u hmem, fun j c hcj => ⟨?_, k.hk _ _ hI.big, fun i' base y hm _ => ?_⟩⟩
      · have hj := (Array.getElem?_eq_some_iff.1 hcj).1
        rw [f3 u hmem] at hj
        show World.cell? _ _ = _
        rw [cell_of_row (M.w.alloc (.cells cs e')) M.w.heap.size _ cs e' (0, 0) (heap_alloc_new M.w _), Nat.zero_add]
        rw [f6 i j u hu hj]; exact hcj
      · have := hI.lt hm; omega
  · -- a row
    simp only [newRowV] at h9
    cases h9
    have hst : M.st[st.length]? = some ⟨ei.size, l.map (fzE st), true, !wr, false⟩ := hpre _ _ (by simp)
    have hm := hno st.length (Nat.le_refl _) (by simp)
    obtain ⟨m', r1, r2, r3⟩ := newRow_ok hI (n := st.length) (sh := !wr) hs0 (fzEs_sound hI hpre0 l us f2) f3 f4 hst hm (w0 := M.w) rfl rfl rfl rfl (cs := cs) (e := e') (fz0 := (0, 0)) (cap := len) (by rw [f5, f7]; exact Nat.le_refl _) (by simp [hll]) (fun j _ h => by simp at h) (f6.flat hs0 f3)
    have hlm : (l.map (fzE st)).length = len := by simp [hll]
    refine ⟨_, m', _, hrun, by rw [hlm] at r1 ⊢; exact r1, r2, fun i hi => r3 i (by simp at hi; omega)⟩
theorem bytesOf_some : ∀ (l : List AV) (s : List UInt8), bytesOf l = some s → ∃ ns : List Int, l = ns.map (fun n => AV.d (.lit (.int .u8 n))) ∧ s = ns.map (fun n => UInt8.ofNat n.toNat)
  | [], s, h => by simp only [bytesOf] at h; cases h; exact ⟨[], rfl, rfl⟩
  | x :: r, s, h => by
    unfold bytesOf at h
    split at h
    · cases h; rename_i e; cases e
    · rename_i n r' e
      cases e
      obtain ⟨t, ht, rfl⟩ := Option.map_eq_some_iff.1 h
      obtain ⟨ns, rfl, rfl⟩ := bytesOf_some r t ht
      exact ⟨n :: ns, rfl, rfl⟩
    · cases h
theorem bytes_reps {k : Keep} {M : Mem} : ∀ l : List UInt8, RepAs k M (l.map fun c => AV.d (.lit (.int .u8 c.toNat))) (l.map fun c => Value.int .u8 c.toNat)
  | [] => rfl
  | c :: l => ⟨_, _, rfl, RepA.mkInt _ _, bytes_reps l⟩
theorem bytes_flat : ∀ l : List UInt8, flatC (l.map fun c => Value.int .u8 c.toNat) = l.map fun c => Value.int .u8 c.toNat
  | [] => rfl
  | c :: l => by have ih := bytes_flat l; simp only [flatC, List.map_cons, List.flatten_cons] at ih ⊢; rw [ih]; rfl
theorem modify_push (a : Array Obj) (x : Obj) (f : Obj → Obj) : (a.push x).modify a.size f = a.push (f x) := by
  apply Array.ext_getElem?
  intro i
  rw [Array.getElem?_modify, Array.getElem?_push, Array.getElem?_push]
  by_cases h : i = a.size
  · subst h; simp
  · rw [if_neg (fun e => h e.symm), if_neg h, if_neg h]
theorem bytesWorld_eq (w : World) (e : TypeId) (s : ByteArray) : Lib.bytesWorld w e s = w.drew.alloc (.cells (Lib.bytesCells w e s) e ((Lib.bytesCells w e s).size, (Lib.bytesCells w e s).size + 1)) := by
  unfold Lib.bytesWorld World.freeze
  rw [if_neg (by decide)]
  simp only [World.alloc]
  congr 1
  show Array.modify (w.heap.push _) w.heap.size _ = w.heap.push _
  rw [modify_push]
  simp
theorem convV_sound {k : Keep} {M : Mem} (hI : Inv k M) {st st' : Store} (hpre0 : Pre st M.st) (hpre : Pre st' M.st) (hno : ∀ i, st.length ≤ i → i < st'.length → M.m i = none) {src dst : TypeId} {wr : Bool} {x r : AV} {u : Value} (hx : RepA k M x u)
    (h : convV P src dst wr st x = some (r, st')) : QOk P k M st.length st'.length r (convert src dst u) := by
  unfold convV at h
  split at h
  case h_2 => cases h
  rename_i si di hsi hdi
  obtain ⟨sinfo, sd, s1, s2, s3, s4, s5, s6⟩ := ti_spec hsi
  obtain ⟨dinfo, dd, d1, d2, d3, d4, d5, d6⟩ := ti_spec hdi
  split at h
  · rename_i q q' n hk
    simp only [val, Option.map_some] at h
    cases h
    cases hx.2
    obtain rfl : dd = .int q := by rw [hk] at d6; cases dd <;> simp [kOf] at d6; rw [d6]
    exact QOk.read hI (u := .int q (q.wrap n)) (by simp [convert, run_underlying s2, run_underlying d2, Conv.intToInt]) (RepA.mkInt _ _)
  · rename_i s hk
    simp only [val, Option.map_some] at h
    cases h
    obtain ⟨a, rfl, rfl⟩ := hx
    obtain rfl : dd = .string := by rw [hk] at d6; cases dd <;> simp [kOf] at d6 <;> rfl
    refine QOk.read hI (u := .string a) ?_ ⟨a, rfl, rfl⟩
    cases sd <;> simp [convert, run_underlying s2, run_underlying d2]
  · rename_i e s hk
    obtain rfl : dd = .slice e := by rw [hk] at d6; cases dd <;> simp [kOf] at d6; rw [d6]
    split at h
    case h_2 => cases h
    rename_i hei
    obtain ⟨einfo, ed, e1, e2, e3, e4, e5, e6⟩ := ti_spec hei
    obtain rfl : ed = .int .u8 := by simp only at e6; cases ed <;> simp [kOf] at e6; rw [e6]
    by_cases hle : Nat.ble s.length sliceMost = true
    · simp only [hle, cond_true, newRowV] at h
      cases h
      obtain ⟨a, rfl, rfl⟩ := hx
      have hrun := Lib.run_convert_string_bytes (P := P) M.w src dst e a s2 d2 e2
      rw [bytesWorld_eq] at hrun
      have hge := grownCap_ge M.w a.size 0 e
      have hlen : a.data.toList.length = a.size := by rw [Array.length_toList]; rfl
      have hds : a.data.size = a.size := rfl
      have hsz : (Lib.bytesCells M.w e a).size = grownCap M.w a.size 0 e := by
        simp only [Lib.bytesCells, Array.size_append, Array.size_map, Array.size_replicate]; omega
      have hst : M.st[st.length]? = some ⟨1, a.data.toList.map (fun c => AV.d (.lit (.int .u8 c.toNat))), true, !wr, false⟩ := hpre _ _ (by simp)
      have hm := hno st.length (Nat.le_refl _) (by simp)
      obtain ⟨m', r1, r2, r3⟩ := newRow_ok hI (n := st.length) (sh := !wr) (size := 1) (by simp) (bytes_reps a.data.toList) (fun u hu => by simp only [List.mem_map] at hu; obtain ⟨c, _, rfl⟩ := hu; rfl)
        (fun u hu c hc => by simp only [List.mem_map] at hu; obtain ⟨c', _, rfl⟩ := hu; simp [Value.cells] at hc; subst hc; rfl) hst hm (w0 := M.w.drew) rfl rfl rfl rfl (cs := Lib.bytesCells M.w e a) (e := e)
        (fz0 := ((Lib.bytesCells M.w e a).size, (Lib.bytesCells M.w e a).size + 1)) (cap := grownCap M.w a.size 0 e) (by rw [hsz]; omega) (by simp only [List.length_map, hlen]; exact hge) (fun j hj h => by omega) (fun j c hc => by
          rw [bytes_flat] at hc
          have hj := (List.getElem?_eq_some_iff.1 hc).1
          simp only [List.length_map, hlen] at hj
          unfold Lib.bytesCells
          rw [Array.getElem?_append_left (by simp only [Array.size_map]; omega), ← Array.getElem?_toList]
          simpa using hc)
      have hlm : (a.data.toList.map (fun c => AV.d (.lit (.int .u8 c.toNat)))).length = a.size := by simp only [List.length_map, hlen]
      refine ⟨_, m', _, hrun, ?_, r2, fun i hi => r3 i (by simp at hi; omega)⟩
      rw [hlm] at r1 ⊢
      exact r1
    · simp [Bool.eq_false_iff.2 hle] at h
  · rename_i hk hnot
    obtain rfl : dd = .string := by rw [hk] at d6; cases dd <;> simp [kOf] at d6 <;> rfl
    split at h
    case h_2 => cases h
    rename_i e hks
    obtain rfl : sd = .slice e := by rw [hks] at s6; cases sd <;> simp [kOf] at s6; rw [s6]
    split at h
    case h_2 => cases h
    rename_i hei
    obtain ⟨einfo, ed, e1, e2, e3, e4, e5, e6⟩ := ti_spec hei
    obtain rfl : ed = .int .u8 := by simp only at e6; cases ed <;> simp [kOf] at e6; rw [e6]
    obtain ⟨l, hl, h9⟩ := Option.bind_eq_some_iff.1 h
    clear h
    simp only [val, Option.map_map] at h9
    obtain ⟨s, hs, h8⟩ := Option.map_eq_some_iff.1 h9
    cases h8
    obtain ⟨ns, rfl, rfl⟩ := bytesOf_some l s hs
    have hfit : fitL 1 (ns.map fun n => AV.d (.lit (.int .u8 n))) = true := (fitL_iff _).2 fun y hy => by
      simp only [List.mem_map] at hy; obtain ⟨n, _, rfl⟩ := hy; rfl
    obtain ⟨us, u1, u2, u3, u4, u5⟩ := elemsOf_sound (P := P) hI hpre0 hx hl (n := 1) (by simp) (.inl hfit)
    have hus : ∀ (ns : List Int) (us : List Value), RepAs k M (ns.map fun n => AV.d (.lit (.int .u8 n))) us → us = ns.map (Value.int .u8) := by
      intro ns
      induction ns with
      | nil => intro us h; exact h
      | cons n ns ih => rintro us ⟨v, t, rfl, hv, hr⟩; rw [ih t hr]; cases hv.2; rfl
    have hflat : ∀ ns : List Int, flatC (ns.map (Value.int .u8)) = ns.map (Value.int .u8) := by
      intro ns; induction ns with
      | nil => rfl
      | cons n ns ih => simp only [flatC, List.map_cons, List.flatten_cons] at ih ⊢; rw [ih]; rfl
    have hue := hus ns us u1
    subst hue
    have hfc := u5 M.w rfl
    rw [hflat] at hfc
    have hxs : ∃ a len c, u = .slice a len c := by
      unfold elemsOf at hl
      split at hl
      · exact ⟨_, _, _, hx⟩
      · obtain ⟨a, e, _⟩ := hx; exact ⟨_, _, _, e⟩
      · obtain ⟨a, c, e, _⟩ := hx; exact ⟨_, _, _, e⟩
      · exact absurd rfl (hnot _)
      · obtain ⟨_, _, _, ⟨a, c, e, _⟩, _⟩ := hx; exact ⟨_, _, _, e⟩
      · cases hl
    obtain ⟨a, len, c, rfl⟩ := hxs
    have hlenr := u4 M.w
    simp only [Builtin.lenOf, Sem.run_pure] at hlenr
    cases a with
    | none =>
      refine QOk.read hI (u := .string ByteArray.empty) (run_convert_bytes_nil M.w src e s2 e2 len c dst d2) ⟨_, rfl, ?_⟩
      simp only [Builtin.firstCells, Sem.run_pure] at hfc
      have : ns = [] := by
        injection hfc with h1
        have := congrArg Array.size h1
        simp at this
        exact List.length_eq_zero_iff.1 this.symm
      subst this; rfl
    | some a =>
      have hload : (loadCells a len).run P M.w = .ok (ns.map (Value.int .u8)).toArray M.w := by
        have hl2 : ns.length = len := by injection hlenr with h1; simpa using h1.symm
        simp only [Builtin.firstCells, List.length_map, Nat.mul_one, hl2] at hfc
        exact hfc
      refine QOk.read hI (u := .string (ns.foldl (fun r n => r.push (UInt8.ofNat n.toNat)) ByteArray.empty)) ?_ ⟨_, rfl, ?_⟩
      · rw [run_convert_bytes_string M.w src dst e _ len c s2 e2 d2, run_bytesToString M.w a len c ns hload]
      · have : ∀ (ns : List Int) (b : ByteArray), (ns.foldl (fun r n => r.push (UInt8.ofNat n.toNat)) b).data.toList = b.data.toList ++ ns.map (fun n => UInt8.ofNat n.toNat) := by
          intro ns; induction ns with
          | nil => intro b; simp
          | cons n ns ih => intro b; rw [List.foldl_cons, ih]; simp [ByteArray.push]
        rw [this]; rfl
  · cases h
end Go.Eng
namespace Go.Eng
variable {P : Program}
def RepO (k : Keep) (M : Mem) : Option AV → Option Value → Prop
  | none, none => True
  | some x, some v => RepA k M x v
  | _, _ => False
theorem bnd_sound {k : Keep} {M : Mem} {d n : Nat} {x : Option AV} {v : Option Value} (hr : RepO k M x v) (h : bnd d x = some n) : (x = none ∧ v = none ∧ n = d) ∨ (x.isSome = true ∧ ∃ q, v = some (.int q (n : Int))) := by
  cases x with
  | none =>
    cases v with
    | none => simp only [bnd] at h; cases h; exact .inl ⟨rfl, rfl, rfl⟩
    | some v => exact hr.elim
  | some x =>
    cases v with
    | none => exact hr.elim
    | some v =>
      simp only [bnd] at h
      obtain ⟨i, hi, h9⟩ := Option.bind_eq_some_iff.1 h
      split at h9
      · rename_i h0
        cases h9
        obtain ⟨q, rfl⟩ := asI_some hi
        have hv : v = .int q i := hr.2
        subst hv
        exact .inr ⟨rfl, q, by rw [Int.toNat_of_nonneg h0]⟩
      · cases h9
theorem run_sliceBounds {b : Bool} {len cap l h : Nat} {lo hi mx : Option Value} (w : World) (hlo : (lo = none ∧ l = 0) ∨ ∃ q, lo = some (.int q (l : Int))) (hhi : (hi = none ∧ h = len ∧ mx = none) ∨ ∃ q, hi = some (.int q (h : Int)))
    (hmx : mx = none ∨ ∃ q, mx = some (.int q (h : Int))) (hlh : l ≤ h) (hhc : h ≤ cap) : (Instr.sliceBounds b len cap lo hi mx).run P w = .ok (l, h, if mx.isSome then h else cap) w := by
  have sb : ∀ (q : IntKind) (n y : Nat) (c : BoundsCode), n ≤ y → (Instr.sliceBound (.int q (n : Int)) y c).run P w = .ok n w := fun q n y c hn => by
    simp [Instr.sliceBound, asIntOf, hn]
  rcases hmx with rfl | ⟨qm, rfl⟩
  · rcases hhi with ⟨rfl, rfl, _⟩ | ⟨qh, rfl⟩ <;> rcases hlo with ⟨rfl, rfl⟩ | ⟨ql, rfl⟩ <;> simp [Instr.sliceBounds, sb, hlh, hhc]
  · rcases hhi with ⟨_, _, h0⟩ | ⟨qh, rfl⟩
    · cases h0
    · rcases hlo with ⟨rfl, rfl⟩ | ⟨ql, rfl⟩ <;> simp [Instr.sliceBounds, sb, hlh, hhc]
theorem RepRow.cut {k : Keep} {M : Mem} {b k' o : Nat} {v : List D} {l n : Nat} (h : RepRow (CC k false M) b k' o v) : RepRow (CC k false M) b k' (o + l * k') ((v.drop l).take n) := by
  rw [RepRow.iff] at h ⊢
  intro i x hx
  rw [List.getElem?_take] at hx
  split at hx
  · rw [List.getElem?_drop] at hx
    obtain ⟨u, h1, h2, h3⟩ := h _ x hx
    refine ⟨u, h1, h2, fun j c hc => ?_⟩
    have := h3 j c hc
    rwa [show o + l * k' + i * k' + j = o + (l + i) * k' + j by rw [Nat.add_mul]; omega]
  · cases hx
theorem RepRow.es {k : Keep} {M : Mem} {b k' o : Nat} {v : List D} {l n : Nat} (h : RepRow (CC k false M) b k' o v) (hn : n ≠ 0) (hf : fitL n (v.map .d) = true) (hl : l < v.length) : k' = n := by
  obtain ⟨u, h1, h2, _⟩ := (RepRow.iff _ _ _ _).1 h l v[l] (List.getElem?_eq_getElem hl)
  have hx := (fitL_iff _).1 hf (.d v[l]) (List.mem_map.2 ⟨_, List.getElem_mem hl, rfl⟩)
  have := (RepA.cells (k := k) (M := M) (x := .d v[l]) h1 (by intro e; rw [e] at hx; exact hn hx.symm)).1
  omega
theorem sliceV_sound {k : Keep} {M : Mem} (hI : Inv k M) {st : Store} (hpre : Pre st M.st) {t : TypeId} {i : TI} (ht : tiOf P t = some i) {x r : AV} {u : Value} {lo hi mx : Option AV} {vlo vhi vmx : Option Value}
    (hx : RepA k M x u) (hlo : RepO k M lo vlo) (hhi : RepO k M hi vhi) (hmx : RepO k M mx vmx) (h : sliceV P st i x lo hi mx = some r) (w : World) :
    ∃ v, (Instr.sliceAt t u vlo vhi vmx).run P w = .ok v w ∧ RepA k M r v := by
  obtain ⟨info, d, h1, h2, h3, h4, h5, h6⟩ := ti_spec ht
  unfold sliceV at h
  rw [h6] at h
  cases d <;> simp only [kOf] at h <;> try (cases h; done)
  · -- a string
    split at h
    · rename_i s
      obtain ⟨l, hl, h9⟩ := Option.bind_eq_some_iff.1 h
      clear h
      obtain ⟨q, hq, h8⟩ := Option.bind_eq_some_iff.1 h9
      clear h9
      obtain ⟨a, rfl, rfl⟩ := hx
      have hmx' : vmx = none := by cases vmx with | none => rfl | some v => exact hmx.elim
      subst hmx'
      by_cases hc : (Nat.ble l q && Nat.ble q a.data.toList.length) = true
      · simp only [hc, cond_true] at h8
        cases h8
        simp only [Bool.and_eq_true] at hc
        have hlq := Nat.le_of_ble_eq_true hc.1
        have hqs := Nat.le_of_ble_eq_true hc.2
        have hsz : a.data.toList.length = a.size := by rw [Array.length_toList]; rfl
        rw [hsz] at hqs hq
        have hb := run_sliceBounds (P := P) (b := false) (len := a.size) (cap := a.size) (lo := vlo) (hi := vhi) (mx := none) w ((bnd_sound hlo hl).imp (fun h => ⟨h.2.1, h.2.2⟩) (fun h => h.2)) ((bnd_sound hhi hq).imp (fun h => ⟨h.2.1, h.2.2, rfl⟩) (fun h => h.2)) (.inl rfl) hlq hqs
        refine ⟨.string (a.extract l q), ?_, _, rfl, ?_⟩
        · simp only [Instr.sliceAt, Sem.run_bind, run_underlying h2, Result.andThen_ok, Instr.slice, Option.isSome_none, Bool.false_eq_true, if_false]
          simp [hb]
        · rw [ByteArray.data_extract, Array.toList_extract, List.extract_eq_take_drop]
      · simp only [Bool.eq_false_iff.2 hc, cond_false] at h8; cases h8
    · cases h
  · -- a slice
    rename_i elem
    obtain ⟨ei, hei, h9⟩ := Option.bind_eq_some_iff.1 h
    clear h
    obtain ⟨n, hn, h8⟩ := Option.bind_eq_some_iff.1 h9
    clear h9
    obtain ⟨l, hl, h9⟩ := Option.bind_eq_some_iff.1 h8
    clear h8
    obtain ⟨q, hq, h8⟩ := Option.bind_eq_some_iff.1 h9
    clear h9
    obtain ⟨m, hm, h9⟩ := Option.bind_eq_some_iff.1 h8
    clear h8
    by_cases hc : (Nat.ble l q && Nat.ble q n && m == q && (hi.isSome || mx.isNone) && !(ei.size == 0)) = true
    case neg => simp [Bool.eq_false_iff.2 hc] at h9
    simp only [hc, cond_true] at h9
    simp only [Bool.and_eq_true, beq_iff_eq, Bool.or_eq_true, Bool.not_eq_true', beq_eq_false_iff_ne] at hc
    obtain ⟨⟨⟨⟨hlq, hqn⟩, rfl⟩, hsome⟩, hs0⟩ := hc
    have hlq := Nat.le_of_ble_eq_true hlq
    have hqn := Nat.le_of_ble_eq_true hqn
    have hz : vmx.isSome = mx.isSome := by cases mx <;> cases vmx <;> first | rfl | exact hmx.elim
    have hrun : ∀ (a : Option Addr) (c : Nat), n ≤ c → (Instr.sliceAt t (.slice a n c) vlo vhi vmx).run P w = .ok (.slice (if (if mx.isSome then m else c) = l then a else a.map (·.add (l * ei.size))) (m - l) ((if mx.isSome then m else c) - l)) w := by
      intro a c hnc
      have hb := run_sliceBounds (P := P) (b := true) (len := n) (cap := c) (lo := vlo) (hi := vhi) (mx := vmx) w ((bnd_sound hlo hl).imp (fun h => ⟨h.2.1, h.2.2⟩) (fun h => h.2))
        (by
          rcases bnd_sound hhi hq with ⟨g1, g2, g3⟩ | ⟨_, g⟩
          · refine .inl ⟨g2, g3, ?_⟩
            subst g1
            have : mx = none := by simpa using hsome
            subst this
            cases vmx with | none => rfl | some v => exact hmx.elim
          · exact .inr g)
        (by
          rcases bnd_sound hmx hm with ⟨g1, g2, g3⟩ | ⟨_, g⟩
          · exact .inl g2
          · exact .inr g) hlq (by omega)
      rw [hz] at hb
      simp only [Instr.sliceAt, Sem.run_bind, run_underlying h2, Result.andThen_ok, Instr.slice, run_sizeOf' hei, hb, Sem.run_pure]
    -- data
    have data : ∀ (v : List D) (a : Option Addr) (c : Nat), n = v.length → n ≤ c → (l == 0 || fitL ei.size (v.map .d)) = true → (v = [] ∨ ∃ b o k', a = some ⟨b, o, none⟩ ∧ RepRow (CC k false M) b k' o v) → ei.size ≠ 0 →
        ((v.drop l).take (m - l) = [] ∨ ∃ b o k', (if (if mx.isSome then m else c) = l then a else a.map (·.add (l * ei.size))) = some ⟨b, o, none⟩ ∧ RepRow (CC k false M) b k' o ((v.drop l).take (m - l))) := by
      intro v a c hnv hnc hf hv hs0
      by_cases hml : m = l
      · left; rw [hml]; simp
      · right
        rcases hv with rfl | ⟨b, o, k', rfl, hrow⟩
        · simp at hnv; omega
        · have hne : (if mx.isSome = true then m else c) ≠ l := by split <;> omega
          rw [if_neg hne]
          have hk : l * k' = l * ei.size := by
            rw [Bool.or_eq_true, beq_iff_eq] at hf
            rcases hf with rfl | hf
            · simp
            · rw [hrow.es hs0 hf (l := l) (by omega)]
          exact ⟨b, o + l * k', k', by rw [Option.map_some, Addr.add_lit, hk], hrow.cut⟩
    have tl : ∀ v : List D, n = v.length → ((v.drop l).take (m - l)).length = m - l := fun v hv => by rw [List.length_take, List.length_drop]; omega
    have cut : ∀ {loc ep es off len : Nat} {a : Option Addr} {c cc : Nat}, RepA k M (.sref loc ep es off len) (.slice a len c) → l ≠ m → m ≤ cc → cc ≤ c → es = ei.size → len = n →
        RepA k M (.sref loc ep es (off + l) (m - l)) (.slice (if cc = l then a else a.map (·.add (l * ei.size))) (m - l) (cc - l)) := by
      intro loc ep es off len a c cc hx hlm hmc hcc he hln
      obtain ⟨y, hy, hep, ⟨a', c', e0, hlc, ha⟩, hrest⟩ := hx
      cases e0
      have hlen0 : len ≠ 0 := by clear hrest; omega
      have hsub : m - l ≤ cc - l := by clear hrest; omega
      have hcl : l ≤ cc := by clear hrest; omega
      have hofm : off + l + (m - l) ≤ off + len := by clear hrest; omega
      have hadd : off + l + (cc - l) ≤ off + c := by clear hrest; omega
      have hne : cc ≠ l := by clear hrest; omega
      rw [if_neg hne]
      refine ⟨y, hy, hep, ⟨_, _, rfl, hsub, fun _ => ?_⟩, fun e => ?_⟩
      · have := ha hlen0
        cases a with | none => simp at this | some a => rfl
      · obtain ⟨hrow, hcase⟩ := hrest e
        clear hrest
        refine ⟨hrow, ?_⟩
        rcases hcase with ⟨_, hv, _, h0⟩ | ⟨hv, hes, hle, b, base, c2, hm0, hv2, hc2, cs0, e0, fz0, hh0, hcap⟩
        · exact absurd h0 hlen0
        · cases hv2
          refine .inr ⟨hv, hes, Nat.le_trans hofm hle, b, base, _, hm0, by rw [Option.map_some, Addr.add_lit, ← he, hes, Nat.add_mul, Nat.add_assoc], hsub, cs0, e0, fz0, hh0, ?_⟩
          exact Nat.le_trans (Nat.add_le_add_left (Nat.mul_le_mul_right _ hadd) _) hcap
    by_cases hmxn : mx.isNone = true
    · simp only [hmxn, cond_true] at h9
      have hms : mx.isSome = false := by cases mx <;> simp_all
      split at h9
      · rename_i loc ep es off len
        by_cases he : (es == ei.size) = true
        · simp only [he, cond_true] at h9
          rw [beq_iff_eq] at he
          simp only [lenV] at hn
          cases hn
          have hx0 := hx
          obtain ⟨y, hy, hep, ⟨a, c, rfl, hlc, ha⟩, hrest⟩ := hx
          by_cases hlm : (l == m) = true
          · simp only [hlm, cond_true] at h9
            cases h9
            rw [beq_iff_eq] at hlm
            subst hlm
            exact ⟨_, hrun a c hlc, _, _, by rw [Nat.sub_self]; rfl, Nat.zero_le _, .inl rfl⟩
          · simp only [Bool.eq_false_iff.2 hlm, cond_false] at h9
            cases h9
            exact ⟨_, hrun a c hlc, cut hx0 (by simpa using hlm) (by rw [hms]; simp only [Bool.false_eq_true, if_false]; omega) (by rw [hms]; simp) he rfl⟩
        · simp [Bool.eq_false_iff.2 he] at h9
      · rename_i v
        by_cases hf : (l == 0 || fitL ei.size (v.map .d)) = true
        · simp only [hf, cond_true] at h9
          cases h9
          simp only [lenV] at hn
          cases hn
          obtain ⟨a, c, rfl, hle, hv⟩ := hx
          exact ⟨_, hrun a c hle, _, _, by rw [tl v rfl], by rw [tl v rfl, hms]; simp; omega, data v a c rfl hle hf hv hs0⟩
        · simp [Bool.eq_false_iff.2 hf] at h9
      · rename_i v
        by_cases hf : (l == 0 || fitL ei.size (v.map .d)) = true
        · simp only [hf, cond_true] at h9
          simp only [lenV] at hn
          cases hn
          obtain ⟨a, rfl, hv⟩ := hx
          by_cases hhn : (m == v.length) = true
          · simp only [hhn, cond_true] at h9
            cases h9
            rw [beq_iff_eq] at hhn
            refine ⟨_, hrun a _ (Nat.le_refl _), _, by rw [tl v rfl, hms]; simp only [Bool.false_eq_true, if_false, hhn], data v a _ rfl (Nat.le_refl _) hf hv hs0⟩
          · simp only [Bool.eq_false_iff.2 hhn, cond_false] at h9
            cases h9
            exact ⟨_, hrun a _ (Nat.le_refl _), _, _, by rw [tl v rfl], by rw [tl v rfl, hms]; simp; omega, data v a _ rfl (Nat.le_refl _) hf hv hs0⟩
        · simp [Bool.eq_false_iff.2 hf] at h9
      · cases h9
        simp only [lenV] at hn
        cases hn
        have hu : u = .slice none 0 0 := hx
        subst hu
        obtain rfl : m = 0 := by omega
        obtain rfl : l = 0 := by omega
        exact ⟨_, hrun none 0 (Nat.le_refl _), by rw [hms]; rfl⟩
      · cases h9
    · simp only [Bool.eq_false_iff.2 hmxn, cond_false] at h9
      have hms : mx.isSome = true := by cases mx <;> simp_all
      have fullv : ∀ (v : List D) (a : Option Addr) (c : Nat), n = v.length → n ≤ c → (l == 0 || fitL ei.size (v.map .d)) = true → (v = [] ∨ ∃ b o k', a = some ⟨b, o, none⟩ ∧ RepRow (CC k false M) b k' o v) →
          RepA k M (.full ((v.drop l).take (m - l))) (.slice (if (if mx.isSome then m else c) = l then a else a.map (·.add (l * ei.size))) (m - l) ((if mx.isSome then m else c) - l)) := fun v a c hv hc hf hr =>
        ⟨_, by rw [tl v hv, hms]; simp only [if_true], data v a c hv hc hf hr hs0⟩
      split at h9
      · rename_i v
        by_cases hf : (l == 0 || fitL ei.size (v.map .d)) = true
        · simp only [hf, cond_true] at h9
          cases h9
          simp only [lenV] at hn
          cases hn
          obtain ⟨a, c, rfl, hle, hv⟩ := hx
          exact ⟨_, hrun a c hle, fullv v a c rfl hle hf hv⟩
        · simp [Bool.eq_false_iff.2 hf] at h9
      · rename_i v
        by_cases hf : (l == 0 || fitL ei.size (v.map .d)) = true
        · simp only [hf, cond_true] at h9
          cases h9
          simp only [lenV] at hn
          cases hn
          obtain ⟨a, rfl, hv⟩ := hx
          exact ⟨_, hrun a _ (Nat.le_refl _), fullv v a _ rfl (Nat.le_refl _) hf hv⟩
        · simp [Bool.eq_false_iff.2 hf] at h9
      · cases h9
        simp only [lenV] at hn
        cases hn
        have hu : u = .slice none 0 0 := hx
        subst hu
        obtain rfl : m = 0 := by omega
        obtain rfl : l = 0 := by omega
        exact ⟨_, hrun none 0 (Nat.le_refl _), by rw [hms]; rfl⟩
      · rename_i loc ep es off len
        by_cases he : (es == ei.size) = true
        · simp only [he, cond_true] at h9
          rw [beq_iff_eq] at he
          simp only [lenV] at hn
          cases hn
          have hx0 := hx
          obtain ⟨y, hy, hep, ⟨a, c, rfl, hlc, ha⟩, hrest⟩ := hx
          by_cases hlm : (l == m) = true
          · simp only [hlm, cond_true] at h9
            cases h9
            rw [beq_iff_eq] at hlm
            subst hlm
            exact ⟨_, hrun a c hlc, _, by rw [hms]; simp only [if_true, Nat.sub_self]; rfl, .inl rfl⟩
          · simp only [Bool.eq_false_iff.2 hlm, cond_false] at h9
            split at h9
            · rename_i v hfz
              cases h9
              have hr := cut (cc := if mx.isSome = true then m else c) hx0 (by simpa using hlm) (by rw [hms]; simp) (by rw [hms]; simp only [if_true]; omega) he rfl
              obtain ⟨a', c', e1, e2, e3⟩ := fz_sound hI hpre 6 _ _ _ hr hfz
              refine ⟨_, hrun a c hlc, a', ?_, e3⟩
              rw [hms] at e1 ⊢
              simp only [if_true] at e1 ⊢
              injection e1 with g1 g2 g3
              rw [g1, g2]
            · cases h9
        · simp [Bool.eq_false_iff.2 he] at h9
      · cases h9
end Go.Eng
