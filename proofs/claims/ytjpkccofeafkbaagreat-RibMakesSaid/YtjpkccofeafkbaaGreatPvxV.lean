/- A machine of plain values: what the model's machine does, told by a function. Over any program. -/
import Derived.Test.YtjpkccofeafkbaaGreatPvxH
set_option linter.unusedSimpArgs false
namespace Go.Proofs.YtjpkccofeafkbaaGreat.Pvx
set_option linter.unusedVariables false

/-! ### Values, tries, memory -/
/-- A capacity: known; or as far as the row reaches, with elements of so many cells. -/
inductive Cp where
  | is (c : Nat)
  | un (sz : Nat)
  deriving Inhabited
/-- A value: its pointers name slots of the machine's own memory, or hold what is read alone. -/
inductive AV where
  | bool (b : Bool)
  | int (k : IntKind) (n : Int)
  | str (s : List UInt8)
  | nptr
  | ptr (s off : Nat)
  | rop (cs : List AV)
  | nsl
  | osl (s off len : Nat) (cap : Cp)
  | rsl (nn : Bool) (xs : List (List AV)) (cap : Option Nat)
  | nmap
  | map (s : Nat)
  | nfn
  | fn (f : Nat) (cap : List AV)
  | yield (s : Nat)
  | niface
  | iface (t : Nat) (v : AV)
  | agg (cs : List AV)
  | tup (vs : List AV)
  deriving Inhabited

inductive PT (α : Type) where
  | nil
  | node (v : Option α) (l r : PT α)
namespace PT
variable {α : Type}
def get : PT α → Nat → Option α
  | nil, _ => none
  | node v l r, k => bif Nat.beq k 0 then v else bif Nat.beq ((k - 1) % 2) 0 then l.get ((k - 1) / 2) else r.get ((k - 1) / 2)
def set : Nat → PT α → Nat → α → PT α
  | 0, _, _, _ => nil
  | f + 1, nil, k, x => bif Nat.beq k 0 then node (some x) nil nil else bif Nat.beq ((k - 1) % 2) 0 then node none (set f nil ((k - 1) / 2) x) nil else node none nil (set f nil ((k - 1) / 2) x)
  | f + 1, node v l r, k, x => bif Nat.beq k 0 then node (some x) l r else bif Nat.beq ((k - 1) % 2) 0 then node v (set f l ((k - 1) / 2) x) r else node v l (set f r ((k - 1) / 2) x)
end PT
abbrev AEnv := PT AV
structure AEnt where
  key : AV
  val : AV
  born : Nat
inductive AObj where
  | row (cells : List AV) (t : TypeId)
  | map (es : List AEnt) (clock : Nat)
  | iter (m : Option Nat) (since : Nat) (seen : List Nat) (stepped : Nat)
  | loop (st : LoopState) (pend : Option Code) (fn n : Nat) (e : AEnv) (ps : List Nat) (ca cb : Code) (d : Nat)
  | defd
  | dead
structure Hp where
  next : Nat
  objs : PT AObj
  locks : List Nat
namespace Hp
def get (h : Hp) (s : Nat) : Option AObj := h.objs.get s
def memN : List Nat → Nat → Bool
  | [], _ => false
  | x :: l, s => Nat.beq x s || memN l s
/-- A slot is written, if nobody has locked it. -/
def put (h : Hp) (s : Nat) (o : AObj) (K : Hp → Bool) : Bool := bif memN h.locks s then false else K ⟨h.next, h.objs.set (s + 1) s o, h.locks⟩
def add (h : Hp) (o : AObj) : Hp := ⟨h.next + 1, h.objs.set (h.next + 1) h.next o, h.locks⟩
def lock (h : Hp) (s : Nat) : Hp := ⟨h.next, h.objs, s :: h.locks⟩
def relock (h : Hp) (l : List Nat) : Hp := ⟨h.next, h.objs, l⟩
end Hp

/-! ### What is known of the program -/
inductive Sh where
  | bool | int (k : IntKind) | str | ptr | sl (e : Nat) | map (k e : Nat) | struct (fs : List (Nat × Nat)) (ft : List Nat) (flat : List Bool) | func | iface | other
structure TyI where
  agg : Bool
  z : List AV
  bytes : Nat
  sh : Sh
structure Tab where
  fns : List (Nat × Func)
  tys : List (Nat × TyI)
  /-- Functions of Go's library without a body: 0: maps.clone; 1: slices.overlaps of elements of so many cells. -/
  exts : List (Nat × Nat)
def assoc {α : Type} : List (Nat × α) → Nat → Option α
  | [], _ => none
  | (j, x) :: l, k => bif Nat.beq j k then some x else assoc l k
def Tab.fn (T : Tab) (k : Nat) : Option Func := assoc T.fns k
def Tab.ty (T : Tab) (k : Nat) : Option TyI := assoc T.tys k

/-! ### Small words -/
def kEq : IntKind → IntKind → Bool
  | .i8, .i8 | .i16, .i16 | .i32, .i32 | .i64, .i64 | .u8, .u8 | .u16, .u16 | .u32, .u32 | .u64, .u64 => true
  | _, _ => false
def intEq (a b : Int) : Bool := decide (a = b)
def bEq : Bool → Bool → Bool
  | true, b => b
  | false, b => !b
def bytesEq : List UInt8 → List UInt8 → Bool
  | [], [] => true
  | a :: x, b :: y => Nat.beq a.toNat b.toNat && bytesEq x y
  | _, _ => false
def cellsOf : AV → List AV
  | .agg cs => cs
  | .tup _ => []
  | v => [v]
def valA (agg : Bool) (cs : List AV) : Option AV := match agg, cs with
  | true, cs => some (.agg cs)
  | false, [c] => some c
  | false, _ => none
/-- So many cells from a place on. -/
def cut (cs : List AV) (off n : Nat) : Option (List AV) := let r := (cs.drop off).take n; bif Nat.beq r.length n then some r else none
def over (cs : List AV) (off : Nat) (vs : List AV) : List AV := cs.take off ++ vs ++ cs.drop (off + vs.length)
def constA : Value → Option AV
  | .bool b => some (.bool b)
  | .int k n => some (.int k n)
  | .string s => some (.str s.data.toList)
  | .pointer none => some .nptr
  | .slice none 0 0 => some .nsl
  | .map none => some .nmap
  | .nilFunc => some .nfn
  | .nilIface => some .niface
  | _ => none
def ev1 (e : AEnv) : Operand → Option AV
  | .tmp t => e.get t
  | .const v => constA v
  | .func f => some (.fn f [])
  | .global _ => none
def evs (e : AEnv) : List Operand → Option (List AV)
  | [] => some []
  | x :: l => match ev1 e x with
    | some v => match evs e l with
      | some vs => some (v :: vs)
      | none => none
    | none => none
def evps (e : AEnv) : List (Nat × Operand) → Option (List (Nat × AV))
  | [] => some []
  | (i, x) :: l => match ev1 e x with
    | some v => match evps e l with
      | some vs => some ((i, v) :: vs)
      | none => none
    | none => none
def optInt (e : AEnv) : Option Operand → Option (Option Int)
  | none => some none
  | some x => match ev1 e x with
    | some (.int _ n) => some (some n)
    | _ => none
def fillA (place : Nat → Option (Nat × Nat)) : List AV → List (Nat × AV) → Option (List AV)
  | cs, [] => some cs
  | cs, (i, v) :: rest => match place i with
    | none => none
    | some (off, size) => bif Nat.beq (cellsOf v).length size && Nat.ble (off + size) cs.length then fillA place (over cs off (cellsOf v)) rest else none
def repA (z : List AV) : Nat → List AV
  | 0 => []
  | n + 1 => z ++ repA z n
/-- Two cells alike: numbers, bools, strings. -/
def cellEq : AV → AV → Option Bool
  | .int k a, .int k' b => bif kEq k k' then some (intEq a b) else none
  | .bool a, .bool b => some (bEq a b)
  | .str a, .str b => some (bytesEq a b)
  | _, _ => none
def cellsEq : List AV → List AV → Option Bool
  | [], [] => some true
  | a :: x, b :: y => match cellEq a b with
    | some r => match cellsEq x y with
      | some q => some (r && q)
      | none => none
    | none => none
  | _, _ => none
def eqA : AV → AV → Option Bool
  | .agg x, .agg y => cellsEq x y
  | .nptr, .nptr => some true
  | .nptr, .ptr _ _ => some false
  | .ptr _ _, .nptr => some false
  | .nptr, .rop _ => some false
  | .rop _, .nptr => some false
  | .nsl, .nsl => some true
  | .nsl, .osl .. => some false
  | .osl .., .nsl => some false
  | .nsl, .rsl true _ _ => some false
  | .rsl true _ _, .nsl => some false
  | .nsl, .rsl _ (_ :: _) _ => some false
  | .rsl _ (_ :: _) _, .nsl => some false
  | .nmap, .nmap => some true
  | .nmap, .map _ => some false
  | .map _, .nmap => some false
  | .nfn, .nfn => some true
  | .nfn, .fn _ _ => some false
  | .fn _ _, .nfn => some false
  | .nfn, .yield _ => some false
  | .yield _, .nfn => some false
  | a, b => cellEq a b
def arith (op : BinOp) (k : IntKind) (a b : Int) : Option AV := match op with
  | .add => some (.int k (k.wrap (a + b)))
  | .sub => some (.int k (k.wrap (a - b)))
  | .mul => some (.int k (k.wrap (a * b)))
  | .quo => bif intEq b 0 then none else some (.int k (k.wrap (a.tdiv b)))
  | .rem => bif intEq b 0 then none else some (.int k (a.tmod b))
  | .and => some (.int k (k.wrap ((BitVec.ofInt k.bits a &&& BitVec.ofInt k.bits b).toNat : Int)))
  | .or => some (.int k (k.wrap ((BitVec.ofInt k.bits a ||| BitVec.ofInt k.bits b).toNat : Int)))
  | .xor => some (.int k (k.wrap ((BitVec.ofInt k.bits a ^^^ BitVec.ofInt k.bits b).toNat : Int)))
  | .andNot => some (.int k (k.wrap ((BitVec.ofInt k.bits a &&& ~~~ BitVec.ofInt k.bits b).toNat : Int)))
  | .eql => some (.bool (intEq a b))
  | .neq => some (.bool (!intEq a b))
  | .lss => some (.bool (decide (a < b)))
  | .leq => some (.bool (decide (a ≤ b)))
  | .gtr => some (.bool (decide (b < a)))
  | .geq => some (.bool (decide (b ≤ a)))
  | _ => none
def shiftA (op : BinOp) (k : IntKind) (a b : Int) : Option AV :=
  bif decide (b < 0) then none else
  match op with
  | .shl => some (.int k (k.wrap (a * 2 ^ (min b.toNat k.bits))))
  | .shr => some (.int k (a.fdiv (2 ^ (min b.toNat k.bits))))
  | _ => none
/-- The bounds of a slice expression: low, high; `c`: how far high may go. -/
def bndHi (len c : Nat) : Option Int → Option Nat
  | none => some len
  | some (.ofNat n) => bif Nat.ble n c then some n else none
  | some (.negSucc _) => none
def bndLo (h : Nat) : Option Int → Option (Nat × Nat)
  | none => some (0, h)
  | some (.ofNat l) => bif Nat.ble l h then some (l, h) else none
  | some (.negSucc _) => none
def bnds (len c : Nat) (lo hi : Option Int) : Option (Nat × Nat) := match bndHi len c hi with
  | some h => bndLo h lo
  | none => none
def szOK (sz : Nat) (xs : List (List AV)) (l : Nat) : Bool := Nat.beq l 0 || (match xs with | x :: _ => Nat.beq x.length sz | [] => true)
def capOf (cap : Cp) (len : Nat) : Nat := match cap with | .is c => c | .un _ => len
def slOsl (sz s off len : Nat) (cap : Cp) (lo hi mx : Option Int) : Option AV := match mx with
  | none => (match cap with
    | .is c => (match bnds len c lo hi with
      | some (l, h) => some (.osl s (bif Nat.beq c l then off else off + l * sz) (h - l) (.is (c - l)))
      | none => none)
    | .un z => bif Nat.beq z sz then (match bnds len len lo hi with
      | some (l, h) => bif Nat.beq l len then some (.rsl true [] none) else some (.osl s (off + l * sz) (h - l) (.un z))
      | none => none) else none)
  | some (.ofNat m) => (match hi with
    | some n => bif Nat.ble m (capOf cap len) then (match bnds len m lo (some n) with
      | some (l, h) => some (.osl s (bif Nat.beq m l then off else off + l * sz) (h - l) (.is (m - l)))
      | none => none) else none
    | none => none)
  | some (.negSucc _) => none
def slRsl (sz : Nat) (nn : Bool) (xs : List (List AV)) (cap : Option Nat) (lo hi mx : Option Int) : Option AV := match mx with
  | none => (match bnds xs.length xs.length lo hi with
    | some (l, h) => bif szOK sz xs l then some (.rsl nn ((xs.take h).drop l) (match cap with | some c => some (c - l) | none => none)) else none
    | none => none)
  | some (.ofNat m) => (match hi with
    | some n => bif Nat.ble m xs.length then (match bnds xs.length m lo (some n) with
      | some (l, h) => bif szOK sz xs l then some (.rsl nn ((xs.take h).drop l) (some (m - l))) else none
      | none => none) else none
    | none => none)
  | some (.negSucc _) => none
def sliceA (sz : Nat) (v : AV) (lo hi mx : Option Int) : Option AV := match v with
  | .nsl => (match mx with
    | none => (match bnds 0 0 lo hi with
      | some _ => some .nsl
      | none => none)
    | some _ => none)
  | .osl s off len cap => slOsl sz s off len cap lo hi mx
  | .rsl nn xs cap => slRsl sz nn xs cap lo hi mx
  | _ => none
/-- The cells at an address. -/
def ldA (h : Hp) (p : AV) (n : Nat) : Option (List AV) := match p with
  | .ptr s off => match h.get s with
    | some (.row cs _) => cut cs off n
    | _ => none
  | .rop cs => cut cs 0 n
  | _ => none
/-- All cells of so many elements. -/
def elemsA (h : Hp) (sz : Nat) (v : AV) (n : Nat) : Option (List AV) := match v with
  | .nsl => bif Nat.beq n 0 then some [] else none
  | .osl s off len _ => bif Nat.ble n len then (match h.get s with
    | some (.row cs _) => cut cs off (n * sz)
    | _ => none) else none
  | .rsl _ xs _ => bif Nat.ble n xs.length then (bif Nat.beq (xs.take n).flatten.length (n * sz) then some (xs.take n).flatten else none) else none
  | .str s => bif Nat.ble n s.length && Nat.beq sz 1 then some ((s.take n).map fun b => .int .u8 b.toNat) else none
  | _ => none
def lenA (h : Hp) : AV → Option Nat
  | .nsl => some 0
  | .osl _ _ n _ => some n
  | .rsl _ xs _ => some xs.length
  | .str s => some s.length
  | .nmap => some 0
  | .map s => match h.get s with
    | some (.map es _) => some es.length
    | _ => none
  | _ => none
def keyEq : AV → AV → Option Bool
  | .agg x, .agg y => cellsEq x y
  | a, b => cellEq a b
/-- The entry of a key: its place. -/
def findA (k : AV) : List AEnt → Nat → Option (Option (Nat × AV))
  | [], _ => some none
  | x :: l, i => match keyEq k x.key with
    | some true => some (some (i, x.val))
    | some false => findA k l (i + 1)
    | none => none
/-- Numbers and bools, by their kinds. -/
def fitCells : List Bool → List AV → Bool
  | [], [] => true
  | true :: ks, .bool _ :: cs => fitCells ks cs
  | false :: ks, .int _ _ :: cs => fitCells ks cs
  | _, _ => false
/-- May a value of this make be held against another one, at a type of this shape? -/
def shFits : Sh → AV → Bool
  | .bool, .bool _ => true
  | .ptr, .nptr => true
  | .ptr, .ptr _ _ => true
  | .ptr, .rop _ => true
  | .sl _, .nsl => true
  | .sl _, .osl .. => true
  | .sl _, .rsl .. => true
  | .map _ _, .nmap => true
  | .map _ _, .map _ => true
  | .func, .nfn => true
  | .func, .fn _ _ => true
  | .func, .yield _ => true
  | .struct _ _ (k :: ks), .agg cs => fitCells (k :: ks) cs
  | _, _ => false
def binI (op : BinOp) (k : IntKind) (m : Int) (b : AV) : Option AV := match b with
  | .int k' n => (match op with
    | .shl => shiftA .shl k m n
    | .shr => shiftA .shr k m n
    | op => bif kEq k k' then arith op k m n else none)
  | _ => none
def binS (op : BinOp) (s : List UInt8) (b : AV) : Option AV := match b with
  | .str s' => (match op with
    | .eql => some (.bool (bytesEq s s'))
    | .neq => some (.bool (!bytesEq s s'))
    | _ => none)
  | _ => none
def binE (op : BinOp) (r : Option Bool) : Option AV := match r with
  | some r => (match op with
    | .eql => some (.bool r)
    | .neq => some (.bool (!r))
    | _ => none)
  | none => none
def binT (T : Tab) (op : BinOp) (xt : TypeId) (a b : AV) : Option AV := match a with
  | .int k m => binI op k m b
  | .str s => binS op s b
  | a => match T.ty xt with
    | some i => bif shFits i.sh a then binE op (eqA a b) else none
    | none => none
/-- A key, at a type. -/
def keyFits (T : Tab) (kt : TypeId) (k : AV) : Bool := match T.ty kt with
  | some i => match i.sh, k with
    | .int k', .int k _ => kEq k' k
    | .struct _ _ (k :: ks), .agg cs => fitCells (k :: ks) cs
    | _, _ => false
  | none => false
def mapKeyFits (T : Tab) (t : TypeId) (k : AV) : Bool := match T.ty t with
  | some i => match i.sh with
    | .map kt _ => keyFits T kt k
    | _ => false
  | none => false
def lenFits : Sh → AV → Bool
  | .str, .str _ => true
  | sh, v => shFits sh v
def tyAgg (T : Tab) (t : Nat) : Option (Bool × Nat) := match T.ty t with | some i => some (i.agg, i.z.length) | none => none
def slElem (T : Tab) (t : Nat) : Option (Nat × TyI) := match T.ty t with
  | some i => match i.sh with
    | .sl e => match T.ty e with | some j => some (e, j) | none => none
    | _ => none
  | none => none
def bytesOfInts : List AV → Option (List UInt8)
  | [] => some []
  | .int .u8 n :: l => match bytesOfInts l with | some r => some (UInt8.ofNat n.toNat :: r) | none => none
  | _ => none

/-- What looking up a key yields. -/
def lookRes (j : TyI) (ok : Bool) : Option (Nat × AV) → Option AV
  | some (_, v) => some (bif ok then .tup [v, .bool true] else v)
  | none => match valA j.agg j.z with
    | some z => some (bif ok then .tup [z, .bool false] else z)
    | none => none

/-! ### Operations that leave the memory as it is -/
def qop (T : Tab) (o : Op) (e : AEnv) (h : Hp) : Option AV := match o with
  | .move x | .assign x => ev1 e x
  | .pick c a b => match ev1 e c with
    | some (.bool t) => bif t then ev1 e a else ev1 e b
    | _ => none
  | .build t parts => match T.ty t with
    | some i => match i.sh with
      | .struct fs _ _ => match evps e parts.toList with
        | some vs => match fillA (fun j => fs[j]?) i.z vs with
          | some cs => some (.agg cs)
          | none => none
        | none => none
      | _ => none
    | none => none
  | .load t a => match ev1 e a with
    | some p => match T.ty t with
      | some i => match ldA h p i.z.length with
        | some cs => valA i.agg cs
        | none => none
      | none => none
    | none => none
  | .nilCheck x => match ev1 e x with
    | some (.ptr s off) => some (.ptr s off)
    | some (.rop cs) => some (.rop cs)
    | _ => none
  | .binOp op xt x y _ => match ev1 e x with
    | some a => match ev1 e y with
      | some b => binT T op xt a b
      | none => none
    | none => none
  | .unOp .not _ x => match ev1 e x with
    | some (.bool b) => some (.bool (!b))
    | _ => none
  | .unOp .neg _ x => match ev1 e x with
    | some (.int k n) => some (.int k (k.wrap (-n)))
    | _ => none
  | .convert src dst x => match T.ty src with
    | some j => match T.ty dst with
      | some i => match i.sh, ev1 e x with
        | .int k, some (.int _ n) => some (.int k (k.wrap n))
        | .str, some (.osl s off n c) => (match j.sh with
          | .sl el => (match T.ty el with
            | some q => (match q.sh with
              | .int .u8 => (match elemsA h 1 (.osl s off n c) n with
                | some cs => match bytesOfInts cs with | some r => some (.str r) | none => none
                | none => none)
              | _ => none)
            | none => none)
          | _ => none)
        | _, _ => none
      | none => none
    | none => none
  | .makeInterface t x => match T.ty t with
    | some i => match i.sh with
      | .iface => none
      | .other => none
      | _ => match ev1 e x with
        | some v => some (.iface t v)
        | none => none
    | none => none
  | .typeAssert x _ t false => match T.ty t with
    | some i => match i.sh with
      | .map _ _ => (match ev1 e x with
        | some (.iface u v) => bif Nat.beq u t then some v else none
        | _ => none)
      | _ => none
    | none => none
  | .makeFunc (.func f) first cap => match first.toList, evs e cap.toList with
    | [], some vs => some (.fn f vs)
    | _, _ => none
  | .slice t x lo hi mx => match slElem T t with
    | some (_, i) => match ev1 e x with
      | some v => match optInt e lo with
        | some lo => match optInt e hi with
          | some hi => match optInt e mx with
            | some mx => sliceA i.z.length v lo hi mx
            | none => none
          | none => none
        | none => none
      | none => none
    | none => none
  | .fieldAddr t x f => match T.ty t with
    | some i => match i.sh with
      | .struct fs _ _ => match fs[f]? with
        | some (off, _) => (match ev1 e x with
          | some (.ptr s o) => some (.ptr s (o + off))
          | some (.rop cs) => some (.rop (cs.drop off))
          | _ => none)
        | none => none
      | _ => none
    | none => none
  | .field t x f => match T.ty t with
    | some i => match i.sh with
      | .struct fs ft _ => match fs[f]?, ft[f]? with
        | some (off, _), some u => (match T.ty u with
          | some j => (match ev1 e x with
            | some (.agg cs) => (match cut cs off j.z.length with
              | some r => valA j.agg r
              | none => none)
            | _ => none)
          | none => none)
        | _, _ => none
      | _ => none
    | none => none
  | .indexAddr t x ix => match slElem T t with
    | some (_, i) => match ev1 e ix with
      | some (.int _ (.ofNat n)) => (match ev1 e x with
        | some (.osl s off len _) => bif Nat.blt n len then some (.ptr s (off + n * i.z.length)) else none
        | some (.rsl _ xs _) => (match xs[n]? with
          | some cs => bif Nat.beq cs.length i.z.length then some (.rop cs) else none
          | none => none)
        | _ => none)
      | _ => none
    | none => none
  | .index t x ix => match T.ty t with
    | some i => match i.sh, ev1 e ix with
      | .str, some (.int _ (.ofNat n)) => (match ev1 e x with
        | some (.str s) => (match s[n]? with
          | some b => some (.int .u8 b.toNat)
          | none => none)
        | _ => none)
      | _, _ => none
    | none => none
  | .lookup t x ix ok => match T.ty t with
    | some i => match i.sh with
      | .map kt et => (match T.ty et with
        | some j => (match ev1 e ix with
          | some k => bif keyFits T kt k then (match (match ev1 e x with
              | some .nmap => some none
              | some (.map s) => (match h.get s with
                | some (.map es _) => findA k es 0
                | _ => none)
              | _ => none) with
            | some q => lookRes j ok q
            | none => none) else none
          | none => none)
        | none => none)
      | _ => none
    | none => none
  | .extract x n => match ev1 e x with
    | some (.tup vs) => vs[n]?
    | _ => none
  | .call { callee := .builtin .len, args, argTypes } => match argTypes.toList, evs e args.toList with
    | [t], some [v] => (match T.ty t with
      | some i => bif lenFits i.sh v then (match lenA h v with
        | some n => some (.int .i64 n)
        | none => none) else none
      | none => none)
    | _, _ => none
  | .call { callee := .builtin .cap, args, argTypes } => match argTypes.toList, evs e args.toList with
    | [t], some [v] => (match slElem T t with
      | some _ => (match v with
        | .nsl => some (.int .i64 0)
        | .osl _ _ _ (.is c) => some (.int .i64 c)
        | .rsl _ _ (some c) => some (.int .i64 c)
        | _ => none)
      | none => none)
    | _, _ => none
  | .call { callee := .builtin .min, args, .. } => match evs e args.toList with
    | some [.int k x, .int k' y] => bif kEq k k' then some (.int k (bif decide (y < x) then y else x)) else none
    | _ => none
  | .call { callee := .builtin .max, args, .. } => match evs e args.toList with
    | some [.int k x, .int k' y] => bif kEq k k' then some (.int k (bif decide (x < y) then y else x)) else none
    | _ => none
  | _ => none
/-- The slot that such an operation reads. -/
def qlock (o : Op) (e : AEnv) : Option Nat := match o with
  | .load _ a => match ev1 e a with | some (.ptr s _) => some s | _ => none
  | .lookup _ x _ _ => match ev1 e x with | some (.map s) => some s | _ => none
  | .convert _ _ x => match ev1 e x with | some (.osl s _ _ _) => some s | _ => none
  | .call { callee := .builtin .len, args, .. } => match evs e args.toList with | some [.map s] => some s | _ => none
  | _ => none
/-- Operations that make something new: what, and the value that names it. -/
def aop (T : Tab) (o : Op) (e : AEnv) (s : Nat) : Option (AObj × AV) := match o with
  | .alloc t => match T.ty t with
    | some i => some (.row i.z t, .ptr s 0)
    | none => none
  | .box t x => match ev1 e x with
    | some v => (match T.ty t with
      | some i => bif Nat.beq (cellsOf v).length i.z.length then some (.row (cellsOf v) t, .ptr s 0) else none
      | none => none)
    | none => none
  | .buildSlice t n parts => match slElem T t with
    | some (et, i) => (match evps e parts.toList with
      | some vs => (match fillA (fun j => some (j * i.z.length, i.z.length)) (repA i.z n) vs with
        | some cs => bif Nat.ble (n * i.z.length) 16777216 then some (.row cs et, .osl s 0 n (.is n)) else none
        | none => none)
      | none => none)
    | none => none
  | .makeMap t none => some (.map [] 0, .map s)
  | .makeSlice t l c => match slElem T t with
    | some (et, i) => (match ev1 e l with
      | some (.int .i64 (.ofNat n)) => (match ev1 e c with
        | some (.int .i64 (.ofNat m)) => bif Nat.ble n m && Nat.ble (i.bytes * m) 281474976710656 && Nat.ble m 9223372036854775807 then some (.row (repA i.z m) et, .osl s 0 n (.is m)) else none
        | _ => none)
      | _ => none)
    | none => none
  | _ => none
/-- Writing operations: all but calls of functions. -/
def appendA (sz et : Nat) (h : Hp) (v : AV) (vs : List AV) (n : Nat) (K : AV → Hp → Bool) : Bool := match v with
  | .nsl => bif Nat.beq n 0 then K .nsl h else K (.osl h.next 0 n (.un sz)) (h.add (.row vs et))
  | .osl s off len cap => bif Nat.beq n 0 then K v h else (match h.get s with
    | some (.row cs t) => (match cap with
      | .is c => bif Nat.ble (len + n) c then
            (bif Nat.ble (off + (len + n) * sz) cs.length then h.put s (.row (over cs (off + len * sz) vs) t) (K (.osl s off (len + n) cap)) else false)
          else (match cut cs off (len * sz) with
            | some old => K (.osl h.next 0 (len + n) (.un sz)) (h.add (.row (old ++ vs) et))
            | none => false)
      | .un z => bif Nat.beq z sz then
          (bif Nat.ble (off + (len + n) * sz) cs.length then h.put s (.row (over cs (off + len * sz) vs) t) (K (.osl s off (len + n) cap)) else
          bif Nat.beq off 0 && Nat.beq t et then (match cut cs 0 (len * sz) with
            | some old => h.put s .dead fun h => K (.osl h.next 0 (len + n) (.un sz)) (h.add (.row (old ++ vs) et))
            | none => false) else false) else false)
    | _ => false)
  | .rsl _ xs (some c) => bif Nat.ble (xs.length + n) c then (bif Nat.beq n 0 then K v h else false) else (match elemsA h sz v xs.length with
      | some old => K (.osl h.next 0 (xs.length + n) (.un sz)) (h.add (.row (old ++ vs) et))
      | none => false)
  | _ => false
/-- What is appended: how many elements, their cells. -/
def srcA (T : Tab) (h : Hp) (i : TyI) (u : TypeId) (x : AV) : Option (Nat × List AV) := match T.ty u with
  | some j => (match j.sh with
    | .int _ => (match x with
      | .int .i64 (.ofNat n) => some (n, repA i.z n)
      | _ => none)
    | .sl _ => (match lenA h x with
      | some n => (match elemsA h i.z.length x n with
        | some vs => some (n, vs)
        | none => none)
      | none => none)
    | .str => (match lenA h x with
      | some n => (match elemsA h i.z.length x n with
        | some vs => some (n, vs)
        | none => none)
      | none => none)
    | _ => none)
  | none => none
def roomA (h : Hp) (v : AV) (n bytes : Nat) : Bool := match lenA h v with
  | some l => Nat.ble ((l + n) * bytes) 140737488355328 && Nat.blt 0 bytes
  | none => false
def isNil {α : Type} : List α → Bool
  | [] => true
  | _ => false
def leftOf (seen : List Nat) (es : List AEnt) : List AEnt := es.filter fun x => !Hp.memN seen x.born
def oldOf (since : Nat) (es : List AEnt) : List AEnt := es.filter fun x => Nat.blt x.born since
def stale (seen : List Nat) (es : List AEnt) (last : Nat) : Bool := !isNil seen && !isNil es && es.all fun x => Nat.ble last x.born
def wop (T : Tab) (o : Op) (e : AEnv) (h : Hp) (K : AV → Hp → Bool) : Bool := match o with
  | .store t a x => match ev1 e a with
    | some (.ptr s off) => (match ev1 e x with
      | some v => (match T.ty t with
        | some i => (match h.get s with
          | some (.row cs u) => bif Nat.beq (cellsOf v).length i.z.length && Nat.ble (off + i.z.length) cs.length then h.put s (.row (over cs off (cellsOf v)) u) (K (.tup [])) else false
          | _ => false)
        | none => false)
      | none => false)
    | _ => false
  | .mapUpdate t m k x | .insert t m k x => match ev1 e m with
    | some (.map s) => (match ev1 e k with
      | some k => (match ev1 e x with
        | some v => (match h.get s with
          | some (.map es c) => bif mapKeyFits T t k then (match findA k es 0 with
            | some none => h.put s (.map (es ++ [⟨k, v, c⟩]) (c + 1)) (K (.tup []))
            | some (some (i, _)) => h.put s (.map (es.modify i fun x => { x with val := v }) c) (K (.tup []))
            | none => false) else false
          | _ => false)
        | none => false)
      | none => false)
    | _ => false
  | .range t x => match T.ty t with
    | some i => match i.sh with
      | .map _ _ => (match ev1 e x with
        | some .nmap => K (.ptr h.next 0) (h.add (.iter none 0 [] 0))
        | some (.map s) => (match h.get s with
          | some (.map _ c) => K (.ptr h.next 0) (h.add (.iter (some s) c [] c))
          | _ => false)
        | _ => false)
      | _ => false
    | none => false
  | .next x false => match ev1 e x with
    | some (.ptr r 0) => (match h.get r with
      | some (.iter none _ _ _) => K (.tup [.bool false]) h
      | some (.iter (some m) since seen last) => (match h.get m with
        | some (.map es clock) => bif stale seen es last then false else
          (bif isNil (oldOf since (leftOf seen es)) then K (.tup [.bool false]) h else true) &&
          (leftOf seen es).all fun x => h.put r (.iter (some m) since (seen ++ [x.born]) clock) fun h => K (.tup [.bool true, x.key, x.val]) h
        | _ => false)
      | _ => false)
    | _ => false
  | .entry x => match ev1 e x with
    | some (.ptr r 0) => (match h.get r with
      | some (.iter (some m) _ seen stepped) => (match seen.getLast? with
        | some st => (match h.get m with
          | some (.map es clock) => bif Nat.beq clock stepped then (match es.find? (fun x => Nat.beq x.born st) with
            | some x => K (.tup [x.key, x.val]) h
            | none => false) else false
          | _ => false)
        | none => false)
      | _ => false)
    | _ => false
  | .call { callee := .builtin .append, args, argTypes } => match argTypes.toList, evs e args.toList with
    | [t, u], some [v, x] => (match slElem T t with
      | some (et, i) => (match srcA T h i u x with
        | some (n, vs) => bif roomA h v n i.bytes then appendA i.z.length et h v vs n K else false
        | none => false)
      | none => false)
    | _, _ => false
  | .call { callee := .builtin .copy, args, argTypes } => match argTypes.toList, evs e args.toList with
    | t :: _, some [v, x] => (match slElem T t with
      | some (_, i) => (match lenA h v with
        | some n => (match lenA h x with
          | some m => (match elemsA h i.z.length x (Nat.min m n) with
            | some vs => (match v with
              | .nsl => K (.int .i64 0) h
              | .osl s off _ _ => bif Nat.beq (Nat.min m n) 0 then K (.int .i64 0) h else (match h.get s with
                | some (.row cs u) => bif Nat.ble (off + Nat.min m n * i.z.length) cs.length && Nat.beq vs.length (Nat.min m n * i.z.length) then h.put s (.row (over cs off vs) u) (K (.int .i64 (Nat.min m n))) else false
                | _ => false)
              | _ => false)
            | none => false)
          | none => false)
        | none => false)
      | none => false)
    | _, _ => false
  | .call { callee := .builtin .delete, args, argTypes } => match argTypes.toList, evs e args.toList with
    | t :: _, some [.map s, k] => (match h.get s with
      | some (.map es c) => bif mapKeyFits T t k then (match findA k es 0 with
        | some (some (i, _)) => h.put s (.map (es.eraseIdx i) c) (K (.tup []))
        | some none => K (.tup []) h
        | none => false) else false
      | _ => false)
    | _, _ => false
  | .call { callee := .builtin .clear, args, argTypes } => match argTypes.toList, evs e args.toList with
    | [t], some [v] => (match slElem T t with
      | some (_, i) => (match v with
        | .nsl => K (.tup []) h
        | .rsl _ [] _ => K (.tup []) h
        | .osl s off n _ => bif Nat.beq n 0 then K (.tup []) h else (match h.get s with
          | some (.row cs u) => bif Nat.ble (off + n * i.z.length) cs.length then h.put s (.row (over cs off (repA i.z n)) u) (K (.tup [])) else false
          | _ => false)
        | _ => false)
      | none => false)
    | _, _ => false
  | _ => false

/-! ### Code -/
abbrev AK := Exit → AEnv → List Nat → Hp → Bool
abbrev EvT := Code → Option Nat → AEnv → List Nat → Hp → AK → Bool
def entryA : List AV → Nat → AEnv → AEnv
  | [], _, e => e
  | v :: l, i, e => entryA l (i + 1) (e.set (i + 1) i v)
def oneA : List AV → AV
  | [v] => v
  | vs => .tup vs
def resA (T : Tab) (e : AEnv) (h : Hp) : List ResultVar → Option (List AV)
  | [] => some []
  | .tmp t :: l => match e.get t with
    | some v => match resA T e h l with | some vs => some (v :: vs) | none => none
    | none => none
  | .cell a t :: l => match e.get a with
    | some p => match T.ty t with
      | some i => match ldA h p i.z.length with
        | some cs => match valA i.agg cs with
          | some v => match resA T e h l with | some vs => some (v :: vs) | none => none
          | none => none
        | none => none
      | none => none
    | none => none
def closeA : List Nat → Hp → (Hp → Bool) → Bool
  | [], h, K => K h
  | r :: m, h, K => match h.get r with
    | some .defd => h.put r .dead fun h => closeA m h K
    | _ => false
def callF (T : Tab) (ih : EvT) (k : Nat) (vs : List AV) (h : Hp) (K : AV → Hp → Bool) : Bool := match T.fn k with
  | some f => (match f.body with
    | some c => bif Nat.ble vs.length f.ntmps then ih c none (entryA vs 0 .nil) [] h fun x e m h => (match x with
      | .normal | .ret => closeA m h fun h => (match resA T e h f.results.toList with
        | some vs => K (oneA vs) h
        | none => false)
      | _ => false) else false
    | none => false)
  | none => false
/-- A function without a body. -/
def extF (T : Tab) (k : Nat) (vs : List AV) (h : Hp) (K : AV → Hp → Bool) : Bool := match assoc T.exts k with
  | some 0 => (match vs with
    | [.iface t (.map s)] => (match h.get s with
      | some (.map es c) => K (.iface t (.map h.next)) (h.add (.map es c))
      | _ => false)
    | _ => false)
  | some 2 => (match vs with
    | [] => K (.bool true) h
    | _ => false)
  | _ => false
def hasFn (T : Tab) (k : Nat) : Bool := match T.fn k with | some _ => true | none => false
def setPs : List Nat → List AV → AEnv → AEnv
  | p :: ps, v :: vs, e => setPs ps vs (e.set (p + 1) p v)
  | _, _, e => e
/-- A round ends. -/
def endF (l : Nat) (K : AV → Hp → Bool) (x : Exit) (h : Hp) : Bool := match h.get l with
  | some (.loop _ _ fn n e ps ca cb d) => (match x with
    | .normal => h.put l (.loop .ready none fn n e ps ca cb d) (K (.bool true))
    | .ret => h.put l (.loop .done (some .ret) fn n e ps ca cb d) (K (.bool false))
    | .exit id => h.put l (.loop .done (some (.exit id)) fn n e ps ca cb d) (K (.bool false))
    | _ => false)
  | _ => false
/-- .. and begins, once its variables are set. -/
def beginF (ih : EvT) (l : Nat) (body : Code) (K : AV → Hp → Bool) (x : Exit) (e1 : AEnv) (m : List Nat) (h : Hp) : Bool := match x with
  | .normal => (match h.get l with
    | some (.loop .ready pend fn n e ps ca cb d) => h.put l (.loop .busy pend fn n e ps ca cb d) fun h => ih body (some l) e1 m h fun x _ _ h => endF l K x h
    | _ => false)
  | _ => false
def yieldF (ih : EvT) (l : Nat) (vs : List AV) (h : Hp) (K : AV → Hp → Bool) : Bool := match h.get l with
  | some (.loop .ready _ _ _ e ps ca cb _) => bif Nat.beq ps.length vs.length then ih ca (some l) (setPs ps vs e) [] h (beginF ih l cb K) else false
  | _ => false
/-- One operation, whatever it is. -/
def opF (T : Tab) (ih : EvT) (o : Op) (e : AEnv) (h : Hp) (K : AV → Hp → Bool) : Bool := match qop T o e h with
  | some v => K v h
  | none => match aop T o e h.next with
    | some (x, v) => K v (h.add x)
    | none => match o with
      | .call { callee := .value c, args, .. } => (match ev1 e c with
        | some (.fn k cap) => (match evs e args.toList with
          | some vs => bif hasFn T k then callF T ih k (vs ++ cap) h K else extF T k (vs ++ cap) h K
          | none => false)
        | some (.yield l) => (match evs e args.toList with
          | some vs => yieldF ih l vs h K
          | none => false)
        | _ => false)
      | o => wop T o e h K
def wantedA (ops : List Oper) (o : Oper) (e : AEnv) : Option Bool := match o.guard with
  | none => some true
  | some (j, want) => match (ops[j]?).bind (·.dst) with
    | some d => (match e.get d with
      | some (.bool b) => some (bEq b want)
      | some (.tup []) => some false
      | _ => none)
    | none => none
def setO (e : AEnv) : Option Nat → AV → AEnv
  | some d, v => e.set (d + 1) d v
  | none, _ => e
/-- Operations, one behind the other. -/
def seqF (T : Tab) (ih : EvT) (ops : List Oper) : List Oper → AEnv → Hp → (AEnv → Hp → Bool) → Bool
  | [], e, h, K => K e h
  | o :: l, e, h, K => match wantedA ops o e with
    | some true => opF T ih o.op e h fun v h => seqF T ih ops l (setO e o.dst v) h K
    | some false => seqF T ih ops l (setO e o.dst (.tup [])) h K
    | none => false

/-! ### An open order -/
def bindsOn (o : Oper) (i : Nat) : Bool := o.after.toList.any fun x => Region.binds .any x && Nat.beq x.on i
/-- Number j comes up behind number i in every order. -/
def depA (ops : List Oper) : Nat → Nat → Nat → Bool
  | 0, _, _ => false
  | f + 1, j, i => match ops[j]? with
    | some o => o.after.toList.any fun x => Region.binds .any x && (Nat.beq x.on i || depA ops f x.on i)
    | none => false
def looksA (ops : List Oper) (o : Oper) (t : Nat) : Bool :=
  (o.op.operands.toList.any fun x => match x with | .tmp u => Nat.beq u t | _ => false) ||
  (match o.guard with | some (g, _) => (match (ops[g]?).bind (·.dst) with | some d => Nat.beq d t | none => true) | none => false)
def quickKind : Op → Bool
  | .move _ | .assign _ | .pick .. | .build .. | .load .. | .nilCheck _ | .binOp .. | .unOp .. | .convert .. | .makeInterface .. | .typeAssert .. | .makeFunc .. | .slice .. | .fieldAddr .. | .field .. | .indexAddr .. | .index .. | .lookup .. | .extract ..
  | .alloc _ | .box .. | .buildSlice .. | .makeMap .. | .makeSlice .. => true
  | .call { callee := .builtin b, .. } => match b with | .len | .cap | .min | .max => true | _ => false
  | _ => false
/-- Number i may come early, as far as number j goes. -/
def pairOK (ops : List Oper) (p : Oper) (d i j : Nat) : Bool := Nat.beq j i || depA ops ops.length j i || (match ops[j]? with
  | some q => !looksA ops q d && (match q.dst with | some d' => !Nat.beq d d' && (!looksA ops p d' || depA ops ops.length i j) | none => true)
  | none => true)
def quickAt (ops : List Oper) (i : Nat) : Bool := match ops[i]? with
  | some o => quickKind o.op && (match o.dst with
    | some d => !looksA ops o d && (List.range ops.length).all (pairOK ops o d i)
    | none => false)
  | none => false
def readyA (ops : List Oper) (done : List Nat) (i : Nat) : Bool := !Hp.memN done i && (match ops[i]? with
  | some o => o.after.toList.all fun x => !Region.binds .any x || Hp.memN done x.on
  | none => false)
def allDone (ops : List Oper) (done : List Nat) : Bool := (List.range ops.length).all (Hp.memN done)
def isOne (rs : List Nat) : Option Nat := match rs with
  | [i] => some i
  | _ => none
/-- The order in which the machine takes them: what may come early; else the only one that may come up. -/
def canon (ops : List Oper) : Nat → List Nat → Option (List Nat)
  | 0, done => bif allDone ops done then some [] else none
  | f + 1, done => bif allDone ops done then some [] else
    match ((List.range ops.length).filter (readyA ops done)).find? (quickAt ops) with
    | some i => (canon ops f (i :: done)).map (i :: ·)
    | none => match isOne ((List.range ops.length).filter (readyA ops done)) with
      | some i => (canon ops f (i :: done)).map (i :: ·)
      | none => none
/-- What is locked while number i runs: what was read by those that it does not wait for. -/
def locksFor (ops : List Oper) (i : Nat) : List (Nat × Nat) → List Nat → List Nat
  | [], l => l
  | (p, s) :: ls, l => bif depA ops ops.length i p then locksFor ops i ls l else s :: locksFor ops i ls l
def addLk (i : Nat) (ls : List (Nat × Nat)) : Option Nat → List (Nat × Nat)
  | some s => (i, s) :: ls
  | none => ls
def anyF (T : Tab) (ih : EvT) (ops : List Oper) (base : List Nat) : List Nat → List (Nat × Nat) → AEnv → Hp → (AEnv → Hp → Bool) → Bool
  | [], _, e, h, K => K e h
  | i :: l, ls, e, h, K => match ops[i]? with
    | some o => (match wantedA ops o e with
      | some true => bif quickAt ops i then
          opF T ih o.op e h fun v h => anyF T ih ops base l (addLk i ls (qlock o.op e)) (setO e o.dst v) h K
        else opF T ih o.op e (h.relock (locksFor ops i ls base)) fun v h => anyF T ih ops base l ls (setO e o.dst v) (h.relock base) K
      | some false => anyF T ih ops base l ls (setO e o.dst (.tup [])) h K
      | none => false)
    | none => false
def regF (T : Tab) (ih : EvT) (ops : List Oper) (draw : Bool) (e : AEnv) (h : Hp) (K : AEnv → Hp → Bool) : Bool :=
  bif draw then (match canon ops ops.length [] with
    | some l => anyF T ih ops h.locks l [] e h K
    | none => false)
  else seqF T ih ops ops e h K
/-- The jump that a round asked for. -/
def pendF (K : AK) (e : AEnv) (m : List Nat) (pend : Option Code) (h : Hp) : Bool := match pend with
  | none => K .normal e m h
  | some .ret => K .ret e m h
  | some (.exit id) => K (.exit id) e m h
  | _ => false
/-- Behind the function that was ranged over. -/
def finF (l : Nat) (e : AEnv) (m : List Nat) (K : AK) (_ : AV) (h : Hp) : Bool := match h.get l with
  | some (.loop st pend fn n e' ps ca cb d) => (match st with
    | .busy => false
    | _ => h.put l (.loop .exhausted pend fn n e' ps ca cb d) (pendF K e m pend))
  | _ => false
def evF (T : Tab) (ih : EvT) : EvT
  | .skip, _, e, m, h, K => K .normal e m h
  | .region _ ops draw, _, e, m, h, K => regF T ih ops.toList draw e h fun e h => K .normal e m h
  | .seq a b, ro, e, m, h, K => evF T ih a ro e m h fun x e m h => (match x with
    | .normal => evF T ih b ro e m h K
    | x => K x e m h)
  | .cond c a b, ro, e, m, h, K => (match ev1 e c with
    | some (.bool t) => bif t then evF T ih a ro e m h K else evF T ih b ro e m h K
    | _ => false)
  | .block id c, ro, e, m, h, K => evF T ih c ro e m h fun x e m h => (match x with
    | .exit j => bif Nat.beq j id then K .normal e m h else K (.exit j) e m h
    | x => K x e m h)
  | .loop c, ro, e, m, h, K => evF T ih c ro e m h fun x e m h => (match x with
    | .normal => ih (.loop c) ro e m h K
    | x => K x e m h)
  | .rangeFunc g ps ca cb, ro, e, m, h, K => (match ev1 e g with
    | some (.fn k cap) => (match ro with
      | none => callF T ih k (.yield (h.next + 1) :: cap) ((h.add .defd).add (.loop .ready none 0 0 e ps.toList ca cb h.next)) (finF (h.next + 1) e (h.next :: m) K)
      | some l0 => (match h.get l0 with
        | some (.loop _ _ _ _ _ _ _ _ d) => callF T ih k (.yield h.next :: cap) (h.add (.loop .ready none 0 0 e ps.toList ca cb d)) (finF h.next e m K)
        | _ => false))
    | _ => false)
  | .exit id, _, e, m, h, K => K (.exit id) e m h
  | .scope c, ro, e, m, h, K => evF T ih c ro e m h fun x e m h => (match x with
    | .goto _ => false
    | x => K x e m h)
  | .label _, _, e, m, h, K => K .normal e m h
  | .ret, _, e, m, h, K => K .ret e m h
  | _, _, _, _, _, _ => false
def ev (T : Tab) : Nat → EvT
  | 0 => fun _ _ _ _ _ _ => false
  | n + 1 => evF T (ev T n)
def call (T : Tab) (n : Nat) (k : Nat) (vs : List AV) (h : Hp) (K : AV → Hp → Bool) : Bool := callF T (ev T n) k vs h K
def h0 : Hp := ⟨0, .nil, []⟩
end Go.Proofs.YtjpkccofeafkbaaGreat.Pvx
