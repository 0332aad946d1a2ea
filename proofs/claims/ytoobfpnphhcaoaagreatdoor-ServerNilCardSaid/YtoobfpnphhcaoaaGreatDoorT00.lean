import Derived.Calls
set_option linter.unusedVariables false
set_option linter.unusedSimpArgs false
/-
  An abstract run of Go code: values, memory and operations, in which blocks bear numbers of their own and capacities that the tape draws are left open.
-/
namespace Go.Ab

inductive D8 where
  | a | b | c | d | e | f | g | h
  deriving DecidableEq

structure N8 (α : Type) where
  x0 : α
  x1 : α
  x2 : α
  x3 : α
  x4 : α
  x5 : α
  x6 : α
  x7 : α

def N8.all {α : Type} (v : α) : N8 α := ⟨v, v, v, v, v, v, v, v⟩

def N8.get {α : Type} (k : D8) (n : N8 α) : α :=
  match k with
  | .a => n.x0 | .b => n.x1 | .c => n.x2 | .d => n.x3 | .e => n.x4 | .f => n.x5 | .g => n.x6 | .h => n.x7

def N8.set {α : Type} (k : D8) (v : α) (n : N8 α) : N8 α :=
  match n with
  | ⟨y0, y1, y2, y3, y4, y5, y6, y7⟩ =>
    match k with
    | .a => ⟨v, y1, y2, y3, y4, y5, y6, y7⟩
    | .b => ⟨y0, v, y2, y3, y4, y5, y6, y7⟩
    | .c => ⟨y0, y1, v, y3, y4, y5, y6, y7⟩
    | .d => ⟨y0, y1, y2, v, y4, y5, y6, y7⟩
    | .e => ⟨y0, y1, y2, y3, v, y5, y6, y7⟩
    | .f => ⟨y0, y1, y2, y3, y4, v, y6, y7⟩
    | .g => ⟨y0, y1, y2, y3, y4, y5, v, y7⟩
    | .h => ⟨y0, y1, y2, y3, y4, y5, y6, v⟩

def D8.toNat : D8 → Nat
  | .a => 0 | .b => 1 | .c => 2 | .d => 3 | .e => 4 | .f => 5 | .g => 6 | .h => 7

def D8.dig : Nat → D8
  | 0 => .a | 1 => .b | 2 => .c | 3 => .d | 4 => .e | 5 => .f | 6 => .g | _ => .h

/-- The next digit, and whether it went round. -/
def D8.up : D8 → D8 × Bool
  | .a => (.b, false) | .b => (.c, false) | .c => (.d, false) | .d => (.e, false) | .e => (.f, false) | .f => (.g, false) | .g => (.h, false) | .h => (.a, true)

/-- A block's own number. -/
structure Id where
  o : D8
  p : D8
  q : D8
  r : D8
  s : D8
  deriving DecidableEq

def Id.toNat (i : Id) : Nat := (((i.o.toNat * 8 + i.p.toNat) * 8 + i.q.toNat) * 8 + i.r.toNat) * 8 + i.s.toNat

def Id.ofNat (n : Nat) : Id := ⟨.dig (n / 4096), .dig (n / 512 % 8), .dig (n / 64 % 8), .dig (n / 8 % 8), .dig (n % 8)⟩

def Id.succ : Id → Option Id
  | ⟨o, p, q, r, s⟩ =>
    match s.up with
    | (s', false) => some ⟨o, p, q, r, s'⟩
    | (s', true) =>
      match r.up with
      | (r', false) => some ⟨o, p, q, r', s'⟩
      | (r', true) =>
        match q.up with
        | (q', false) => some ⟨o, p, q', r', s'⟩
        | (q', true) =>
          match p.up with
          | (p', false) => some ⟨o, p', q', r', s'⟩
          | (p', true) =>
            match o.up with
            | (o', false) => some ⟨o', p', q', r', s'⟩
            | (_, true) => none

/-- A slice's capacity: so many; or open, of elements of so many cells. -/
inductive Cap where
  | is (c : Nat)
  | op (sz : Nat)

/-- An abstract value. `top`: any value. A slice's capacity may be open. -/
inductive AV where
  | top
  | bool (b : Bool)
  | int (k : IntKind) (n : Int)
  | str (s : List Nat)
  | nilptr
  | ptr (b : Id) (o : Nat)
  | nilslice
  | slice (b : Id) (o len : Nat) (cap : Cap)
  | nilmap
  | map (b : Id)
  | nilfn
  | fn (f : Nat) (first cap : List AV)
  | nilif
  | iface (t : Nat) (v : AV)
  | agg (l : List AV)
  | tup (l : List AV)

abbrev AV.undef : AV := .tup []

structure AE where
  key : AV
  val : AV
  born : Nat

/-- An abstract block. `own`: it may be written. -/
inductive AB where
  | cells (own : Bool) (vs : List AV)
  | map (es : List AE) (clock : Nat)
  | iterS (s : List Nat) (pos : Nat)
  | iterM (m : Option Id) (since : Nat) (seen : List Nat) (stepped : Nat)

abbrev Tree (α : Type) := N8 (N8 (N8 (N8 (N8 (Option α)))))

structure AH where
  tree : Tree AB
  next : Id

def AH.get (h : AH) (i : Id) : Option AB := N8.get i.s (N8.get i.r (N8.get i.q (N8.get i.p (N8.get i.o h.tree))))

def treeSet {α : Type} (i : Id) (b : Option α) (t : Tree α) : Tree α :=
  let t0 := N8.get i.o t
  let t1 := N8.get i.p t0
  let t2 := N8.get i.q t1
  let t3 := N8.get i.r t2
  N8.set i.o (N8.set i.p (N8.set i.q (N8.set i.r (N8.set i.s b t3) t2) t1) t0) t

def AH.set (h : AH) (i : Id) (b : Option AB) : AH := match h with | ⟨t, n⟩ => ⟨treeSet i b t, n⟩

def AH.empty : AH := ⟨N8.all (N8.all (N8.all (N8.all (N8.all none)))), ⟨.a, .a, .a, .a, .a⟩⟩

/-- A new block. -/
def AH.new (h : AH) (b : AB) : Option (Id × AH) :=
  match h with
  | ⟨t, n⟩ => match n.succ with
    | some n' => some (n, ⟨treeSet n (some b) t, n'⟩)
    | none => none

/-- A number for a block that is yet to come. -/
def AH.spare (h : AH) : Option (Id × AH) :=
  match h with
  | ⟨t, n⟩ => match n.succ with
    | some n' => some (n, ⟨t, n'⟩)
    | none => none

/-- The temporaries of a frame: up to 512. -/
abbrev Env := N8 (N8 (N8 AV))

structure Slot where
  p : D8
  q : D8
  r : D8
  deriving DecidableEq

def Slot.of (t : Nat) : Slot := ⟨.dig (t / 64), .dig (t / 8 % 8), .dig (t % 8)⟩

def Env.at (e : Env) (s : Slot) : AV := match s with | ⟨p, q, r⟩ => N8.get r (N8.get q (N8.get p e))

def Env.get (e : Env) (t : Nat) : AV := Env.at e (Slot.of t)

def Env.setAt (e : Env) (s : Slot) (v : AV) : Env :=
  match s with
  | ⟨p, q, r⟩ =>
    let e1 := N8.get p e
    N8.set p (N8.set q (N8.set r v (N8.get q e1)) e1) e

def Env.set (e : Env) (t : Nat) (v : AV) : Env := Env.setAt e (Slot.of t) v

def Env.empty : Env := N8.all (N8.all (N8.all AV.undef))

def Env.ofArgs : List AV → Nat → Env → Env
  | [], _, e => e
  | v :: vs, t, e => Env.ofArgs vs (t + 1) (e.set t v)

/-- A constant. -/
def ofV : Nat → Value → AV
  | 0, _ => .top
  | n + 1, v => match v with
    | .bool b => .bool b
    | .int k n => .int k n
    | .string s => .str (s.data.toList.map UInt8.toNat)
    | .pointer none => .nilptr
    | .slice none 0 0 => .nilslice
    | .map none => .nilmap
    | .nilFunc => .nilfn
    | .nilIface => .nilif
    | .agg cs => .agg (cs.toList.map (ofV n))
    | .tuple cs => .tup (cs.toList.map (ofV n))
    | _ => .top

def constOf (v : Value) : AV := ofV 4 v

/-- How many package-level variables the program has. -/
def gMax : Nat := 5

def opv (e : Env) : Operand → AV
  | .tmp t => match Nat.blt t 512 with | true => e.get t | false => .top
  | .const v => constOf v
  | .global g => match Nat.blt g gMax with | true => .ptr (Id.ofNat g) 0 | false => .top
  | .func f => .fn f [] []

/-! ### numbers -/

def modulus : IntKind → Nat
  | .i8 | .u8 => 256
  | .i16 | .u16 => 65536
  | .i32 | .u32 => 4294967296
  | .i64 | .u64 => 18446744073709551616

def wrapN (k : IntKind) (m : Nat) : Int :=
  match k with
  | .u8 | .u16 | .u32 | .u64 => Int.ofNat m
  | .i8 => match Nat.ble 128 m with | true => Int.subNatNat m 256 | false => Int.ofNat m
  | .i16 => match Nat.ble 32768 m with | true => Int.subNatNat m 65536 | false => Int.ofNat m
  | .i32 => match Nat.ble 2147483648 m with | true => Int.subNatNat m 4294967296 | false => Int.ofNat m
  | .i64 => match Nat.ble 9223372036854775808 m with | true => Int.subNatNat m 18446744073709551616 | false => Int.ofNat m

/-- The remainder of a whole number by a kind's modulus. -/
def resid (k : IntKind) : Int → Nat
  | .ofNat n => n % modulus k
  | .negSucc n => (modulus k - 1) - n % modulus k

def wrapI (k : IntKind) (z : Int) : Int := wrapN k (resid k z)

def ltI : Int → Int → Bool
  | .ofNat a, .ofNat b => Nat.blt a b
  | .ofNat _, .negSucc _ => false
  | .negSucc _, .ofNat _ => true
  | .negSucc a, .negSucc b => Nat.blt b a

def eqI : Int → Int → Bool
  | .ofNat a, .ofNat b => Nat.beq a b
  | .negSucc a, .negSucc b => Nat.beq a b
  | _, _ => false

def eqK : IntKind → IntKind → Bool
  | .i8, .i8 | .i16, .i16 | .i32, .i32 | .i64, .i64 | .u8, .u8 | .u16, .u16 | .u32, .u32 | .u64, .u64 => true
  | _, _ => false

def eqL : List Nat → List Nat → Bool
  | [], [] => true
  | a :: x, b :: y => match Nat.beq a b with | true => eqL x y | false => false
  | _, _ => false

def ltL : List Nat → List Nat → Bool
  | _, [] => false
  | [], _ :: _ => true
  | a :: x, b :: y => match Nat.blt a b with | true => true | false => match Nat.beq a b with | true => ltL x y | false => false

def intBin (op : BinOp) (k : IntKind) (a b : Int) : Option AV :=
  match op with
  | .add => some (.int k (wrapI k (a + b)))
  | .sub => some (.int k (wrapI k (a - b)))
  | .mul => some (.int k (wrapI k (a * b)))
  | .quo => match eqI b 0 with | true => none | false => some (.int k (wrapI k (a.tdiv b)))
  | .rem => match eqI b 0 with | true => none | false => some (.int k (a.tmod b))
  | .and => some (.int k (wrapN k (Nat.land (resid k a) (resid k b))))
  | .or => some (.int k (wrapN k (Nat.lor (resid k a) (resid k b))))
  | .xor => some (.int k (wrapN k (Nat.xor (resid k a) (resid k b))))
  | .andNot => some (.int k (wrapN k (Nat.land (resid k a) (modulus k - 1 - resid k b))))
  | .eql => some (.bool (eqI a b))
  | .neq => some (.bool (!eqI a b))
  | .lss => some (.bool (ltI a b))
  | .leq => some (.bool (!ltI b a))
  | .gtr => some (.bool (ltI b a))
  | .geq => some (.bool (!ltI a b))
  | _ => none

def shiftBin (op : BinOp) (k : IntKind) (a b : Int) : Option AV :=
  match b with
  | .negSucc _ => none
  | .ofNat n =>
    let m := min n k.bits
    match op with
    | .shl => some (.int k (wrapI k (a * Int.ofNat (2 ^ m))))
    | .shr => some (.int k (a.fdiv (Int.ofNat (2 ^ m))))
    | _ => none

def strBin (op : BinOp) (a b : List Nat) : Option AV :=
  match op with
  | .add => match Nat.blt (a.length + b.length) 140737488355328 with | true => some (.str (a ++ b)) | false => none
  | .eql => some (.bool (eqL a b))
  | .neq => some (.bool (!eqL a b))
  | .lss => some (.bool (ltL a b))
  | .leq => some (.bool (ltL a b || eqL a b))
  | .gtr => some (.bool (!(ltL a b || eqL a b)))
  | .geq => some (.bool (!ltL a b))
  | _ => none

def andO : Option Bool → Option Bool → Option Bool
  | some true, y => y
  | some false, _ => some false
  | none, _ => none

def partV (P : Program) (t : Nat) (cs : List AV) (off : Nat) : Option AV :=
  match P.info? t, P.underlying t with
  | some i, some (.struct _) => some (.agg ((cs.drop off).take i.size))
  | some i, some (.array _ _) => some (.agg ((cs.drop off).take i.size))
  | some _, some _ => (cs.drop off).head?
  | _, _ => none

def eqFields (P : Program) (eq : Nat → AV → AV → Option Bool) : List Field → List AV → List AV → Option Bool
  | [], _, _ => some true
  | f :: fs, xs, ys =>
    if f.name ≠ "_" then
      match partV P f.type xs f.offset, partV P f.type ys f.offset with
      | some x, some y => andO (eq f.type x y) (eqFields P eq fs xs ys)
      | _, _ => none
    else eqFields P eq fs xs ys

def eqElems (P : Program) (eq : Nat → AV → AV → Option Bool) (elem n : Nat) : Nat → Nat → List AV → List AV → Option Bool
  | 0, _, _, _ => some true
  | r + 1, i, xs, ys =>
    match partV P elem xs (i * n), partV P elem ys (i * n) with
    | some x, some y => andO (eq elem x y) (eqElems P eq elem n r (i + 1) xs ys)
    | _, _ => none

/-- Equality of comparable data of one type: numbers, texts, and structs and arrays of them; nil against a pointer, a slice, a map, a function. -/
def eqV (P : Program) : Nat → Nat → AV → AV → Option Bool
  | 0, _, _, _ => none
  | d + 1, t, x, y =>
    match P.underlying t, x, y with
    | some .bool, .bool a, .bool b => some (match a with | true => b | false => !b)
    | some (.int _), .int k a, .int k' b => match eqK k k' with | true => some (eqI a b) | false => none
    | some .string, .str a, .str b => some (eqL a b)
    | some (.pointer _), .nilptr, .nilptr => some true
    | some (.pointer _), .nilptr, .ptr _ _ => some false
    | some (.pointer _), .ptr _ _, .nilptr => some false
    | some (.slice _), .nilslice, .nilslice => some true
    | some (.slice _), .nilslice, .slice .. => some false
    | some (.slice _), .slice .., .nilslice => some false
    | some (.map _ _), .nilmap, .nilmap => some true
    | some (.map _ _), .nilmap, .map _ => some false
    | some (.map _ _), .map _, .nilmap => some false
    | some (.func _ _ _), .nilfn, .nilfn => some true
    | some (.func _ _ _), .nilfn, .fn .. => some false
    | some (.func _ _ _), .fn .., .nilfn => some false
    | some (.struct fields), .agg xs, .agg ys =>
      if P.stoodInHeld t then none else eqFields P (eqV P d) fields.toList xs ys
    | some (.array len elem), .agg xs, .agg ys =>
      match P.info? elem with
      | some i => eqElems P (eqV P d) elem i.size len 0 xs ys
      | none => none
    | _, _, _ => none

end Go.Ab

namespace Go.Ab

/-! ### cells -/

def over : List AV → List AV → Option (List AV)
  | [], vs => some vs
  | c :: cs, _ :: vs => match over cs vs with | some r => some (c :: r) | none => none
  | _ :: _, [] => none

/-- The cells `vs` with `cs` laid over them from place `o` on. -/
def splice : Nat → List AV → List AV → Option (List AV)
  | 0, cs, vs => over cs vs
  | o + 1, cs, v :: vs => match splice o cs vs with | some r => some (v :: r) | none => none
  | _ + 1, _, [] => none

def takeN : Nat → List AV → Option (List AV)
  | 0, _ => some []
  | n + 1, v :: vs => match takeN n vs with | some r => some (v :: r) | none => none
  | _ + 1, [] => none

def dropN : Nat → List AV → List AV
  | 0, vs => vs
  | n + 1, _ :: vs => dropN n vs
  | _ + 1, [] => []

def getN (vs : List AV) (o n : Nat) : Option (List AV) := takeN n (dropN o vs)

def AV.isCell : AV → Bool
  | .top | .agg _ | .tup _ => false
  | _ => true

def allCells : List AV → Bool
  | [] => true
  | v :: vs => match v.isCell with | true => allCells vs | false => false

/-- The cells of a value of so many cells. -/
def AV.cellsOf (v : AV) : Option (List AV) :=
  match v with
  | .top => none
  | .agg l => some l
  | v => some [v]

def AH.cells (h : AH) (b : Id) : Option (List AV) :=
  match h.get b with
  | some (.cells _ vs) => some vs
  | _ => none

def AH.load (h : AH) (b : Id) (o n : Nat) : Option (List AV) :=
  match h.get b with
  | some (.cells _ vs) => getN vs o n
  | _ => none

def AH.store (h : AH) (b : Id) (o : Nat) (cs : List AV) : Option AH :=
  match h.get b with
  | some (.cells true vs) => match allCells cs with
    | true => match splice o cs vs with
      | some vs' => some (h.set b (some (.cells true vs')))
      | none => none
    | false => none
  | _ => none

def repl (n : Nat) (z : List AV) : List AV :=
  match n with
  | 0 => []
  | n + 1 => z ++ repl n z

/-! ### types -/

def isAggT (P : Program) (t : Nat) : Option Bool :=
  match P.underlying t with
  | some (.struct _) => some true
  | some (.array _ _) => some true
  | some _ => some false
  | none => none

def sizeT (P : Program) (t : Nat) : Option Nat := match P.info? t with | some i => some i.size | none => none

def zeroT (P : Program) (t : Nat) : Option (List AV) :=
  match P.info? t with
  | some i => match i.zero with
    | some z => (constOf z).cellsOf
    | none => none
  | none => none

def zeroV (P : Program) (t : Nat) : Option AV :=
  match P.info? t with
  | some i => match i.zero with
    | some z => some (constOf z)
    | none => none
  | none => none

def loadV (P : Program) (t : Nat) (h : AH) (b : Id) (o : Nat) : Option AV :=
  match isAggT P t with
  | some true => match sizeT P t with
    | some n => match h.load b o n with
      | some l => some (.agg l)
      | none => none
    | none => none
  | some false => match h.load b o 1 with
    | some (v :: _) => some v
    | _ => none
  | none => none

def storeV (P : Program) (t : Nat) (h : AH) (b : Id) (o : Nat) (v : AV) : Option AH :=
  match v.cellsOf, sizeT P t with
  | some cs, some n => match Nat.beq cs.length n with
    | true => h.store b o cs
    | false => none
  | _, _ => none

/-! ### operations -/

def fillA (place : Nat → Option (Nat × Nat)) (cells : List AV) : List (Nat × AV) → Option (List AV)
  | [] => some cells
  | (i, v) :: rest =>
    match place i, v.cellsOf with
    | some (off, size), some cs => match Nat.beq cs.length size with
      | true => match splice off cs cells with
        | some cells' => fillA place cells' rest
        | none => none
      | false => none
    | _, _ => none

def placesT (P : Program) : List Field → List (Nat × Nat)
  | [] => []
  | f :: fs => (f.offset, ((sizeT P f.type).getD 0)) :: placesT P fs

def allSized (P : Program) (fs : List Field) : Bool := fs.all fun f => (P.info? f.type).isSome

def buildA (P : Program) (t : Nat) (parts : List (Nat × AV)) : Option AV :=
  match zeroT P t, P.underlying t with
  | some z, some (.struct fields) =>
    match allSized P fields.toList with
    | true => match fillA (fun i => (placesT P fields.toList)[i]?) z parts with
      | some l => some (.agg l)
      | none => none
    | false => none
  | some z, some (.array _ elem) =>
    match sizeT P elem with
    | some n => match fillA (fun i => some (i * n, n)) z parts with
      | some l => some (.agg l)
      | none => none
    | none => none
  | _, _ => none

def ok1 (h : AH) (r : Option AV) : Option (AV × AH) := match r with | some v => some (v, h) | none => none

def newCells (h : AH) (cs : List AV) (mk : Id → AV) : Option (AV × AH) :=
  match h.new (.cells true cs) with
  | some (i, h') => some (mk i, h')
  | none => none

def buildSliceA (P : Program) (t len : Nat) (parts : List (Nat × AV)) : Option (AB × (Id → AV)) :=
  match P.underlying t with
  | some (.slice elem) =>
    match sizeT P elem, zeroT P elem with
    | some n, some z =>
      match Nat.beq z.length n, Nat.ble (len * n) 16777216, Nat.blt 0 n with
      | true, true, true => match fillA (fun i => some (i * n, n)) (repl len z) parts with
        | some cs => some (.cells true cs, fun i => .slice i 0 len (.is len))
        | none => none
      | _, _, _ => none
    | _, _ => none
  | _ => none

def natOf : AV → Option Nat
  | .int _ (.ofNat n) => some n
  | _ => none

/-- A bound of a slicing, from 0 to `y`. -/
def boundA (x : Option AV) (d y : Nat) : Option Nat :=
  match x with
  | none => some d
  | some v => match natOf v with
    | some n => match Nat.ble n y with | true => some n | false => none
    | none => none

/-- low, high and the new capacity's end. -/
def boundsA (len : Nat) (cap : Option Nat) (lo hi mx : Option AV) : Option (Nat × Nat × Option Nat) :=
  match mx with
  | none => match boundA hi len (cap.getD len) with
    | some h => match boundA lo 0 h with
      | some l => some (l, h, cap)
      | none => none
    | none => none
  | some m => match boundA (some m) 0 (cap.getD len), hi with
    | some m', some _ => match boundA hi 0 m' with
      | some h => match boundA lo 0 h with
        | some l => some (l, h, some m')
        | none => none
      | none => none
    | _, _ => none

def Cap.known : Cap → Option Nat
  | .is c => some c
  | .op _ => none

def pickN (c l x y : Nat) : Nat := match Nat.beq c l with | true => x | false => y

def sliceA (P : Program) (t : Nat) (x : AV) (lo hi mx : Option AV) : Option AV :=
  match P.underlying t, x with
  | some (.array n elem), .ptr b o =>
    match boundsA n (some n) lo hi mx, sizeT P elem with
    | some (l, h, some c), some sz => some (.slice b (pickN c l o (o + l * sz)) (h - l) (.is (c - l)))
    | _, _ => none
  | some .string, .str s =>
    match mx, boundsA s.length (some s.length) lo hi none with
    | none, some (l, h, _) => some (.str ((s.drop l).take (h - l)))
    | _, _ => none
  | some (.slice elem), .nilslice =>
    match boundsA 0 (some 0) lo hi mx, sizeT P elem with
    | some (0, 0, some 0), some _ => some .nilslice
    | _, _ => none
  | some (.slice elem), .slice b o len cap =>
    match boundsA len cap.known lo hi mx, sizeT P elem with
    | some (l, h, some c), some sz => some (.slice b (pickN c l o (o + l * sz)) (h - l) (.is (c - l)))
    | some (l, h, none), some sz => match cap with
      | .op sz' => match Nat.beq sz sz' with
        | true => some (.slice b (o + l * sz) (h - l) (.op sz))
        | false => none
      | .is _ => none
    | _, _ => none
  | _, _ => none

def fieldAddrA (P : Program) (t : Nat) (x : AV) (i : Nat) : Option AV :=
  match P.underlying t, x with
  | some (.struct fields), .ptr b o => match fields.toList[i]? with
    | some f => match sizeT P f.type with
      | some (_ + 1) => some (.ptr b (o + f.offset))
      | _ => none
    | none => none
  | _, _ => none

def fieldA (P : Program) (t : Nat) (x : AV) (i : Nat) : Option AV :=
  match P.underlying t, x with
  | some (.struct fields), .agg cs => match fields.toList[i]? with
    | some f => match isAggT P f.type, sizeT P f.type with
      | some true, some n => match getN cs f.offset n with
        | some l => some (.agg l)
        | none => none
      | some false, some _ => match getN cs f.offset 1 with
        | some (v :: _) => some v
        | _ => none
      | _, _ => none
    | none => none
  | _, _ => none

def indexAddrA (P : Program) (t : Nat) (x ix : AV) : Option AV :=
  match natOf ix with
  | none => none
  | some i => match P.underlying t, x with
    | some (.array len elem), .ptr b o => match Nat.blt i len, sizeT P elem with
      | true, some sz => some (.ptr b (o + i * sz))
      | _, _ => none
    | some (.slice elem), .slice b o len _ => match Nat.blt i len, sizeT P elem with
      | true, some sz => some (.ptr b (o + i * sz))
      | _, _ => none
    | _, _ => none

def nthL : List Nat → Nat → Option Nat
  | [], _ => none
  | x :: _, 0 => some x
  | _ :: xs, n + 1 => nthL xs n

def indexA (P : Program) (t : Nat) (x ix : AV) : Option AV :=
  match natOf ix with
  | none => none
  | some i => match P.underlying t, x with
    | some (.array len elem), .agg cs => match Nat.blt i len, isAggT P elem, sizeT P elem with
      | true, some true, some n => match getN cs (i * n) n with
        | some l => some (.agg l)
        | none => none
      | true, some false, some n => match getN cs (i * n) 1 with
        | some (v :: _) => some v
        | _ => none
      | _, _, _ => none
    | some .string, .str s => match nthL s i with
      | some c => some (.int .u8 (.ofNat c))
      | none => none
    | _, _ => none

def simpleKey : TypeDesc → Bool
  | .int _ | .string | .bool => true
  | _ => false

def sameKey (x y : AV) : Option Bool :=
  match x, y with
  | .int k a, .int k' b => match eqK k k' with | true => some (eqI a b) | false => none
  | .str a, .str b => some (eqL a b)
  | .bool a, .bool b => some (match a with | true => b | false => !b)
  | _, _ => none

def fitsKey (d : TypeDesc) (x : AV) : Bool :=
  match d, x with
  | .int _, .int _ _ => true
  | .string, .str _ => true
  | .bool, .bool _ => true
  | _, _ => false

def findE (k : AV) : List AE → Nat → Option (Option (Nat × AV))
  | [], _ => some none
  | e :: es, i =>
    match sameKey k e.key with
    | some true => some (some (i, e.val))
    | some false => findE k es (i + 1)
    | none => none

def pickB (b : Bool) (x y : AV) : AV := match b with | true => x | false => y

def lookupA (P : Program) (t : Nat) (x k : AV) (commaOk : Bool) (h : AH) : Option AV :=
  match P.underlying t with
  | some (.map key elem) =>
    match P.underlying key with
    | some d => match fitsKey d k with
      | true =>
        let es := match x with
          | .nilmap => some []
          | .map r => match h.get r with | some (.map es _) => some es | _ => none
          | _ => none
        match es with
        | some es => match findE k es 0 with
          | some (some (_, v)) => some (pickB commaOk (.tup [v, .bool true]) v)
          | some none => match zeroV P elem with
            | some z => some (pickB commaOk (.tup [z, .bool false]) z)
            | none => none
          | none => none
        | none => none
      | false => none
    | none => none
  | _ => none

def setAtE : List AE → Nat → AV → AV → List AE
  | [], _, _, _ => []
  | e :: es, 0, k, v => { e with key := k, val := v } :: es
  | e :: es, n + 1, k, v => e :: setAtE es n k v

def dropAtE : List AE → Nat → List AE
  | [], _ => []
  | _ :: es, 0 => es
  | e :: es, n + 1 => e :: dropAtE es n

def mapUpdateA (P : Program) (t : Nat) (x k v : AV) (h : AH) : Option AH :=
  match P.underlying t, x with
  | some (.map key _), .map r =>
    match P.underlying key with
    | some d => match fitsKey d k, h.get r with
      | true, some (.map es clock) => match findE k es 0 with
        | some (some (i, _)) => some (h.set r (some (.map (setAtE es i k v) clock)))
        | some none => some (h.set r (some (.map (es ++ [⟨k, v, clock⟩]) (clock + 1))))
        | none => none
      | _, _ => none
    | none => none
  | _, _ => none

def deleteA (P : Program) (t : Nat) (x k : AV) (h : AH) : Option AH :=
  match P.underlying t, x with
  | some (.map key _), .nilmap =>
    match P.underlying key with
    | some d => match fitsKey d k with | true => some h | false => none
    | none => none
  | some (.map key _), .map r =>
    match P.underlying key with
    | some d => match fitsKey d k, h.get r with
      | true, some (.map es clock) => match findE k es 0 with
        | some (some (i, _)) => some (h.set r (some (.map (dropAtE es i) clock)))
        | some none => some h
        | none => none
      | _, _ => none
    | none => none
  | _, _ => none

def lenA (P : Program) (t : Nat) (x : AV) (h : AH) : Option AV :=
  let n := match P.underlying t, x with
    | some .string, .str s => some s.length
    | some (.array n _), _ => some n
    | some (.pointer a), _ => match P.underlying a with | some (.array n _) => some n | _ => none
    | some (.slice _), .nilslice => some 0
    | some (.slice _), .slice _ _ n _ => some n
    | some (.map _ _), .nilmap => some 0
    | some (.map _ _), .map r => match h.get r with | some (.map es _) => some es.length | _ => none
    | _, _ => none
  match n with
  | some n => some (.int .i64 (.ofNat n))
  | none => none

def capA (P : Program) (t : Nat) (x : AV) : Option AV :=
  match P.underlying t, x with
  | some (.slice _), .nilslice => some (.int .i64 (.ofNat 0))
  | some (.slice _), .slice _ _ _ (.is n) => some (.int .i64 (.ofNat n))
  | _, _ => none

def byteV (n : Nat) : AV := .int .u8 (.ofNat n)

/-- What an append or a copy takes: so many elements, and their cells. -/
def srcA (sz : Nat) (x : AV) (h : AH) : Option (Nat × List AV) :=
  match x with
  | .nilslice => some (0, [])
  | .slice b o n _ => match h.load b o (n * sz) with
    | some l => some (n, l)
    | none => none
  | .str s => match Nat.beq sz 1 with
    | true => some (s.length, s.map byteV)
    | false => none
  | _ => none

def isIntT (P : Program) (t : Nat) : Bool :=
  match P.underlying t with
  | some (.int _) => true
  | some _ => false
  | none => true

def roomN : Nat := 1099511627776

/-- The old cells of a slice that grows. -/
def growA (h : AH) (old new : List AV) (need sz bytes : Nat) : Option (AV × AH) :=
  match Nat.ble (need * bytes) roomN with
  | true => newCells h (old ++ new) fun i => .slice i 0 need (.op sz)
  | false => none

/-- What is appended: so many, and their cells. -/
def appSrc (P : Program) (tx : Nat) (info : TypeInfo) (z : List AV) (x : AV) (h : AH) : Option (Nat × List AV) :=
  match isIntT P tx with
  | false => srcA info.size x h
  | true => match P.underlying tx, natOf x with
    | some _, some n => match Nat.ble (n * info.bytes) roomN, Nat.ble n roomN with
      | true, true => some (n, repl n z)
      | _, _ => none
    | _, _ => none

def appendTo (info : TypeInfo) (s : AV) (n : Nat) (new : List AV) (h : AH) : Option (AV × AH) :=
  match s with
  | .nilslice => match n with
    | 0 => some (s, h)
    | _ + 1 => growA h [] new n info.size info.bytes
  | .slice b o len (.is c) => match Nat.ble (len + n) c with
    | true => match n with
      | 0 => some (.slice b o len (.is c), h)
      | _ + 1 => match h.store b (o + len * info.size) new with
        | some h' => some (.slice b o (len + n) (.is c), h')
        | none => none
    | false => match h.load b o (len * info.size) with
      | some old => growA h old new (len + n) info.size info.bytes
      | none => none
  | .slice b o len (.op sz) => match n with
    | 0 => some (s, h)
    | _ + 1 => match h.get b, Nat.beq sz info.size with
      | some (.cells true vs), true =>
        match Nat.ble (o + (len + n) * info.size) vs.length with
        | true => match h.store b (o + len * info.size) new with
          | some h' => some (.slice b o (len + n) (.op sz), h')
          | none => none
        | false => match Nat.beq (o + len * info.size) vs.length, allCells new with
          | true, true => growA (h.set b none) (dropN o vs) new (len + n) info.size info.bytes
          | _, _ => none
      | _, _ => none
  | _ => none

def appendA (P : Program) (ts tx : Nat) (s x : AV) (h : AH) : Option (AV × AH) :=
  match P.underlying ts with
  | some (.slice elem) =>
    match P.info? elem, zeroT P elem with
    | some info, some z =>
      match Nat.beq z.length info.size, Nat.blt 0 info.size, Nat.blt 0 info.bytes with
      | true, true, true => match appSrc P tx info z x h with
        | some (n, new) => appendTo info s n new h
        | none => none
      | _, _, _ => none
    | _, _ => none
  | _ => none

def copyA (P : Program) (td : Nat) (d x : AV) (h : AH) : Option (AV × AH) :=
  match P.underlying td with
  | some (.slice elem) =>
    match sizeT P elem with
    | some sz =>
      match d with
      | .nilslice => match x with
        | .nilslice | .slice .. | .str _ => some (.int .i64 (.ofNat 0), h)
        | _ => none
      | .slice b o len _ =>
        match srcA sz x h with
        | some (n, l) =>
          let m := min n len
          match takeN (m * sz) l with
          | some l' => match m with
            | 0 => some (.int .i64 (.ofNat 0), h)
            | _ + 1 => match h.store b o l' with
              | some h' => some (.int .i64 (.ofNat m), h')
              | none => none
          | none => none
        | none => none
      | _ => none
    | none => none
  | _ => none

def bytesOf : List AV → Option (List Nat)
  | [] => some []
  | .int .u8 (.ofNat n) :: vs => match Nat.blt n 256, bytesOf vs with
    | true, some l => some (n :: l)
    | _, _ => none
  | _ :: _ => none

def toBytesA (P : Program) (src dst : Nat) (x : AV) : Option (AB × (Id → AV)) :=
  match P.underlying src, P.underlying dst, x with
  | some .string, some (.slice e), .str s =>
    match P.underlying e with
    | some (.int .u8) => some (.cells true (s.map byteV), fun i => .slice i 0 s.length (.op 1))
    | _ => none
  | _, _, _ => none

def convertA (P : Program) (src dst : Nat) (x : AV) (h : AH) : Option AV :=
  match P.underlying src, P.underlying dst, x with
  | some _, some (.int k), .int _ n => some (.int k (wrapI k n))
  | some _, some .string, .str s => some (.str s)
  | some (.slice e), some .string, .nilslice =>
    match P.underlying e with
    | some (.int .u8) => some (.str [])
    | _ => none
  | some (.slice e), some .string, .slice b o len _ =>
    match P.underlying e with
    | some (.int .u8) => match h.load b o len with
      | some l => match bytesOf l with
        | some s => some (.str s)
        | none => none
      | none => none
    | _ => none
  | _, _, _ => none

def makeSliceA (P : Program) (t : Nat) (len cap : AV) : Option (AB × (Id → AV)) :=
  match P.underlying t with
  | some (.slice elem) =>
    match natOf len, natOf cap, P.info? elem, zeroT P elem with
    | some l, some c, some info, some z =>
      match Nat.ble l c, Nat.ble (info.bytes * c) roomN, Nat.ble c roomN, Nat.beq z.length info.size with
      | true, true, true, true => match Nat.blt 0 info.size with
        | true => some (.cells true (repl c z), fun i => .slice i 0 l (.is c))
        | false => none
      | _, _, _, _ => none
    | _, _, _, _ => none
  | _ => none

def rangeA (P : Program) (t : Nat) (x : AV) (h : AH) : Option (AV × AH) :=
  let it := match P.underlying t, x with
    | some .string, .str s => some (AB.iterS s 0)
    | some (.map _ _), .nilmap => some (AB.iterM none 0 [] 0)
    | some (.map _ _), .map m => match h.get m with
      | some (.map _ clock) => some (AB.iterM (some m) clock [] clock)
      | _ => none
    | _, _ => none
  match it with
  | some b => match h.new b with
    | some (i, h') => some (.ptr i 0, h')
    | none => none
  | none => none

def lastN : List Nat → Option Nat
  | [] => none
  | [x] => some x
  | _ :: xs => lastN xs

def hasN (n : Nat) : List Nat → Bool
  | [] => false
  | x :: xs => match Nat.beq n x with | true => true | false => hasN n xs

def leftE (seen : List Nat) : List AE → List AE
  | [] => []
  | e :: es => match hasN e.born seen with | true => leftE seen es | false => e :: leftE seen es

def allBorn (last : Nat) : List AE → Bool
  | [] => true
  | e :: es => match Nat.ble last e.born with | true => allBorn last es | false => false

def anyOld (since : Nat) : List AE → Bool
  | [] => false
  | e :: es => match Nat.blt e.born since with | true => true | false => anyOld since es

def bytesArr (s : List Nat) : ByteArray := ⟨(s.map UInt8.ofNat).toArray⟩

def runeAt (s : List Nat) (pos : Nat) : Option (Nat × Nat) :=
  match nthL s pos with
  | some c => match Nat.blt c 128 with
    | true => some (c, 1)
    | false => none
  | none => none

def goneAll (seen : List Nat) (es : List AE) (stepped : Nat) : Bool :=
  match seen, es with
  | _ :: _, _ :: _ => allBorn stepped es
  | _, _ => false

/-- One step of a walk: the next entry must be the only one. -/
def nextA (x : AV) (isString : Bool) (h : AH) : Option (AV × AH) :=
  match x with
  | .ptr r 0 => match h.get r, isString with
    | some (.iterS s pos), true =>
      match Nat.blt pos s.length with
      | true => match runeAt s pos with
        | some (c, w) => some (.tup [.bool true, .int .i64 (.ofNat pos), .int .i32 (.ofNat c)], h.set r (some (.iterS s (pos + w))))
        | none => none
      | false => some (.tup [.bool false], h)
    | some (.iterM none _ _ _), false => some (.tup [.bool false], h)
    | some (.iterM (some m) since seen stepped), false =>
      match h.get m with
      | some (.map es clock) =>
        match goneAll seen es stepped with
        | true => none
        | false => match leftE seen es with
          | [] => some (.tup [.bool false], h)
          | [e] => match Nat.blt e.born since with
            | true => some (.tup [.bool true, e.key, e.val], h.set r (some (.iterM (some m) since (seen ++ [e.born]) clock)))
            | false => none
          | _ => none
      | _ => none
    | _, _ => none
  | _ => none

def findBorn (n : Nat) : List AE → Option AE
  | [] => none
  | e :: es => match Nat.beq e.born n with | true => some e | false => findBorn n es

def entryA (x : AV) (h : AH) : Option AV :=
  match x with
  | .ptr r 0 => match h.get r with
    | some (.iterM (some m) _ seen stepped) =>
      match lastN seen, h.get m with
      | some stamp, some (.map es clock) => match Nat.beq clock stepped with
        | true => match findBorn stamp es with
          | some e => some (.tup [e.key, e.val])
          | none => none
        | false => none
      | _, _ => none
    | _ => none
  | _ => none

def extractA (x : AV) (i : Nat) : Option AV :=
  match x with
  | .tup l => l[i]?
  | _ => none

def binOpA (P : Program) (op : BinOp) (t : Nat) (x y : AV) : Option AV :=
  match op, x, y with
  | .shl, .int k a, .int _ b => shiftBin .shl k a b
  | .shr, .int k a, .int _ b => shiftBin .shr k a b
  | _, .int k a, .int k' b => match eqK k k' with | true => intBin op k a b | false => none
  | _, .str a, .str b => strBin op a b
  | .eql, x, y => match P.eqGuardType P.depth t with
    | false => match eqV P 12 t x y with | some b => some (.bool b) | none => none
    | true => none
  | .neq, x, y => match P.eqGuardType P.depth t with
    | false => match eqV P 12 t x y with | some b => some (.bool (!b)) | none => none
    | true => none
  | _, _, _ => none

def unOpA (op : UnOp) (x : AV) : Option AV :=
  match op, x with
  | .not, .bool b => some (.bool (!b))
  | .neg, .int k n => some (.int k (wrapI k (0 - n)))
  | .xor, .int k n => some (.int k (wrapN k (modulus k - 1 - resid k n)))
  | _, _ => none

def minmaxA (isMax : Bool) : AV → List AV → Option AV
  | v, [] => some v
  | .int k x, .int k' y :: r => match eqK k k' with
    | true => match isMax with
      | true => minmaxA isMax (.int k (match ltI x y with | true => y | false => x)) r
      | false => minmaxA isMax (.int k (match ltI y x with | true => y | false => x)) r
    | false => none
  | _, _ :: _ => none

def zeroCellsA (P : Program) (elem n : Nat) : Option (List AV) :=
  match zeroT P elem with
  | some z => some (repl n z)
  | none => none

def clearA (P : Program) (t : Nat) (x : AV) (h : AH) : Option AH :=
  match P.underlying t, x with
  | some (.slice _), .nilslice => some h
  | some (.slice elem), .slice b o n _ => match n with
    | 0 => some h
    | _ + 1 => match zeroCellsA P elem n with
      | some l => h.store b o l
      | none => none
  | _, _ => none

def okU (r : Option AH) : Option (AV × AH) := match r with | some h => some (.undef, h) | none => none

def builtinA (P : Program) (b : Builtin) (ts : List Nat) (args : List AV) (h : AH) : Option (AV × AH) :=
  match b, ts, args with
  | .append, t :: u :: _, s :: x :: _ => appendA P t u s x h
  | .len, t :: _, x :: _ => ok1 h (lenA P t x h)
  | .cap, t :: _, x :: _ => ok1 h (capA P t x)
  | .copy, t :: _, d :: x :: _ => copyA P t d x h
  | .delete, t :: _, m :: k :: _ => okU (deleteA P t m k h)
  | .clear, t :: _, x :: _ => okU (clearA P t x h)
  | .max, _, x :: r => ok1 h (minmaxA true x r)
  | .min, _, x :: r => ok1 h (minmaxA false x r)
  | _, _, _ => none

def nilCheckA : AV → Option AV
  | .nilptr | .nilif | .nilfn | .top => none
  | v => some v

def isSliceT (P : Program) (t : Nat) : Bool := match P.underlying t with | some (.slice _) => true | _ => false

/-- A conversion of bytes to their own type: the row gets the run-time's mark. -/
def sameSliceA (P : Program) (src dst : Nat) (x : AV) (h : AH) : Option (AV × AH) :=
  match Nat.beq src dst, P.underlying dst, x with
  | true, some (.slice e), .slice b _ (_ + 1) _ => match P.underlying e, h.get b with
    | some (.int .u8), some (.cells true _) => some (x, h)
    | _, _ => none
  | _, _, _ => none

/-- An operation that makes a block, and hangs on its operands alone: the block, and the value by the block's number. -/
def makeA (P : Program) (o : Op) (e : Env) : Option (AB × (Id → AV)) :=
  match o with
  | .alloc t => match zeroT P t with
    | some z => some (.cells true z, fun i => .ptr i 0)
    | none => none
  | .box _ x => match (opv e x).cellsOf with
    | some cs => some (.cells true cs, fun i => .ptr i 0)
    | none => none
  | .buildSlice t len parts => buildSliceA P t len (parts.toList.map fun p => (p.1, opv e p.2))
  | .makeMap t r => match P.underlying t, r with
    | some (.map _ _), none => some (.map [] 0, fun i => .map i)
    | some (.map _ _), some x => match opv e x with
      | .int _ _ => some (.map [] 0, fun i => .map i)
      | _ => none
    | _, _ => none
  | .makeSlice t l c => makeSliceA P t (opv e l) (opv e c)
  | .convert s d x => toBytesA P s d (opv e x)
  | _ => none

def newB (h : AH) (r : Option (AB × (Id → AV))) : Option (AV × AH) :=
  match r with
  | some (b, mk) => match h.new b with
    | some (i, h') => some (mk i, h')
    | none => none
  | none => none

/-- An operation that is no call of a function. -/
def opA (P : Program) (o : Op) (e : Env) (h : AH) : Option (AV × AH) :=
  match o with
  | .move x | .assign x => some (opv e x, h)
  | .pick c a b => match opv e c with
    | .bool true => some (opv e a, h)
    | .bool false => some (opv e b, h)
    | _ => none
  | .alloc t => newB h (makeA P (.alloc t) e)
  | .box t x => newB h (makeA P (.box t x) e)
  | .build t parts => ok1 h (buildA P t (parts.toList.map fun p => (p.1, opv e p.2)))
  | .buildSlice t len parts => newB h (makeA P (.buildSlice t len parts) e)
  | .load t a => match opv e a with
    | .ptr b o => ok1 h (loadV P t h b o)
    | _ => none
  | .store t a x => match opv e a with
    | .ptr b o => okU (storeV P t h b o (opv e x))
    | _ => none
  | .nilCheck x => ok1 h (nilCheckA (opv e x))
  | .binOp op t x y _ => ok1 h (binOpA P op t (opv e x) (opv e y))
  | .unOp op _ x => ok1 h (unOpA op (opv e x))
  | .convert s d x => match isSliceT P d with
    | true => match isSliceT P s with
      | true => sameSliceA P s d (opv e x) h
      | false => newB h (makeA P (.convert s d x) e)
    | false => ok1 h (convertA P s d (opv e x) h)
  | .sliceToArrayPointer t x => match P.underlying t, opv e x with
    | some (.array n _), .slice b o len _ => match Nat.ble n len, Nat.blt 0 n with
      | true, true => some (.ptr b o, h)
      | _, _ => none
    | _, _ => none
  | .makeInterface t x => match P.underlying t with
    | some (.interface _) => none
    | some _ => some (.iface t (opv e x), h)
    | none => none
  | .makeFunc (.func f) first cap => some (.fn f (first.toList.map (opv e)) (cap.toList.map (opv e)), h)
  | .makeMap t r => newB h (makeA P (.makeMap t r) e)
  | .makeSlice t l c => newB h (makeA P (.makeSlice t l c) e)
  | .slice t x lo hi mx => ok1 h (sliceA P t (opv e x) (lo.map (opv e)) (hi.map (opv e)) (mx.map (opv e)))
  | .fieldAddr t x f => ok1 h (fieldAddrA P t (opv e x) f)
  | .field t x f => ok1 h (fieldA P t (opv e x) f)
  | .indexAddr t x i => ok1 h (indexAddrA P t (opv e x) (opv e i))
  | .index t x i => ok1 h (indexA P t (opv e x) (opv e i))
  | .lookup t x k ok => ok1 h (lookupA P t (opv e x) (opv e k) ok h)
  | .mapUpdate t m k v | .insert t m k v => okU (mapUpdateA P t (opv e m) (opv e k) (opv e v) h)
  | .range t x => rangeA P t (opv e x) h
  | .next x s => nextA (opv e x) s h
  | .entry x => ok1 h (entryA (opv e x) h)
  | .extract x i => ok1 h (extractA (opv e x) i)
  | .call { callee := .builtin b, args, argTypes } => builtinA P b argTypes.toList (args.toList.map (opv e)) h
  | _ => none

end Go.Ab

namespace Go.Ab

/-! ### a region whose order is drawn: one order that serves for all -/

inductive OpKind where
  | pure    -- hangs on its operands alone
  | read    -- reads memory
  | make    -- makes a block, and hangs on its operands alone
  | act     -- all else
  deriving DecidableEq

def kindOf (P : Program) : Op → OpKind
  | .move _ | .assign _ | .pick .. | .build .. | .nilCheck _ | .binOp .. | .unOp .. | .sliceToArrayPointer .. | .makeInterface .. | .makeFunc ..
  | .slice .. | .fieldAddr .. | .field .. | .indexAddr .. | .index .. | .extract .. => .pure
  | .load .. | .lookup .. | .entry .. => .read
  | .alloc _ | .box .. | .buildSlice .. | .makeMap .. | .makeSlice .. => .make
  | .convert s d _ => match isSliceT P d, isSliceT P s with | true, true => .act | true, false => .make | false, _ => .read
  | .call { callee := .builtin b, .. } => match b with
    | .len | .cap => .read
    | .min | .max => .pure
    | _ => .act
  | _ => .act

def bit (m i : Nat) : Bool := match Nat.land (Nat.shiftRight m i) 1 with | 0 => false | _ => true

def withBit (m i : Nat) : Nat := Nat.lor m (Nat.shiftLeft 1 i)

abbrev Masks := N8 (N8 (N8 Nat))

def Masks.get (m : Masks) (t : Nat) : Nat := match Slot.of t with | ⟨p, q, r⟩ => N8.get r (N8.get q (N8.get p m))
def Masks.set (m : Masks) (t : Nat) (v : Nat) : Masks :=
  match Slot.of t with
  | ⟨p, q, r⟩ =>
    let e1 := N8.get p m
    N8.set p (N8.set q (N8.set r v (N8.get q e1)) e1) m

def binds : Edge → Bool
  | ⟨_, .gcOnly _⟩ | ⟨_, .textOnly _⟩ => false
  | _ => true

def edgeMask (m : Masks) : List Edge → Nat → Nat
  | [], acc => acc
  | e :: es, acc => match binds e with
    | true => edgeMask m es (Nat.lor (withBit acc e.on) (m.get e.on))
    | false => edgeMask m es acc

/-- All that must have come ahead of each operation. -/
def masks : List Oper → Nat → Masks → Masks
  | [], _, m => m
  | o :: os, i, m => masks os (i + 1) (m.set i (edgeMask m o.after.toList 0))

/-- One operation of a plan: its number, itself, its kind, what must have come ahead of it. -/
structure Step where
  i : Nat
  op : Oper
  kind : OpKind
  pre : Nat

def isAct : OpKind → Bool
  | .act => true
  | _ => false

def stepOf (P : Program) (m : Masks) (o : Oper) (i : Nat) : Step := ⟨i, o, kindOf P o.op, m.get i⟩

def allSteps (P : Program) (m : Masks) : List Oper → Nat → List Step
  | [], _ => []
  | o :: os, i => stepOf P m o i :: allSteps P m os (i + 1)

/-- Is each of p's bits one of d's? -/
def subM (p d : Nat) : Bool := Nat.beq (Nat.land p d) p

/-- Those that may come now and are no acts come (in the order of the text); the others stay. `done`: what has come. -/
def early : List Step → Nat → List Step → List Step → List Step × List Step × Nat
  | [], done, out, left => (out.reverse, left.reverse, done)
  | s :: ss, done, out, left => match isAct s.kind, subM s.pre done with
    | false, true => early ss (withBit done s.i) (s :: out) left
    | _, _ => early ss done out (s :: left)

/-- The first act that may come now. -/
def nextAct : List Step → Nat → List Step → Option (Step × List Step)
  | [], _, _ => none
  | s :: ss, done, left => match isAct s.kind, subM s.pre done with
    | true, true => some (s, left.reverse ++ ss)
    | _, _ => nextAct ss done (s :: left)

def planGo : Nat → List Step → Nat → List Step
  | 0, _, _ => []
  | r + 1, ss, done => match early ss done [] [] with
    | (out, left, done') => match nextAct left done' [] with
      | some (w, left') => out ++ w :: planGo r left' (withBit done' w.i)
      | none => out

/-! what is asked of a plan -/

/-- Behind an act: the acts that are left wait for it; what is left beside them could not have come ahead of it. -/
def waits (w done : Nat) : List Step → Bool
  | [] => true
  | s :: ss => match isAct s.kind with
    | true => match bit s.pre w with | true => waits w done ss | false => false
    | false => match subM s.pre done with | false => waits w done ss | true => false

def namesT (ops : List Oper) (o : Oper) (t : Nat) : Bool :=
  (o.op.operands.toList.any fun x => match x with | .tmp u => Nat.beq u t | _ => false) ||
  (match o.guard with
    | some (g, _) => match ops[g]? with
      | some q => match q.dst with | some u => Nat.beq u t | none => false
      | none => false
    | none => false)

def sameDst (x : Option Nat) (t : Nat) : Bool := match x with | some u => Nat.beq u t | none => false

/-- A temporary is written once, and who names it comes ahead or behind. -/
def apartT (ops : List Oper) (s : Step) (t : Nat) : List Step → Bool
  | [] => true
  | r :: rs => match Nat.beq r.i s.i with
    | true => apartT ops s t rs
    | false => match sameDst r.op.dst t, namesT ops r.op t with
      | true, _ => false
      | false, false => apartT ops s t rs
      | false, true => match bit r.pre s.i, bit s.pre r.i with
        | false, false => false
        | _, _ => apartT ops s t rs

def apartAll (ops : List Oper) (all : List Step) : List Step → Bool
  | [] => true
  | s :: ss => match s.op.dst with
    | none => apartAll ops all ss
    | some t => match apartT ops s t all with
      | true => apartAll ops all ss
      | false => false

/-- In an order that may be; nothing twice. -/
def orderOk (n : Nat) : List Step → Nat → Bool
  | [], done => Nat.beq (done + 1) (2 ^ n)
  | s :: ss, done => match bit done s.i, subM s.pre done with
    | false, true => match isAct s.kind with
      | true => match waits s.i done ss with
        | true => orderOk n ss (withBit done s.i)
        | false => false
      | false => orderOk n ss (withBit done s.i)
    | _, _ => false

/-- The masks are what the edges say. -/
def masksOk (m : Masks) : List Oper → Nat → Bool
  | [], _ => true
  | o :: os, i => match Nat.beq (edgeMask m o.after.toList 0) (m.get i), Nat.blt (m.get i) (2 ^ i) with
    | true, true => masksOk m os (i + 1)
    | _, _ => false

def planOf (P : Program) (ops : List Oper) : Option (List Step) :=
  let m := masks ops 0 (N8.all (N8.all (N8.all 0)))
  let all := allSteps P m ops 0
  let p := planGo ops.length all 0
  let n := ops.length
  match masksOk m ops 0, Nat.ble n 512 with
  | true, true => match orderOk n p 0, apartAll ops all all with
    | true, true => some p
    | _, _ => none
  | _, _ => none

/-! ### values held against one another -/

def sameO : Cap → Cap → Bool
  | .op a, .op b => Nat.beq a b
  | .is a, .is b => Nat.beq a b
  | _, _ => false

def D8.same (x y : D8) : Bool := Nat.beq x.toNat y.toNat
def Id.same (x y : Id) : Bool := match D8.same x.s y.s, D8.same x.r y.r, D8.same x.q y.q, D8.same x.p y.p, D8.same x.o y.o with | true, true, true, true, true => true | _, _, _, _, _ => false

def sameL (f : AV → AV → Bool) : List AV → List AV → Bool
  | [], [] => true
  | a :: x, b :: y => match f a b with | true => sameL f x y | false => false
  | _, _ => false

def same : Nat → AV → AV → Bool
  | 0, _, _ => false
  | n + 1, x, y => match x, y with
    | .bool a, .bool b => match a with | true => b | false => !b
    | .int k a, .int k' b => match eqK k k' with | true => eqI a b | false => false
    | .str a, .str b => eqL a b
    | .nilptr, .nilptr => true
    | .ptr a o, .ptr b p => match Nat.beq o p with | true => Id.same a b | false => false
    | .nilslice, .nilslice => true
    | .slice a o l c, .slice b p m d => match Nat.beq o p, Nat.beq l m, sameO c d with | true, true, true => Id.same a b | _, _, _ => false
    | .nilmap, .nilmap => true
    | .map a, .map b => Id.same a b
    | .nilfn, .nilfn => true
    | .fn f x y, .fn g x' y' => match Nat.beq f g with | true => (match sameL (same n) x x' with | true => sameL (same n) y y' | false => false) | false => false
    | .nilif, .nilif => true
    | .iface t v, .iface u w => match Nat.beq t u with | true => same n v w | false => false
    | .agg x, .agg y => sameL (same n) x y
    | .tup x, .tup y => sameL (same n) x y
    | _, _ => false

/-! ### code -/

inductive AX where
  | normal
  | exit (id : Nat)
  | ret

/-- What a frame holds: its temporaries, and the calls that it has put off. -/
structure AF where
  env : Env
  ds : List (Nat × List AV)

variable {ω : Type}

abbrev KV (ω : Type) := AV → AH → Option ω
abbrev KX (ω : Type) := AX → AF → AH → Option ω
abbrev CallH (ω : Type) := Nat → List AV → AH → KV ω → Option ω

def AF.get (a : AF) (t : Nat) : AV := a.env.get t

/-- Put a value into a temporary that is there. -/
def AF.put (n : Nat) (a : AF) (dst : Option Nat) (v : AV) (k : AF → Option ω) : Option ω :=
  match dst with
  | none => k a
  | some d => match Nat.blt d n with
    | true => match a with | ⟨e, ds⟩ => k ⟨e.set d v, ds⟩
    | false => none

def guardOf (ops : List Oper) (o : Oper) : Option (Option (Nat × Bool)) :=
  match o.guard with
  | none => some none
  | some (j, want) => match ops[j]? with
    | some g => match g.dst with
      | some t => some (some (t, want))
      | none => none
    | none => none

/-- Is the operation wanted? -/
def wantedA (ops : List Oper) (o : Oper) (a : AF) : Option Bool :=
  match guardOf ops o with
  | some none => some true
  | some (some (t, want)) => match Nat.blt t 512, a.env.get t with
    | true, .bool b => some (match want with | true => b | false => !b)
    | true, .top => none
    | true, _ => some false
    | false, _ => none
  | none => none

/-- What one operation comes to, calls too. -/
def operV (P : Program) (call : CallH ω) (o : Op) (e : Env) (h : AH) (k : KV ω) : Option ω :=
  match o with
  | .call { callee := .value f, args, .. } => match opv e f with
    | .fn g first cap => call g (first ++ args.toList.map (opv e) ++ cap) h k
    | _ => none
  | op => match opA P op e h with
    | some (v, h') => k v h'
    | none => none

/-- One operation. -/
def operA (P : Program) (call : CallH ω) (n : Nat) (o : Oper) (a : AF) (h : AH) (k : AF → AH → Option ω) : Option ω :=
  match o.op with
  | .defer { callee := .value f, args, .. } => match opv a.env f with
    | .fn g first cap => match a with
      | ⟨e, ds⟩ => AF.put n ⟨e, (g, first ++ args.toList.map (opv e) ++ cap) :: ds⟩ o.dst .undef fun a' => k a' h
    | _ => none
  | op => operV P call op a.env h fun v h' => a.put n o.dst v fun a' => k a' h'

def opersA (P : Program) (call : CallH ω) (n : Nat) (ops : List Oper) : List Oper → AF → AH → (AF → AH → Option ω) → Option ω
  | [], a, h, k => k a h
  | o :: os, a, h, k => match wantedA ops o a with
    | some true => operA P call n o a h fun a' h' => opersA P call n ops os a' h' k
    | some false => a.put n o.dst .undef fun a' => opersA P call n ops os a' h k
    | none => none

/-- A block that an operation of the region has made, and that no act has met yet: the operation's number, the block's, the block. -/
structure Made where
  i : Nat
  id : Id
  b : AB

/-- A reading of the region's: it must give the same till its last chance is gone. -/
structure Seen where
  i : Nat
  op : Op
  env : Env
  val : AV

def commit (pre : Nat) : List Made → AH → AH × List Made
  | [], h => (h, [])
  | u :: us, h => match commit pre us h with
    | (h', left) => match bit pre u.i with
      | true => (h'.set u.id (some u.b), left)
      | false => (h', u :: left)

def commitAll : List Made → AH → AH
  | [], h => h
  | u :: us, h => (commitAll us h).set u.id (some u.b)

/-- What was read ahead of an act reads so behind it, unless it must have been read by then. -/
def steady (P : Program) (pre : Nat) (h : AH) : List Seen → Option (List Seen)
  | [] => some []
  | s :: ss => match bit pre s.i with
    | true => steady P pre h ss
    | false => match opA P s.op s.env h, steady P pre h ss with
      | some (v, _), some left => match same 40 s.val v with
        | true => some (s :: left)
        | false => none
      | _, _ => none

def stepsA (P : Program) (call : CallH ω) (n : Nat) (ops : List Oper) : List Step → AF → AH → List Made → List Seen → (AF → AH → Option ω) → Option ω
  | [], a, h, us, _, k => k a (commitAll us h)
  | s :: ss, a, h, us, rs, k => match wantedA ops s.op a with
    | none => none
    | some false => a.put n s.op.dst .undef fun a' => stepsA P call n ops ss a' h us rs k
    | some true => match s.kind with
      | .act => match commit s.pre us h with
        | (h1, us') => operV P call s.op.op a.env h1 fun v h' => match steady P s.pre h' rs with
          | some rs' => a.put n s.op.dst v fun a' => stepsA P call n ops ss a' h' us' rs' k
          | none => none
      | .read => match opA P s.op.op a.env h with
        | some (v, _) => a.put n s.op.dst v fun a' => stepsA P call n ops ss a' h us (⟨s.i, s.op.op, a.env, v⟩ :: rs) k
        | none => none
      | .pure => match opA P s.op.op a.env h with
        | some (v, _) => a.put n s.op.dst v fun a' => stepsA P call n ops ss a' h us rs k
        | none => none
      | .make => match makeA P s.op.op a.env with
        | some (b, mk) => match h.spare with
          | some (i, h') => a.put n s.op.dst (mk i) fun a' => stepsA P call n ops ss a' h' (⟨s.i, i, b⟩ :: us) rs k
          | none => none
        | none => none

def loopE (body : AF → AH → KX ω → Option ω) : Nat → AF → AH → KX ω → Option ω
  | 0, _, _, _ => none
  | r + 1, a, h, k => body a h fun x a' h' => match x with
    | .normal => loopE body r a' h' k
    | .exit id => k (.exit id) a' h'
    | .ret => k .ret a' h'

def evCode (P : Program) (call : CallH ω) (rounds n : Nat) : Code → AF → AH → KX ω → Option ω
  | .skip, a, h, k => k .normal a h
  | .label _, a, h, k => k .normal a h
  | .region _ ops draw, a, h, k => match draw with
    | false => opersA P call n ops.toList ops.toList a h fun a' h' => k .normal a' h'
    | true => match planOf P ops.toList with
      | some p => stepsA P call n ops.toList p a h [] [] fun a' h' => k .normal a' h'
      | none => none
  | .seq x y, a, h, k => evCode P call rounds n x a h fun e a' h' => match e with
    | .normal => evCode P call rounds n y a' h' k
    | .exit id => k (.exit id) a' h'
    | .ret => k .ret a' h'
  | .cond c x y, a, h, k => match opv a.env c with
    | .bool true => evCode P call rounds n x a h k
    | .bool false => evCode P call rounds n y a h k
    | _ => none
  | .block id c, a, h, k => evCode P call rounds n c a h fun e a' h' => match e with
    | .normal => k .normal a' h'
    | .exit id' => match Nat.beq id' id with
      | true => k .normal a' h'
      | false => k (.exit id') a' h'
    | .ret => k .ret a' h'
  | .loop c, a, h, k => loopE (evCode P call rounds n c) rounds a h k
  | .exit id, a, h, k => k (.exit id) a h
  | .ret, a, h, k => k .ret a h
  | .scope c, a, h, k => evCode P call rounds n c a h k
  | _, _, _, _ => none

def resultsA (P : Program) (e : Env) (h : AH) : List ResultVar → Option (List AV)
  | [] => some []
  | .tmp t :: rs => match Nat.blt t 512, resultsA P e h rs with
    | true, some l => some (e.get t :: l)
    | _, _ => none
  | .cell a t :: rs => match Nat.blt a 512, e.get a, resultsA P e h rs with
    | true, .ptr b o, some l => match loadV P t h b o with
      | some v => some (v :: l)
      | none => none
    | _, _, _ => none

def oneOrTup : List AV → AV
  | [v] => v
  | l => .tup l

/-- The calls that were put off, the last one first. -/
def leaveA (call : CallH ω) : List (Nat × List AV) → AH → (AH → Option ω) → Option ω
  | [], h, k => k h
  | (f, args) :: ds, h, k => call f args h fun _ h' => leaveA call ds h' k

/-- The body of a function. -/
def bodyA (P : Program) (call : CallH ω) (rounds : Nat) (fn : Func) (args : List AV) (h : AH) (k : AF → AH → Option ω) : Option ω :=
  match fn.body, Nat.ble fn.ntmps 512, Nat.ble args.length fn.ntmps with
  | some c, true, true => evCode P call rounds fn.ntmps c ⟨Env.ofArgs args 0 Env.empty, []⟩ h fun e a h' => match e with
    | .exit _ => none
    | _ => k a h'
  | _, _, _ => none

def giveA (P : Program) (fn : Func) (a : AF) (h : AH) (k : KV ω) : Option ω :=
  match resultsA P a.env h fn.results.toList with
  | some l => k (oneOrTup l) h
  | none => none

/-- A call that was put off: a function that puts off none itself. -/
def flatA (P : Program) (call : CallH ω) (rounds : Nat) : CallH ω := fun f args h k =>
  match P.funcs[f]? with
  | some fn => bodyA P call rounds fn args h fun a h' => match a.ds with
    | [] => giveA P fn a h' k
    | _ :: _ => none
  | none => none

def evBody (P : Program) (call : CallH ω) (rounds : Nat) (fn : Func) (args : List AV) (h : AH) (k : KV ω) : Option ω :=
  bodyA P call rounds fn args h fun a h' => leaveA (flatA P call rounds) a.ds h' fun h2 => giveA P fn a h2 k

/-- What is known of some calls otherwise than by the functions' text. -/
abbrev Known := Nat → List AV → AH → Option (AV × AH)

def evFun (P : Program) (I : Known) (rounds : Nat) : Nat → CallH ω
  | 0, _, _, _, _ => none
  | d + 1, f, args, h, k => match I f args h with
    | some (v, h') => k v h'
    | none => match P.funcs[f]? with
      | some fn => evBody P (evFun P I rounds d) rounds fn args h k
      | none => none

end Go.Ab
