import Derived.Test.YtoobfpnphhcaoaaGreatDoorT02
import Derived.Test.YtoobfpnphhcaoaaGreatDoorT01
import Derived.Eval
set_option linter.unusedVariables false
set_option linter.unusedSimpArgs false
/- Code made ready for the kernel: the machine. -/
namespace Go.Ab.E
open Go.Ab

variable {ω : Type}

/-- What a piece of code is carried along with: the calls, what follows the function, and the loops that it lies in. -/
inductive Cx (ω : Type) where
  | top (call : CallH ω) (k : KV ω)
  | loop (call : CallH ω) (k : KV ω) (again : Fr → AH → Option ω) (up : Cx ω)

noncomputable def Cx.call (c : Cx ω) : CallH ω := Cx.rec (fun call _ => call) (fun call _ _ _ _ => call) c
noncomputable def Cx.k (c : Cx ω) : KV ω := Cx.rec (fun _ k => k) (fun _ k _ _ _ => k) c
noncomputable def Cx.again (c : Cx ω) : Fr → AH → Option ω := Cx.rec (fun _ _ _ _ => none) (fun _ _ a _ _ => a) c
noncomputable def Cx.up (c : Cx ω) : Cx ω := Cx.rec (fun call k => .top call k) (fun _ _ _ up _ => up) c

structure I (ω : Type) where
  run : Cx ω → Loc → Fr → AH → Option ω

abbrev JF (ω : Type) := AV → Cx ω → Loc → Fr → AH → Option ω

def I.no : I ω := ⟨fun _ _ _ _ => none⟩

/-! ### numbers -/

noncomputable def maxN (k : IntKind) : Nat := IntKind.rec 127 32767 2147483647 9223372036854775807 255 65535 4294967295 18446744073709551615 k

noncomputable def posI (k : IntKind) (s : Nat) : Int := Bool.rec (wrapI k (.ofNat s)) (.ofNat s) (Nat.ble s (maxN k))

noncomputable def wrapF (k : IntKind) (z : Int) : Int := Int.rec (fun m k => posI k m) (fun m k => wrapI k (.negSucc m)) z k

noncomputable def addI (k : IntKind) (a b : Int) : Int :=
  Int.rec (fun m b k => Int.rec (fun n m k => posI k (Nat.add m n)) (fun n m k => wrapI k (Int.ofNat m + Int.negSucc n)) b m k) (fun m b k => wrapI k (Int.negSucc m + b)) a b k

noncomputable def subI (k : IntKind) (a b : Int) : Int :=
  Int.rec (fun m b k => Int.rec (fun n m k => Bool.rec (wrapI k (Int.ofNat m - Int.ofNat n)) (posI k (Nat.sub m n)) (Nat.ble n m)) (fun n m k => wrapI k (Int.ofNat m - Int.negSucc n)) b m k) (fun m b k => wrapI k (Int.negSucc m - b)) a b k

noncomputable def mulI (k : IntKind) (a b : Int) : Int :=
  Int.rec (fun m b k => Int.rec (fun n m k => posI k (Nat.mul m n)) (fun n m k => wrapI k (Int.ofNat m * Int.negSucc n)) b m k) (fun m b k => wrapI k (Int.negSucc m * b)) a b k

noncomputable def bitI (g : Nat → Nat → Nat) (k : IntKind) (a b : Int) : Int :=
  Int.rec (fun m b k => Int.rec (fun n m k => posI k (g m n)) (fun n m k => wrapN k (g (resid k (.ofNat m)) (resid k (.negSucc n)))) b m k) (fun m b k => wrapN k (g (resid k (.negSucc m)) (resid k b))) a b k

noncomputable def ltF (a b : Int) : Bool :=
  Int.rec (fun m b => Int.rec (fun n m => Nat.ble (Nat.succ m) n) (fun _ _ => false) b m) (fun m b => Int.rec (fun _ _ => true) (fun n m => Nat.ble (Nat.succ n) m) b m) a b

noncomputable def eqF (a b : Int) : Bool :=
  Int.rec (fun m b => Int.rec (fun n m => Nat.beq m n) (fun _ _ => false) b m) (fun m b => Int.rec (fun _ _ => false) (fun n m => Nat.beq m n) b m) a b

noncomputable def notF (b : Bool) : Bool := Bool.rec true false b

noncomputable def eqKF (k : IntKind) : IntKind → Bool :=
  IntKind.rec (fun k => IntKind.rec true false false false false false false false k) (fun k => IntKind.rec false true false false false false false false k)
    (fun k => IntKind.rec false false true false false false false false k) (fun k => IntKind.rec false false false true false false false false k)
    (fun k => IntKind.rec false false false false true false false false k) (fun k => IntKind.rec false false false false false true false false k)
    (fun k => IntKind.rec false false false false false false true false k) (fun k => IntKind.rec false false false false false false false true k) k

structure B2 where
  f : IntKind → Int → Int → AV

/-- The operations of two numbers that are quick. -/
noncomputable def fastBin (op : BinOp) : Option B2 :=
  match op with
  | .add => some ⟨fun k a b => .int k (addI k a b)⟩
  | .sub => some ⟨fun k a b => .int k (subI k a b)⟩
  | .mul => some ⟨fun k a b => .int k (mulI k a b)⟩
  | .and => some ⟨fun k a b => .int k (bitI Nat.land k a b)⟩
  | .or => some ⟨fun k a b => .int k (bitI Nat.lor k a b)⟩
  | .xor => some ⟨fun k a b => .int k (bitI Nat.xor k a b)⟩
  | .eql => some ⟨fun _ a b => .bool (eqF a b)⟩
  | .neq => some ⟨fun _ a b => .bool (notF (eqF a b))⟩
  | .lss => some ⟨fun _ a b => .bool (ltF a b)⟩
  | .leq => some ⟨fun _ a b => .bool (notF (ltF b a))⟩
  | .gtr => some ⟨fun _ a b => .bool (ltF b a)⟩
  | .geq => some ⟨fun _ a b => .bool (notF (ltF a b))⟩
  | _ => none

noncomputable def shlI (k : IntKind) (a : Int) (n : Nat) : Int :=
  Int.rec (fun m k n => posI k (Nat.mul m (Nat.pow 2 (min n k.bits)))) (fun m k n => wrapI k (Int.negSucc m * Int.ofNat (2 ^ min n k.bits))) a k n

noncomputable def shrI (k : IntKind) (a : Int) (n : Nat) : Int :=
  Int.rec (fun m k n => .ofNat (Nat.div m (Nat.pow 2 (min n k.bits)))) (fun m k n => Int.fdiv (.negSucc m) (Int.ofNat (2 ^ min n k.bits))) a k n

/-- A shift's function. -/
noncomputable def fastShift (op : BinOp) : Option B2 :=
  match op with
  | .shl => some ⟨fun k a b => .int k (shlI k a b.toNat)⟩
  | .shr => some ⟨fun k a b => .int k (shrI k a b.toNat)⟩
  | _ => none

noncomputable def arith2 (f : IntKind → Int → Int → AV) (x y : AV) (j : JF ω) (cx : Cx ω) (l : Loc) (fr : Fr) (h : AH) : Option ω :=
  intE x fun k a => intE y fun k' b => Bool.rec none (j (f k a b) cx l fr h) (eqKF k k')

noncomputable def shift2 (f : IntKind → Int → Int → AV) (x y : AV) (j : JF ω) (cx : Cx ω) (l : Loc) (fr : Fr) (h : AH) : Option ω :=
  intE x fun k a => intE y fun _ b => Int.rec (fun n => j (f k a (.ofNat n)) cx l fr h) (fun _ => none) b

/-! ### operations -/

section
variable {R : Type}

noncomputable def optE (r : Option (AV × AH)) (f : AV → AH → Option R) : Option R := Option.rec none (fun p => Prod.rec f p) r

noncomputable def natE (n : Int) (f : Nat → Option R) : Option R := Int.rec f (fun _ => none) n

noncomputable def consE (vs : List AV) (r : Option R) : Option R := List.rec (fun _ => none) (fun _ _ _ r => r) vs r

noncomputable def headE (vs : List AV) (f : AV → Option R) : Option R := List.rec (fun _ => none) (fun v _ _ f => f v) vs f

noncomputable def slenE (x : AV) : (Nat → Option R) → Option R :=
  @AV.rec (fun _ => (Nat → Option R) → Option R) (fun _ => Unit)
    (fun _ => none) (fun _ _ => none) (fun _ _ _ => none) (fun _ _ => none) (fun _ => none) (fun _ _ _ => none) (fun f => f 0) (fun _ _ l _ f => f l)
    (fun _ => none) (fun _ _ => none) (fun _ => none) (fun _ _ _ _ _ _ => none) (fun _ => none) (fun _ _ _ _ => none) (fun _ _ _ => none) (fun _ _ _ => none) () (fun _ _ _ _ => ()) x

/-- A guard: a bool; what is unknown; all else. -/
noncomputable def gE (x : AV) : (Bool → Option R) → Option R → Option R :=
  @AV.rec (fun _ => (Bool → Option R) → Option R → Option R) (fun _ => Unit)
    (fun _ _ => none) (fun b f _ => f b) (fun _ _ _ r => r) (fun _ _ r => r) (fun _ r => r) (fun _ _ _ r => r) (fun _ r => r) (fun _ _ _ _ _ r => r)
    (fun _ r => r) (fun _ _ r => r) (fun _ r => r) (fun _ _ _ _ _ _ r => r) (fun _ r => r) (fun _ _ _ _ r => r) (fun _ _ _ r => r) (fun _ _ _ r => r) () (fun _ _ _ _ => ()) x
end

noncomputable def loadS (x : AV) (j : JF ω) (cx : Cx ω) (l : Loc) (fr : Fr) (h : AH) : Option ω :=
  ptrE x fun b o => cellsE (getH h b) fun vs => headE (dropF o vs) fun v => j v cx l fr h

noncomputable def loadM (n : Nat) (x : AV) (j : JF ω) (cx : Cx ω) (l : Loc) (fr : Fr) (h : AH) : Option ω :=
  ptrE x fun b o => cellsE (getH h b) fun vs => Option.rec none (fun vs => j (.agg vs) cx l fr h) (C.takeC n (dropF o vs))

noncomputable def storeS (x v : AV) (gen : I ω) (j : JF ω) (cx : Cx ω) (l : Loc) (fr : Fr) (h : AH) : Option ω :=
  Bool.rec (gen.run cx l fr h) (ptrE x fun b o => ownE (getH h b) fun vs => consE (dropF o vs) (j .undef cx l fr (setH h b (some (.cells true (setAt o v vs)))))) (cellE v)

noncomputable def fieldP (off : Nat) (x : AV) (j : JF ω) (cx : Cx ω) (l : Loc) (fr : Fr) (h : AH) : Option ω :=
  ptrE x fun b o => j (.ptr b (Nat.add o off)) cx l fr h

noncomputable def indexS (sz : Nat) (x i : AV) (j : JF ω) (cx : Cx ω) (l : Loc) (fr : Fr) (h : AH) : Option ω :=
  sliceE x fun b o len _ => intE i fun _ z => natE z fun n => Bool.rec none (j (.ptr b (Nat.add o (Nat.mul n sz))) cx l fr h) (Nat.ble (Nat.succ n) len)

noncomputable def indexR (len sz : Nat) (x i : AV) (j : JF ω) (cx : Cx ω) (l : Loc) (fr : Fr) (h : AH) : Option ω :=
  ptrE x fun b o => intE i fun _ z => natE z fun n => Bool.rec none (j (.ptr b (Nat.add o (Nat.mul n sz))) cx l fr h) (Nat.ble (Nat.succ n) len)

noncomputable def convI (k : IntKind) (x : AV) (j : JF ω) (cx : Cx ω) (l : Loc) (fr : Fr) (h : AH) : Option ω :=
  intE x fun _ z => j (.int k (wrapF k z)) cx l fr h

noncomputable def lenS (x : AV) (j : JF ω) (cx : Cx ω) (l : Loc) (fr : Fr) (h : AH) : Option ω :=
  slenE x fun n => j (.int .i64 (.ofNat n)) cx l fr h

noncomputable def checkN (x : AV) (j : JF ω) (cx : Cx ω) (l : Loc) (fr : Fr) (h : AH) : Option ω :=
  Bool.rec none (j x cx l fr h) (someE x)

noncomputable def extractT (i : Nat) (x : AV) (j : JF ω) (cx : Cx ω) (l : Loc) (fr : Fr) (h : AH) : Option ω :=
  tupE x fun vs => headE (C.dropC i vs) fun v => j v cx l fr h

noncomputable def notV (x : AV) (j : JF ω) (cx : Cx ω) (l : Loc) (fr : Fr) (h : AH) : Option ω :=
  boolE x fun b => j (.bool (notF b)) cx l fr h

noncomputable def pickV (c x y : AV) (j : JF ω) (cx : Cx ω) (l : Loc) (fr : Fr) (h : AH) : Option ω :=
  boolE c fun b => j (Bool.rec y x b) cx l fr h

noncomputable def allocV (z : List AV) (j : JF ω) (cx : Cx ω) (l : Loc) (fr : Fr) (h : AH) : Option ω :=
  newH h (.cells true z) fun i h' => j (.ptr i 0) cx l fr h'

noncomputable def boxV (x : AV) (gen : I ω) (j : JF ω) (cx : Cx ω) (l : Loc) (fr : Fr) (h : AH) : Option ω :=
  Bool.rec (gen.run cx l fr h) (newH h (.cells true [x]) fun i h' => j (.ptr i 0) cx l fr h') (cellE x)

noncomputable def in1 (x : XA) (f : AV → JF ω → Cx ω → Loc → Fr → AH → Option ω) (j : JF ω) : I ω :=
  XA.rec (fun xf => ⟨fun cx l fr h => f (xf l fr) j cx l fr h⟩) x

noncomputable def in2 (x y : XA) (f : AV → AV → JF ω → Cx ω → Loc → Fr → AH → Option ω) (j : JF ω) : I ω :=
  XA.rec (fun xf => XA.rec (fun yf => ⟨fun cx l fr h => f (xf l fr) (yf l fr) j cx l fr h⟩) y) x

/-! operations that are not made quick, each by itself -/

noncomputable def on1 (x : XA) (f : AV → AH → Option (AV × AH)) (j : JF ω) : I ω :=
  XA.rec (fun xf => ⟨fun cx l fr h => optE (f (xf l fr) h) fun v h' => j v cx l fr h'⟩) x

noncomputable def on2 (x y : XA) (f : AV → AV → AH → Option (AV × AH)) (j : JF ω) : I ω :=
  XA.rec (fun xf => XA.rec (fun yf => ⟨fun cx l fr h => optE (f (xf l fr) (yf l fr) h) fun v h' => j v cx l fr h'⟩) y) x

structure LA where
  run : Loc → Fr → List AV

noncomputable def la (acc : Operand → XA) (l : List Operand) : LA :=
  List.rec ⟨fun _ _ => []⟩ (fun x _ ih => XA.rec (fun xf => LA.rec (fun lf => ⟨fun l fr => xf l fr :: lf l fr⟩) ih) (acc x)) l

structure OA where
  run : Loc → Fr → Option AV

noncomputable def oa (acc : Operand → XA) (x : Option Operand) : OA :=
  match x with
  | none => ⟨fun _ _ => none⟩
  | some x => XA.rec (fun xf => ⟨fun l fr => some (xf l fr)⟩) (acc x)

noncomputable def onL (x : LA) (f : List AV → AH → Option (AV × AH)) (j : JF ω) : I ω :=
  LA.rec (fun xf => ⟨fun cx l fr h => optE (f (xf l fr) h) fun v h' => j v cx l fr h'⟩) x

noncomputable def onLL (x y : LA) (f : List AV → List AV → AH → Option (AV × AH)) (j : JF ω) : I ω :=
  LA.rec (fun xf => LA.rec (fun yf => ⟨fun cx l fr h => optE (f (xf l fr) (yf l fr) h) fun v h' => j v cx l fr h'⟩) y) x

noncomputable def onS (x : XA) (a b c : OA) (f : AV → Option AV → Option AV → Option AV → AH → Option (AV × AH)) (j : JF ω) : I ω :=
  XA.rec (fun xf => OA.rec (fun af => OA.rec (fun bf => OA.rec (fun cf => ⟨fun cx l fr h => optE (f (xf l fr) (af l fr) (bf l fr) (cf l fr) h) fun v h' => j v cx l fr h'⟩) c) b) a) x

noncomputable def storeG (T : F.Tb) (t : Nat) (a v : AV) (h : AH) : Option (AV × AH) :=
  match a with
  | .ptr b o => okU (F.storeV T t h b o v)
  | _ => none

noncomputable def convG (T : F.Tb) (s d : Nat) (x : AV) (h : AH) : Option (AV × AH) :=
  match F.isSliceT T d with
  | true => match F.isSliceT T s with
    | true => F.sameSliceA T s d x h
    | false => newB h (F.toBytesA T s d x)
  | false => ok1 h (F.convertA T s d x h)

noncomputable def boxG (x : AV) (h : AH) : Option (AV × AH) :=
  newB h (match x.cellsOf with
    | some cs => some (.cells true cs, fun i => .ptr i 0)
    | none => none)

noncomputable def ptrG (T : F.Tb) (t : Nat) (x : AV) (h : AH) : Option (AV × AH) :=
  match T.underlying t, x with
  | some (.array n _), .slice b o len _ => match Nat.ble n len, Nat.blt 0 n with
    | true, true => some (.ptr b o, h)
    | _, _ => none
  | _, _ => none

noncomputable def mapG (x : AV) (h : AH) : Option (AV × AH) :=
  newB h (match x with
    | .int _ _ => some (.map [] 0, fun i => .map i)
    | _ => none)

noncomputable def map3G (T : F.Tb) (t : Nat) (vs : List AV) (h : AH) : Option (AV × AH) :=
  match vs with
  | [m, k, v] => okU (F.mapUpdateA T t m k v h)
  | _ => none

def zipP {α : Type} : List (Nat × α) → List AV → List (Nat × AV)
  | p :: ps, v :: vs => (p.1, v) :: zipP ps vs
  | _, _ => []

/-! append -/

noncomputable def appL (a b : List AV) : List AV := List.rec b (fun v _ ih => v :: ih) a

noncomputable def allF (vs : List AV) : Bool := List.rec true (fun v _ ih => Bool.rec false ih (cellE v)) vs

/-- Do the cells end at a place? -/
noncomputable def endsAt (m : Nat) (vs : List AV) : Bool :=
  Nat.rec (fun vs => List.rec true (fun _ _ _ => false) vs) (fun m _ vs => List.rec false (fun _ t _ => List.rec true (fun _ _ _ => false) t) (dropF m vs)) m vs

noncomputable def growV (sz bytes need : Nat) (old new : List AV) (j : JF ω) (cx : Cx ω) (l : Loc) (fr : Fr) (h : AH) : Option ω :=
  Bool.rec none (newH h (.cells true (appL old new)) fun i h' => j (.slice i 0 need (.op sz)) cx l fr h') (Nat.ble (Nat.mul need bytes) roomN)

/-- Cells are put behind a slice whose capacity is open. -/
noncomputable def openV (sz bytes : Nat) (b : Id) (o len n : Nat) (new : List AV) (gen : I ω) (j : JF ω) (cx : Cx ω) (l : Loc) (fr : Fr) (h : AH) : Option ω :=
  ownE (getH h b) fun vs => Bool.rec (gen.run cx l fr h)
    (Bool.rec none (growV sz bytes (Nat.add len n) (dropF o vs) new j cx l fr (setH h b none)) (allF new)) (endsAt (Nat.add o (Nat.mul len sz)) vs)

noncomputable def appTo (sz bytes : Nat) (s : AV) (n : Nat) (new : List AV) (gen : I ω) (j : JF ω) (cx : Cx ω) (l : Loc) (fr : Fr) (h : AH) : Option ω :=
  match s with
  | .nilslice => Nat.rec (j .nilslice cx l fr h) (fun m _ => growV sz bytes (Nat.succ m) [] new j cx l fr h) n
  | .slice b o len (.op sz') => Nat.rec (gen.run cx l fr h) (fun m _ => Bool.rec (gen.run cx l fr h) (openV sz bytes b o len (Nat.succ m) new gen j cx l fr h) (Nat.beq sz' sz)) n
  | _ => gen.run cx l fr h

noncomputable def appV (sz bytes : Nat) (gen : I ω) (s x : AV) (j : JF ω) (cx : Cx ω) (l : Loc) (fr : Fr) (h : AH) : Option ω :=
  match x with
  | .slice b o n _ => cellsE (getH h b) fun vs => Option.rec none (fun new => appTo sz bytes s n new gen j cx l fr h) (C.takeC (Nat.mul n sz) (dropF o vs))
  | _ => gen.run cx l fr h

/-- A slice of one. -/
noncomputable def oneV (gen : I ω) (x : AV) (j : JF ω) (cx : Cx ω) (l : Loc) (fr : Fr) (h : AH) : Option ω :=
  Bool.rec (gen.run cx l fr h) (newH h (.cells true [x]) fun i h' => j (.slice i 0 1 (.is 1)) cx l fr h') (cellE x)

/-- An operation made ready. -/
noncomputable def mkOp (T : F.Tb) (o : Op) (acc : Operand → XA) (j : JF ω) : I ω :=
  match o with
  | .move x => XA.rec (fun xf => ⟨fun cx l fr h => j (xf l fr) cx l fr h⟩) (acc x)
  | .assign x => XA.rec (fun xf => ⟨fun cx l fr h => j (xf l fr) cx l fr h⟩) (acc x)
  | .binOp op t x y u => match T.underlying t with
    | some (.int _) => match fastBin op with
      | some b => B2.rec (fun f => in2 (acc x) (acc y) (arith2 f) j) b
      | none => match fastShift op with
        | some b => B2.rec (fun f => in2 (acc x) (acc y) (shift2 f) j) b
        | none => on2 (acc x) (acc y) (fun a b h => ok1 h (F.binOpA T op t a b)) j
    | _ => on2 (acc x) (acc y) (fun a b h => ok1 h (F.binOpA T op t a b)) j
  | .load t x => match F.isAggT T t with
    | some false => in1 (acc x) loadS j
    | some true => match F.sizeT T t with
      | some n => in1 (acc x) (loadM n) j
      | none => I.no
    | none => I.no
  | .store t x y => match F.sizeT T t with
    | some 1 => in2 (acc x) (acc y) (fun a v => storeS a v (on2 (acc x) (acc y) (storeG T t) j)) j
    | _ => on2 (acc x) (acc y) (storeG T t) j
  | .fieldAddr t x f => match T.underlying t with
    | some (.struct fields) => match fields.toList[f]? with
      | some fd => match F.sizeT T fd.type with
        | some (_ + 1) => in1 (acc x) (fieldP fd.offset) j
        | _ => I.no
      | none => I.no
    | _ => I.no
  | .indexAddr t x i => match T.underlying t with
    | some (.slice elem) => match F.sizeT T elem with
      | some sz => in2 (acc x) (acc i) (indexS sz) j
      | none => I.no
    | some (.array len elem) => match F.sizeT T elem with
      | some sz => in2 (acc x) (acc i) (indexR len sz) j
      | none => I.no
    | _ => I.no
  | .convert s d x => match F.isSliceT T d, T.underlying s, T.underlying d with
    | false, some _, some (.int k) => in1 (acc x) (convI k) j
    | _, _, _ => on1 (acc x) (convG T s d) j
  | .pick c x y => XA.rec (fun cf => XA.rec (fun xf => XA.rec (fun yf => ⟨fun cx l fr h => pickV (cf l fr) (xf l fr) (yf l fr) j cx l fr h⟩) (acc y)) (acc x)) (acc c)
  | .nilCheck x => in1 (acc x) checkN j
  | .extract x i => in1 (acc x) (extractT i) j
  | .unOp .not t x => in1 (acc x) notV j
  | .alloc t => match F.zeroT T t with
    | some z => ⟨fun cx l fr h => allocV z j cx l fr h⟩
    | none => I.no
  | .box t x => in1 (acc x) (fun v => boxV v (on1 (acc x) boxG j)) j
  | .call { callee := .builtin .len, args, argTypes } => match args.toList, argTypes.toList with
    | [x], [t] => match T.underlying t with
      | some (.slice _) => in1 (acc x) lenS j
      | _ => onL (la acc args.toList) (F.builtinA T .len argTypes.toList) j
    | _, _ => onL (la acc args.toList) (F.builtinA T .len argTypes.toList) j
  | .call { callee := .builtin .append, args, argTypes } => match args.toList, argTypes.toList with
    | [s, x], [ts, tx] => match T.underlying ts with
      | some (.slice elem) => match T.info? elem, F.zeroT T elem, F.isIntT T tx with
        | some info, some z, false => match Nat.beq z.length info.size, Nat.blt 0 info.size, Nat.blt 0 info.bytes with
          | true, true, true => in2 (acc s) (acc x) (appV info.size info.bytes (on2 (acc s) (acc x) (F.appendA T ts tx) j)) j
          | _, _, _ => I.no
        | _, _, _ => on2 (acc s) (acc x) (F.appendA T ts tx) j
      | _ => I.no
    | _, _ => onL (la acc args.toList) (F.builtinA T .append argTypes.toList) j
  | .call { callee := .builtin b, args, argTypes } => onL (la acc args.toList) (F.builtinA T b argTypes.toList) j
  | .buildSlice t len parts => match T.underlying t, len, parts.toList with
    | some (.slice elem), 1, [(0, x)] => match F.sizeT T elem, F.zeroT T elem with
      | some 1, some [_] => in1 (acc x) (oneV (onL (la acc [x]) (fun vs h => newB h (F.buildSliceA T t 1 (zipP [(0, x)] vs))) j)) j
      | _, _ => onL (la acc [x]) (fun vs h => newB h (F.buildSliceA T t 1 (zipP [(0, x)] vs))) j
    | _, _, ps => onL (la acc (ps.map (·.2))) (fun vs h => newB h (F.buildSliceA T t len (zipP ps vs))) j
  | .build t parts => onL (la acc (parts.toList.map (·.2))) (fun vs h => ok1 h (F.buildA T t (zipP parts.toList vs))) j
  | .slice t x lo hi mx => onS (acc x) (oa acc lo) (oa acc hi) (oa acc mx) (fun a b c d h => ok1 h (F.sliceA T t a b c d)) j
  | .field t x f => on1 (acc x) (fun a h => ok1 h (F.fieldA T t a f)) j
  | .index t x i => on2 (acc x) (acc i) (fun a b h => ok1 h (F.indexA T t a b)) j
  | .lookup t x k ok => on2 (acc x) (acc k) (fun a b h => ok1 h (F.lookupA T t a b ok h)) j
  | .makeSlice t x y => on2 (acc x) (acc y) (fun a b h => newB h (F.makeSliceA T t a b)) j
  | .next x s => on1 (acc x) (fun a h => nextA a s h) j
  | .range t x => on1 (acc x) (fun a h => F.rangeA T t a h) j
  | .entry x => on1 (acc x) (fun a h => ok1 h (entryA a h)) j
  | .unOp op t x => on1 (acc x) (fun a h => ok1 h (unOpA op a)) j
  | .sliceToArrayPointer t x => on1 (acc x) (fun a h => ptrG T t a h) j
  | .makeInterface t x => match T.underlying t with
    | some (.interface _) => I.no
    | some _ => on1 (acc x) (fun a h => some (.iface t a, h)) j
    | none => I.no
  | .makeFunc (.func f) first cap => onLL (la acc first.toList) (la acc cap.toList) (fun a b h => some (.fn f a b, h)) j
  | .makeMap t none => match T.underlying t with
    | some (.map _ _) => ⟨fun cx l fr h => newH h (.map [] 0) fun i h' => j (.map i) cx l fr h'⟩
    | _ => I.no
  | .makeMap t (some x) => match T.underlying t with
    | some (.map _ _) => on1 (acc x) mapG j
    | _ => I.no
  | .mapUpdate t m k v => onL (la acc [m, k, v]) (map3G T t) j
  | .insert t m k v => onL (la acc [m, k, v]) (map3G T t) j
  | _ => I.no

/-- A call. -/
noncomputable def mkCall (f : Operand) (args : List Operand) (acc : Operand → XA) (j : JF ω) : I ω :=
  match f with
  | .func g => LA.rec (fun lf => ⟨fun cx l fr h => Cx.call cx g (lf l fr) h fun v h' => j v cx l fr h'⟩) (la acc args)
  | f => ⟨fun cx l fr h => fnE ((acc f).run l fr) fun g first cap => Cx.call cx g (first ++ (la acc args).run l fr ++ cap) h fun v h' => j v cx l fr h'⟩

/-- A call that is put off. -/
noncomputable def mkDefer (f : Operand) (args : List Operand) (acc : Operand → XA) (j : JF ω) : I ω :=
  ⟨fun cx l fr h => fnE ((acc f).run l fr) fun g first cap => match fr with
    | ⟨a0, a1, a2, a3, b0, b1, b2, c, ds⟩ => j .undef cx l ⟨a0, a1, a2, a3, b0, b1, b2, c, (g, first ++ (la acc args).run l fr ++ cap) :: ds⟩ h⟩

noncomputable def mkOper (T : F.Tb) (o : Op) (acc : Operand → XA) (j : JF ω) : I ω :=
  match o with
  | .call { callee := .value f, args, .. } => mkCall f args.toList acc j
  | .defer { callee := .value f, args, .. } => mkDefer f args.toList acc j
  | o => mkOp T o acc j

/-! ### regions -/

/-- Where a region's own temporary is found: at a place of the region's list, or it is another operand. -/
inductive Src where
  | loc (i : Nat)
  | as (x : Operand)

def findS (t : Nat) : List (Nat × Src) → Option Src
  | [] => none
  | (u, s) :: r => match Nat.beq t u with | true => some s | false => findS t r

def posIn (t : Nat) : List Nat → Nat → Option Nat
  | [], _ => none
  | u :: r, i => match Nat.beq t u with | true => some i | false => posIn t r (i + 1)

/-- Where a temporary of the frame stands. -/
def slotOf (env : List Nat) (t : Nat) : Option Sl :=
  match posIn t env 0 with
  | some i => slotNo i
  | none => none

noncomputable def baseX (env : List Nat) (x : Operand) : Option XA :=
  match x with
  | .tmp t => match Nat.blt t 512 with
    | true => match slotOf env t with | some s => some (getX s) | none => none
    | false => none
  | .const v => some ⟨fun _ _ => constOf v⟩
  | .global g => match Nat.blt g gMax with
    | true => some ⟨fun _ _ => .ptr (Id.ofNat g) 0⟩
    | false => some ⟨fun _ _ => .top⟩
  | .func f => some ⟨fun _ _ => .fn f [] []⟩

/-- A reader of an operand. -/
noncomputable def resolve (env : List Nat) (names : List (Nat × Src)) (depth : Nat) (x : Operand) : Option XA :=
  match x with
  | .tmp t => match findS t names with
    | some (.loc i) => match Nat.blt i depth, Nat.blt t 512 with
      | true, true => some (locX (depth - 1 - i))
      | _, _ => none
    | some (.as y) => baseX env y
    | none => baseX env (.tmp t)
  | x => baseX env x

noncomputable def accOf (env : List Nat) (names : List (Nat × Src)) (depth : Nat) (x : Operand) : XA :=
  match resolve env names depth x with
  | some a => a
  | none => ⟨fun _ _ => .top⟩

noncomputable def allRes (env : List Nat) (names : List (Nat × Src)) (depth : Nat) : List Operand → Bool
  | [] => true
  | x :: xs => match resolve env names depth x with | some _ => allRes env names depth xs | none => false

def notDst (t : Nat) : List Oper → Bool
  | [] => true
  | o :: os => match o.dst with
    | some u => match Nat.beq t u with | true => false | false => notDst t os
    | none => notDst t os

/-- Of a move into a temporary of the region alone: what it is another name of. -/
def aliasOf (env : List Nat) (names : List (Nat × Src)) (op : Op) (rest : List Oper) : Option Src :=
  let go (x : Operand) : Option Src := match x with
    | .tmp t => match findS t names with
      | some (.loc i) => some (.loc i)
      | some (.as (.tmp u)) => match notDst u rest with | true => some (.as (.tmp u)) | false => none
      | some (.as y) => some (.as y)
      | none => match slotOf env t, notDst t rest with
        | some _, true => some (.as (.tmp t))
        | _, _ => none
    | x => some (.as x)
  match op with
  | .move x => go x
  | .assign x => go x
  | _ => none

/-- What is done with a value. -/
inductive Dst where
  | drop
  | keep (t : Nat)
  | frame (s : Sl)
  | bad

def dstOf (env : List Nat) (n : Nat) (d : Option Nat) : Dst :=
  match d with
  | none => .drop
  | some t => match Nat.blt t n with
    | true => match posIn t env 0 with
      | some i => match slotNo i with | some s => .frame s | none => .bad
      | none => .keep t
    | false => .bad

structure J (ω : Type) where
  f : JF ω

noncomputable def mkJ (d : Dst) (next : I ω) : J ω :=
  match d with
  | .drop => ⟨fun _ cx l fr h => next.run cx l fr h⟩
  | .keep _ => ⟨fun v cx l fr h => next.run cx (v :: l) fr h⟩
  | .frame s => XS.rec (fun g => ⟨fun v cx l fr h => next.run cx l (g v fr) h⟩) (setX s)
  | .bad => ⟨fun _ _ _ _ _ => none⟩

noncomputable def guarded (g : XA) (want : Bool) (exec : I ω) (j : JF ω) : I ω :=
  XA.rec (fun gf => match want with
    | true => ⟨fun cx l fr h => gE (gf l fr) (fun b => Bool.rec (j .undef cx l fr h) (exec.run cx l fr h) b) (j .undef cx l fr h)⟩
    | false => ⟨fun cx l fr h => gE (gf l fr) (fun b => Bool.rec (exec.run cx l fr h) (j .undef cx l fr h) b) (j .undef cx l fr h)⟩) g

noncomputable def cregion (T : F.Tb) (n : Nat) (env : List Nat) (ops : List Oper) (next : I ω) : List Oper → List (Nat × Src) → Nat → I ω
  | [], _, _ => next
  | o :: os, names, depth =>
    match dstOf env n o.dst with
    | .bad => I.no
    | .keep t => match o.guard, aliasOf env names o.op os with
      | none, some s => cregion T n env ops next os ((t, s) :: names) depth
      | _, _ => match allRes env names depth o.op.operands.toList, guardOf ops o with
        | true, some none => J.rec (fun j => mkOper T o.op (accOf env names depth) j) (mkJ (.keep t) (cregion T n env ops next os ((t, .loc depth) :: names) (depth + 1)))
        | true, some (some (g, want)) => match resolve env names depth (.tmp g) with
          | some gx => J.rec (fun j => guarded gx want (mkOper T o.op (accOf env names depth) j) j) (mkJ (.keep t) (cregion T n env ops next os ((t, .loc depth) :: names) (depth + 1)))
          | none => I.no
        | _, _ => I.no
    | d => match allRes env names depth o.op.operands.toList, guardOf ops o with
      | true, some none => J.rec (fun j => mkOper T o.op (accOf env names depth) j) (mkJ d (cregion T n env ops next os names depth))
      | true, some (some (g, want)) => match resolve env names depth (.tmp g) with
        | some gx => J.rec (fun j => guarded gx want (mkOper T o.op (accOf env names depth) j) j) (mkJ d (cregion T n env ops next os names depth))
        | none => I.no
      | _, _ => I.no

/-! a region whose order is drawn -/

def operandTmps : List Operand → List Nat
  | [] => []
  | .tmp t :: xs => t :: operandTmps xs
  | _ :: xs => operandTmps xs

def hasT (t : Nat) : List Nat → Bool
  | [] => false
  | u :: r => match Nat.beq t u with | true => true | false => hasT t r

/-- The frame's temporaries that a region reads. -/
def readsOf (env : List Nat) : List Oper → List Nat → List Nat
  | [], acc => acc
  | o :: os, acc => readsOf env os ((operandTmps o.op.operands.toList).foldl (fun acc t => match hasT t acc with | true => acc | false => match slotOf env t with | some _ => t :: acc | none => acc) acc)

structure EB where
  run : Fr → Env

noncomputable def envB (env : List Nat) : List Nat → EB
  | [] => ⟨fun _ => Env.empty⟩
  | t :: ts => match slotOf env t with
    | some s => EB.rec (fun f => XA.rec (fun g => ⟨fun fr => Env.set (f fr) t (g [] fr)⟩) (getX s)) (envB env ts)
    | none => envB env ts

structure UB where
  run : Env → Fr → Fr

noncomputable def updB (env : List Nat) : List Oper → UB
  | [] => ⟨fun _ fr => fr⟩
  | o :: os => match o.dst with
    | some t => match slotOf env t with
      | some s => UB.rec (fun f => XS.rec (fun g => ⟨fun e fr => f e (g (Env.get e t) fr)⟩) (setX s)) (updB env os)
      | none => updB env os
    | none => updB env os

/-- Does each step of a plan read what is known by then? -/
def known (ops : List Oper) : List Step → List Nat → Bool
  | [], _ => true
  | s :: ss, A => match (operandTmps s.op.op.operands.toList).all (fun t => hasT t A), guardOf ops s.op with
    | true, some none => known ops ss (match s.op.dst with | some t => t :: A | none => A)
    | true, some (some (g, _)) => match hasT g A with
      | true => known ops ss (match s.op.dst with | some t => t :: A | none => A)
      | false => false
    | _, _ => false

def readsOk (env : List Nat) : List Nat → Bool
  | [] => true
  | t :: ts => match slotOf env t, Nat.blt t 512 with
    | some _, true => readsOk env ts
    | _, _ => false

/-- A plan, unchecked. -/
noncomputable def planX (T : F.Tb) (ops : List Oper) : List Step :=
  planGo ops.length (F.allSteps T (masks ops 0 (N8.all (N8.all (N8.all 0)))) ops 0) 0

/-- Is it known in itself (neither unknown nor made of other values)? -/
noncomputable def tame (x : AV) : Bool :=
  @AV.rec (fun _ => Bool) (fun _ => Unit)
    false (fun _ => true) (fun _ _ => true) (fun _ => true) true (fun _ _ => true) true (fun _ _ _ _ => true)
    true (fun _ => true) true (fun _ _ _ _ _ => false) true (fun _ _ _ => false) (fun _ _ => false) (fun _ _ => false) () (fun _ _ _ _ => ()) x

/-- Behind a call that turns nothing: what was read stays read. -/
noncomputable def calm (pre : Nat) : List Seen → Option (List Seen)
  | [] => some []
  | s :: ss => match bit pre s.i with
    | true => calm pre ss
    | false => match tame s.val, calm pre ss with
      | true, some l => some (s :: l)
      | _, _ => none

/-- Is it a call of a function that turns nothing? -/
def calmOp (pq : Nat → Bool) : Op → Bool
  | .call { callee := .value (.func f), .. } => pq f
  | _ => false

def isNilM : List Made → Bool
  | [] => true
  | _ => false

noncomputable def calmAt (pq : Nat → Bool) (o : Op) (us : List Made) (pre : Nat) (rs : List Seen) : Option (List Seen) :=
  match calmOp pq o, isNilM us with
  | true, true => calm pre rs
  | _, _ => none

/-- A drawn region's steps; behind calls that turn nothing, nothing is read again. -/
noncomputable def stepsQ (T : F.Tb) (pq : Nat → Bool) (call : CallH ω) (n : Nat) (ops : List Oper) : List Step → AF → AH → List Made → List Seen → (AF → AH → Option ω) → Option ω
  | [], a, h, us, _, k => k a (commitAll us h)
  | s :: ss, a, h, us, rs, k => match wantedA ops s.op a with
    | none => none
    | some false => a.put n s.op.dst .undef fun a' => stepsQ T pq call n ops ss a' h us rs k
    | some true => match s.kind with
      | .act => match calmAt pq s.op.op us s.pre rs with
        | some rs' => F.operV T call s.op.op a.env h fun v h' => a.put n s.op.dst v fun a' => stepsQ T pq call n ops ss a' h' [] rs' k
        | none => match commit s.pre us h with
          | (h1, us') => F.operV T call s.op.op a.env h1 fun v h' => match F.steady T s.pre h' rs with
            | some rs' => a.put n s.op.dst v fun a' => stepsQ T pq call n ops ss a' h' us' rs' k
            | none => none
      | .read => match F.opA T s.op.op a.env h with
        | some (v, _) => a.put n s.op.dst v fun a' => stepsQ T pq call n ops ss a' h us (⟨s.i, s.op.op, a.env, v⟩ :: rs) k
        | none => none
      | .pure => match F.opA T s.op.op a.env h with
        | some (v, _) => a.put n s.op.dst v fun a' => stepsQ T pq call n ops ss a' h us rs k
        | none => none
      | .make => match F.makeA T s.op.op a.env with
        | some (b, mk) => match h.spare with
          | some (i, h') => a.put n s.op.dst (mk i) fun a' => stepsQ T pq call n ops ss a' h' (⟨s.i, i, b⟩ :: us) rs k
          | none => none
        | none => none

noncomputable def cdrawn (T : F.Tb) (pq : Nat → Bool) (n : Nat) (env : List Nat) (ops : List Oper) (next : I ω) : I ω :=
  match known ops (planX T ops) (readsOf env ops []), readsOk env (readsOf env ops []) with
  | true, true => EB.rec (fun eb => UB.rec (fun ub => ⟨fun cx l fr h => stepsQ T pq (Cx.call cx) n ops (planX T ops) ⟨eb fr, fr.ds⟩ h [] [] fun a' h' => next.run cx l (ub a'.env fr) h'⟩) (updB env ((planX T ops).map Step.op))) (envB env (readsOf env ops []))
  | _, _ => I.no

/-! ### code -/

noncomputable def loopI (body : I ω) (r : Nat) : Cx ω → Fr → AH → Option ω :=
  Nat.rec (fun _ _ _ => none) (fun _ ih cx fr h => body.run (.loop (Cx.call cx) (Cx.k cx) (ih cx) cx) [] fr h) r

noncomputable def backI : I ω := ⟨fun cx _ fr h => Cx.again cx fr h⟩

structure Ex (ω : Type) where
  id : Nat
  to : I ω
  ups : Nat

noncomputable def upX (m : Nat) (cx : Cx ω) : Cx ω := Nat.rec (fun cx => cx) (fun _ ih cx => ih (Cx.up cx)) m cx

def findX (id : Nat) : List (Ex ω) → Option (Ex ω)
  | [] => none
  | x :: xs => match Nat.beq id x.id with | true => some x | false => findX id xs

def deeper : List (Ex ω) → List (Ex ω)
  | [] => []
  | x :: xs => ⟨x.id, x.to, x.ups + 1⟩ :: deeper xs

noncomputable def ccode (T : F.Tb) (pq : Nat → Bool) (rounds n : Nat) (env : List Nat) (ret : I ω) : Code → List (Ex ω) → I ω → I ω
  | .skip, _, next => next
  | .label _, _, next => next
  | .region _ ops draw, _, next => match draw with
    | false => cregion T n env ops.toList next ops.toList [] 0
    | true => cdrawn T pq n env ops.toList next
  | .seq x y, ex, next => ccode T pq rounds n env ret x ex (ccode T pq rounds n env ret y ex next)
  | .cond c x y, ex, next => match baseX env c with
    | some xa => XA.rec (fun f => ⟨fun cx l fr h => boolE (f l fr) fun b => Bool.rec ((ccode T pq rounds n env ret y ex next).run cx l fr h) ((ccode T pq rounds n env ret x ex next).run cx l fr h) b⟩) xa
    | none => I.no
  | .block id c, ex, next => ccode T pq rounds n env ret c (⟨id, next, 0⟩ :: ex) next
  | .loop c, ex, _ => ⟨fun cx _ fr h => loopI (ccode T pq rounds n env ret c (deeper ex) backI) rounds cx fr h⟩
  | .exit id, ex, _ => match findX id ex with
    | some ⟨_, to, m⟩ => ⟨fun cx _ fr h => to.run (upX m cx) [] fr h⟩
    | none => I.no
  | .ret, _, _ => ret
  | .scope c, ex, next => ccode T pq rounds n env ret c ex next
  | _, _, _ => I.no

/-! which temporaries the frame holds -/

def setB (m t : Nat) : Nat := Nat.lor m (Nat.shiftLeft 1 t)
def hasB (m t : Nat) : Bool := Nat.testBit m t

def useOps : List Operand → Nat → Nat → Nat
  | [], _, m => m
  | .tmp t :: xs, d, m => useOps xs d (match hasB d t with | true => m | false => setB m t)
  | _ :: xs, d, m => useOps xs d m

def useReg (ops : List Oper) : List Oper → Nat → Nat → Nat
  | [], _, m => m
  | o :: os, d, m =>
    let m1 := useOps o.op.operands.toList d m
    let m2 := match guardOf ops o with
      | some (some (g, _)) => match hasB d g with | true => m1 | false => setB m1 g
      | _ => m1
    useReg ops os (match o.dst with | some t => setB d t | none => d) m2

def useCode : Code → Nat → Nat
  | .region _ ops _, m => useReg ops.toList ops.toList 0 m
  | .seq x y, m => useCode y (useCode x m)
  | .cond c x y, m => useCode y (useCode x (useOps [c] 0 m))
  | .block _ c, m => useCode c m
  | .loop c, m => useCode c m
  | .scope c, m => useCode c m
  | _, m => m

def useRes : List ResultVar → Nat → Nat
  | [], m => m
  | .tmp t :: rs, m => useRes rs (setB m t)
  | .cell t _ :: rs, m => useRes rs (setB m t)

def bitsOf (m : Nat) : Nat → List Nat → List Nat
  | 0, acc => acc
  | n + 1, acc => bitsOf m n (match hasB m n with | true => n :: acc | false => acc)

def envOf (fn : Func) (c : Code) : List Nat := bitsOf (useRes fn.results.toList (useCode c 0)) fn.ntmps []

/-! ### functions -/

structure FO (ω : Type) where
  run : CallH ω → List AV → AH → KV ω → Option ω

structure IA (ω : Type) where
  run : List AV → Fr → (Fr → Option ω) → Option ω

/-- The arguments, into the frame. -/
noncomputable def initA (env : List Nat) : Nat → Nat → IA ω
  | 0, _ => ⟨fun args fr f => List.rec (fun f => f fr) (fun _ _ _ _ => none) args f⟩
  | p + 1, i => IA.rec (fun next => match slotOf env i with
    | some s => XS.rec (fun g => ⟨fun args fr f => List.rec (f fr) (fun v tl _ => next tl (g v fr) f) args⟩) (setX s)
    | none => ⟨fun args fr f => List.rec (f fr) (fun _ tl _ => next tl fr f) args⟩) (initA env p (i + 1))

noncomputable def fr0 : Fr := ⟨.undef, .undef, .undef, .undef, N8.all .undef, N8.all .undef, N8.all .undef, N8.all (N8.all .undef), []⟩

structure RX (ω : Type) where
  run : Fr → AH → (List AV → Option ω) → Option ω

noncomputable def resX (T : F.Tb) (env : List Nat) : List ResultVar → RX ω
  | [] => ⟨fun _ _ f => f []⟩
  | .tmp t :: rs => match baseX env (.tmp t) with
    | some xa => XA.rec (fun g => RX.rec (fun r => ⟨fun fr h f => r fr h fun l => f (g [] fr :: l)⟩) (resX T env rs)) xa
    | none => ⟨fun _ _ _ => none⟩
  | .cell a t :: rs => match baseX env (.tmp a) with
    | some xa => XA.rec (fun g => RX.rec (fun r => ⟨fun fr h f => r fr h fun l => ptrE (g [] fr) fun b o => match F.loadV T t h b o with
      | some v => f (v :: l)
      | none => none⟩) (resX T env rs)) xa
    | none => ⟨fun _ _ _ => none⟩

noncomputable def leaveI (flat : Nat → FO ω) (call : CallH ω) : List (Nat × List AV) → AH → (AH → Option ω) → Option ω
  | [], h, k => k h
  | (f, args) :: ds, h, k => (flat f).run call args h fun _ h' => leaveI flat call ds h' k

/-- The end of a function. -/
noncomputable def retI (T : F.Tb) (env : List Nat) (late : Option (Nat → FO ω)) (rs : List ResultVar) : I ω :=
  RX.rec (fun r => ⟨fun cx _ fr h => match fr.ds with
    | [] => r fr h fun l => Cx.k cx (oneOrTup l) h
    | ds => match late with
      | some flat => leaveI flat (Cx.call cx) ds h fun h2 => r fr h2 fun l => Cx.k cx (oneOrTup l) h2
      | none => none⟩) (resX T env rs)

noncomputable def cfunOf (T : F.Tb) (pq : Nat → Bool) (rounds : Nat) (late : Option (Nat → FO ω)) (fn : Func) (c : Code) (env : List Nat) : FO ω :=
  IA.rec (fun ini => I.rec (fun body => ⟨fun call args h k => ini args fr0 fun fr => body (.top call k) [] fr h⟩) (ccode T pq rounds fn.ntmps env (retI T env late fn.results.toList) c [] (retI T env late fn.results.toList)))
    (initA env (fn.params.size + fn.nfree) 0)

noncomputable def cfun (T : F.Tb) (pq : Nat → Bool) (rounds : Nat) (late : Option (Nat → FO ω)) (fn : Func) : FO ω :=
  match fn.body, Nat.ble fn.ntmps 512, Nat.ble (fn.params.size + fn.nfree) fn.ntmps with
  | some c, true, true => cfunOf T pq rounds late fn c (envOf fn c)
  | _, _, _ => ⟨fun _ _ _ _ => none⟩

/-- The machine's own: which functions it may enter (their plans are looked at once, elsewhere), of which something is known otherwise, and which of these turn nothing. -/
structure Cfg where
  mask : Nat
  kn : Nat → Bool
  pq : Nat → Bool

def Cfg.may (c : Cfg) (f : Nat) : Bool := Nat.beq (Nat.land (Nat.shiftRight c.mask f) 1) 1

noncomputable def flatF (T : F.Tb) (cf : Cfg) (rounds : Nat) (f : Nat) : FO ω :=
  match cf.may f, T.func f with
  | true, some fn => cfun T cf.pq rounds none fn
  | _, _ => ⟨fun _ _ _ _ => none⟩

noncomputable def codeF (T : F.Tb) (cf : Cfg) (rounds : Nat) (f : Nat) : FO ω :=
  match cf.may f, T.func f with
  | true, some fn => cfun T cf.pq rounds (some (flatF T cf rounds)) fn
  | _, _ => ⟨fun _ _ _ _ => none⟩

/-- What is known of a call, or else the function's code. -/
noncomputable def lookF (T : F.Tb) (K : Known) (cf : Cfg) (rounds : Nat) (f : Nat) : FO ω :=
  match cf.pq f, cf.kn f with
  | true, _ => ⟨fun _ args h k => optE (K f args h) k⟩
  | false, true => ⟨fun call args h k => Option.rec ((codeF T cf rounds f).run call args h k) (fun p => Prod.rec k p) (K f args h)⟩
  | false, false => codeF T cf rounds f

noncomputable def evFun (T : F.Tb) (K : Known) (cf : Cfg) (rounds d : Nat) : CallH ω :=
  Nat.rec (fun _ _ _ _ => none) (fun _ ih f args h k => (lookF T K cf rounds f).run ih args h k) d

/-! plans looked at -/

noncomputable def plansC (T : F.Tb) : Code → Bool
  | .region _ ops true => match F.planOf T ops.toList with | some _ => true | none => false
  | .seq x y => match plansC T x with | true => plansC T y | false => false
  | .cond _ x y => match plansC T x with | true => plansC T y | false => false
  | .block _ c => plansC T c
  | .loop c => plansC T c
  | .scope c => plansC T c
  | _ => true

noncomputable def plansF (T : F.Tb) (f : Nat) : Bool :=
  match T.func f with
  | some fn => match fn.body with
    | some c => plansC T c
    | none => true
  | none => true

/-- Of each function below n that the mask names: are its plans in order? -/
noncomputable def plansUpTo (T : F.Tb) (cf : Cfg) : Nat → Bool
  | 0 => true
  | n + 1 => match cf.may n with
    | true => match plansF T n with | true => plansUpTo T cf n | false => false
    | false => plansUpTo T cf n

end Go.Ab.E

namespace Go.Ab
variable {ω : Type} (P : Program)
theorem fast_partV : F.partV (F.tb P) = partV P := rfl
theorem fast_eqFields : F.eqFields (F.tb P) = eqFields P := by kernel_rfl
theorem fast_eqElems : F.eqElems (F.tb P) = eqElems P := by kernel_rfl
theorem fast_eqV : F.eqV (F.tb P) = eqV P := by kernel_rfl
theorem fast_isAggT : F.isAggT (F.tb P) = isAggT P := rfl
theorem fast_sizeT : F.sizeT (F.tb P) = sizeT P := rfl
theorem fast_zeroT : F.zeroT (F.tb P) = zeroT P := rfl
theorem fast_zeroV : F.zeroV (F.tb P) = zeroV P := rfl
theorem fast_loadV : F.loadV (F.tb P) = loadV P := rfl
theorem fast_storeV : F.storeV (F.tb P) = storeV P := rfl
theorem fast_placesT : F.placesT (F.tb P) = placesT P := by kernel_rfl
theorem fast_allSized : F.allSized (F.tb P) = allSized P := rfl
theorem fast_buildA : F.buildA (F.tb P) = buildA P := by kernel_rfl
theorem fast_buildSliceA : F.buildSliceA (F.tb P) = buildSliceA P := rfl
theorem fast_sliceA : F.sliceA (F.tb P) = sliceA P := rfl
theorem fast_fieldAddrA : F.fieldAddrA (F.tb P) = fieldAddrA P := rfl
theorem fast_fieldA : F.fieldA (F.tb P) = fieldA P := rfl
theorem fast_indexAddrA : F.indexAddrA (F.tb P) = indexAddrA P := rfl
theorem fast_indexA : F.indexA (F.tb P) = indexA P := rfl
theorem fast_lookupA : F.lookupA (F.tb P) = lookupA P := rfl
theorem fast_mapUpdateA : F.mapUpdateA (F.tb P) = mapUpdateA P := rfl
theorem fast_deleteA : F.deleteA (F.tb P) = deleteA P := rfl
theorem fast_lenA : F.lenA (F.tb P) = lenA P := rfl
theorem fast_capA : F.capA (F.tb P) = capA P := rfl
theorem fast_isIntT : F.isIntT (F.tb P) = isIntT P := rfl
theorem fast_appSrc : F.appSrc (F.tb P) = appSrc P := rfl
theorem fast_appendA : F.appendA (F.tb P) = appendA P := rfl
theorem fast_copyA : F.copyA (F.tb P) = copyA P := rfl
theorem fast_toBytesA : F.toBytesA (F.tb P) = toBytesA P := rfl
theorem fast_convertA : F.convertA (F.tb P) = convertA P := rfl
theorem fast_makeSliceA : F.makeSliceA (F.tb P) = makeSliceA P := rfl
theorem fast_rangeA : F.rangeA (F.tb P) = rangeA P := rfl
theorem fast_binOpA : F.binOpA (F.tb P) = binOpA P := by kernel_rfl
theorem fast_zeroCellsA : F.zeroCellsA (F.tb P) = zeroCellsA P := rfl
theorem fast_clearA : F.clearA (F.tb P) = clearA P := rfl
theorem fast_builtinA : F.builtinA (F.tb P) = builtinA P := rfl
theorem fast_isSliceT : F.isSliceT (F.tb P) = isSliceT P := rfl
theorem fast_sameSliceA : F.sameSliceA (F.tb P) = sameSliceA P := rfl
theorem fast_makeA : F.makeA (F.tb P) = makeA P := rfl
theorem fast_opA : F.opA (F.tb P) = opA P := by kernel_rfl
theorem fast_kindOf : F.kindOf (F.tb P) = kindOf P := rfl
theorem fast_stepOf : F.stepOf (F.tb P) = stepOf P := rfl
theorem fast_allSteps : F.allSteps (F.tb P) = allSteps P := by kernel_rfl
theorem fast_planOf : F.planOf (F.tb P) = planOf P := by kernel_rfl
theorem fast_operV : F.operV (ω := ω) (F.tb P) = operV (ω := ω) P := by kernel_rfl
theorem fast_operA : F.operA (ω := ω) (F.tb P) = operA (ω := ω) P := by kernel_rfl
theorem fast_opersA : F.opersA (ω := ω) (F.tb P) = opersA (ω := ω) P := by kernel_rfl
theorem fast_steady : F.steady (F.tb P) = steady P := by kernel_rfl
theorem fast_stepsA : F.stepsA (ω := ω) (F.tb P) = stepsA (ω := ω) P := by kernel_rfl
theorem fast_evCode : F.evCode (ω := ω) (F.tb P) = evCode (ω := ω) P := by kernel_rfl
theorem fast_resultsA : F.resultsA (F.tb P) = resultsA P := by kernel_rfl
theorem fast_bodyA : F.bodyA (ω := ω) (F.tb P) = bodyA (ω := ω) P := by kernel_rfl
theorem fast_giveA : F.giveA (ω := ω) (F.tb P) = giveA (ω := ω) P := by kernel_rfl
theorem fast_flatA : F.flatA (ω := ω) (F.tb P) = flatA (ω := ω) P := by kernel_rfl
theorem fast_evBody : F.evBody (ω := ω) (F.tb P) = evBody (ω := ω) P := by kernel_rfl
theorem fast_evFun : F.evFun (ω := ω) (F.tb P) = evFun (ω := ω) P := by kernel_rfl
end Go.Ab
