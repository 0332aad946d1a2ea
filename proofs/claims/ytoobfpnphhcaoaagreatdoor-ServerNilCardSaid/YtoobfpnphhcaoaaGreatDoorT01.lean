import Derived.Test.YtoobfpnphhcaoaaGreatDoorT00
set_option linter.unusedVariables false
set_option linter.unusedSimpArgs false
namespace Go.Ab.F
open Go.Ab

/-- What the evaluator asks of a program. -/
structure Tb where
  underlying : Nat → Option TypeDesc
  info? : Nat → Option TypeInfo
  noEq : Nat → Bool
  stoodInHeld : Nat → Bool
  func : Nat → Option Func

/-- A program's own. -/
def tb (P : Program) : Tb := ⟨P.underlying, P.info?, P.eqGuardType P.depth, P.stoodInHeld, fun f => P.funcs[f]?⟩

variable {ω : Type}

def partV (P : Tb) (t : Nat) (cs : List AV) (off : Nat) : Option AV :=
  match P.info? t, P.underlying t with
  | some i, some (.struct _) => some (.agg ((cs.drop off).take i.size))
  | some i, some (.array _ _) => some (.agg ((cs.drop off).take i.size))
  | some _, some _ => (cs.drop off).head?
  | _, _ => none

def eqFields (P : Tb) (eq : Nat → AV → AV → Option Bool) : List Field → List AV → List AV → Option Bool
  | [], _, _ => some true
  | f :: fs, xs, ys =>
    if f.name ≠ "_" then
      match partV P f.type xs f.offset, partV P f.type ys f.offset with
      | some x, some y => andO (eq f.type x y) (eqFields P eq fs xs ys)
      | _, _ => none
    else eqFields P eq fs xs ys

def eqElems (P : Tb) (eq : Nat → AV → AV → Option Bool) (elem n : Nat) : Nat → Nat → List AV → List AV → Option Bool
  | 0, _, _, _ => some true
  | r + 1, i, xs, ys =>
    match partV P elem xs (i * n), partV P elem ys (i * n) with
    | some x, some y => andO (eq elem x y) (eqElems P eq elem n r (i + 1) xs ys)
    | _, _ => none

def eqV (P : Tb) : Nat → Nat → AV → AV → Option Bool
  | 0, _, _, _ => none
  | d + 1, t, x, y =>
    match P.underlying t, x, y with
    | some .bool, .bool a, .bool b => some (match a with | true => b | false => !b)
    | some (.int _), .int k a, .int k' b => match eqK k k' with | true => some (eqI a b) | false => none
    | some .string, .str a, .str b => some (eqL a b)
    | some (.pointer _), .nilptr, .nilptr => some true
    | some (.pointer _), .nilptr, .ptr _ _ => some false
    | some (.pointer _), .ptr _ _, .nilptr => some false
    | some (.slice _), .nilslice, .nilslice => some true
    | some (.slice _), .nilslice, .slice .. => some false
    | some (.slice _), .slice .., .nilslice => some false
    | some (.map _ _), .nilmap, .nilmap => some true
    | some (.map _ _), .nilmap, .map _ => some false
    | some (.map _ _), .map _, .nilmap => some false
    | some (.func _ _ _), .nilfn, .nilfn => some true
    | some (.func _ _ _), .nilfn, .fn .. => some false
    | some (.func _ _ _), .fn .., .nilfn => some false
    | some (.struct fields), .agg xs, .agg ys =>
      if P.stoodInHeld t then none else eqFields P (eqV P d) fields.toList xs ys
    | some (.array len elem), .agg xs, .agg ys =>
      match P.info? elem with
      | some i => eqElems P (eqV P d) elem i.size len 0 xs ys
      | none => none
    | _, _, _ => none

def isAggT (P : Tb) (t : Nat) : Option Bool :=
  match P.underlying t with
  | some (.struct _) => some true
  | some (.array _ _) => some true
  | some _ => some false
  | none => none

def sizeT (P : Tb) (t : Nat) : Option Nat := match P.info? t with | some i => some i.size | none => none

def zeroT (P : Tb) (t : Nat) : Option (List AV) :=
  match P.info? t with
  | some i => match i.zero with
    | some z => (constOf z).cellsOf
    | none => none
  | none => none

def zeroV (P : Tb) (t : Nat) : Option AV :=
  match P.info? t with
  | some i => match i.zero with
    | some z => some (constOf z)
    | none => none
  | none => none

def loadV (P : Tb) (t : Nat) (h : AH) (b : Id) (o : Nat) : Option AV :=
  match isAggT P t with
  | some true => match sizeT P t with
    | some n => match h.load b o n with
      | some l => some (.agg l)
      | none => none
    | none => none
  | some false => match h.load b o 1 with
    | some (v :: _) => some v
    | _ => none
  | none => none

def storeV (P : Tb) (t : Nat) (h : AH) (b : Id) (o : Nat) (v : AV) : Option AH :=
  match v.cellsOf, sizeT P t with
  | some cs, some n => match Nat.beq cs.length n with
    | true => h.store b o cs
    | false => none
  | _, _ => none

def placesT (P : Tb) : List Field → List (Nat × Nat)
  | [] => []
  | f :: fs => (f.offset, ((sizeT P f.type).getD 0)) :: placesT P fs

def allSized (P : Tb) (fs : List Field) : Bool := fs.all fun f => (P.info? f.type).isSome

def buildA (P : Tb) (t : Nat) (parts : List (Nat × AV)) : Option AV :=
  match zeroT P t, P.underlying t with
  | some z, some (.struct fields) =>
    match allSized P fields.toList with
    | true => match fillA (fun i => (placesT P fields.toList)[i]?) z parts with
      | some l => some (.agg l)
      | none => none
    | false => none
  | some z, some (.array _ elem) =>
    match sizeT P elem with
    | some n => match fillA (fun i => some (i * n, n)) z parts with
      | some l => some (.agg l)
      | none => none
    | none => none
  | _, _ => none

def buildSliceA (P : Tb) (t len : Nat) (parts : List (Nat × AV)) : Option (AB × (Id → AV)) :=
  match P.underlying t with
  | some (.slice elem) =>
    match sizeT P elem, zeroT P elem with
    | some n, some z =>
      match Nat.beq z.length n, Nat.ble (len * n) 16777216, Nat.blt 0 n with
      | true, true, true => match fillA (fun i => some (i * n, n)) (repl len z) parts with
        | some cs => some (.cells true cs, fun i => .slice i 0 len (.is len))
        | none => none
      | _, _, _ => none
    | _, _ => none
  | _ => none

def sliceA (P : Tb) (t : Nat) (x : AV) (lo hi mx : Option AV) : Option AV :=
  match P.underlying t, x with
  | some (.array n elem), .ptr b o =>
    match boundsA n (some n) lo hi mx, sizeT P elem with
    | some (l, h, some c), some sz => some (.slice b (pickN c l o (o + l * sz)) (h - l) (.is (c - l)))
    | _, _ => none
  | some .string, .str s =>
    match mx, boundsA s.length (some s.length) lo hi none with
    | none, some (l, h, _) => some (.str ((s.drop l).take (h - l)))
    | _, _ => none
  | some (.slice elem), .nilslice =>
    match boundsA 0 (some 0) lo hi mx, sizeT P elem with
    | some (0, 0, some 0), some _ => some .nilslice
    | _, _ => none
  | some (.slice elem), .slice b o len cap =>
    match boundsA len cap.known lo hi mx, sizeT P elem with
    | some (l, h, some c), some sz => some (.slice b (pickN c l o (o + l * sz)) (h - l) (.is (c - l)))
    | some (l, h, none), some sz => match cap with
      | .op sz' => match Nat.beq sz sz' with
        | true => some (.slice b (o + l * sz) (h - l) (.op sz))
        | false => none
      | .is _ => none
    | _, _ => none
  | _, _ => none

def fieldAddrA (P : Tb) (t : Nat) (x : AV) (i : Nat) : Option AV :=
  match P.underlying t, x with
  | some (.struct fields), .ptr b o => match fields.toList[i]? with
    | some f => match sizeT P f.type with
      | some (_ + 1) => some (.ptr b (o + f.offset))
      | _ => none
    | none => none
  | _, _ => none

def fieldA (P : Tb) (t : Nat) (x : AV) (i : Nat) : Option AV :=
  match P.underlying t, x with
  | some (.struct fields), .agg cs => match fields.toList[i]? with
    | some f => match isAggT P f.type, sizeT P f.type with
      | some true, some n => match getN cs f.offset n with
        | some l => some (.agg l)
        | none => none
      | some false, some _ => match getN cs f.offset 1 with
        | some (v :: _) => some v
        | _ => none
      | _, _ => none
    | none => none
  | _, _ => none

def indexAddrA (P : Tb) (t : Nat) (x ix : AV) : Option AV :=
  match natOf ix with
  | none => none
  | some i => match P.underlying t, x with
    | some (.array len elem), .ptr b o => match Nat.blt i len, sizeT P elem with
      | true, some sz => some (.ptr b (o + i * sz))
      | _, _ => none
    | some (.slice elem), .slice b o len _ => match Nat.blt i len, sizeT P elem with
      | true, some sz => some (.ptr b (o + i * sz))
      | _, _ => none
    | _, _ => none

def indexA (P : Tb) (t : Nat) (x ix : AV) : Option AV :=
  match natOf ix with
  | none => none
  | some i => match P.underlying t, x with
    | some (.array len elem), .agg cs => match Nat.blt i len, isAggT P elem, sizeT P elem with
      | true, some true, some n => match getN cs (i * n) n with
        | some l => some (.agg l)
        | none => none
      | true, some false, some n => match getN cs (i * n) 1 with
        | some (v :: _) => some v
        | _ => none
      | _, _, _ => none
    | some .string, .str s => match nthL s i with
      | some c => some (.int .u8 (.ofNat c))
      | none => none
    | _, _ => none

def lookupA (P : Tb) (t : Nat) (x k : AV) (commaOk : Bool) (h : AH) : Option AV :=
  match P.underlying t with
  | some (.map key elem) =>
    match P.underlying key with
    | some d => match fitsKey d k with
      | true =>
        let es := match x with
          | .nilmap => some []
          | .map r => match h.get r with | some (.map es _) => some es | _ => none
          | _ => none
        match es with
        | some es => match findE k es 0 with
          | some (some (_, v)) => some (pickB commaOk (.tup [v, .bool true]) v)
          | some none => match zeroV P elem with
            | some z => some (pickB commaOk (.tup [z, .bool false]) z)
            | none => none
          | none => none
        | none => none
      | false => none
    | none => none
  | _ => none

def mapUpdateA (P : Tb) (t : Nat) (x k v : AV) (h : AH) : Option AH :=
  match P.underlying t, x with
  | some (.map key _), .map r =>
    match P.underlying key with
    | some d => match fitsKey d k, h.get r with
      | true, some (.map es clock) => match findE k es 0 with
        | some (some (i, _)) => some (h.set r (some (.map (setAtE es i k v) clock)))
        | some none => some (h.set r (some (.map (es ++ [⟨k, v, clock⟩]) (clock + 1))))
        | none => none
      | _, _ => none
    | none => none
  | _, _ => none

def deleteA (P : Tb) (t : Nat) (x k : AV) (h : AH) : Option AH :=
  match P.underlying t, x with
  | some (.map key _), .nilmap =>
    match P.underlying key with
    | some d => match fitsKey d k with | true => some h | false => none
    | none => none
  | some (.map key _), .map r =>
    match P.underlying key with
    | some d => match fitsKey d k, h.get r with
      | true, some (.map es clock) => match findE k es 0 with
        | some (some (i, _)) => some (h.set r (some (.map (dropAtE es i) clock)))
        | some none => some h
        | none => none
      | _, _ => none
    | none => none
  | _, _ => none

def lenA (P : Tb) (t : Nat) (x : AV) (h : AH) : Option AV :=
  let n := match P.underlying t, x with
    | some .string, .str s => some s.length
    | some (.array n _), _ => some n
    | some (.pointer a), _ => match P.underlying a with | some (.array n _) => some n | _ => none
    | some (.slice _), .nilslice => some 0
    | some (.slice _), .slice _ _ n _ => some n
    | some (.map _ _), .nilmap => some 0
    | some (.map _ _), .map r => match h.get r with | some (.map es _) => some es.length | _ => none
    | _, _ => none
  match n with
  | some n => some (.int .i64 (.ofNat n))
  | none => none

def capA (P : Tb) (t : Nat) (x : AV) : Option AV :=
  match P.underlying t, x with
  | some (.slice _), .nilslice => some (.int .i64 (.ofNat 0))
  | some (.slice _), .slice _ _ _ (.is n) => some (.int .i64 (.ofNat n))
  | _, _ => none

def isIntT (P : Tb) (t : Nat) : Bool :=
  match P.underlying t with
  | some (.int _) => true
  | some _ => false
  | none => true

def appSrc (P : Tb) (tx : Nat) (info : TypeInfo) (z : List AV) (x : AV) (h : AH) : Option (Nat × List AV) :=
  match isIntT P tx with
  | false => srcA info.size x h
  | true => match P.underlying tx, natOf x with
    | some _, some n => match Nat.ble (n * info.bytes) roomN, Nat.ble n roomN with
      | true, true => some (n, repl n z)
      | _, _ => none
    | _, _ => none

def appendA (P : Tb) (ts tx : Nat) (s x : AV) (h : AH) : Option (AV × AH) :=
  match P.underlying ts with
  | some (.slice elem) =>
    match P.info? elem, zeroT P elem with
    | some info, some z =>
      match Nat.beq z.length info.size, Nat.blt 0 info.size, Nat.blt 0 info.bytes with
      | true, true, true => match appSrc P tx info z x h with
        | some (n, new) => appendTo info s n new h
        | none => none
      | _, _, _ => none
    | _, _ => none
  | _ => none

def copyA (P : Tb) (td : Nat) (d x : AV) (h : AH) : Option (AV × AH) :=
  match P.underlying td with
  | some (.slice elem) =>
    match sizeT P elem with
    | some sz =>
      match d with
      | .nilslice => match x with
        | .nilslice | .slice .. | .str _ => some (.int .i64 (.ofNat 0), h)
        | _ => none
      | .slice b o len _ =>
        match srcA sz x h with
        | some (n, l) =>
          let m := min n len
          match takeN (m * sz) l with
          | some l' => match m with
            | 0 => some (.int .i64 (.ofNat 0), h)
            | _ + 1 => match h.store b o l' with
              | some h' => some (.int .i64 (.ofNat m), h')
              | none => none
          | none => none
        | none => none
      | _ => none
    | none => none
  | _ => none

def toBytesA (P : Tb) (src dst : Nat) (x : AV) : Option (AB × (Id → AV)) :=
  match P.underlying src, P.underlying dst, x with
  | some .string, some (.slice e), .str s =>
    match P.underlying e with
    | some (.int .u8) => some (.cells true (s.map byteV), fun i => .slice i 0 s.length (.op 1))
    | _ => none
  | _, _, _ => none

def convertA (P : Tb) (src dst : Nat) (x : AV) (h : AH) : Option AV :=
  match P.underlying src, P.underlying dst, x with
  | some _, some (.int k), .int _ n => some (.int k (wrapI k n))
  | some _, some .string, .str s => some (.str s)
  | some (.slice e), some .string, .nilslice =>
    match P.underlying e with
    | some (.int .u8) => some (.str [])
    | _ => none
  | some (.slice e), some .string, .slice b o len _ =>
    match P.underlying e with
    | some (.int .u8) => match h.load b o len with
      | some l => match bytesOf l with
        | some s => some (.str s)
        | none => none
      | none => none
    | _ => none
  | _, _, _ => none

def makeSliceA (P : Tb) (t : Nat) (len cap : AV) : Option (AB × (Id → AV)) :=
  match P.underlying t with
  | some (.slice elem) =>
    match natOf len, natOf cap, P.info? elem, zeroT P elem with
    | some l, some c, some info, some z =>
      match Nat.ble l c, Nat.ble (info.bytes * c) roomN, Nat.ble c roomN, Nat.beq z.length info.size with
      | true, true, true, true => match Nat.blt 0 info.size with
        | true => some (.cells true (repl c z), fun i => .slice i 0 l (.is c))
        | false => none
      | _, _, _, _ => none
    | _, _, _, _ => none
  | _ => none

def rangeA (P : Tb) (t : Nat) (x : AV) (h : AH) : Option (AV × AH) :=
  let it := match P.underlying t, x with
    | some .string, .str s => some (AB.iterS s 0)
    | some (.map _ _), .nilmap => some (AB.iterM none 0 [] 0)
    | some (.map _ _), .map m => match h.get m with
      | some (.map _ clock) => some (AB.iterM (some m) clock [] clock)
      | _ => none
    | _, _ => none
  match it with
  | some b => match h.new b with
    | some (i, h') => some (.ptr i 0, h')
    | none => none
  | none => none

def binOpA (P : Tb) (op : BinOp) (t : Nat) (x y : AV) : Option AV :=
  match op, x, y with
  | .shl, .int k a, .int _ b => shiftBin .shl k a b
  | .shr, .int k a, .int _ b => shiftBin .shr k a b
  | _, .int k a, .int k' b => match eqK k k' with | true => intBin op k a b | false => none
  | _, .str a, .str b => strBin op a b
  | .eql, x, y => match P.noEq t with
    | false => match eqV P 12 t x y with | some b => some (.bool b) | none => none
    | true => none
  | .neq, x, y => match P.noEq t with
    | false => match eqV P 12 t x y with | some b => some (.bool (!b)) | none => none
    | true => none
  | _, _, _ => none

def zeroCellsA (P : Tb) (elem n : Nat) : Option (List AV) :=
  match zeroT P elem with
  | some z => some (repl n z)
  | none => none

def clearA (P : Tb) (t : Nat) (x : AV) (h : AH) : Option AH :=
  match P.underlying t, x with
  | some (.slice _), .nilslice => some h
  | some (.slice elem), .slice b o n _ => match n with
    | 0 => some h
    | _ + 1 => match zeroCellsA P elem n with
      | some l => h.store b o l
      | none => none
  | _, _ => none

def builtinA (P : Tb) (b : Builtin) (ts : List Nat) (args : List AV) (h : AH) : Option (AV × AH) :=
  match b, ts, args with
  | .append, t :: u :: _, s :: x :: _ => appendA P t u s x h
  | .len, t :: _, x :: _ => ok1 h (lenA P t x h)
  | .cap, t :: _, x :: _ => ok1 h (capA P t x)
  | .copy, t :: _, d :: x :: _ => copyA P t d x h
  | .delete, t :: _, m :: k :: _ => okU (deleteA P t m k h)
  | .clear, t :: _, x :: _ => okU (clearA P t x h)
  | .max, _, x :: r => ok1 h (minmaxA true x r)
  | .min, _, x :: r => ok1 h (minmaxA false x r)
  | _, _, _ => none

def isSliceT (P : Tb) (t : Nat) : Bool := match P.underlying t with | some (.slice _) => true | _ => false

def sameSliceA (P : Tb) (src dst : Nat) (x : AV) (h : AH) : Option (AV × AH) :=
  match Nat.beq src dst, P.underlying dst, x with
  | true, some (.slice e), .slice b _ (_ + 1) _ => match P.underlying e, h.get b with
    | some (.int .u8), some (.cells true _) => some (x, h)
    | _, _ => none
  | _, _, _ => none

def makeA (P : Tb) (o : Op) (e : Env) : Option (AB × (Id → AV)) :=
  match o with
  | .alloc t => match zeroT P t with
    | some z => some (.cells true z, fun i => .ptr i 0)
    | none => none
  | .box _ x => match (opv e x).cellsOf with
    | some cs => some (.cells true cs, fun i => .ptr i 0)
    | none => none
  | .buildSlice t len parts => buildSliceA P t len (parts.toList.map fun p => (p.1, opv e p.2))
  | .makeMap t r => match P.underlying t, r with
    | some (.map _ _), none => some (.map [] 0, fun i => .map i)
    | some (.map _ _), some x => match opv e x with
      | .int _ _ => some (.map [] 0, fun i => .map i)
      | _ => none
    | _, _ => none
  | .makeSlice t l c => makeSliceA P t (opv e l) (opv e c)
  | .convert s d x => toBytesA P s d (opv e x)
  | _ => none

def opA (P : Tb) (o : Op) (e : Env) (h : AH) : Option (AV × AH) :=
  match o with
  | .move x | .assign x => some (opv e x, h)
  | .pick c a b => match opv e c with
    | .bool true => some (opv e a, h)
    | .bool false => some (opv e b, h)
    | _ => none
  | .alloc t => newB h (makeA P (.alloc t) e)
  | .box t x => newB h (makeA P (.box t x) e)
  | .build t parts => ok1 h (buildA P t (parts.toList.map fun p => (p.1, opv e p.2)))
  | .buildSlice t len parts => newB h (makeA P (.buildSlice t len parts) e)
  | .load t a => match opv e a with
    | .ptr b o => ok1 h (loadV P t h b o)
    | _ => none
  | .store t a x => match opv e a with
    | .ptr b o => okU (storeV P t h b o (opv e x))
    | _ => none
  | .nilCheck x => ok1 h (nilCheckA (opv e x))
  | .binOp op t x y _ => ok1 h (binOpA P op t (opv e x) (opv e y))
  | .unOp op _ x => ok1 h (unOpA op (opv e x))
  | .convert s d x => match isSliceT P d with
    | true => match isSliceT P s with
      | true => sameSliceA P s d (opv e x) h
      | false => newB h (makeA P (.convert s d x) e)
    | false => ok1 h (convertA P s d (opv e x) h)
  | .sliceToArrayPointer t x => match P.underlying t, opv e x with
    | some (.array n _), .slice b o len _ => match Nat.ble n len, Nat.blt 0 n with
      | true, true => some (.ptr b o, h)
      | _, _ => none
    | _, _ => none
  | .makeInterface t x => match P.underlying t with
    | some (.interface _) => none
    | some _ => some (.iface t (opv e x), h)
    | none => none
  | .makeFunc (.func f) first cap => some (.fn f (first.toList.map (opv e)) (cap.toList.map (opv e)), h)
  | .makeMap t r => newB h (makeA P (.makeMap t r) e)
  | .makeSlice t l c => newB h (makeA P (.makeSlice t l c) e)
  | .slice t x lo hi mx => ok1 h (sliceA P t (opv e x) (lo.map (opv e)) (hi.map (opv e)) (mx.map (opv e)))
  | .fieldAddr t x f => ok1 h (fieldAddrA P t (opv e x) f)
  | .field t x f => ok1 h (fieldA P t (opv e x) f)
  | .indexAddr t x i => ok1 h (indexAddrA P t (opv e x) (opv e i))
  | .index t x i => ok1 h (indexA P t (opv e x) (opv e i))
  | .lookup t x k ok => ok1 h (lookupA P t (opv e x) (opv e k) ok h)
  | .mapUpdate t m k v | .insert t m k v => okU (mapUpdateA P t (opv e m) (opv e k) (opv e v) h)
  | .range t x => rangeA P t (opv e x) h
  | .next x s => nextA (opv e x) s h
  | .entry x => ok1 h (entryA (opv e x) h)
  | .extract x i => ok1 h (extractA (opv e x) i)
  | .call { callee := .builtin b, args, argTypes } => builtinA P b argTypes.toList (args.toList.map (opv e)) h
  | _ => none

def kindOf (P : Tb) : Op → OpKind
  | .move _ | .assign _ | .pick .. | .build .. | .nilCheck _ | .binOp .. | .unOp .. | .sliceToArrayPointer .. | .makeInterface .. | .makeFunc ..
  | .slice .. | .fieldAddr .. | .field .. | .indexAddr .. | .index .. | .extract .. => .pure
  | .load .. | .lookup .. | .entry .. => .read
  | .alloc _ | .box .. | .buildSlice .. | .makeMap .. | .makeSlice .. => .make
  | .convert s d _ => match isSliceT P d, isSliceT P s with | true, true => .act | true, false => .make | false, _ => .read
  | .call { callee := .builtin b, .. } => match b with
    | .len | .cap => .read
    | .min | .max => .pure
    | _ => .act
  | _ => .act

def stepOf (P : Tb) (m : Masks) (o : Oper) (i : Nat) : Step := ⟨i, o, kindOf P o.op, m.get i⟩

def allSteps (P : Tb) (m : Masks) : List Oper → Nat → List Step
  | [], _ => []
  | o :: os, i => stepOf P m o i :: allSteps P m os (i + 1)

def planOf (P : Tb) (ops : List Oper) : Option (List Step) :=
  let m := masks ops 0 (N8.all (N8.all (N8.all 0)))
  let all := allSteps P m ops 0
  let p := planGo ops.length all 0
  let n := ops.length
  match masksOk m ops 0, Nat.ble n 512 with
  | true, true => match orderOk n p 0, apartAll ops all all with
    | true, true => some p
    | _, _ => none
  | _, _ => none

def operV (P : Tb) (call : CallH ω) (o : Op) (e : Env) (h : AH) (k : KV ω) : Option ω :=
  match o with
  | .call { callee := .value f, args, .. } => match opv e f with
    | .fn g first cap => call g (first ++ args.toList.map (opv e) ++ cap) h k
    | _ => none
  | op => match opA P op e h with
    | some (v, h') => k v h'
    | none => none

def operA (P : Tb) (call : CallH ω) (n : Nat) (o : Oper) (a : AF) (h : AH) (k : AF → AH → Option ω) : Option ω :=
  match o.op with
  | .defer { callee := .value f, args, .. } => match opv a.env f with
    | .fn g first cap => match a with
      | ⟨e, ds⟩ => AF.put n ⟨e, (g, first ++ args.toList.map (opv e) ++ cap) :: ds⟩ o.dst .undef fun a' => k a' h
    | _ => none
  | op => operV P call op a.env h fun v h' => a.put n o.dst v fun a' => k a' h'

def opersA (P : Tb) (call : CallH ω) (n : Nat) (ops : List Oper) : List Oper → AF → AH → (AF → AH → Option ω) → Option ω
  | [], a, h, k => k a h
  | o :: os, a, h, k => match wantedA ops o a with
    | some true => operA P call n o a h fun a' h' => opersA P call n ops os a' h' k
    | some false => a.put n o.dst .undef fun a' => opersA P call n ops os a' h k
    | none => none

def steady (P : Tb) (pre : Nat) (h : AH) : List Seen → Option (List Seen)
  | [] => some []
  | s :: ss => match bit pre s.i with
    | true => steady P pre h ss
    | false => match opA P s.op s.env h, steady P pre h ss with
      | some (v, _), some left => match same 40 s.val v with
        | true => some (s :: left)
        | false => none
      | _, _ => none

def stepsA (P : Tb) (call : CallH ω) (n : Nat) (ops : List Oper) : List Step → AF → AH → List Made → List Seen → (AF → AH → Option ω) → Option ω
  | [], a, h, us, _, k => k a (commitAll us h)
  | s :: ss, a, h, us, rs, k => match wantedA ops s.op a with
    | none => none
    | some false => a.put n s.op.dst .undef fun a' => stepsA P call n ops ss a' h us rs k
    | some true => match s.kind with
      | .act => match commit s.pre us h with
        | (h1, us') => operV P call s.op.op a.env h1 fun v h' => match steady P s.pre h' rs with
          | some rs' => a.put n s.op.dst v fun a' => stepsA P call n ops ss a' h' us' rs' k
          | none => none
      | .read => match opA P s.op.op a.env h with
        | some (v, _) => a.put n s.op.dst v fun a' => stepsA P call n ops ss a' h us (⟨s.i, s.op.op, a.env, v⟩ :: rs) k
        | none => none
      | .pure => match opA P s.op.op a.env h with
        | some (v, _) => a.put n s.op.dst v fun a' => stepsA P call n ops ss a' h us rs k
        | none => none
      | .make => match makeA P s.op.op a.env with
        | some (b, mk) => match h.spare with
          | some (i, h') => a.put n s.op.dst (mk i) fun a' => stepsA P call n ops ss a' h' (⟨s.i, i, b⟩ :: us) rs k
          | none => none
        | none => none

def evCode (P : Tb) (call : CallH ω) (rounds n : Nat) : Code → AF → AH → KX ω → Option ω
  | .skip, a, h, k => k .normal a h
  | .label _, a, h, k => k .normal a h
  | .region _ ops draw, a, h, k => match draw with
    | false => opersA P call n ops.toList ops.toList a h fun a' h' => k .normal a' h'
    | true => match planOf P ops.toList with
      | some p => stepsA P call n ops.toList p a h [] [] fun a' h' => k .normal a' h'
      | none => none
  | .seq x y, a, h, k => evCode P call rounds n x a h fun e a' h' => match e with
    | .normal => evCode P call rounds n y a' h' k
    | .exit id => k (.exit id) a' h'
    | .ret => k .ret a' h'
  | .cond c x y, a, h, k => match opv a.env c with
    | .bool true => evCode P call rounds n x a h k
    | .bool false => evCode P call rounds n y a h k
    | _ => none
  | .block id c, a, h, k => evCode P call rounds n c a h fun e a' h' => match e with
    | .normal => k .normal a' h'
    | .exit id' => match Nat.beq id' id with
      | true => k .normal a' h'
      | false => k (.exit id') a' h'
    | .ret => k .ret a' h'
  | .loop c, a, h, k => loopE (evCode P call rounds n c) rounds a h k
  | .exit id, a, h, k => k (.exit id) a h
  | .ret, a, h, k => k .ret a h
  | .scope c, a, h, k => evCode P call rounds n c a h k
  | _, _, _, _ => none

def resultsA (P : Tb) (e : Env) (h : AH) : List ResultVar → Option (List AV)
  | [] => some []
  | .tmp t :: rs => match Nat.blt t 512, resultsA P e h rs with
    | true, some l => some (e.get t :: l)
    | _, _ => none
  | .cell a t :: rs => match Nat.blt a 512, e.get a, resultsA P e h rs with
    | true, .ptr b o, some l => match loadV P t h b o with
      | some v => some (v :: l)
      | none => none
    | _, _, _ => none

def bodyA (P : Tb) (call : CallH ω) (rounds : Nat) (fn : Func) (args : List AV) (h : AH) (k : AF → AH → Option ω) : Option ω :=
  match fn.body, Nat.ble fn.ntmps 512, Nat.ble args.length fn.ntmps with
  | some c, true, true => evCode P call rounds fn.ntmps c ⟨Env.ofArgs args 0 Env.empty, []⟩ h fun e a h' => match e with
    | .exit _ => none
    | _ => k a h'
  | _, _, _ => none

def giveA (P : Tb) (fn : Func) (a : AF) (h : AH) (k : KV ω) : Option ω :=
  match resultsA P a.env h fn.results.toList with
  | some l => k (oneOrTup l) h
  | none => none

def flatA (P : Tb) (call : CallH ω) (rounds : Nat) : CallH ω := fun f args h k =>
  match P.func f with
  | some fn => bodyA P call rounds fn args h fun a h' => match a.ds with
    | [] => giveA P fn a h' k
    | _ :: _ => none
  | none => none

def evBody (P : Tb) (call : CallH ω) (rounds : Nat) (fn : Func) (args : List AV) (h : AH) (k : KV ω) : Option ω :=
  bodyA P call rounds fn args h fun a h' => leaveA (flatA P call rounds) a.ds h' fun h2 => giveA P fn a h2 k

def evFun (P : Tb) (I : Known) (rounds : Nat) : Nat → CallH ω
  | 0, _, _, _, _ => none
  | d + 1, f, args, h, k => match I f args h with
    | some (v, h') => k v h'
    | none => match P.func f with
      | some fn => evBody P (evFun P I rounds d) rounds fn args h k
      | none => none

end Go.Ab.F

namespace Go.Ab.C
open Go.Ab

variable {ω : Type}

/-! ### code made ready: closures in structures, so that what hangs on the code alone is reckoned once -/

structure G8 (α : Type) where
  run : N8 α → α

noncomputable def g8 {α : Type} (k : D8) : G8 α :=
  D8.rec ⟨fun n => n.x0⟩ ⟨fun n => n.x1⟩ ⟨fun n => n.x2⟩ ⟨fun n => n.x3⟩ ⟨fun n => n.x4⟩ ⟨fun n => n.x5⟩ ⟨fun n => n.x6⟩ ⟨fun n => n.x7⟩ k

theorem g8_eq {α : Type} (k : D8) (n : N8 α) : (g8 k).run n = N8.get k n := by cases k <;> rfl

structure M8 (α ω : Type) where
  run : N8 α → (α → (α → Option ω) → Option ω) → (N8 α → Option ω) → Option ω

/-- One of eight is turned. -/
noncomputable def m8 {α : Type} (k : D8) : M8 α ω :=
  D8.rec
    ⟨fun n f g => N8.rec (fun y0 y1 y2 y3 y4 y5 y6 y7 => f y0 fun y => g ⟨y, y1, y2, y3, y4, y5, y6, y7⟩) n⟩
    ⟨fun n f g => N8.rec (fun y0 y1 y2 y3 y4 y5 y6 y7 => f y1 fun y => g ⟨y0, y, y2, y3, y4, y5, y6, y7⟩) n⟩
    ⟨fun n f g => N8.rec (fun y0 y1 y2 y3 y4 y5 y6 y7 => f y2 fun y => g ⟨y0, y1, y, y3, y4, y5, y6, y7⟩) n⟩
    ⟨fun n f g => N8.rec (fun y0 y1 y2 y3 y4 y5 y6 y7 => f y3 fun y => g ⟨y0, y1, y2, y, y4, y5, y6, y7⟩) n⟩
    ⟨fun n f g => N8.rec (fun y0 y1 y2 y3 y4 y5 y6 y7 => f y4 fun y => g ⟨y0, y1, y2, y3, y, y5, y6, y7⟩) n⟩
    ⟨fun n f g => N8.rec (fun y0 y1 y2 y3 y4 y5 y6 y7 => f y5 fun y => g ⟨y0, y1, y2, y3, y4, y, y6, y7⟩) n⟩
    ⟨fun n f g => N8.rec (fun y0 y1 y2 y3 y4 y5 y6 y7 => f y6 fun y => g ⟨y0, y1, y2, y3, y4, y5, y, y7⟩) n⟩
    ⟨fun n f g => N8.rec (fun y0 y1 y2 y3 y4 y5 y6 y7 => f y7 fun y => g ⟨y0, y1, y2, y3, y4, y5, y6, y⟩) n⟩ k

theorem m8_eq {α : Type} (k : D8) (n : N8 α) (u : α → α) (g : N8 α → Option ω) : (m8 k).run n (fun y c => c (u y)) g = g (N8.set k (u (N8.get k n)) n) := by
  cases n; cases k <;> rfl

structure XO where
  run : Env → AV

/-- An operand. -/
noncomputable def xo (x : Operand) : XO :=
  match x with
  | .tmp t => match Nat.blt t 512 with
    | true => ⟨fun e => (g8 (Slot.of t).r).run ((g8 (Slot.of t).q).run ((g8 (Slot.of t).p).run e))⟩
    | false => ⟨fun _ => .top⟩
  | .const v => ⟨fun _ => constOf v⟩
  | .global g => match Nat.blt g gMax with
    | true => ⟨fun _ => .ptr (Id.ofNat g) 0⟩
    | false => ⟨fun _ => .top⟩
  | .func f => ⟨fun _ => .fn f [] []⟩

theorem xo_eq (x : Operand) (e : Env) : (xo x).run e = opv e x := by
  cases x with
  | tmp t =>
    simp only [xo, opv]
    cases Nat.blt t 512 with
    | true => simp only [g8_eq]; rfl
    | false => rfl
  | const v => rfl
  | global g => simp only [xo, opv]; cases Nat.blt g gMax <;> rfl
  | func f => rfl

structure PO (ω : Type) where
  run : AF → AV → (AF → Option ω) → Option ω

/-- A temporary is put. -/
noncomputable def po (n : Nat) (dst : Option Nat) : PO ω :=
  match dst with
  | none => ⟨fun a _ k => k a⟩
  | some d => match Nat.blt d n with
    | true => ⟨fun a v k => AF.rec (fun e ds => (m8 (Slot.of d).p).run e (fun e1 c1 => (m8 (Slot.of d).q).run e1 (fun e2 c2 => (m8 (Slot.of d).r).run e2 (fun _ c3 => c3 v) c2) c1) fun e' => k ⟨e', ds⟩) a⟩
    | false => ⟨fun _ _ _ => none⟩

theorem po_eq (n : Nat) (dst : Option Nat) (a : AF) (v : AV) (k : AF → Option ω) : (po n dst).run a v k = AF.put n a dst v k := by
  cases dst with
  | none => rfl
  | some d =>
    simp only [po, AF.put]
    cases Nat.blt d n with
    | false => rfl
    | true =>
      obtain ⟨e, ds⟩ := a
      have h3 : ∀ (e2 : N8 AV) (c2 : N8 AV → Option ω), (m8 (Slot.of d).r).run e2 (fun _ c3 => c3 v) c2 = c2 (N8.set (Slot.of d).r v e2) := fun e2 c2 => m8_eq _ e2 (fun _ => v) c2
      have h2 : ∀ (e1 : N8 (N8 AV)) (c1 : N8 (N8 AV) → Option ω), (m8 (Slot.of d).q).run e1 (fun e2 c2 => (m8 (Slot.of d).r).run e2 (fun _ c3 => c3 v) c2) c1 = c1 (N8.set (Slot.of d).q (N8.set (Slot.of d).r v (N8.get (Slot.of d).q e1)) e1) := fun e1 c1 => by
        simp only [h3]
        exact m8_eq _ e1 (fun y => N8.set (Slot.of d).r v y) c1
      simp only [h2]
      exact m8_eq _ e (fun y => N8.set (Slot.of d).q (N8.set (Slot.of d).r v (N8.get (Slot.of d).q y)) y) _

/-! ### cells -/

noncomputable def dropC (o : Nat) : List AV → List AV :=
  Nat.rec (fun vs => vs) (fun _ ih vs => List.rec [] (fun _ tl _ => ih tl) vs) o

theorem dropC_eq : ∀ (o : Nat) (vs : List AV), dropC o vs = dropN o vs
  | 0, _ => rfl
  | _ + 1, [] => rfl
  | o + 1, _ :: vs => dropC_eq o vs

noncomputable def takeC (n : Nat) : List AV → Option (List AV) :=
  Nat.rec (fun _ => some []) (fun _ ih vs => List.rec none (fun v tl _ => Option.rec none (fun r => some (v :: r)) (ih tl)) vs) n

theorem takeC_eq : ∀ (n : Nat) (vs : List AV), takeC n vs = takeN n vs
  | 0, _ => rfl
  | _ + 1, [] => rfl
  | n + 1, v :: vs => by
    have ih := takeC_eq n vs
    show (Option.rec (motive := fun _ => Option (List AV)) none (fun r => some (v :: r)) (takeC n vs) : Option (List AV)) = _
    rw [ih]
    simp only [takeN]
    cases takeN n vs <;> rfl

noncomputable def headC (vs : List AV) : Option AV := List.rec none (fun v _ _ => some v) vs

/-- The cells of a block. -/
noncomputable def cellsC (ω : Type) (b : Option AB) (f : List AV → Option ω) : Option ω :=
  Option.rec none (fun b => AB.rec (fun _ vs => f vs) (fun _ _ => none) (fun _ _ => none) (fun _ _ _ _ => none) b) b

theorem load_cells (h : AH) (b : Id) (o n : Nat) : h.load b o n = cellsC (List AV) (h.get b) fun vs => takeC n (dropC o vs) := by
  unfold AH.load cellsC
  cases h.get b with
  | none => rfl
  | some x => cases x <;> first | rfl | (simp only [takeC_eq, dropC_eq]; rfl)

structure CO where
  run : Env → AH → Option (AV × AH)

/-- Where a value points. -/
noncomputable def ptrC {β : Type} (v : AV) (f : Id → Nat → Option β) : Option β := match v with | .ptr b o => f b o | _ => none

/-- A loading. -/
noncomputable def loadC (T : F.Tb) (t : Nat) (x : Operand) : CO :=
  match F.isAggT T t with
  | some true => match F.sizeT T t with
    | some n => ⟨fun e h => ptrC ((xo x).run e) fun b o => Option.rec none (fun l => some (.agg l, h)) (cellsC (List AV) (h.get b) fun vs => takeC n (dropC o vs))⟩
    | none => ⟨fun _ _ => none⟩
  | some false => ⟨fun e h => ptrC ((xo x).run e) fun b o => cellsC (AV × AH) (h.get b) fun vs => Option.rec none (fun v => some (v, h)) (headC (dropC o vs))⟩
  | none => ⟨fun _ _ => none⟩

theorem opA_load (T : F.Tb) (t : Nat) (x : Operand) (e : Env) (h : AH) : F.opA T (.load t x) e h = ptrC ((xo x).run e) fun b o => ok1 h (F.loadV T t h b o) := by
  rw [xo_eq]
  simp only [F.opA]
  cases opv e x <;> rfl

theorem loadC_eq (T : F.Tb) (t : Nat) (x : Operand) (e : Env) (h : AH) : (loadC T t x).run e h = F.opA T (.load t x) e h := by
  rw [opA_load]
  unfold loadC
  have no : ∀ v, ptrC (β := AV × AH) v (fun _ _ => none) = none := fun v => by cases v <;> rfl
  cases hq : F.isAggT T t with
  | none =>
    simp only [F.loadV, hq]
    exact (no _).symm
  | some q =>
    cases q with
    | true =>
      simp only
      cases hn : F.sizeT T t with
      | none => simp only [F.loadV, hq, hn]; exact (no _).symm
      | some n =>
        simp only
        congr 1
        funext b o
        rw [← load_cells]
        simp only [F.loadV, hq, hn]
        cases h.load b o n <;> rfl
    | false =>
      simp only
      congr 1
      funext b o
      simp only [F.loadV, hq]
      rw [load_cells]
      unfold cellsC
      cases h.get b with
      | none => rfl
      | some w =>
        cases w <;> first | rfl | skip
        rename_i vs
        simp only
        generalize dropC o vs = l
        cases l <;> rfl

end Go.Ab.C

namespace Go.Ab

/-! ### tables that are quick to look into -/

abbrev Tab (α : Type) := N8 (N8 (N8 (N8 (Option α))))

def dropL {α : Type} : Nat → List α → List α
  | 0, l => l
  | _ + 1, [] => []
  | n + 1, _ :: l => dropL n l

def row8 {α β : Type} (n : Nat) (f : List α → β) (l : List α) : N8 β :=
  let l1 := dropL n l
  let l2 := dropL n l1
  let l3 := dropL n l2
  let l4 := dropL n l3
  let l5 := dropL n l4
  let l6 := dropL n l5
  let l7 := dropL n l6
  ⟨f l, f l1, f l2, f l3, f l4, f l5, f l6, f l7⟩

def headO {α : Type} : List α → Option α
  | [] => none
  | a :: _ => some a

/-- The table of a list of at most 4096. -/
def tabOf {α : Type} (l : List α) : Tab α := row8 512 (row8 64 (row8 8 (row8 1 headO))) l

def Tab.look {α : Type} (t : Tab α) (i : Nat) : Option α :=
  match Nat.blt i 4096 with
  | true => N8.get (.dig (i % 8)) (N8.get (.dig (i / 8 % 8)) (N8.get (.dig (i / 64 % 8)) (N8.get (.dig (i / 512)) t)))
  | false => none

end Go.Ab
