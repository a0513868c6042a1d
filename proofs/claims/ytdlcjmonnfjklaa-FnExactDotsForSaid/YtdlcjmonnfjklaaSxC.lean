/-
  One operation, symbolically: what it yields and which blocks it changes.
-/
import Derived.Test.YtdlcjmonnfjklaaSxB
set_option linter.unusedSimpArgs false
set_option linter.unusedVariables false
namespace Go.Sx
open Go.RowKit (Below)

def mapO {α β : Type} (f : α → Option β) : List α → Option (List β)
  | [] => some []
  | x :: l => match f x with
    | some y => match mapO f l with | some m => some (y :: m) | none => none
    | none => none
def avK (v : Value) : AV :=
  match v with
  | .int _ _ => .k v
  | .bool _ => .k v
  | v => .v v
def partAR (ar : Operand → Option AV) (p : Nat × Operand) : Option (Nat × AV) :=
  match ar p.2 with
  | some v => some (p.1, v)
  | none => none
def payload : AV → Option Value
  | .k x => some x
  | .v x => some x
  | _ => none
def cellsOf : Value → Option (List Value)
  | .agg a => some a.toList
  | .tuple _ => none
  | x => some [x]
def cellsAV (x : AV) : Option (List Value) :=
  match payload x with
  | some v => cellsOf v
  | none => none
def fillL (place : Nat → Option (Nat × Nat)) (cells : List Value) : List (Nat × AV) → Option (List Value)
  | [] => some cells
  | (i, x) :: rest => match place i with
    | none => none
    | some (off, size) => match cellsAV x with
      | none => none
      | some xs => match Nat.beq xs.length size with
        | false => none
        | true => match lay cells off xs with
          | none => none
          | some l => fillL place l rest
def placeOf (ti : List (Nat × TI)) (fs : List (Nat × Nat)) (j : Nat) : Option (Nat × Nat) :=
  match fs[j]? with
  | some (off, ft) => match look ti ft with
    | some fi => some (off, fi.size)
    | none => none
  | none => none
/-- What is read at a place in a block. -/
def readBlk (b : Option Blk) (off n : Nat) : Option (List Value) :=
  match b with
  | some (.c _ _ cs) => part cs off n
  | some (.r _ _ _ xs) => part xs off n
  | none => none
def asVal (i : TI) (l : List Value) : Option AV :=
  match i.agg with
  | true => some (.v (.agg ⟨l⟩))
  | false => match l with
    | [c] => some (.v c)
    | _ => none
def intOfAV (x : AV) : Option Int :=
  match payload x with
  | some (.int _ n) => some n
  | _ => none
def isNilSlice : AV → Bool
  | .v (.slice none 0 0) => true
  | .k (.slice none 0 0) => true
  | _ => false
def resolve1 (T : Nat → Option Blk) : PK → AV → Option Value
  | .v, x => payload x
  | .p n, .p id off => match T id with
    | some (.c _ _ cs) => match part cs off n with | some l => some (.agg ⟨l⟩) | none => none
    | some (.r _ _ _ xs) => match Nat.blt 0 n with
      | true => match part xs off n with | some l => some (.agg ⟨l⟩) | none => none
      | false => none
    | none => none
  | .s esz, .s id off len _ => match T id with
    | some (.c _ _ cs) => match part cs off (len * esz) with | some l => some (.agg ⟨l⟩) | none => none
    | _ => none
  | .s esz, .r id => match T id with
    | some (.r _ esz' _ xs) => match Nat.beq esz esz' with | true => some (.agg ⟨xs⟩) | false => none
    | _ => none
  | .s _, x => match isNilSlice x with | true => some (.agg ⟨[]⟩) | false => none
  | _, _ => none
def resolveAll (T : Nat → Option Blk) : List PK → List AV → Option (List Value)
  | [], [] => some []
  | k :: ks, x :: xs => match resolve1 T k x with
    | some v => match resolveAll T ks xs with | some l => some (v :: l) | none => none
    | none => none
  | _, _ => none
def avOfRA (id : Nat) : RA → AV
  | .v x => .v x
  | .l _ _ _ _ => .r id
def chgOfRA (id : Nat) : RA → List (Nat × Option Blk)
  | .v _ => []
  | .l ty esz n xs => [(id, some (.r ty esz n xs))]
def avsOf (id : Nat) : List RA → List AV
  | [] => []
  | x :: l => avOfRA id x :: avsOf (id + 1) l
def chgsOf (id : Nat) : List RA → List (Nat × Option Blk)
  | [] => []
  | x :: l => chgOfRA id x ++ chgsOf (id + 1) l
def svOfRV (id : Nat) : RV → SV × List (Nat × Option Blk)
  | .o x => (.a (avOfRA id x), chgOfRA id x)
  | .tu l => (.tu (avsOf id l), chgsOf id l)
/-- The cells that a slice's elements are, the block that is used up with it, and how many there are. -/
def rowOf (T : Nat → Option Blk) (e esz : Nat) : AV → Option (Nat × List Value × List (Nat × Option Blk))
  | .r id => match T id with
    | some (.r ty esz' n xs) => match Nat.beq ty e && Nat.beq esz' esz with
      | true => some (n, xs, [(id, none)])
      | false => none
    | _ => none
  | .s id 0 len cap => match T id with
    | some (.c true ty cs) => match Nat.beq ty e && (Nat.beq cs.length (cap * esz) && (Nat.ble len cap && Nat.ble cap 9223372036854775807)) with
      | true => match part cs 0 (len * esz) with
        | some l => some (len, l, [(id, none)])
        | none => none
      | false => none
    | _ => none
  | x => match isNilSlice x with
    | true => some (0, [], [])
    | false => none
def newsOf (T : Nat → Option Blk) (esz : Nat) : AV → Option (Nat × List Value)
  | .s id off len _ => match T id with
    | some (.c _ _ cs) => match Nat.blt 0 len with
      | true => match part cs off (len * esz) with
        | some l => some (len, l)
        | none => none
      | false => none
    | _ => none
  | .r id => match T id with
    | some (.r _ esz' n xs) => match Nat.beq esz esz' && Nat.blt 0 n with
      | true => some (n, xs)
      | false => none
    | _ => none
  | _ => none
def bound (len : Nat) (x : Option AV) (dflt : Nat) : Option Nat :=
  match x with
  | none => some dflt
  | some v => match intOfAV v with
    | some i => match decide (0 ≤ i) && decide (i ≤ len) with
      | true => some i.toNat
      | false => none
    | none => none
def optAR (ar : Operand → Option AV) : Option Operand → Option (Option AV)
  | none => some none
  | some x => match ar x with | some v => some (some v) | none => none

def lenOf (n : Nat) : Option (SV × List (Nat × Option Blk)) :=
  match Nat.ble n 9223372036854775807 with
  | true => some (.a (.k (.int .i64 n)), [])
  | false => none
noncomputable def builtinOp (ti : List (Nat × TI)) (T : Nat → Option Blk) (nid : Nat) (b : Builtin) (ts : List Nat) (xs : List AV) : Option (SV × List (Nat × Option Blk)) :=
  match b with
  | .len => match ts, xs with
    | [t], [x] => match look ti t with
      | some i => match i.d with
        | .arr n _ => lenOf n
        | .sl _ => match x with
          | .s _ _ len _ => lenOf len
          | .r id => match T id with
            | some (.r _ _ n _) => lenOf n
            | _ => none
          | x => match isNilSlice x with
            | true => some (.a (.k (.int .i64 0)), [])
            | false => none
        | _ => none
      | none => none
    | _, _ => none
  | .min => match xs with
    | [x, y] => match payload x, payload y with
      | some (.float k a), some (.float k' b) => match decide (k = k') with
        | true => some (.a (.v (.float k (fmin false k a b))), [])
        | false => none
      | _, _ => none
    | _ => none
  | .max => match xs with
    | [x, y] => match payload x, payload y with
      | some (.float k a), some (.float k' b) => match decide (k = k') with
        | true => some (.a (.v (.float k (fmin true k a b))), [])
        | false => none
      | _, _ => none
    | _ => none
  | .append => match ts, xs with
    | [t, t'], [x, y] => match Nat.beq t t', look ti t with
      | true, some i => match i.d with
        | .sl e => match look ti e with
          | some ie => match rowOf T e ie.size x, newsOf T ie.size y with
            | some (n, xs, gone), some (m, ys) =>
              match Nat.blt 0 ie.size && (Nat.beq ie.zero.length ie.size && (Nat.ble ((n + m) * ie.bytes) 140737488355328 && Nat.ble (n + m) 9223372036854775807)) with
              | true => some (.a (.r nid), gone ++ [(nid, some (.r e ie.size (n + m) (xs ++ ys)))])
              | false => none
            | _, _ => none
          | none => none
        | _ => none
      | _, _ => none
    | _, _ => none
  | _ => none

def arOf (sr : Operand → Option SV) (x : Operand) : Option AV :=
  match sr x with
  | some (.a v) => some v
  | _ => none
noncomputable def aop (ti : List (Nat × TI)) (C : List (Nat × Ctr)) (T : Nat → Option Blk) (nid : Nat) (sr : Operand → Option SV) (op : Op) : Option (SV × List (Nat × Option Blk)) :=
  match op with
  | .move x => match sr x with
    | some (.a v) => some (.a v, [])
    | some (.tu l) => some (.tu l, [])
    | _ => none
  | .assign x => match sr x with
    | some (.a v) => some (.a v, [])
    | some (.tu l) => some (.tu l, [])
    | _ => none
  | .alloc t => match look ti t with
    | some i => some (.a (.p nid 0), [(nid, some (.c true t i.zero))])
    | none => none
  | .box t x => match (arOf sr) x with
    | some v => match cellsAV v with
      | some cs => some (.a (.p nid 0), [(nid, some (.c true t cs))])
      | none => none
    | none => none
  | .build t parts => match look ti t, mapO (partAR (arOf sr)) parts.toList with
    | some i, some ps => match i.d with
      | .st fs => match fillL (placeOf ti fs) i.zero ps with
        | some l => match mapO (fun (f : Nat × Nat) => look ti f.2) fs with
          | some _ => some (.a (.v (.agg ⟨l⟩)), [])
          | none => none
        | none => none
      | .arr _ e => match look ti e with
        | some ie => match fillL (fun j => some (j * ie.size, ie.size)) i.zero ps with
          | some l => some (.a (.v (.agg ⟨l⟩)), [])
          | none => none
        | none => none
      | _ => none
    | _, _ => none
  | .buildSlice t len parts => match look ti t, mapO (partAR (arOf sr)) parts.toList with
    | some i, some ps => match i.d with
      | .sl e => match look ti e with
        | some ie => match Nat.ble (len * ie.size) 16777216 with
          | true => match Nat.blt 0 ie.zero.length || Nat.beq (len * ie.size) 0 with
            | true => match fillL (fun j => some (j * ie.size, ie.size)) ((List.range (len * ie.size)).map fun j => (⟨ie.zero⟩ : Array Value)[j % ie.zero.length]!) ps with
              | some l => some (.a (.s nid 0 len len), [(nid, some (.c true e l))])
              | none => none
            | false => none
          | false => none
        | none => none
      | _ => none
    | _, _ => none
  | .load t x => match look ti t, (arOf sr) x with
    | some i, some (.p id off) => match readBlk (T id) off i.size with
      | some l => match asVal i l with
        | some v => some (.a v, [])
        | none => none
      | none => none
    | _, _ => none
  | .store t x y => match look ti t, (arOf sr) x, (arOf sr) y with
    | some i, some (.p id off), some v => match cellsAV v with
      | some xs => match Nat.beq xs.length i.size with
        | true => match T id with
          | some (.c true ty cs) => match lay cs off xs with
            | some l => some (.u, [(id, some (.c true ty l))])
            | none => none
          | _ => none
        | false => none
      | none => none
    | _, _, _ => none
  | .nilCheck x => match (arOf sr) x with
    | some (.p id off) => some (.a (.p id off), [])
    | _ => none
  | .binOp op t x y _ => match look ti t, (arOf sr) x, (arOf sr) y with
    | some i, some (.k a), some (.k b) => match valBin op i.d a b with | some v => some (.a (avK v), []) | none => none
    | some i, some u, some u' => match payload u, payload u' with
      | some a, some b => match valBin op i.d a b with | some v => some (.a (.v v), []) | none => none
      | _, _ => none
    | _, _, _ => none
  | .unOp op _ x => match (arOf sr) x with
    | some (.k a) => match valUn op a with | some v => some (.a (avK v), []) | none => none
    | some (.v a) => match valUn op a with | some v => some (.a (.v v), []) | none => none
    | _ => none
  | .convert s d x => match look ti s, look ti d, (arOf sr) x with
    | some i, some j, some (.k a) => match valConv i.d j.d a with | some v => some (.a (avK v), []) | none => none
    | some i, some j, some (.v a) => match valConv i.d j.d a with | some v => some (.a (.v v), []) | none => none
    | _, _, _ => none
  | .slice t x lo hi mx => match look ti t, (arOf sr) x, optAR (arOf sr) lo, optAR (arOf sr) hi, mx with
    | some i, some u, some l, some h, none => match i.d, u with
      | .arr n e, .p id off => match look ti e with
        | some ie => match bound n h n with
          | some h => match bound h l 0 with
            | some l => some (.a (.s id (match Nat.beq n l with | true => off | false => off + l * ie.size) (h - l) (n - l)), [])
            | none => none
          | none => none
        | none => none
      | .sl e, .s id off len cap => match look ti e with
        | some ie => match bound cap h len with
          | some h => match bound h l 0 with
            | some l => match Nat.blt 0 len with
              | true => some (.a (.s id (match Nat.beq cap l with | true => off | false => off + l * ie.size) (h - l) (cap - l)), [])
              | false => none
            | none => none
          | none => none
        | none => none
      | _, _ => none
    | _, _, _, _, _ => none
  | .fieldAddr t x f => match look ti t, (arOf sr) x with
    | some i, some (.p id off) => match i.d with
      | .st fs => match fs[f]? with
        | some (foff, ft) => match look ti ft with
          | some fi => match Nat.beq fi.size 0 with
            | false => some (.a (.p id (off + foff)), [])
            | true => none
          | none => none
        | none => none
      | _ => none
    | _, _ => none
  | .field t x f => match look ti t, (arOf sr) x with
    | some i, some u => match i.d, payload u with
      | .st fs, some (.agg cs) => match fs[f]? with
        | some (foff, ft) => match look ti ft with
          | some fi => match part cs.toList foff fi.size with
            | some l => match asVal fi l with
              | some v => some (.a v, [])
              | none => none
            | none => none
          | none => none
        | none => none
      | _, _ => none
    | _, _ => none
  | .indexAddr t x ix => match look ti t, (arOf sr) x, (arOf sr) ix with
    | some i, some u, some j => match intOfAV j with
      | some n => match i.d, u with
        | .arr len e, .p id off => match decide (0 ≤ n) && decide (n < len), look ti e with
          | true, some ie => some (.a (.p id (off + n.toNat * ie.size)), [])
          | _, _ => none
        | .sl e, .s id off len _ => match decide (0 ≤ n) && decide (n < len), look ti e with
          | true, some ie => some (.a (.p id (off + n.toNat * ie.size)), [])
          | _, _ => none
        | .sl e, .r id => match T id, look ti e with
          | some (.r _ _ len _), some ie => match decide (0 ≤ n) && decide (n < len) with
            | true => some (.a (.p id (n.toNat * ie.size)), [])
            | false => none
          | _, _ => none
        | _, _ => none
      | none => none
    | _, _, _ => none
  | .index t x ix => match look ti t, (arOf sr) x, (arOf sr) ix with
    | some i, some u, some j => match intOfAV j, i.d, payload u with
      | some n, .arr len e, some (.agg cs) => match decide (0 ≤ n) && decide (n < len), look ti e with
        | true, some ie => match part cs.toList (n.toNat * ie.size) ie.size with
          | some l => match asVal ie l with
            | some v => some (.a v, [])
            | none => none
          | none => none
        | _, _ => none
      | _, _, _ => none
    | _, _, _ => none
  | .extract x j => match sr x with
    | some (.tu l) => match l[j]? with
      | some v => some (.a v, [])
      | none => none
    | _ => none
  | .call c => match mapO (arOf sr) c.args.toList with
    | some xs => match c.callee with
      | .builtin b => builtinOp ti T nid b c.argTypes.toList xs
      | .value (.func f) => match look C f with
        | some ct => match resolveAll T ct.pk xs with
          | some vs => match ct.m vs with
            | some (.o x) => some (svOfRV nid (.o x))
            | some (.tu l) => match Nat.ble l.length 8 with
              | true => some (svOfRV nid (.tu l))
              | false => none
            | none => none
          | none => none
        | none => none
      | _ => none
    | none => none
  | _ => none
end Go.Sx
