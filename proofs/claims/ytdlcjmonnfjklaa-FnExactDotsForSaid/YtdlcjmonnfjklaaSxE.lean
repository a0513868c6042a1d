/-
  Regions and code, symbolically.
-/
import Derived.Test.YtdlcjmonnfjklaaSxC
set_option linter.unusedSimpArgs false
set_option linter.unusedVariables false
namespace Go.Sx

structure St where
  env : List (Nat × SV)
  tbl : List (Nat × Option Blk)
  nx : Nat

def guardIs : SV → Nat → Bool
  | .g t _ _, d => Nat.beq t d
  | _, _ => false
def putE.chk : List (Nat × SV) → Nat → Bool
  | [], _ => true
  | (_, x) :: l, d => match guardIs x d with
    | true => false
    | false => putE.chk l d
/-- A slot is written; none where something hangs on what it held. -/
def putE : List (Nat × SV) → Nat → SV → Option (List (Nat × SV))
  | [], d, v => some [(d, v)]
  | (i, x) :: l, d, v => match guardIs x d with
    | true => none
    | false => match Nat.beq i d with
      | true => match putE.chk l d with
        | true => some ((i, v) :: l)
        | false => none
      | false => match putE l d v with
        | some m => some ((i, x) :: m)
        | none => none
def putT : List (Nat × Option Blk) → Nat → Option Blk → Option (List (Nat × Option Blk))
  | [], d, v => some [(d, v)]
  | (i, x) :: l, d, v => match Nat.beq i d with
    | true => some ((i, v) :: l)
    | false => match putT l d v with
      | some m => some ((i, x) :: m)
      | none => none
def putTs : List (Nat × Option Blk) → List (Nat × Option Blk) → Option (List (Nat × Option Blk))
  | t, [] => some t
  | t, (i, b) :: l => match putT t i b with
    | some t' => putTs t' l
    | none => none
def tab (t : List (Nat × Option Blk)) (id : Nat) : Option Blk :=
  match look t id with
  | some b => b
  | none => none
def constSV (v : Value) : Option SV :=
  match v with
  | .int k n => match decide (k.min ≤ n) && decide (n ≤ k.max) with
    | true => some (.a (.k (.int k n)))
    | false => none
  | .bool _ => some (.a (.k v))
  | .agg _ => none
  | .tuple _ => none
  | v => some (.a (.v v))
/-- An operand's symbolic value, under a guard (a slot and what it must hold). -/
def srOf (env : Nat → Option SV) (g : Option (Nat × Bool)) : Operand → Option SV
  | .tmp t => match env t with
    | some (.g t' w' x) => match g with
      | some (tg, wg) => match Nat.beq t' tg && (w' == wg) with
        | true => some (.a x)
        | false => none
      | none => none
    | x => x
  | .const v => constSV v
  | _ => none
def boolOf : SV → Option Bool
  | .a (.v (.bool b)) => some b
  | _ => none
noncomputable def pickV (env : Nat → Option SV) (g : Option (Nat × Bool)) (c a b : Operand) : Option SV :=
  match srOf env g c with
  | some (.a (.k (.bool true))) => srOf env g a
  | some (.a (.k (.bool false))) => srOf env g b
  | some (.a (.v (.bool t))) => match c with
    | .tmp s => match srOf env (some (s, true)) a, srOf env (some (s, false)) b with
      | some (.a x), some (.a y) => match payload x, payload y with
        | some (.bool p), some (.bool q) => some (.a (.v (.bool (match t with | true => p | false => q))))
        | _, _ => none
      | _, _ => none
    | _ => none
  | _ => none
noncomputable def opv (ti : List (Nat × TI)) (C : List (Nat × Ctr)) (T : Nat → Option Blk) (nid : Nat) (env : Nat → Option SV) (g : Option (Nat × Bool)) (op : Op) : Option (SV × List (Nat × Option Blk)) :=
  match op with
  | .pick c a b => match pickV env g c a b with
    | some (.a v) => some (.a v, [])
    | some (.tu v) => some (.tu v, [])
    | _ => none
  | op => aop ti C T nid (srOf env g) op
def putD (env : List (Nat × SV)) (n : Nat) (dst : Option Nat) (v : SV) : Option (List (Nat × SV)) :=
  match dst with
  | none => some env
  | some d => match guardIs v d with
    | true => none
    | false => match Nat.blt d n with
      | true => putE env d v
      | false => none
def ltb (v : AV) (n : Nat) : Bool :=
  match v with
  | .p id _ => Nat.blt id n
  | .s id _ _ _ => Nat.blt id n
  | .r id => Nat.blt id n
  | _ => true
inductive Doing where
  | run | skip | maybe (t : Nat) (want : Bool)
def doing (env : Nat → Option SV) (ops : List Oper) (o : Oper) : Option Doing :=
  match o.guard with
  | none => some .run
  | some (j, want) => match ops[j]? with
    | some oj => match oj.dst with
      | some t => match env t with
        | some (.a (.k (.bool b))) => match b == want with
          | true => some .run
          | false => some .skip
        | some .u => some .skip
        | some (.a (.v (.bool _))) => some (.maybe t want)
        | some (.g _ _ (.v (.bool _))) => some (.maybe t want)
        | _ => none
      | none => none
    | none => none
/-- What an operation yields, guarded or not, and what it changes. -/
noncomputable def core (ti : List (Nat × TI)) (C : List (Nat × Ctr)) (ops : List Oper) (nid : Nat) (env : Nat → Option SV) (T : Nat → Option Blk) (o : Oper) : Option (SV × List (Nat × Option Blk)) :=
  match doing env ops o with
  | some .run => opv ti C T nid env none o.op
  | some .skip => some (.u, [])
  | some (.maybe t want) => match opv ti C T nid env (some (t, want)) o.op with
    | some (.a v, []) => match ltb v (nid + 8) with
      | true => some (.g t want v, [])
      | false => none
    | _ => none
  | none => none
noncomputable def stepO (ti : List (Nat × TI)) (C : List (Nat × Ctr)) (n : Nat) (ops : List Oper) (nid : Nat) (env : List (Nat × SV)) (tbl : List (Nat × Option Blk)) (o : Oper) : Option (List (Nat × SV) × List (Nat × Option Blk)) :=
  match core ti C ops nid (look env) (tab tbl) o with
  | some (v, chg) => match putD env n o.dst v, putTs tbl chg with
    | some env', some tbl' => some (env', tbl')
    | _, _ => none
  | none => none
noncomputable def stepsO (ti : List (Nat × TI)) (C : List (Nat × Ctr)) (n : Nat) (ops : List Oper) : List Oper → Nat → List (Nat × SV) → List (Nat × Option Blk) → Option St
  | [], nid, env, tbl => some ⟨env, tbl, nid⟩
  | o :: l, nid, env, tbl => match stepO ti C n ops nid env tbl o with
    | some (env', tbl') => stepsO ti C n ops l (nid + 8) env' tbl'
    | none => none
/-- What hangs on a guard is let go at a region's end. -/
def tidy1 : SV → SV
  | .a v => .a v
  | .tu v => .tu v
  | _ => .zz
def tidy : List (Nat × SV) → List (Nat × SV)
  | [] => []
  | (i, x) :: l => (i, tidy1 x) :: tidy l

inductive Ex where
  | n | x (id : Nat) | r

noncomputable def exec {R : Type} (ti : List (Nat × TI)) (C : List (Nat × Ctr)) (n : Nat) : Nat → Code → St → (Ex → St → Option R) → Option R
  | 0, _, _, _ => none
  | f + 1, c, st, K => match c with
    | .skip => K .n st
    | .region _ ops false => match stepsO ti C n ops.toList ops.toList st.nx st.env st.tbl with
      | some st' => K .n ⟨tidy st'.env, st'.tbl, st'.nx⟩
      | none => none
    | .region _ ops true => match stepsO ti C n ops.toList ops.toList st.nx st.env st.tbl with
      | some st' => K .n ⟨tidy st'.env, st'.tbl, st'.nx⟩
      | none => none
    | .seq a b => exec ti C n f a st fun e st' => match e with
      | .n => exec ti C n f b st' K
      | e => K e st'
    | .cond c a b => match srOf (look st.env) none c with
      | some (.a (.k (.bool t))) => match t with
        | true => exec ti C n f a st K
        | false => exec ti C n f b st K
      | some (.a (.v (.bool t))) => match t with
        | true => exec ti C n f a st K
        | false => exec ti C n f b st K
      | _ => none
    | .block id b => exec ti C n f b st fun e st' => match e with
      | .x i => match Nat.beq i id with
        | true => K .n st'
        | false => K (.x i) st'
      | e => K e st'
    | .loop b => exec ti C n f b st fun e st' => match e with
      | .n => exec ti C n f (.loop b) st' K
      | e => K e st'
    | .exit id => K (.x id) st
    | .ret => K .r st
    | _ => none

/-- A parameter's slot and block: parameter number i stands in slot i, its block has the id i. -/
def enters : Nat → List PK → List Value → List (Nat × SV) × List (Nat × Option Blk)
  | i, .v :: ks, x :: xs => let (e, t) := enters (i + 1) ks xs; ((i, .a (.v x)) :: e, t)
  | i, .p _ :: ks, .agg cs :: xs => let (e, t) := enters (i + 1) ks xs; ((i, .a (.p i 0)) :: e, (i, some (.c false 0 cs.toList)) :: t)
  | i, .s esz :: ks, .agg cs :: xs => let (e, t) := enters (i + 1) ks xs; ((i, .a (.s i 0 (cs.size / esz) (cs.size / esz))) :: e, (i, some (.c false 0 cs.toList)) :: t)
  | _, _, _ => ([], [])
def resOf (ti : List (Nat × TI)) (st : St) : ResultVar → Option RA
  | .tmp t => match look st.env t with
    | some (.a (.k x)) => some (.v x)
    | some (.a (.v x)) => some (.v x)
    | some (.a (.r id)) => match tab st.tbl id with
      | some (.r ty esz n xs) => some (.l ty esz n xs)
      | _ => none
    | some (.a (.s id 0 len cap)) => match tab st.tbl id with
      | some (.c true ty cs) => match Nat.beq len cap with
        | true => some (.l ty (cs.length / len) len cs)
        | false => none
      | _ => none
    | _ => none
  | .cell p t => match look st.env p, look ti t with
    | some (.a (.p id off)), some i => match readBlk (tab st.tbl id) off i.size with
      | some l => match asVal i l with
        | some (.v x) => some (.v x)
        | _ => none
      | none => none
    | _, _ => none
noncomputable def resAll (ti : List (Nat × TI)) (fn : Func) (st : St) : Option RV :=
  match fn.results.toList with
  | [r] => match resOf ti st r with
    | some x => some (.o x)
    | none => none
  | rs => match mapO (resOf ti st) rs with
    | some l => some (.tu l)
    | none => none
noncomputable def runF (ti : List (Nat × TI)) (C : List (Nat × Ctr)) (fuel : Nat) (fn : Func) (pk : List PK) (vals : List Value) : Option RV :=
  match fn.body with
  | some c => exec ti C fn.ntmps fuel c ⟨(enters 0 pk vals).1, (enters 0 pk vals).2, 1000⟩ fun e st => match e with
    | .x _ => none
    | _ => resAll ti fn st
  | none => none
end Go.Sx
