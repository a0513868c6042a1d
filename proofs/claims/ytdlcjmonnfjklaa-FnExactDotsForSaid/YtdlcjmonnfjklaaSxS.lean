/-
  A region that draws its order: the symbolic run in the text's order serves every order. First the looks that are made at it.
-/
import Derived.Test.YtdlcjmonnfjklaaSxR
set_option linter.unusedSimpArgs false
set_option linter.unusedVariables false
namespace Go.Sx
open Go.RowKit (Below)

structure Rec where
  o : Oper
  env : List (Nat × SV)
  tbl : List (Nat × Option Blk)
  nid : Nat
  sv : SV
  chg : List (Nat × Option Blk)
noncomputable def recs (ti : List (Nat × TI)) (C : List (Nat × Ctr)) (n : Nat) (ops : List Oper) : List Oper → Nat → List (Nat × SV) → List (Nat × Option Blk) → Option (List Rec × St)
  | [], nid, env, tbl => some ([], ⟨env, tbl, nid⟩)
  | o :: l, nid, env, tbl => match core ti C ops nid (look env) (tab tbl) o with
    | some (v, chg) => match putD env n o.dst v, putTs tbl chg with
      | some env', some tbl' => match recs ti C n ops l (nid + 8) env' tbl' with
        | some (rs, st) => some (⟨o, env, tbl, nid, v, chg⟩ :: rs, st)
        | none => none
      | _, _ => none
    | none => none
def tmpOf : Operand → List Nat
  | .tmp t => [t]
  | _ => []
def cat {α : Type} (f : α → List Nat) : List α → List Nat
  | [] => []
  | x :: l => f x ++ cat f l
theorem mem_cat {α : Type} {f : α → List Nat} {l : List α} {t : Nat} : t ∈ cat f l ↔ ∃ x ∈ l, t ∈ f x := by
  induction l with
  | nil => simp [cat]
  | cons x l ih => simp [cat, ih]
def guardSlot (ops : List Oper) (o : Oper) : List Nat :=
  match o.guard with
  | none => []
  | some (j, _) => match ops[j]? with
    | some oj => match oj.dst with
      | some t => [t]
      | none => []
    | none => []
/-- The slots that an operation looks at. -/
def namesOf (ops : List Oper) (o : Oper) : List Nat := cat tmpOf o.op.operands.toList ++ guardSlot ops o
def slotIds (env : List (Nat × SV)) (t : Nat) : List Nat :=
  match look env t with
  | some sv => svIds sv
  | none => []
def accOf (ops : List Oper) (r : Rec) : List Nat := cat (slotIds r.env) (namesOf ops r.o)
def chgIds : List (Nat × Option Blk) → List Nat
  | [] => []
  | (i, _) :: l => i :: chgIds l
def has (l : List Nat) (x : Nat) : Bool :=
  match l with
  | [] => false
  | y :: l => match Nat.beq y x with | true => true | false => has l x
theorem has_iff {l : List Nat} {x : Nat} : has l x = true ↔ x ∈ l := by
  induction l with
  | nil => simp [has]
  | cons y l ih =>
    simp only [has]
    split
    · rename_i e; simp [Nat.eq_of_beq_eq_true e]
    · rename_i e
      rw [ih]
      have : x ≠ y := fun e' => by subst e'; rw [beq_self] at e; cases e
      simp [this]
def allB {α : Type} (f : α → Bool) : List α → Bool
  | [] => true
  | x :: l => match f x with | true => allB f l | false => false
theorem allB_iff {α : Type} {f : α → Bool} {l : List α} : allB f l = true ↔ ∀ x ∈ l, f x = true := by
  induction l with
  | nil => simp [allB]
  | cons x l ih =>
    simp only [allB]
    split
    · rename_i e; simp [e, ih]
    · rename_i e; simp [e]
/-- Which operations an operation waits for, in the end: a bit each. -/
def maskOf (acc : List Nat) : List Edge → Nat
  | [] => 0
  | e :: l => match Region.binds .any e with
    | true => Nat.lor (Nat.lor (2 ^ e.on) (acc.getD e.on 0)) (maskOf acc l)
    | false => maskOf acc l
def masks : List Oper → List Nat → List Nat
  | [], acc => acc
  | o :: l, acc => masks l (acc ++ [maskOf acc o.after.toList])
def winB (r : Rec) (id : Nat) : Bool := Nat.ble r.nid id && Nat.blt id (r.nid + 8)
/-- What stands in an operation's record. -/
def touchOf (ops : List Oper) (r : Rec) : List Nat := accOf ops r ++ (svIds r.sv ++ chgIds r.chg)
/-- Two operations (the first comes first in the text) between which an order is needed. -/
def needs (ops : List Oper) (r s : Rec) : Bool :=
  (match r.o.dst with
   | some d => has (namesOf ops s.o) d || (match s.o.dst with | some d' => Nat.beq d d' | none => false)
   | none => false) ||
  ((match s.o.dst with
    | some d => has (namesOf ops r.o) d
    | none => false) ||
   ((!allB (fun id => !(winB r id || has (chgIds r.chg) id)) (touchOf ops s)) || (!allB (fun id => !has (chgIds s.chg) id) (touchOf ops r))))
def sameDst (r s : Rec) : Bool :=
  match r.o.dst with
  | some d => match s.o.dst with
    | some d' => Nat.beq d d'
    | none => false
  | none => false
def pairs (ops : List Oper) (ms : List Nat) : List (Rec × Nat) → Bool
  | [] => true
  | (r, i) :: l => match allB (fun (p : Rec × Nat) => (!sameDst r p.1) && (!needs ops r p.1 || Nat.testBit (ms.getD p.2 0) i)) l with
    | true => pairs ops ms l
    | false => false
def recOk (ops : List Oper) (p : Rec × Nat) : Bool :=
  allB (fun (e : Edge) => !Region.binds .any e || Nat.blt e.on p.2) p.1.o.after.toList &&
  (allB (fun id => Nat.blt id p.1.nid) (accOf ops p.1) &&
   (allB (fun id => Nat.blt id (p.1.nid + 8)) (svIds p.1.sv ++ chgIds p.1.chg) &&
    (isNid p.1.o.op || allB (fun id => Nat.blt id p.1.nid) (svIds p.1.sv ++ chgIds p.1.chg))))
def noG : List (Nat × SV) → Bool
  | [] => true
  | (_, x) :: l => match x with
    | .g _ _ _ => false
    | _ => noG l
def numbered : List Rec → Nat → List (Rec × Nat)
  | [], _ => []
  | r :: l, k => (r, k) :: numbered l (k + 1)
def orderOk (ops : List Oper) (env : List (Nat × SV)) (rs : List Rec) : Bool :=
  noG env && (allB (recOk ops) (numbered rs 0) && pairs ops (masks ops []) (numbered rs 0))

/-! ### What an operation waits for -/
inductive Dep (ops : List Oper) : Nat → Nat → Prop where
  | edge {i j : Nat} {o : Oper} {e : Edge} (h : ops[j]? = some o) (he : e ∈ o.after.toList) (hb : Region.binds .any e = true) (hi : e.on = i) : Dep ops i j
  | more {i j : Nat} {o : Oper} {e : Edge} (h : ops[j]? = some o) (he : e ∈ o.after.toList) (hb : Region.binds .any e = true) (hi : Dep ops i e.on) : Dep ops i j
theorem maskOf_spec {acc : List Nat} {i : Nat} : ∀ {l : List Edge}, (maskOf acc l).testBit i = true → ∃ e ∈ l, Region.binds .any e = true ∧ (e.on = i ∨ (acc.getD e.on 0).testBit i = true)
  | [], h => by simp [maskOf] at h
  | e :: l, h => by
    simp only [maskOf] at h
    split at h
    · rename_i hb
      have h : ((2 ^ e.on ||| acc.getD e.on 0) ||| maskOf acc l).testBit i = true := h
      simp only [Nat.testBit_or, Bool.or_eq_true, Nat.testBit_two_pow, decide_eq_true_eq] at h
      rcases h with (h | h) | h
      · exact ⟨e, by simp, hb, .inl h⟩
      · exact ⟨e, by simp, hb, .inr h⟩
      · obtain ⟨e', h1, h2⟩ := maskOf_spec h
        exact ⟨e', by simp [h1], h2⟩
    · obtain ⟨e', h1, h2⟩ := maskOf_spec h
      exact ⟨e', by simp [h1], h2⟩
theorem masks_spec {ops : List Oper} : ∀ {l : List Oper} {acc : List Nat}, (∀ j, l[j]? = ops[acc.length + j]?) → (∀ i j, (acc.getD j 0).testBit i = true → Dep ops i j) → ∀ i j, ((masks l acc).getD j 0).testBit i = true → Dep ops i j
  | [], acc, _, h => h
  | o :: l, acc, hl, h => by
    refine masks_spec (l := l) (fun j => ?_) fun i j hj => ?_
    · have := hl (j + 1)
      simp only [List.getElem?_cons_succ] at this
      rw [this]
      simp [Nat.add_assoc, Nat.add_comm 1 j]
    · have h0 : ops[acc.length]? = some o := by simpa using (hl 0).symm
      by_cases hlt : j < acc.length
      · have : (acc ++ [maskOf acc o.after.toList]).getD j 0 = acc.getD j 0 := by simp [List.getElem?_append_left hlt]
        rw [this] at hj
        exact h i j hj
      · by_cases heq : j = acc.length
        · subst heq
          have : (acc ++ [maskOf acc o.after.toList]).getD acc.length 0 = maskOf acc o.after.toList := by simp
          rw [this] at hj
          obtain ⟨e, h1, h2, h3⟩ := maskOf_spec hj
          rcases h3 with h3 | h3
          · exact .edge h0 h1 h2 h3
          · exact .more h0 h1 h2 (h i _ h3)
        · have : (acc ++ [maskOf acc o.after.toList]).getD j 0 = 0 := by
            simp [List.getElem?_eq_none (show (acc ++ [maskOf acc o.after.toList]).length ≤ j by simp; omega)]
          rw [this] at hj
          simp at hj
/-- What has come up is closed under waiting. -/
def Closed (ops : List Oper) (L : Nat → Bool) : Prop := ∀ j o, ops[j]? = some o → L j = true → ∀ e ∈ o.after.toList, Region.binds .any e = true → L e.on = true
theorem dep_listed {ops : List Oper} {L : Nat → Bool} (hc : Closed ops L) {i j : Nat} (h : Dep ops i j) : (∀ o, ops[j]? = some o → ∀ e ∈ o.after.toList, Region.binds .any e = true → L e.on = true) → L i = true := by
  induction h with
  | edge h he hb hi => intro hj; subst hi; exact hj _ h _ he hb
  | more h he hb hi ih => intro hj; exact ih fun o' ho' e' he' hb' => hc _ o' ho' (hj _ h _ he hb) e' he' hb'
end Go.Sx
