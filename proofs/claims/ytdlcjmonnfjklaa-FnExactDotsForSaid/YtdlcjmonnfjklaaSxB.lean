/-
  Symbolic states: slots, blocks, types, contracts; one operation's symbolic step.
-/
import Derived.Test.YtdlcjmonnfjklaaSxA
set_option linter.unusedSimpArgs false
set_option linter.unusedVariables false
namespace Go.Sx
open Go.RowKit (Below)

/-! ### Tables -/
def look {α : Type} : List (Nat × α) → Nat → Option α
  | [], _ => none
  | (i, x) :: l, j => match Nat.beq i j with | true => some x | false => look l j

def rep : Nat → Value → List Value → List Value
  | 0, _, l => l
  | n + 1, v, l => v :: rep n v l
inductive TD where
  | arr (len elem : Nat) | st (fs : List (Nat × Nat)) | sl (e : Nat) | ik (k : IntKind) | fk (k : FloatKind) | bl | str | ptr (e : Nat) | ot
structure TI where
  agg : Bool
  size : Nat
  bytes : Nat
  zero : List Value
  d : TD

/-- An atomic symbolic value: one that is known; one that is not; an address in a block; a slice of a block; the slice that owns a growing row. -/
inductive AV where
  | k (x : Value)
  | v (x : Value)
  | p (id off : Nat)
  | s (id off len cap : Nat)
  | r (id : Nat)
inductive SV where
  | a (x : AV)
  | g (t : Nat) (want : Bool) (x : AV)
  | tu (l : List AV)
  | u
  | zz
inductive Blk where
  | c (own : Bool) (ty : Nat) (cs : List Value)
  | r (ty esz n : Nat) (xs : List Value)

structure Rho where
  b : Nat → Nat
  o : Nat → Nat
  s : Nat → Value

def AV.den (ρ : Rho) : AV → Value → Prop
  | .k x, y => y = x ∧ okc y = true
  | .v x, y => veq x y
  | .p id off, y => y = .pointer (some ⟨ρ.b id, ρ.o id + off, none⟩)
  | .s id off len cap, y => y = .slice (some ⟨ρ.b id, ρ.o id + off, none⟩) len cap ∨ (len = 0 ∧ y = .slice none 0 0)
  | .r id, y => y = ρ.s id
def AV.lt (n : Nat) : AV → Prop
  | .p id _ | .s id _ _ _ | .r id => id < n
  | _ => True
def dens (ρ : Rho) : List AV → List Value → Prop
  | [], [] => True
  | x :: l, y :: m => x.den ρ y ∧ dens ρ l m
  | _, _ => False
def SV.den (ρ : Rho) (tm : Array Value) : SV → Value → Prop
  | .a x, y => x.den ρ y
  | .g t want x, y => tm.getD t undef = .bool want → x.den ρ y
  | .tu l, y => ∃ ys, y = .tuple ⟨ys⟩ ∧ dens ρ l ys
  | .u, y => y = undef
  | .zz, _ => True
def SV.lt (n : Nat) : SV → Prop
  | .a x => x.lt n
  | .tu l => ∀ x ∈ l, x.lt n
  | .g _ _ x => x.lt n
  | .u => True
  | .zz => True
def SV.plain : SV → Prop
  | .g _ _ _ => False
  | .zz => False
  | _ => True

def Blk.ag (ρ : Rho) (base : Nat) (w : World) (id : Nat) : Blk → Prop
  | .c own ty cs => ∃ arr ty' fr ds, w.heap[ρ.b id]? = some (.cells arr ty' fr) ∧ ceqs cs ds ∧ (∀ (i : Nat) v, ds[i]? = some v → arr[ρ.o id + i]? = some v) ∧
      (own = true → ty' = ty ∧ fr = (0, 0) ∧ ρ.o id = 0 ∧ arr = ⟨ds⟩ ∧ base ≤ ρ.b id)
  | .r ty esz n xs => ∃ ys, w.ownsRow base ty esz (ρ.s id) n ys ∧ ceqs xs ys ∧ ∀ g n' cap, ρ.s id = .slice (some g) n' cap → ρ.b id = g.block ∧ ρ.o id = 0
def Blk.bof (ρ : Rho) (id : Nat) : Blk → Option Nat
  | .c .. => some (ρ.b id)
  | .r .. => (ρ.s id).ownBlock
def Blk.ownd : Blk → Bool
  | .c o .. => o
  | .r .. => true

structure WAg (base : Nat) (w0 : World) (T : Nat → Option Blk) (ρ : Rho) (w : World) : Prop where
  blk : ∀ id b, T id = some b → b.ag ρ base w id
  sep : ∀ i j bi bj, i ≠ j → T i = some bi → T j = some bj → bi.ownd = true → ∀ n, bi.bof ρ i = some n → bj.bof ρ j ≠ some n
  below : Below base w0 w
  le : base ≤ w.heap.size

/-! ### Contracts -/
inductive PK where
  | v
  | p (n : Nat)
  | s (esz : Nat)
inductive RA where
  | v (x : Value)
  | l (ty esz n : Nat) (xs : List Value)
inductive RV where
  | o (x : RA)
  | tu (l : List RA)
structure Ctr where
  pk : List PK
  m : List Value → Option RV

/-- What an argument reads as. -/
def ReadsAs (w : World) : PK → Value → Value → Prop
  | .v, y, x => veq x y
  | .p n, y, x => ∃ b off arr ty fr cs ds, y = .pointer (some ⟨b, off, none⟩) ∧ w.heap[b]? = some (.cells arr ty fr) ∧ x = .agg ⟨cs⟩ ∧ cs.length = n ∧ ceqs cs ds ∧ ∀ (i : Nat) v, ds[i]? = some v → arr[off + i]? = some v
  | .s esz, y, x => (y = .slice none 0 0 ∧ x = .agg ⟨[]⟩) ∨ ∃ b off len cap arr ty fr cs ds, y = .slice (some ⟨b, off, none⟩) len cap ∧ w.heap[b]? = some (.cells arr ty fr) ∧ x = .agg ⟨cs⟩ ∧ cs.length = len * esz ∧ ceqs cs ds ∧ ∀ (i : Nat) v, ds[i]? = some v → arr[off + i]? = some v
def ReadsAll (w : World) : List PK → List Value → List Value → Prop
  | [], [], [] => True
  | k :: ks, y :: ys, x :: xs => ReadsAs w k y x ∧ ReadsAll w ks ys xs
  | _, _, _ => False
def RA.den (base : Nat) (w : World) : RA → Value → Prop
  | .v x, y => veq x y
  | .l ty esz n xs, y => ∃ ys, w.ownsRow base ty esz y n ys ∧ ceqs xs ys
def RA.bof : RA → Value → Option Nat
  | .v _, _ => none
  | .l .., y => y.ownBlock
def rdens (base : Nat) (w : World) : List RA → List Value → Prop
  | [], [] => True
  | x :: l, y :: m => x.den base w y ∧ rdens base w l m
  | _, _ => False
/-- No two lists of one result share a block. -/
def rsep : List RA → List Value → Prop
  | x :: l, y :: m => (∀ n, x.bof y = some n → ∀ (i : Nat) (x' : RA) (y' : Value), l[i]? = some x' → m[i]? = some y' → x'.bof y' ≠ some n) ∧ rsep l m
  | _, _ => True
def RV.den (base : Nat) (w : World) : RV → Value → Prop
  | .o x, y => x.den base w y
  | .tu l, y => ∃ ys, y = .tuple ⟨ys⟩ ∧ rdens base w l ys ∧ rsep l ys
/-- A call of a function by its number. -/
def Invokes (P : Program) (f : FuncId) (args : Array Value) (w : World) (R : Value → World → Prop) : Prop :=
  ((callFunc f args).run P w = .ok (.enter f args) w ∧ Calls P f args w fun e w' => ∃ v, e = .returned v ∧ R v w') ∨
  ∃ v w', (callFunc f args).run P w = .ok (.value v) w' ∧ R v w'
def Good (P : Program) (f : FuncId) (c : Ctr) : Prop :=
  ∀ (w : World) (args vals : List Value) (rv : RV), ReadsAll w c.pk args vals → c.m vals = some rv →
    Invokes P f ⟨args⟩ w fun y w' => rv.den w.heap.size w' y ∧ Below w.heap.size w w'

/-! ### Operations on values -/
def wrapI (k : IntKind) (n : Int) : Int :=
  match k with
  | .i64 => match (decide (-9223372036854775808 ≤ n) && decide (n ≤ 9223372036854775807)) with | true => n | false => IntKind.wrap .i64 n
  | k => k.wrap n
theorem wrapI_eq (k : IntKind) (n : Int) : wrapI k n = k.wrap n := by
  unfold wrapI
  split
  · split
    · rename_i h
      simp only [Bool.and_eq_true, decide_eq_true_eq] at h
      simp only [IntKind.wrap, IntKind.signed, IntKind.bits]
      by_cases hh : n % 2 ^ 64 ≥ 2 ^ (64 - 1)
      · simp [hh]; simp at hh; omega
      · simp [hh]; simp at hh; omega
    · rfl
  · rfl
def intBin (op : BinOp) (k : IntKind) (a : Int) (k' : IntKind) (b : Int) : Option Value :=
  match op with
  | .shl => match decide (b < 0) with | true => none | false => some (.int k (wrapI k (a * 2 ^ (min b.toNat k.bits))))
  | .shr => match decide (b < 0) with | true => none | false => some (.int k (a.fdiv (2 ^ (min b.toNat k.bits))))
  | _ => match decide (k = k') with
    | false => none
    | true => match op with
      | .add => some (.int k (wrapI k (a + b)))
      | .sub => some (.int k (wrapI k (a - b)))
      | .mul => some (.int k (wrapI k (a * b)))
      | .quo => match decide (b = 0) with | true => none | false => some (.int k (wrapI k (a.tdiv b)))
      | .rem => match decide (b = 0) with | true => none | false => some (.int k (a.tmod b))
      | .and => some (.int k (k.wrap (BitVec.ofInt k.bits a &&& BitVec.ofInt k.bits b).toNat))
      | .or => some (.int k (k.wrap (BitVec.ofInt k.bits a ||| BitVec.ofInt k.bits b).toNat))
      | .eql => some (.bool (a == b))
      | .neq => some (.bool (a != b))
      | .lss => some (.bool (decide (a < b)))
      | .leq => some (.bool (decide (a ≤ b)))
      | .gtr => some (.bool (decide (a > b)))
      | .geq => some (.bool (decide (a ≥ b)))
      | _ => none
noncomputable def floBin (op : BinOp) (k : FloatKind) (a b : Nat) : Option Value :=
  match op with
  | .add | .sub | .mul | .quo => some (.float k (fari op k a b))
  | .eql | .neq | .lss | .leq | .gtr | .geq => some (.bool (fcmp op k a b))
  | _ => none
noncomputable def strEq (a b : ByteArray) : Bool := (hide (a.toList == b.toList)).val
noncomputable def valBin (op : BinOp) (d : TD) : Value → Value → Option Value
  | .int k a, .int k' b => intBin op k a k' b
  | .float k a, .float k' b => match decide (k = k') with | true => floBin op k a b | false => none
  | .bool a, .bool b => match d with
    | .bl => match op with
      | .eql => some (.bool (a == b))
      | .neq => some (.bool (!(a == b)))
      | _ => none
    | _ => none
  | .string a, .string b => match op with
    | .eql => some (.bool (strEq a b))
    | .neq => some (.bool (!strEq a b))
    | _ => none
  | _, _ => none

noncomputable def cvt0 (b : Nat) : Nat :=
  match FloatKind.f32.decode b with
  | .nan _ _ => qnan .f64
  | d => FloatKind.f64.encode d
noncomputable def cvt (b : Nat) : Nat := (hide (cvt0 b)).val
noncomputable def ofInt (k : FloatKind) (n : Int) : Nat := (hide (k.nearest n)).val
noncomputable def valConv (s d : TD) : Value → Option Value
  | .int _ n => match d with
    | .ik k => some (.int k (wrapI k n))
    | .fk k => some (.float k (ofInt k n))
    | _ => none
  | .float k b => match d with
    | .fk k' => match decide (k = k') with
      | true => some (.float k b)
      | false => match k with
        | .f32 => some (.float .f64 (cvt b))
        | .f64 => none
    | _ => none
  | _ => none
noncomputable def fneg (k : FloatKind) (b : Nat) : Nat := (hide (Op.negFloat k b)).val
noncomputable def valUn (op : UnOp) : Value → Option Value
  | .bool b => match op with | .not => some (.bool !b) | _ => none
  | .float k b => match op with | .neg => some (.float k (fneg k b)) | _ => none
  | .int k n => match op with | .neg => some (.int k (wrapI k (0 - n))) | _ => none
  | _ => none
noncomputable def fmin0 (isMax : Bool) (k : FloatKind) (x y : Nat) : Nat :=
  match k.format.order x y with
  | none => qnan k
  | some .lt => if isMax then y else x
  | some .gt => if isMax then x else y
  | some .eq => if (k.decode x).neg == isMax then y else x
noncomputable def fmin (isMax : Bool) (k : FloatKind) (x y : Nat) : Nat := (hide (fmin0 isMax k x y)).val

/-- A part of a list; none where it is too short. -/
def part : List Value → Nat → Nat → Option (List Value)
  | _, 0, 0 => some []
  | c :: cs, 0, n + 1 => match part cs 0 n with | some l => some (c :: l) | none => none
  | _ :: cs, o + 1, n => part cs o n
  | [], _, _ => none
/-- Cells laid over a list; none where it is too short. -/
def lay : List Value → Nat → List Value → Option (List Value)
  | cs, 0, [] => some cs
  | _ :: cs, 0, x :: xs => match lay cs 0 xs with | some l => some (x :: l) | none => none
  | c :: cs, o + 1, xs => match lay cs o xs with | some l => some (c :: l) | none => none
  | [], _, _ => none
theorem part_eq : ∀ {cs : List Value} {o n : Nat} {l : List Value}, part cs o n = some l → o + n ≤ cs.length ∧ l = (cs.drop o).take n ∧ l.length = n
  | cs, 0, 0, l, h => by
    have : l = [] := by cases cs <;> simp [part] at h <;> exact h
    subst this; simp
  | c :: cs, 0, n + 1, l, h => by
    simp only [part] at h
    split at h
    · rename_i m hm
      cases h
      obtain ⟨h1, h2, h3⟩ := part_eq hm
      simp only [Nat.zero_add] at h1
      simp only [List.drop_zero] at h2
      refine ⟨by simp; omega, by simp [h2], by simp [h3]⟩
    · cases h
  | c :: cs, o + 1, n, l, h => by
    have h : part cs o n = some l := by cases n <;> simpa [part] using h
    obtain ⟨h1, h2, h3⟩ := part_eq h
    exact ⟨by simp; omega, by simpa using h2, h3⟩
  | [], 0, n + 1, l, h => by simp [part] at h
  | [], o + 1, n, l, h => by cases n <;> simp [part] at h
theorem lay_eq : ∀ {cs : List Value} {o : Nat} {xs l : List Value}, lay cs o xs = some l → o + xs.length ≤ cs.length ∧ l = over cs o xs
  | cs, 0, [], l, h => by
    have : l = cs := by cases cs <;> simp [lay] at h <;> simp [h]
    subst this; simp [over]
  | c :: cs, 0, x :: xs, l, h => by
    simp only [lay] at h
    split at h
    · rename_i m hm
      cases h
      obtain ⟨h1, h2⟩ := lay_eq hm
      subst h2
      refine ⟨by simp at h1 ⊢; omega, by simp [over, Nat.add_comm]⟩
    · cases h
  | c :: cs, o + 1, xs, l, h => by
    have h : (match lay cs o xs with | some l => some (c :: l) | none => none) = some l := by cases xs <;> simpa [lay] using h
    split at h
    · rename_i m hm
      cases h
      obtain ⟨h1, h2⟩ := lay_eq hm
      subst h2
      refine ⟨by simp; omega, by simp [over, Nat.add_right_comm]⟩
    · cases h
  | [], 0, x :: xs, l, h => by simp [lay] at h
  | [], o + 1, xs, l, h => by cases xs <;> simp [lay] at h
end Go.Sx
