/-
  A small base for symbolic runs: float operations as plain functions on bits, and values that are equal up to the bits of a NaN.
-/
import Derived.Calls
import Derived.OpenShut
import Derived.Laws.FloatArith
import Derived.WalkKit
import Derived.Deep.Draws
set_option linter.unusedSimpArgs false
set_option linter.unusedVariables false
namespace Go.Sx

/-- The kernel does not look into a hidden value. -/
noncomputable def hide {α : Type} (a : α) : { b : α // b = a } := Classical.choice ⟨⟨a, rfl⟩⟩
theorem hide_eq {α : Type} (a : α) : (hide a).val = a := (hide a).property

def isNaN (k : FloatKind) (x : Nat) : Bool := (k.decode x).isNaN
def qnan : FloatKind → Nat
  | .f32 => 2143289344
  | .f64 => 9221120237041090560
theorem isNaN_qnan (k : FloatKind) : isNaN k (qnan k) = true := by cases k <;> decide

def fari0 (op : BinOp) (k : FloatKind) (x y : Nat) : Nat := (floatBits op k x y).getD (qnan k)
noncomputable def fari (op : BinOp) (k : FloatKind) (x y : Nat) : Nat := (hide (fari0 op k x y)).val
def fcmp0 (op : BinOp) (k : FloatKind) (x y : Nat) : Bool :=
  let c := k.format.order x y
  match op with
  | .eql => c == some .eq
  | .neq => c != some .eq
  | .lss => c == some .lt
  | .leq => c == some .lt || c == some .eq
  | .gtr => c == some .gt
  | .geq => c == some .gt || c == some .eq
  | _ => false
noncomputable def fcmp (op : BinOp) (k : FloatKind) (x y : Nat) : Bool := (hide (fcmp0 op k x y)).val

/-- The same number, or both no number. -/
def feq (k : FloatKind) (x y : Nat) : Prop := x = y ∨ (isNaN k x = true ∧ isNaN k y = true)
theorem feq.refl (k : FloatKind) (x : Nat) : feq k x x := .inl rfl
theorem feq.symm {k : FloatKind} {x y : Nat} (h : feq k x y) : feq k y x := h.elim (fun e => .inl e.symm) (fun e => .inr ⟨e.2, e.1⟩)
theorem feq.nan {k : FloatKind} {x y : Nat} (h : feq k x y) : isNaN k x = isNaN k y := by
  rcases h with rfl | ⟨a, b⟩
  · rfl
  · rw [a, b]

/-- A cell's value, whole numbers in their kind's range. -/
def okc : Value → Bool
  | .agg _ => false
  | .tuple _ => false
  | .int k n => decide (k.min ≤ n) && decide (n ≤ k.max)
  | _ => true
theorem okc_one {v : Value} (h : okc v = true) : v.oneCell' = true := by
  cases v <;> first | rfl | cases h
theorem okc_wrap (k : IntKind) (n : Int) : okc (.int k (k.wrap n)) = true := by
  have : (Lit.int k (k.wrap n)).wf = true := Go.wf_wrap k n
  exact this
def ceq (a b : Value) : Prop := okc b = true ∧ (a = b ∨ ∃ k x y, a = .float k x ∧ b = .float k y ∧ isNaN k x = true ∧ isNaN k y = true)
theorem ceq.refl {a : Value} (h : okc a = true) : ceq a a := ⟨h, .inl rfl⟩
theorem ceq.ok {a b : Value} (h : ceq a b) : okc b = true := h.1
theorem ceq.of_feq {k : FloatKind} {x y : Nat} (h : feq k x y) : ceq (.float k x) (.float k y) := by
  refine ⟨rfl, ?_⟩
  rcases h with rfl | ⟨a, b⟩
  · exact .inl rfl
  · exact .inr ⟨k, x, y, rfl, rfl, a, b⟩
theorem ceq.float {k : FloatKind} {x : Nat} {b : Value} (h : ceq (.float k x) b) : ∃ y, b = .float k y ∧ feq k x y := by
  obtain ⟨_, rfl | ⟨k', x', y, e, rfl, hx, hy⟩⟩ := h
  · exact ⟨x, rfl, .inl rfl⟩
  · cases e; exact ⟨y, rfl, .inr ⟨hx, hy⟩⟩
theorem ceq.int {k : IntKind} {x : Int} {b : Value} (h : ceq (.int k x) b) : b = .int k x := by
  obtain ⟨_, rfl | ⟨k', x', y, e, _⟩⟩ := h
  · rfl
  · cases e
theorem ceq.bool {x : Bool} {b : Value} (h : ceq (.bool x) b) : b = .bool x := by
  obtain ⟨_, rfl | ⟨k', x', y, e, _⟩⟩ := h
  · rfl
  · cases e
theorem ceq.string {x : ByteArray} {b : Value} (h : ceq (.string x) b) : b = .string x := by
  obtain ⟨_, rfl | ⟨k', x', y, e, _⟩⟩ := h
  · rfl
  · cases e
theorem ceq.slice {x : Option Addr} {l c : Nat} {b : Value} (h : ceq (.slice x l c) b) : b = .slice x l c := by
  obtain ⟨_, rfl | ⟨k', x', y, e, _⟩⟩ := h
  · rfl
  · cases e
theorem ceq.pointer {x : Option Addr} {b : Value} (h : ceq (.pointer x) b) : b = .pointer x := by
  obtain ⟨_, rfl | ⟨k', x', y, e, _⟩⟩ := h
  · rfl
  · cases e
theorem ceq.one {a b : Value} (h : ceq a b) : b.oneCell' = true := okc_one h.1
theorem ceq.one' {a b : Value} (h : ceq a b) : a.oneCell' = true := by
  obtain ⟨h1, rfl | ⟨k, x, y, rfl, rfl, _⟩⟩ := h
  · exact okc_one h1
  · rfl
theorem ceq.range {k : IntKind} {x : Int} {b : Value} (h : ceq (.int k x) b) : k.min ≤ x ∧ x ≤ k.max := by
  have e := h.int
  subst e
  have := h.1
  simpa [okc] using this

/-- Cell by cell. -/
def ceqs : List Value → List Value → Prop
  | [], [] => True
  | a :: as, b :: bs => ceq a b ∧ ceqs as bs
  | _, _ => False
theorem ceqs.length : ∀ {as bs : List Value}, ceqs as bs → as.length = bs.length
  | [], [], _ => rfl
  | _ :: _, _ :: _, h => by simp [ceqs.length h.2]
  | [], _ :: _, h => h.elim
  | _ :: _, [], h => h.elim
theorem ceqs.get : ∀ {as bs : List Value}, ceqs as bs → ∀ (i : Nat) (a : Value), as[i]? = some a → ∃ b, bs[i]? = some b ∧ ceq a b
  | _ :: _, b :: _, h, 0, a, e => by simp at e; subst e; exact ⟨b, rfl, h.1⟩
  | _ :: as, _ :: bs, h, i + 1, a, e => by simpa using ceqs.get h.2 i a (by simpa using e)
  | [], _, _, i, a, e => by simp at e
  | _ :: _, [], h, _, _, _ => h.elim
theorem ceqs.of_get : ∀ {as bs : List Value}, as.length = bs.length → (∀ (i : Nat) (a b : Value), as[i]? = some a → bs[i]? = some b → ceq a b) → ceqs as bs
  | [], [], _, _ => trivial
  | a :: as, b :: bs, hl, h => ⟨h 0 a b rfl rfl, ceqs.of_get (by simpa using hl) fun i x y hx hy => h (i + 1) x y (by simpa using hx) (by simpa using hy)⟩
  | [], _ :: _, hl, _ => by simp at hl
  | _ :: _, [], hl, _ => by simp at hl
theorem ceqs.refl {as : List Value} (h : ∀ a ∈ as, okc a = true) : ceqs as as := by
  induction as with
  | nil => trivial
  | cons a as ih => exact ⟨ceq.refl (h a (by simp)), ih fun b hb => h b (by simp [hb])⟩
theorem ceqs.one : ∀ {as bs : List Value}, ceqs as bs → ∀ b ∈ bs, b.oneCell' = true
  | [], [], _, _, hb => by cases hb
  | _ :: _, b :: _, h, c, hc => by
    rcases List.mem_cons.1 hc with rfl | hc
    · exact h.1.one
    · exact ceqs.one h.2 c hc
  | [], _ :: _, h, _, _ => h.elim
  | _ :: _, [], h, _, _ => h.elim
theorem ceqs.one' : ∀ {as bs : List Value}, ceqs as bs → ∀ b ∈ as, b.oneCell' = true
  | [], _, _, _, hb => by cases hb
  | a :: _, b :: _, h, c, hc => by
    rcases List.mem_cons.1 hc with rfl | hc
    · exact h.1.one'
    · exact ceqs.one' h.2 c hc
  | _ :: _, [], h, _, _ => h.elim
theorem ceqs.append {as bs cs ds : List Value} (h : ceqs as bs) (h' : ceqs cs ds) : ceqs (as ++ cs) (bs ++ ds) := by
  induction as generalizing bs with
  | nil => cases bs with
    | nil => exact h'
    | cons b bs => exact h.elim
  | cons a as ih => cases bs with
    | nil => exact h.elim
    | cons b bs => exact ⟨h.1, ih h.2⟩
theorem ceqs.take {as bs : List Value} (h : ceqs as bs) (n : Nat) : ceqs (as.take n) (bs.take n) := by
  induction as generalizing bs n with
  | nil => cases bs with
    | nil => simp; trivial
    | cons b bs => exact h.elim
  | cons a as ih => cases bs with
    | nil => exact h.elim
    | cons b bs => cases n with
      | zero => trivial
      | succ n => exact ⟨h.1, ih h.2 n⟩
theorem ceqs.drop {as bs : List Value} (h : ceqs as bs) (n : Nat) : ceqs (as.drop n) (bs.drop n) := by
  induction as generalizing bs n with
  | nil => cases bs with
    | nil => simp; trivial
    | cons b bs => exact h.elim
  | cons a as ih => cases bs with
    | nil => exact h.elim
    | cons b bs => cases n with
      | zero => exact h
      | succ n => exact ih h.2 n
/-- Cells laid over cells from a place on. -/
def over (cs : List Value) (off : Nat) (xs : List Value) : List Value := cs.take off ++ xs ++ cs.drop (off + xs.length)
theorem ceqs.over {as bs xs ys : List Value} (h : ceqs as bs) (h' : ceqs xs ys) (off : Nat) : ceqs (over as off xs) (over bs off ys) := by
  unfold Sx.over
  rw [h'.length]
  exact ((h.take off).append h').append (h.drop _)
theorem length_over {cs xs : List Value} {off : Nat} (h : off + xs.length ≤ cs.length) : (over cs off xs).length = cs.length := by
  unfold over
  simp only [List.length_append, List.length_take, List.length_drop]
  omega

/-- Values that are equal up to NaNs; structs and arrays cell by cell. -/
def veq (a b : Value) : Prop :=
  match a with
  | .agg cs => ∃ ds, b = .agg ⟨ds⟩ ∧ ceqs cs.toList ds
  | a => ceq a b
theorem veq.cells {a b : Value} (h : veq a b) : ceqs a.cells.toList b.cells.toList := by
  cases a
  case agg cs => obtain ⟨ds, rfl, h⟩ := h; simpa [Value.cells] using h
  all_goals
    have h : ceq _ b := h
    have h1 := h.one
    cases b <;> simp [Value.cells, ceqs, Value.oneCell'] at h1 ⊢ <;> exact h
theorem veq.of_ceq {a b : Value} (h : ceq a b) : veq a b := by
  have h1 := h.one'
  cases a <;> first | exact h | simp [Value.oneCell'] at h1
theorem veq.agg {cs ds : List Value} (h : ceqs cs ds) : veq (.agg ⟨cs⟩) (.agg ⟨ds⟩) := ⟨ds, rfl, h⟩
theorem veq.agg_inv {cs : List Value} {b : Value} (h : veq (.agg ⟨cs⟩) b) : ∃ ds, b = .agg ⟨ds⟩ ∧ ceqs cs ds := h
theorem veq.float {k : FloatKind} {x : Nat} {b : Value} (h : veq (.float k x) b) : ∃ y, b = .float k y ∧ feq k x y := ceq.float h
theorem veq.int {k : IntKind} {x : Int} {b : Value} (h : veq (.int k x) b) : b = .int k x := ceq.int h
theorem veq.range {k : IntKind} {x : Int} {b : Value} (h : veq (.int k x) b) : k.min ≤ x ∧ x ≤ k.max := ceq.range h
theorem veq.bool {x : Bool} {b : Value} (h : veq (.bool x) b) : b = .bool x := ceq.bool h
theorem veq.string {x : ByteArray} {b : Value} (h : veq (.string x) b) : b = .string x := ceq.string h
theorem veq.of_feq {k : FloatKind} {x y : Nat} (h : feq k x y) : veq (.float k x) (.float k y) := veq.of_ceq (.of_feq h)
theorem veq.ne_tuple {a : Value} {vs : Array Value} (h : veq a (.tuple vs)) : False := by
  cases a
  case agg cs => obtain ⟨ds, h, _⟩ := h; cases h
  all_goals exact absurd (ceq.one h) (by simp [Value.oneCell'])

/-! ### Floats -/
theorem decode_nan {k : FloatKind} {x : Nat} (h : isNaN k x = true) : ∃ s f, k.format.read x = .nan s f := by
  unfold isNaN FloatKind.decode at h
  generalize k.format.read x = d at *
  cases d <;> simp [Ieee.Datum.isNaN] at h
  exact ⟨_, _, rfl⟩
theorem floatBits_nan {op : BinOp} {k : FloatKind} {x y : Nat} (h : isNaN k x = true ∨ isNaN k y = true) : floatBits op k x y = none := by
  rcases h with h | h <;> obtain ⟨s, f, e⟩ := decode_nan h <;> unfold floatBits
  · cases op <;> simp [Ieee.Format.add, Ieee.Format.sub, Ieee.Format.mul, Ieee.Format.div, e, Ieee.Datum.sum, Ieee.Datum.product, Ieee.Datum.quotient]
  · cases op <;> simp only [Ieee.Format.add, Ieee.Format.sub, Ieee.Format.mul, Ieee.Format.div, e] <;> cases k.format.read x <;> rfl
theorem order_nan {k : FloatKind} {x y : Nat} (h : isNaN k x = true ∨ isNaN k y = true) : k.format.order x y = none := by
  rcases h with h | h <;> obtain ⟨s, f, e⟩ := decode_nan h <;> simp only [Ieee.Format.order, e]
  · simp [Ieee.Datum.order]
  · cases k.format.read x <;> rfl
theorem fcmp_feq {op : BinOp} {k : FloatKind} {x y x' y' : Nat} (h : feq k x x') (h' : feq k y y') : fcmp0 op k x y = fcmp0 op k x' y' := by
  have : k.format.order x y = k.format.order x' y' := by
    rcases h with rfl | ⟨a, b⟩
    · rcases h' with rfl | ⟨a, b⟩
      · rfl
      · rw [order_nan (.inr a), order_nan (.inr b)]
    · rw [order_nan (.inl a), order_nan (.inl b)]
  unfold fcmp0
  rw [this]
theorem fari_feq {op : BinOp} {k : FloatKind} {x y x' y' : Nat} (h : feq k x x') (h' : feq k y y') : floatBits op k x y = floatBits op k x' y' := by
  rcases h with rfl | ⟨a, b⟩
  · rcases h' with rfl | ⟨a, b⟩
    · rfl
    · rw [floatBits_nan (.inr a), floatBits_nan (.inr b)]
  · rw [floatBits_nan (.inl a), floatBits_nan (.inl b)]
theorem isNaN_of {k : FloatKind} {x : Nat} (h0 : k.format.binade ≤ k.format.infRung) (h : k.format.infRung < x % k.format.signWeight) : isNaN k x = true := by
  unfold isNaN FloatKind.decode Ieee.Format.read
  dsimp only
  rw [if_neg (by omega), if_neg (by omega), if_neg (by omega)]
  rfl
/-- What is drawn for a NaN is a NaN. -/
theorem isNaN_cut32 (t : Nat) : isNaN .f32 ((t % 2) * 2 ^ 31 + 0x7f800000 + 1 + (t / 2) % (2 ^ 23 - 1)) = true := by
  have h1 : (t / 2) % (2 ^ 23 - 1) < 2 ^ 23 - 1 := Nat.mod_lt _ (by decide)
  generalize (t / 2) % (2 ^ 23 - 1) = f at *
  refine isNaN_of (by decide) ?_
  show 0x7f800000 < _ % 2147483648
  omega
theorem isNaN_cut64 (t : Nat) : isNaN .f64 ((t % 2) * 2 ^ 63 + 0x7ff0000000000000 + 1 + (t / 2) % (2 ^ 52 - 1)) = true := by
  have h1 : (t / 2) % (2 ^ 52 - 1) < 2 ^ 52 - 1 := Nat.mod_lt _ (by decide)
  generalize (t / 2) % (2 ^ 52 - 1) = f at *
  refine isNaN_of (by decide) ?_
  show 0x7ff0000000000000 < _ % 9223372036854775808
  omega
theorem isNaN_nanBits (k : FloatKind) (x y t : Nat) : isNaN k ((Question.nanBits k x y).cut t) = true := by
  cases k
  · exact isNaN_cut32 t
  · exact isNaN_cut64 t
theorem isNaN_nanConv (k : FloatKind) (x t : Nat) : isNaN k ((Question.nanConv k x).cut t) = true := by
  cases k
  · exact isNaN_cut32 t
  · exact isNaN_cut64 t
theorem isNaN_nanMinMax (k : FloatKind) (m : Bool) (x y t : Nat) : isNaN k ((Question.nanMinMax k m x y).cut t) = true := by
  cases k
  · exact isNaN_cut32 t
  · exact isNaN_cut64 t
/-- An operation on floats: what it gives, up to a NaN's bits; the world may have drawn once. -/
theorem run_fari {P : Program} (w : World) {op : BinOp} (hop : op = .add ∨ op = .sub ∨ op = .mul ∨ op = .quo) (t : TypeId) {k : FloatKind} {x y x' y' : Nat} (h : feq k x x') (h' : feq k y y') :
    ∃ r n, (binOp op t (.float k x') (.float k y')).run P w = .ok (.float k r) (w.drewN n) ∧ feq k (fari op k x y) r := by
  have e : fari op k x y = fari0 op k x y := hide_eq _
  rw [e]
  unfold fari0
  rw [fari_feq (op := op) h h']
  cases hb : floatBits op k x' y' with
  | some r => exact ⟨r, 0, by rw [run_float_arith w op t k x' y' r hb]; rfl, .inl rfl⟩
  | none =>
    refine ⟨(Question.nanBits k x' y').cut (w.tape w.drawn (.nanBits k x' y')), 1, ?_, .inr ⟨isNaN_qnan k, isNaN_nanBits ..⟩⟩
    have hf : (Question.nanBits k x' y').forced = false := rfl
    unfold floatBits at hb
    rcases hop with rfl | rfl | rfl | rfl <;> simp at hb <;>
      simp [binOp, Op.floatArith, hb, hf] <;> rfl
theorem run_fcmp {P : Program} (w : World) {op : BinOp} (hop : op = .eql ∨ op = .neq ∨ op = .lss ∨ op = .leq ∨ op = .gtr ∨ op = .geq) (t : TypeId) {k : FloatKind} {x y x' y' : Nat} (h : feq k x x') (h' : feq k y y') :
    (binOp op t (.float k x') (.float k y')).run P w = .ok (.bool (fcmp op k x y)) w := by
  have e : fcmp op k x y = fcmp0 op k x y := hide_eq _
  rw [e, fcmp_feq h h']
  rcases hop with rfl | rfl | rfl | rfl | rfl | rfl <;> simp [binOp, Op.floatCmp, fcmp0]
end Go.Sx
