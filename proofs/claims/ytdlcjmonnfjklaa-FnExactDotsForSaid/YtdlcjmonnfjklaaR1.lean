/-
  PROVED HERE: contracts of the small tests on numbers, for every input; no conditions.
-/
import Derived.Test.YtdlcjmonnfjklaaR0
set_option linter.unusedSimpArgs false
set_option linter.unusedVariables false
namespace Go.Proofs.Ytdlcjmonnfjklaa
open Go.Sx

/-! ### Helpers -/
theorem goods_nil : ∀ f c, Sx.look ([] : List (Nat × Ctr)) f = some c → Sx.Good Try.prog f c := fun _ _ h => by cases h
theorem goods_cons {f0 : Nat} {c0 : Ctr} {C : List (Nat × Ctr)} (h0 : Sx.Good Try.prog f0 c0) (h : ∀ f c, Sx.look C f = some c → Sx.Good Try.prog f c) : ∀ f c, Sx.look ((f0, c0) :: C) f = some c → Sx.Good Try.prog f c := fun f c hl => by
  simp only [Sx.look] at hl
  split at hl
  · rename_i e
    have := Nat.eq_of_beq_eq_true e
    cases hl
    subst this
    exact h0
  · exact h f c hl
theorem good (m : Nat) {f : Nat} {fn : Func} (hf : Try.prog.funcs[f]? = some fn) (C : List (Nat × Ctr)) (hC : ∀ f c, Sx.look C f = some c → Sx.Good Try.prog f c) (hname : (fn.name == "runtime.NumGoroutine") = false) {c : Ctr}
    (hrun : ∀ vals rv, c.m vals = some rv → ∀ caps, ∃ o, runC Try.ti C 100000 m o fn c.pk caps vals = some rv) : Sx.Good Try.prog f c := good_of Try.tiok hC Try.mixed hf hname 100000 m hrun
def fl : Value → Nat | .float _ x => x | _ => 0
def nthV : List Value → Nat → Value
  | [], _ => .nilFunc
  | x :: _, 0 => x
  | _ :: l, i + 1 => nthV l i
def flAt (cs : List Value) (i : Nat) : Nat := fl (nthV cs i)
def fcf (f : Nat → Nat) (k : Nat) : Nat → List Value
  | 0 => []
  | n + 1 => .float .f32 (f k) :: fcf f (k + 1) n
def fcells (f : Nat → Nat) (n : Nat) : List Value := fcf f 0 n
def isFl : Nat → List Value → Bool
  | 0, [] => true
  | n + 1, .float .f32 _ :: l => isFl n l
  | _, _ => false
theorem isFl_fcf : ∀ {n : Nat} {cs : List Value}, isFl n cs = true → ∀ {k : Nat} {f : Nat → Nat}, (∀ i, i < n → f (k + i) = flAt cs i) → cs = fcf f k n
  | 0, [], _, k, f, _ => rfl
  | n + 1, .float .f32 x :: l, h, k, f, hf => by
    have h0 := hf 0 (by omega)
    simp only [fcf]
    congr 1
    · rw [show f k = x from h0]
    · exact isFl_fcf (n := n) (cs := l) h fun i hi => by
        have := hf (i + 1) (by omega)
        rw [show k + (i + 1) = k + 1 + i by omega] at this
        exact this
  | 0, _ :: _, h, _, _, _ => by simp [isFl] at h
  | _ + 1, [], h, _, _, _ => by simp [isFl] at h
  | _ + 1, .float .f64 _ :: _, h, _, _, _ => by simp [isFl] at h
  | _ + 1, .int .. :: _, h, _, _, _ | _ + 1, .bool .. :: _, h, _, _, _ | _ + 1, .complex .. :: _, h, _, _, _ | _ + 1, .string .. :: _, h, _, _, _ | _ + 1, .pointer .. :: _, h, _, _, _ | _ + 1, .slice .. :: _, h, _, _, _
  | _ + 1, .map .. :: _, h, _, _, _ | _ + 1, .chan .. :: _, h, _, _, _ | _ + 1, .func .. :: _, h, _, _, _ | _ + 1, .nilFunc :: _, h, _, _, _ | _ + 1, .iface .. :: _, h, _, _, _ | _ + 1, .nilIface :: _, h, _, _, _
  | _ + 1, .agg .. :: _, h, _, _, _ | _ + 1, .tuple .. :: _, h, _, _, _ => by simp [isFl] at h
theorem isFl_eq {n : Nat} {cs : List Value} (h : isFl n cs = true) : ∃ f, cs = fcells f n := ⟨flAt cs, isFl_fcf h fun i _ => by rw [Nat.zero_add]⟩
def bv (b : Bool) : Option RV := some (.o (.v (.bool b)))
/-- One function of n floats that stand in one row. -/
noncomputable def onFl (n : Nat) (F : (Nat → Nat) → Option RV) : Value → Option RV
  | .agg ⟨cs⟩ => match isFl n cs with
    | true => F (flAt cs)
    | false => none
  | _ => none
theorem onFl_some {n : Nat} {F : (Nat → Nat) → Option RV} {x : Value} {rv : RV} (h : onFl n F x = some rv) : ∃ f, x = .agg ⟨fcells f n⟩ ∧ F (flAt (fcells f n)) = some rv := by
  unfold onFl at h
  split at h
  · split at h
    · rename_i h1
      obtain ⟨f, rfl⟩ := isFl_eq h1
      exact ⟨f, rfl, h⟩
    · cases h
  · cases h

/-! ### Comparisons -/
noncomputable def within (x lo hi : Nat) : Bool := match fcmp .geq .f32 x lo with | true => fcmp .leq .f32 x hi | false => false
noncomputable def part (x : Nat) : Bool := within x 0 1065353216
noncomputable def w3 (a b c : Nat) : Bool := match (match part a with | true => part b | false => false) with | true => part c | false => false
noncomputable def c42 : Ctr := ⟨[.v], fun | [.float .f32 x] => bv (part x) | _ => none⟩
theorem g42 : Sx.Good Try.prog 42 c42 := good 5 Try.func42 [] goods_nil (by kernel_rfl) fun vals rv h caps => ⟨[], by
  simp only [c42] at h
  split at h
  · cases h; kernel_rfl
  · cases h⟩
noncomputable def c71 : Ctr := ⟨[.v, .v, .v], fun | [.float .f32 x, .float .f32 y, .float .f32 z] => bv (within x y z) | _ => none⟩
theorem g71 : Sx.Good Try.prog 71 c71 := good 71 Try.func71 [] goods_nil (by kernel_rfl) fun vals rv h caps => ⟨[], by
  simp only [c71] at h
  split at h
  · cases h; kernel_rfl
  · cases h⟩
theorem g62 : Sx.Good Try.prog 62 c42 := good 5 Try.func62 [(71, c71)] (goods_cons g71 goods_nil) (by kernel_rfl) fun vals rv h caps => ⟨[], by
  simp only [c42] at h
  split at h
  · cases h; kernel_rfl
  · cases h⟩
noncomputable def c23 : Ctr := ⟨[.v], fun | [x] => onFl 3 (fun f => bv (w3 (f 0) (f 1) (f 2))) x | _ => none⟩
theorem g23 : Sx.Good Try.prog 23 c23 := good 7 Try.func23 [(42, c42)] (goods_cons g42 goods_nil) (by kernel_rfl) fun vals rv h caps => ⟨[], by
  simp only [c23] at h
  split at h
  · obtain ⟨f, rfl, h2⟩ := onFl_some h
    rw [← h2]
    kernel_rfl
  · cases h⟩
/-- A loop that leaves at the first that fails. -/
def early : List Bool → Option RV → Option RV → Option RV
  | [], _, g => g
  | b :: l, bad, g => match !b with | true => bad | false => early l bad g
def allT : List Bool → Bool
  | [] => true
  | b :: l => match b with | true => allT l | false => false
theorem early_all : ∀ (l : List Bool), early l (bv false) (bv true) = bv (allT l)
  | [] => rfl
  | true :: l => early_all l
  | false :: l => rfl
noncomputable def c46 : Ctr := ⟨[.s 1], fun | [x] => onFl 3 (fun f => bv (allT [part (f 0), part (f 1), part (f 2)])) x | _ => none⟩
theorem g46 : Sx.Good Try.prog 46 c46 := good 8693 Try.func46 [(62, c42)] (goods_cons g62 goods_nil) (by kernel_rfl) fun vals rv h caps => ⟨[], by
  simp only [c46] at h
  split at h
  · obtain ⟨f, rfl, h2⟩ := onFl_some h
    rw [← h2, ← early_all]
    kernel_rfl
  · cases h⟩
noncomputable def c28 : Ctr := ⟨[.v], fun | [x] => onFl 3 (fun f => bv (w3 (f 0) (f 1) (f 2))) x | _ => none⟩
theorem all_w3 (a b c : Nat) : allT [part a, part b, part c] = w3 a b c := by
  unfold w3
  cases part a <;> cases part b <;> cases part c <;> rfl
theorem g28 : Sx.Good Try.prog 28 c28 := good 7 Try.func28 [(46, c46)] (goods_cons g46 goods_nil) (by kernel_rfl) fun vals rv h caps => ⟨[], by
  simp only [c28] at h
  split at h
  · obtain ⟨f, rfl, h2⟩ := onFl_some h
    rw [← h2, ← all_w3]
    kernel_rfl
  · cases h⟩
noncomputable def w3s (f : Nat → Nat) : List Bool := [w3 (f 0) (f 1) (f 2), w3 (f 3) (f 4) (f 5), w3 (f 6) (f 7) (f 8), w3 (f 9) (f 10) (f 11), w3 (f 12) (f 13) (f 14), w3 (f 15) (f 16) (f 17), w3 (f 18) (f 19) (f 20), w3 (f 21) (f 22) (f 23)]
noncomputable def okP (f : Nat → Nat) : Bool := allT (w3s f)
noncomputable def c22 : Ctr := ⟨[.p 24], fun | [x] => onFl 24 (fun f => bv (okP f)) x | _ => none⟩
theorem g22 : Sx.Good Try.prog 22 c22 := good 16429 Try.func22 [(23, c23)] (goods_cons g23 goods_nil) (by kernel_rfl) fun vals rv h caps => ⟨[], by
  simp only [c22] at h
  split at h
  · obtain ⟨f, rfl, h2⟩ := onFl_some h
    rw [← h2, okP, ← early_all]
    kernel_rfl
  · cases h⟩
noncomputable def c45 : Ctr := ⟨[.s 3], fun | [x] => onFl 24 (fun f => bv (okP f)) x | _ => none⟩
theorem g45 : Sx.Good Try.prog 45 c45 := good 8693 Try.func45 [(28, c28)] (goods_cons g28 goods_nil) (by kernel_rfl) fun vals rv h caps => ⟨[], by
  simp only [c45] at h
  split at h
  · obtain ⟨f, rfl, h2⟩ := onFl_some h
    rw [← h2, okP, ← early_all]
    kernel_rfl
  · cases h⟩
noncomputable def c27 : Ctr := ⟨[.v], fun | [x] => onFl 24 (fun f => bv (okP f)) x | _ => none⟩
theorem g27 : Sx.Good Try.prog 27 c27 := good 7 Try.func27 [(45, c45)] (goods_cons g45 goods_nil) (by kernel_rfl) fun vals rv h caps => ⟨[], by
  simp only [c27] at h
  split at h
  · obtain ⟨f, rfl, h2⟩ := onFl_some h
    rw [← h2]
    kernel_rfl
  · cases h⟩
end Go.Proofs.Ytdlcjmonnfjklaa
