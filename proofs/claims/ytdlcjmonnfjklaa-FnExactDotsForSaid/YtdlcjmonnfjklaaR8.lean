/-
  PROVED HERE: contracts of the colours, of the equalities and of the copies, for every input; no conditions.
-/
import Derived.Test.YtdlcjmonnfjklaaR2
set_option linter.unusedSimpArgs false
set_option linter.unusedVariables false
namespace Go.Proofs.Ytdlcjmonnfjklaa
open Go.Sx
noncomputable def fadd (x y : Nat) := fari .add .f32 x y
noncomputable def fsub (x y : Nat) := fari .sub .f32 x y
noncomputable def fmul (x y : Nat) := fari .mul .f32 x y
def one : Nat := 1065353216
noncomputable def pick1 (b : Bool) (x : Nat) : Nat := match b with | true => x | false => fsub one x
noncomputable def weight (d0 d1 d2 : Nat) (i : Nat) : Nat := fmul (fmul (pick1 (i.testBit 0) d0) (pick1 (i.testBit 1) d1)) (pick1 (i.testBit 2) d2)
noncomputable def most1 (x : Nat) : Nat := fmin false .f32 x one
noncomputable def mostS (x : Nat) : Nat := match fcmp .gtr .f32 x one with | true => one | false => x
noncomputable def mostT (x : Nat) : Option RV := match fcmp .gtr .f32 x one with | true => some (.o (.v (.float .f32 one))) | false => some (.o (.v (.float .f32 x)))
theorem mostT_eq (x : Nat) : mostT x = some (.o (.v (.float .f32 (mostS x)))) := by
  unfold mostT mostS
  cases fcmp .gtr .f32 x one <;> rfl
/-- What is as great as 1 is 1. -/
theorem read_one {x : Nat} (h : FloatKind.f32.format.order x one = some .eq) : FloatKind.f32.decode x = FloatKind.f32.decode one := by
  have h1 : FloatKind.f32.decode one = .number false 8388608 (-23) := by decide
  rw [h1]
  have h2 : FloatKind.f32.format.read one = .number false 8388608 (-23) := h1
  simp only [Ieee.Format.order, h2] at h
  have hsw : FloatKind.f32.format.signWeight = 2147483648 := by decide
  have hbi : FloatKind.f32.format.binade = 8388608 := by decide
  have hle : FloatKind.f32.format.leastPlace = -149 := by decide
  show FloatKind.f32.format.read x = _
  generalize he : FloatKind.f32.format.read x = d at h
  cases d with
  | nan s t => simp [Ieee.Datum.order] at h
  | infinity s => cases s <;> simp [Ieee.Datum.order] at h
  | number s m i =>
    simp only [Ieee.Datum.order, Option.some.injEq, Int.compare_eq_eq] at h
    have hpos : s = false := by
      cases s with
      | false => rfl
      | true =>
        simp only [Ieee.signed, if_true, Bool.false_eq_true, if_false, Nat.shiftLeft_eq] at h
        have : 0 < 8388608 * 2 ^ ((-23 : Int) - min i (-23)).toNat := Nat.mul_pos (by decide) (Nat.pos_of_ne_zero (by simp))
        omega
    subst hpos
    simp only [Ieee.signed, Bool.false_eq_true, if_false, Nat.shiftLeft_eq] at h
    have h := Int.ofNat.inj h
    unfold Ieee.Format.read at he
    simp only [hsw, hbi, hle] at he
    split at he
    · rename_i hr
      injection he with e1 e2 e3
      subst e3
      have : min (-149 : Int) (-23) = -149 := by decide
      rw [this] at h
      have e4 : ((-149 : Int) - -149).toNat = 0 := by decide
      have e5 : ((-23 : Int) - -149).toNat = 126 := by decide
      rw [e4, e5] at h
      have : m < 8388608 := by omega
      have h6 : 8388608 * 1 ≤ 8388608 * 2 ^ 126 := Nat.mul_le_mul_left _ (by decide)
      simp only [Nat.pow_zero, Nat.mul_one] at h
      omega
    · split at he
      · injection he with e1 e2 e3
        have hm1 : 8388608 ≤ m := by omega
        have hm2 : m < 16777216 := by
          have := Nat.mod_lt (x % 2147483648) (show 0 < 8388608 by decide)
          omega
        rcases Int.lt_or_le i (-23) with hi | hi
        · have : min i (-23) = i := by omega
          rw [this] at h
          obtain ⟨k, hk⟩ : ∃ k, ((-23 : Int) - i).toNat = k + 1 := ⟨((-23 : Int) - i).toNat - 1, by omega⟩
          have e4 : (i - i).toNat = 0 := by omega
          rw [e4, hk, Nat.pow_succ] at h
          have : 0 < 2 ^ k := Nat.pos_of_ne_zero (by simp)
          simp only [Nat.pow_zero, Nat.mul_one] at h
          generalize 2 ^ k = z at *
          omega
        · have : min i (-23) = -23 := by omega
          rw [this] at h
          have e4 : ((-23 : Int) - -23).toNat = 0 := by decide
          rw [e4] at h
          simp only [Nat.pow_zero, Nat.mul_one] at h
          rcases Int.lt_or_eq_of_le hi with hj | hj
          · obtain ⟨k, hk⟩ : ∃ k, (i - (-23)).toNat = k + 1 := ⟨(i - (-23)).toNat - 1, by omega⟩
            rw [hk, Nat.pow_succ] at h
            have : 0 < 2 ^ k := Nat.pos_of_ne_zero (by simp)
            have h7 : m * 1 ≤ m * 2 ^ k := Nat.mul_le_mul_left _ this
            rw [← Nat.mul_assoc] at h
            omega
          · subst hj
            simp at h
            rw [h]
      · split at he <;> cases he
theorem cvt_of_read {x y : Nat} (h : FloatKind.f32.decode x = FloatKind.f32.decode y) : cvt x = cvt y := by
  unfold cvt
  rw [hide_eq, hide_eq]
  unfold cvt0
  rw [h]
theorem cvt_nan {x : Nat} (h : isNaN .f32 x = true) : cvt x = qnan .f64 := by
  unfold cvt
  rw [hide_eq]
  unfold cvt0
  unfold isNaN at h
  split
  · rfl
  · rename_i d hd
    exfalso
    cases hx : FloatKind.f32.decode x with
    | nan s t => exact hd s t hx
    | number s m i => rw [hx] at h; cases h
    | infinity s => rw [hx] at h; cases h
theorem order_none {x y : Nat} (h : FloatKind.f32.format.order x y = none) : isNaN .f32 x = true ∨ isNaN .f32 y = true := by
  unfold isNaN
  unfold Ieee.Format.order at h
  show (FloatKind.f32.format.read x).isNaN = true ∨ (FloatKind.f32.format.read y).isNaN = true
  cases hx : FloatKind.f32.format.read x <;> cases hy : FloatKind.f32.format.read y <;> rw [hx, hy] at h <;> simp [Ieee.Datum.order] at h <;> simp [Ieee.Datum.isNaN]
theorem cvt_most (x : Nat) : cvt (most1 x) = cvt (mostS x) := by
  unfold most1 mostS fmin fcmp
  rw [hide_eq, hide_eq]
  unfold fmin0 fcmp0
  cases ho : FloatKind.f32.format.order x one with
  | none =>
    have hx : isNaN .f32 x = true := (order_none ho).resolve_right (by decide)
    show cvt (qnan .f32) = cvt x
    rw [cvt_nan hx, cvt_nan (isNaN_qnan .f32)]
  | some o =>
    cases o with
    | lt => rfl
    | gt => rfl
    | eq =>
      show cvt (if ((FloatKind.f32.decode x).neg == false) = true then one else x) = cvt x
      split
      · exact (cvt_of_read (read_one ho)).symm
      · rfl
noncomputable def sumL : List Nat → Nat → Nat
  | [], acc => acc
  | x :: l, acc => sumL l (fadd acc x)
noncomputable def sum : List Nat → Nat
  | [] => 0
  | x :: l => sumL l x
noncomputable def col1 (p : Nat → Nat) (a b c : Nat) (l : Nat) : Nat := most1 (sum ((ups 0 8).map fun i => fmul (weight a b c i) (p (3 * i + l))))
noncomputable def colS (p : Nat → Nat) (a b c : Nat) (l : Nat) : Nat := mostS (sum ((ups 0 8).map fun i => fmul (weight a b c i) (p (3 * i + l))))
theorem cvt_col (p : Nat → Nat) (a b c l : Nat) : cvt (col1 p a b c l) = cvt (colS p a b c l) := cvt_most _
def rag (cs : List Value) : Option RV := some (.o (.v (.agg ⟨cs⟩)))
def rfl32 (x : Nat) : Option RV := some (.o (.v (.float .f32 x)))
noncomputable def c43 : Ctr := ⟨[.v], fun | [x] => onFl 3 (fun f => rag (fcells (weight (f 0) (f 1) (f 2)) 8)) x | _ => none⟩
noncomputable def c44 : Ctr := ⟨[.v], fun | [.float .f32 x] => some (.o (.v (.float .f32 (mostS x)))) | _ => none⟩
noncomputable def c47 : Ctr := ⟨[.v, .v], fun | [.float .f32 x, .float .f32 y] => rfl32 (fmul x y) | _ => none⟩
noncomputable def c48 : Ctr := ⟨[.s 1], fun | [x] => onFl 8 (fun f => rfl32 (sum ((ups 0 8).map f))) x | _ => none⟩
noncomputable def c25 : Ctr := ⟨[.p 24, .v], fun | [x, y] => onFl 24 (fun p => onFl 3 (fun f => rag (fcells (colS p (f 0) (f 1) (f 2)) 3)) y) x | _ => none⟩
noncomputable def c30 : Ctr := ⟨[.v, .v], fun | [x, y] => onFl 24 (fun p => onFl 3 (fun f => rag (fcells (col1 p (f 0) (f 1) (f 2)) 3)) y) x | _ => none⟩
theorem g43 : Sx.Good Try.prog 43 c43 := good 536904959 Try.func43 [] goods_nil (by kernel_rfl) fun vals rv h caps => ⟨[], by
  simp only [c43] at h
  split at h
  · obtain ⟨f, rfl, h2⟩ := onFl_some h
    rw [← h2]
    kernel_rfl
  · cases h⟩
theorem g47 : Sx.Good Try.prog 47 c47 := good 19 Try.func47 [] goods_nil (by kernel_rfl) fun vals rv h caps => ⟨[], by
  simp only [c47] at h
  split at h
  · cases h; kernel_rfl
  · cases h⟩
theorem g49 : Sx.Good Try.prog 49 c43 := good 67167999 Try.func49 [(47, c47)] (goods_cons g47 goods_nil) (by kernel_rfl) fun vals rv h caps => ⟨[], by
  simp only [c43] at h
  split at h
  · obtain ⟨f, rfl, h2⟩ := onFl_some h
    rw [← h2]
    kernel_rfl
  · cases h⟩
theorem g44 : Sx.Good Try.prog 44 c44 := good 21 Try.func44 [] goods_nil (by kernel_rfl) fun vals rv h caps => ⟨[], by
  simp only [c44] at h
  split at h
  · cases h
    rw [← mostT_eq]
    kernel_rfl
  · cases h⟩
theorem g48 : Sx.Good Try.prog 48 c48 := good 17405 Try.func48 [] goods_nil (by kernel_rfl) fun vals rv h caps => ⟨[], by
  simp only [c48] at h
  split at h
  · obtain ⟨f, rfl, h2⟩ := onFl_some h
    rw [← h2]
    kernel_rfl
  · cases h⟩
theorem g25 : Sx.Good Try.prog 25 c25 := good 268470267 Try.func25 [(43, c43), (44, c44)] (goods_cons g43 (goods_cons g44 goods_nil)) (by kernel_rfl) fun vals rv h caps => ⟨[], by
  simp only [c25] at h
  split at h
  · obtain ⟨p, rfl, h2⟩ := onFl_some h
    obtain ⟨f, rfl, h3⟩ := onFl_some h2
    rw [← h3]
    kernel_rfl
  · cases h⟩
theorem g30 : Sx.Good Try.prog 30 c30 := good 1886207 Try.func30 [(47, c47), (48, c48), (49, c43)] (goods_cons g47 (goods_cons g48 (goods_cons g49 goods_nil))) (by kernel_rfl) fun vals rv h caps => ⟨[], by
  simp only [c30] at h
  split at h
  · obtain ⟨p, rfl, h2⟩ := onFl_some h
    obtain ⟨f, rfl, h3⟩ := onFl_some h2
    rw [← h3]
    kernel_rfl
  · cases h⟩
/-! ### What is the same -/
noncomputable def sameT (x y : Nat) : Option RV := match (match fcmp .neq .f64 x x with | true => true | false => fcmp .neq .f64 y y) with
  | true => bv (match fcmp .neq .f64 x x with | true => fcmp .neq .f64 y y | false => false)
  | false => match (match fcmp .eql .f64 x 0 with | true => fcmp .eql .f64 y 0 | false => false) with
    | true => bv (fcmp .gtr .f64 (fari .quo .f64 4607182418800017408 x) 0 == fcmp .gtr .f64 (fari .quo .f64 4607182418800017408 y) 0)
    | false => bv (fcmp .eql .f64 x y)
noncomputable def sameB (x y : Nat) : Bool := match (match fcmp .neq .f64 x x with | true => true | false => fcmp .neq .f64 y y) with
  | true => (match fcmp .neq .f64 x x with | true => fcmp .neq .f64 y y | false => false)
  | false => match (match fcmp .eql .f64 x 0 with | true => fcmp .eql .f64 y 0 | false => false) with
    | true => (fcmp .gtr .f64 (fari .quo .f64 4607182418800017408 x) 0 == fcmp .gtr .f64 (fari .quo .f64 4607182418800017408 y) 0)
    | false => (fcmp .eql .f64 x y)
theorem sameT_eq (x y : Nat) : sameT x y = bv (sameB x y) := by
  unfold sameT sameB
  cases (match fcmp .neq .f64 x x with | true => true | false => fcmp .neq .f64 y y)
  · cases (match fcmp .eql .f64 x 0 with | true => fcmp .eql .f64 y 0 | false => false) <;> rfl
  · rfl
theorem neq_eql (k : FloatKind) (x y : Nat) : fcmp .eql k x y = !fcmp .neq k x y := by
  unfold fcmp
  rw [hide_eq, hide_eq]
  simp [fcmp0, bne]
theorem sameB_self (x : Nat) : sameB x x = true := by
  unfold sameB
  rw [neq_eql .f64 x x]
  cases fcmp .neq .f64 x x
  · cases fcmp .eql .f64 x 0 <;> simp
  · rfl
noncomputable def c11 : Ctr := ⟨[.v, .v], fun | [.float .f64 x, .float .f64 y] => bv (sameB x y) | _ => none⟩
theorem g11 : Sx.Good Try.prog 11 c11 := good 67112979 Try.func11 [] goods_nil (by kernel_rfl) fun vals rv h caps => ⟨[], by
  simp only [c11] at h
  split at h
  · cases h
    refine Eq.trans ?_ (sameT_eq _ _)
    kernel_rfl
  · cases h⟩
noncomputable def sameL (f g : Nat → Nat) : Nat → Nat → List Bool
  | _, 0 => []
  | k, n + 1 => sameB (cvt (f k)) (cvt (g k)) :: sameL f g (k + 1) n
theorem sameL_self (f : Nat → Nat) : ∀ n k, allT (sameL f f k n) = true
  | 0, _ => rfl
  | n + 1, k => by simp only [sameL, allT, sameB_self]; exact sameL_self f n (k + 1)
noncomputable def c21 : Ctr := ⟨[.v, .v], fun | [x, y] => onFl 3 (fun p => onFl 3 (fun f => bv (allT (sameL p f 0 3))) y) x | _ => none⟩
theorem g21 : Sx.Good Try.prog 21 c21 := good 524479 Try.func21 [(11, c11)] (goods_cons g11 goods_nil) (by kernel_rfl) fun vals rv h caps => ⟨[], by
  simp only [c21] at h
  split at h
  · obtain ⟨p, rfl, h2⟩ := onFl_some h
    obtain ⟨f, rfl, h3⟩ := onFl_some h2
    rw [← h3, ← early_all]
    kernel_rfl
  · cases h⟩
noncomputable def c8 : Ctr := ⟨[.v], fun | [x] => onFl 3 (fun f => rag (fcells f 3)) x | _ => none⟩
noncomputable def c7 : Ctr := ⟨[.v], fun | [x] => onFl 24 (fun f => rag (fcells f 24)) x | _ => none⟩
noncomputable def c39 : Ctr := ⟨[.v], fun | [x] => onFl 64 (fun f => rag (fcells f 64)) x | _ => none⟩
noncomputable def c19 : Ctr := ⟨[.v], fun | [x] => onPl (fun w h f => some (.o (.v (plV w h f)))) x | _ => none⟩
theorem g8 : Sx.Good Try.prog 8 c8 := good 95 Try.func8 [] goods_nil (by kernel_rfl) fun vals rv h caps => ⟨[], by
  simp only [c8] at h
  split at h
  · obtain ⟨f, rfl, h2⟩ := onFl_some h
    rw [← h2]
    kernel_rfl
  · cases h⟩
theorem g7 : Sx.Good Try.prog 7 c7 := good 95 Try.func7 [(8, c8)] (goods_cons g8 goods_nil) (by kernel_rfl) fun vals rv h caps => ⟨[], by
  simp only [c7] at h
  split at h
  · obtain ⟨f, rfl, h2⟩ := onFl_some h
    rw [← h2]
    kernel_rfl
  · cases h⟩
theorem g39 : Sx.Good Try.prog 39 c39 := good 95 Try.func39 [] goods_nil (by kernel_rfl) fun vals rv h caps => ⟨[], by
  simp only [c39] at h
  split at h
  · obtain ⟨f, rfl, h2⟩ := onFl_some h
    rw [← h2]
    kernel_rfl
  · cases h⟩
theorem g19 : Sx.Good Try.prog 19 c19 := good 15 Try.func19 [(39, c39)] (goods_cons g39 goods_nil) (by kernel_rfl) fun vals rv h caps => ⟨[], by
  simp only [c19] at h
  split at h
  · obtain ⟨w, h', f, rfl, h2⟩ := onPl_some h
    rw [← h2]
    kernel_rfl
  · cases h⟩
end Go.Proofs.Ytdlcjmonnfjklaa
