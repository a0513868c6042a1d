/-
  PROVED HERE: a part of FnExactDotsFor.
-/
import Derived.Test.YtdlcjmonnfjklaaR8
import Derived.Test.YtdlcjmonnfjklaaSxX
set_option linter.unusedSimpArgs false
set_option linter.unusedVariables false
namespace Go.Proofs.Ytdlcjmonnfjklaa
open Go.Sx
noncomputable def far (a0 a1 a2 b0 b1 b2 : Nat) : Nat := fadd (fadd (fmul (fsub a0 b0) (fsub a0 b0)) (fmul (fsub a1 b1) (fsub a1 b1))) (fmul (fsub a2 b2) (fsub a2 b2))
noncomputable def c24 : Ctr := ⟨[.v, .v], fun | [x, y] => onFl 3 (fun p => onFl 3 (fun f => rfl32 (far (p 0) (p 1) (p 2) (f 0) (f 1) (f 2))) y) x | _ => none⟩
noncomputable def c48b : Ctr := ⟨[.s 1], fun | [x] => onFl 3 (fun f => rfl32 (sum [f 0, f 1, f 2])) x | _ => none⟩
theorem g24 : Sx.Good Try.prog 24 c24 := good 2047 Try.func24 [] goods_nil (by kernel_rfl) fun vals rv h caps => ⟨[], by
  simp only [c24] at h
  split at h
  · obtain ⟨p, rfl, h2⟩ := onFl_some h
    obtain ⟨f, rfl, h3⟩ := onFl_some h2
    rw [← h3]
    kernel_rfl
  · cases h⟩
theorem g48b : Sx.Good Try.prog 48 c48b := good 17405 Try.func48 [] goods_nil (by kernel_rfl) fun vals rv h caps => ⟨[], by
  simp only [c48b] at h
  split at h
  · obtain ⟨f, rfl, h2⟩ := onFl_some h
    rw [← h2]
    kernel_rfl
  · cases h⟩
theorem g29 : Sx.Good Try.prog 29 c24 := good 1791 Try.func29 [(47, c47), (48, c48b)] (goods_cons g47 (goods_cons g48b goods_nil)) (by kernel_rfl) fun vals rv h caps => ⟨[], by
  simp only [c24] at h
  split at h
  · obtain ⟨p, rfl, h2⟩ := onFl_some h
    obtain ⟨f, rfl, h3⟩ := onFl_some h2
    rw [← h3]
    kernel_rfl
  · cases h⟩
noncomputable def clip (x : Nat) : Nat := match fcmp .gtr .f32 x one with | true => one | false => match fcmp .lss .f32 x 0 with | true => 0 | false => x
noncomputable def clipT (x : Nat) : Option RV := match fcmp .gtr .f32 x one with | true => rfl32 one | false => match fcmp .lss .f32 x 0 with | true => rfl32 0 | false => rfl32 x
theorem clipT_eq (x : Nat) : clipT x = rfl32 (clip x) := by
  unfold clipT clip
  cases fcmp .gtr .f32 x one
  · cases fcmp .lss .f32 x 0 <;> rfl
  · rfl
noncomputable def c26 : Ctr := ⟨[.v], fun | [.float .f32 x] => rfl32 (clip x) | _ => none⟩
noncomputable def c31 : Ctr := ⟨[.v, .v], fun | [.float .f32 x, .float .f32 1065353216] => rfl32 (clip x) | _ => none⟩
theorem g26 : Sx.Good Try.prog 26 c26 := good 85 Try.func26 [] goods_nil (by kernel_rfl) fun vals rv h caps => ⟨[], by
  simp only [c26] at h
  split at h
  · rw [← h, ← clipT_eq]
    kernel_rfl
  · cases h⟩
theorem g31 : Sx.Good Try.prog 31 c31 := good 1075 Try.func31 [] goods_nil (by kernel_rfl) fun vals rv h caps => ⟨[], by
  simp only [c31] at h
  split at h
  · rw [← h, ← clipT_eq]
    kernel_rfl
  · cases h⟩
/-! ### One round -/
structure DX where
  a : Nat
  b : Nat
  c : Nat
  far : Nat
  step : Nat
  k : Int
noncomputable def ownS (p q : Nat → Nat) (x y z : Nat) : Nat := far (colS p x y z 0) (colS p x y z 1) (colS p x y z 2) (q 0) (q 1) (q 2)
noncomputable def ownI (p q : Nat → Nat) (x y z : Nat) : Nat := far (col1 p x y z 0) (col1 p x y z 1) (col1 p x y z 2) (q 0) (q 1) (q 2)
noncomputable def dim0 {R : Type} (own : Nat → Nat → Nat → Nat) (u v : Nat → Nat) (a b c far : Nat) (t : Bool) (K : Nat → Nat → Nat → Nat → Bool → R) : R :=
  match fcmp .lss .f32 (own (u a) b c) far with
  | true => K (u a) b c (own (u a) b c) true
  | false => match fcmp .lss .f32 (own (v a) b c) far with
    | true => K (v a) b c (own (v a) b c) true
    | false => K a b c far t
noncomputable def dim1 {R : Type} (own : Nat → Nat → Nat → Nat) (u v : Nat → Nat) (a b c far : Nat) (t : Bool) (K : Nat → Nat → Nat → Nat → Bool → R) : R :=
  match fcmp .lss .f32 (own a (u b) c) far with
  | true => K a (u b) c (own a (u b) c) true
  | false => match fcmp .lss .f32 (own a (v b) c) far with
    | true => K a (v b) c (own a (v b) c) true
    | false => K a b c far t
noncomputable def dim2 {R : Type} (own : Nat → Nat → Nat → Nat) (u v : Nat → Nat) (a b c far : Nat) (t : Bool) (K : Nat → Nat → Nat → Nat → Bool → R) : R :=
  match fcmp .lss .f32 (own a b (u c)) far with
  | true => K a b (u c) (own a b (u c)) true
  | false => match fcmp .lss .f32 (own a b (v c)) far with
    | true => K a b (v c) (own a b (v c)) true
    | false => K a b c far t
noncomputable def roundK {R : Type} (own : Nat → Nat → Nat → Nat) (u v : Nat → Nat) (x : DX) (K : Nat → Nat → Nat → Nat → Bool → R) : R :=
  dim0 own u v x.a x.b x.c x.far false fun a b c f t => dim1 own u v a b c f t fun a b c f t => dim2 own u v a b c f t K
noncomputable def upS (step x : Nat) : Nat := clip (fadd x step)
noncomputable def dnS (step x : Nat) : Nat := clip (fadd x (fneg .f32 step))
noncomputable def dnI (step x : Nat) : Nat := clip (fsub x step)
noncomputable def half (x : Nat) : Nat := fari .quo .f32 x 1073741824
def least : Nat := 981668463
noncomputable def afterK {R : Type} (x : DX) (F : DX → R) (a b c f : Nat) (t : Bool) : R := match t with
  | true => F ⟨a, b, c, f, x.step, wrapI .i64 (x.k + 1)⟩
  | false => F ⟨a, b, c, f, half x.step, wrapI .i64 (x.k + 1)⟩
noncomputable def goesS (x : DX) : Bool := match fcmp .geq .f32 x.step least with | true => decide (x.k < 400) | false => false
noncomputable def goesI (x : DX) : Bool := match !fcmp .lss .f32 x.step least with | true => decide (x.k < 400) | false => false
def sL : Code → Code
  | .seq a _ => a
  | c => c
def sR : Code → Code
  | .seq _ b => b
  | c => c
def bB : Code → Code
  | .block _ b => b
  | c => c
def lB : Code → Code
  | .loop b => b
  | c => c
def codeOf (f : Func) : Code := match f.body with | some b => b | none => .skip
noncomputable def B6 : Code := codeOf Try.f6
noncomputable def L6 : Code := lB (bB (sL (sR (sR (sR (sR (sR (sR B6))))))))
noncomputable def mkS (p q : Nat → Nat) (x : DX) : St := ⟨[(2, .a (.p 2 0)), (3, .a (.p 3 0)), (4, .a (.p 4 0)), (8, .a (.p 8 0)), (9, .a (.v (.float .f32 x.far))), (10, .a (.v (.float .f32 x.step))), (11, .a (.v (.int .i64 x.k)))],
  [(2, some (.c true 30 (fcells p 24))), (3, some (.c true 28 (fcells q 3))), (4, some (.c true 25 (fcells (fun _ => 0) 3))), (8, some (.c true 25 [.float .f32 x.a, .float .f32 x.b, .float .f32 x.c])), (9, none), (10, none), (11, none)], 1000⟩
def ksS : List Nat := [2, 3, 4, 8, 9, 10, 11]
theorem round6 (p q : Nat → Nat) (x : DX) : xec Try.ti [(25, c25), (24, c24), (26, c26)] Try.f6.ntmps 5017514670692222894079 100000 L6 [] (mkS p q x) (normK ksS) =
    match goesS x with
    | true => roundK (ownS (flAt (fcells p 24)) (flAt (fcells q 3))) (upS x.step) (dnS x.step) x (afterK x fun y => some (.n, mkS p q y))
    | false => some (.x 0, mkS p q x) := by kernel_rfl
end Go.Proofs.Ytdlcjmonnfjklaa
