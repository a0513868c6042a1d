/-
  PROVED HERE: a part of FnExactDotsFor.
-/
import Derived.Test.YtdlcjmonnfjklaaD0
set_option linter.unusedSimpArgs false
set_option linter.unusedVariables false
namespace Go.Proofs.Ytdlcjmonnfjklaa
open Go.Sx
noncomputable def B9 : Code := codeOf Try.f9
noncomputable def L9 : Code := lB (bB (sL (sR (sR (sR (sR B9))))))
noncomputable def mkI (p q : Nat → Nat) (x : DX) : St := ⟨[(2, .a (.p 2 0)), (3, .a (.p 3 0)), (4, .a (.p 4 0)), (8, .a (.p 8 0)), (11, .a (.v (.float .f32 x.far))), (9, .a (.v (.float .f32 x.step))), (10, .a (.v (.int .i64 x.k)))],
  [(2, some (.c true 30 (fcells p 24))), (3, some (.c true 28 (fcells q 3))), (4, some (.c true 25 (fcells (fun _ => 0) 3))), (8, some (.c true 25 [.float .f32 x.a, .float .f32 x.b, .float .f32 x.c])), (11, none), (9, none), (10, none)], 1000⟩
def ksI : List Nat := [2, 3, 4, 8, 11, 9, 10]
theorem round9 (p q : Nat → Nat) (x : DX) : xec Try.ti [(30, c30), (29, c24), (31, c31)] Try.f9.ntmps 1227817447287672822546431 100000 L9 [] (mkI p q x) (normK ksI) =
    match goesI x with
    | true => roundK (ownI (flAt (fcells p 24)) (flAt (fcells q 3))) (upS x.step) (dnI x.step) x (afterK x fun y => some (.n, mkI p q y))
    | false => some (.x 0, mkI p q x) := by kernel_rfl
end Go.Proofs.Ytdlcjmonnfjklaa
