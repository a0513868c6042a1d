/-
  PROVED HERE: runs of PlatesColour up to the cell, for every input; no conditions.
-/
import Derived.Test.YtdlcjmonnfjklaaR7
import Derived.Test.YtdlcjmonnfjklaaR8
set_option linter.unusedSimpArgs false
set_option linter.unusedVariables false
namespace Go.Proofs.Ytdlcjmonnfjklaa
open Go.Sx
def outP (code : Int) (F : Nat → Nat) : Option RV := some (.tu [.v (.agg ⟨fcells F 3⟩), .v (.int .i64 code)])
def gated (code : Int) (F : Nat → Nat) (l : Nat) : Nat := match code == 0 with | true => F l | false => 0
def outCell (w h x y : Int) : Bool := match !inB x 0 (wrapI .i64 (wrapI .i64 w - 1)) with | true => true | false => !inB y 0 (wrapI .i64 (wrapI .i64 h - 1))
def badCell (code : Int) (w h x y : Int) : Bool := match code == 0 with | true => outCell w h x y | false => false
def code3S (code w h x y : Int) : Int := match badCell code w h x y with | true => 2 | false => code
def code3I (code w h x y : Int) : Int := match code != 0 with | true => code | false => match !cellI w h x y with | true => 2 | false => 0
def at64 (x y : Int) : Nat := (x + 8 * y).toNat
theorem r18_a (p : Nat → Nat) (w1 h1 : Int) (f1 : Nat → Nat) (w2 h2 : Int) (f2 : Nat → Nat) (w3 h3 : Int) (f3 : Nat → Nat) (x y : Int) (caps : Nat → Nat) : runC Try.ti [(37, c37), (38, c38), (25, c25)] 100000 343597446143 [true] Try.f18 [.v, .v, .v, .v, .v, .v] caps [.agg ⟨fcells p 24⟩, plV w1 h1 f1, plV w2 h2 f2, plV w3 h3 f3, .int .i64 x, .int .i64 y] = match badCell (codeS p w1 h1 f1 w2 h2 f2 w3 h3 f3) w1 h1 x y with | true => outP 2 (fun _ => 0) | false => none := by kernel_rfl
theorem r18_b (p : Nat → Nat) (w1 h1 : Int) (f1 : Nat → Nat) (w2 h2 : Int) (f2 : Nat → Nat) (w3 h3 : Int) (f3 : Nat → Nat) (x y : Int) (caps : Nat → Nat) : runC Try.ti [(37, c37), (38, c38), (25, c25)] 100000 343597446143 [false, true] Try.f18 [.v, .v, .v, .v, .v, .v] caps [.agg ⟨fcells p 24⟩, plV w1 h1 f1, plV w2 h2 f2, plV w3 h3 f3, .int .i64 x, .int .i64 y] = match badCell (codeS p w1 h1 f1 w2 h2 f2 w3 h3 f3) w1 h1 x y with | true => none | false => match codeS p w1 h1 f1 w2 h2 f2 w3 h3 f3 != 0 with | true => outP (codeS p w1 h1 f1 w2 h2 f2 w3 h3 f3) (fun _ => 0) | false => none := by kernel_rfl
theorem r20_a (p : Nat → Nat) (w1 h1 : Int) (f1 : Nat → Nat) (w2 h2 : Int) (f2 : Nat → Nat) (w3 h3 : Int) (f3 : Nat → Nat) (x y : Int) (caps : Nat → Nat) : runC Try.ti [(40, c40), (41, c41), (30, c30)] 100000 272692223 [true] Try.f20 [.v, .v, .v, .v, .v, .v] caps [.agg ⟨fcells p 24⟩, plV w1 h1 f1, plV w2 h2 f2, plV w3 h3 f3, .int .i64 x, .int .i64 y] = match codeI p w1 h1 f1 w2 h2 f2 w3 h3 f3 != 0 with | true => outP (codeI p w1 h1 f1 w2 h2 f2 w3 h3 f3) (fun _ => 0) | false => none := by kernel_rfl
theorem r20_b (p : Nat → Nat) (w1 h1 : Int) (f1 : Nat → Nat) (w2 h2 : Int) (f2 : Nat → Nat) (w3 h3 : Int) (f3 : Nat → Nat) (x y : Int) (caps : Nat → Nat) : runC Try.ti [(40, c40), (41, c41), (30, c30)] 100000 272692223 [false, true] Try.f20 [.v, .v, .v, .v, .v, .v] caps [.agg ⟨fcells p 24⟩, plV w1 h1 f1, plV w2 h2 f2, plV w3 h3 f3, .int .i64 x, .int .i64 y] = match codeI p w1 h1 f1 w2 h2 f2 w3 h3 f3 != 0 with | true => none | false => match !cellI w1 h1 x y with | true => outP 2 (fun _ => 0) | false => none := by kernel_rfl
noncomputable def c18 : Ctr := ⟨[.v, .v, .v, .v, .v, .v], fun | [p, x, y, z, .int .i64 a, .int .i64 b] => onFl 24 (fun p => onPl (fun w1 h1 f1 => onPl (fun w2 h2 f2 => onPl (fun w3 h3 f3 => outP (code3S (codeS p w1 h1 f1 w2 h2 f2 w3 h3 f3) w1 h1 a b) (gated (code3S (codeS p w1 h1 f1 w2 h2 f2 w3 h3 f3) w1 h1 a b) (colS p (f1 (at64 a b)) (f2 (at64 a b)) (f3 (at64 a b))))) z) y) x) p | _ => none⟩
noncomputable def c20 : Ctr := ⟨[.v, .v, .v, .v, .v, .v], fun | [p, x, y, z, .int .i64 a, .int .i64 b] => onFl 24 (fun p => onPl (fun w1 h1 f1 => onPl (fun w2 h2 f2 => onPl (fun w3 h3 f3 => outP (code3I (codeI p w1 h1 f1 w2 h2 f2 w3 h3 f3) w1 h1 a b) (gated (code3I (codeI p w1 h1 f1 w2 h2 f2 w3 h3 f3) w1 h1 a b) (col1 p (f1 (at64 a b)) (f2 (at64 a b)) (f3 (at64 a b))))) z) y) x) p | _ => none⟩
theorem gated_no {code : Int} (h : (code == 0) = false) (F : Nat → Nat) : gated code F = fun _ => 0 := by
  funext l
  rw [gated, h]
theorem gated_yes (F : Nat → Nat) : gated 0 F = F := rfl
end Go.Proofs.Ytdlcjmonnfjklaa
