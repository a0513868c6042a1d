/-
  PROVED HERE: contracts of the reference plate test, for every input; no conditions.
-/
import Derived.Test.YtdlcjmonnfjklaaR1
set_option linter.unusedSimpArgs false
set_option linter.unusedVariables false
namespace Go.Proofs.Ytdlcjmonnfjklaa
open Go.Sx
noncomputable def onPl (F : Int → Int → (Nat → Nat) → Option RV) : Value → Option RV
  | .agg ⟨.int .i8 w :: .int .i8 h :: cs⟩ => match isFl 64 cs with
    | true => F w h (flAt cs)
    | false => none
  | _ => none
def plV (w h : Int) (f : Nat → Nat) : Value := .agg ⟨.int .i8 w :: .int .i8 h :: fcells f 64⟩
theorem onPl_some {F : Int → Int → (Nat → Nat) → Option RV} {x : Value} {rv : RV} (hx : onPl F x = some rv) : ∃ w h f, x = plV w h f ∧ F w h (flAt (fcells f 64)) = some rv := by
  unfold onPl at hx
  split at hx
  · split at hx
    · rename_i h1
      obtain ⟨f, rfl⟩ := isFl_eq h1
      exact ⟨_, _, f, rfl, hx⟩
    · cases hx
  · cases hx
def inB (n a b : Int) : Bool := match decide (n ≥ a) with | true => decide (n ≤ b) | false => false
noncomputable def c38 : Ctr := ⟨[.v, .v, .v], fun | [.int .i64 n, .int .i64 a, .int .i64 b] => bv (inB n a b) | _ => none⟩
theorem g38 : Sx.Good Try.prog 38 c38 := good 71 Try.func38 [] goods_nil (by kernel_rfl) fun vals rv h caps => ⟨[], by
  simp only [c38] at h
  split at h
  · cases h; kernel_rfl
  · cases h⟩
def cellS (w h c : Int) : Bool := match (match inB c 0 63 with | true => decide (c.tmod 8 < wrapI .i64 w) | false => false) with | true => decide (wrapI .i64 (c.tdiv 8) < wrapI .i64 h) | false => false
noncomputable def c73 : Ctr := ⟨[.p 66, .v], fun | [x, .int .i64 c] => onPl (fun w h _ => bv (cellS w h c)) x | _ => none⟩
theorem g73 : Sx.Good Try.prog 73 c73 := good 19 Try.func73 [(38, c38)] (goods_cons g38 goods_nil) (by kernel_rfl) fun vals rv h caps => ⟨[], by
  simp only [c73] at h
  split at h
  · obtain ⟨w, h', f, rfl, h2⟩ := onPl_some h
    rw [← h2]
    kernel_rfl
  · cases h⟩
def condS (cell p nz : Bool) : Bool := match (match cell with | true => !p | false => false) with | true => true | false => (match (!cell) with | true => nz | false => false)
noncomputable def treeS (w h : Int) (f : Nat → Nat) : List Nat → Option RV
  | [] => bv true
  | i :: l => match condS (cellS w h i) (part (f i)) (fcmp .neq .f32 (f i) 0) with | true => bv false | false => treeS w h f l
def ups : Nat → Nat → List Nat
  | _, 0 => []
  | k, n + 1 => k :: ups (k + 1) n
def guardS (w h : Int) : Bool := match !inB (wrapI .i64 w) 1 8 with | true => true | false => !inB (wrapI .i64 h) 1 8
noncomputable def allP (cell : Nat → Bool) (f : Nat → Nat) : List Nat → Bool
  | [] => true
  | i :: l => match (match cell i with | true => part (f i) | false => !fcmp .neq .f32 (f i) 0) with | true => allP cell f l | false => false
theorem treeS_eq (w h : Int) (f : Nat → Nat) : ∀ l, treeS w h f l = bv (allP (fun i => cellS w h i) f l)
  | [] => rfl
  | i :: l => by
    simp only [treeS, allP, condS]
    rw [treeS_eq w h f l]
    cases cellS w h i <;> cases part (f i) <;> cases fcmp .neq .f32 (f i) 0 <;> rfl
noncomputable def plateS (w h : Int) (f : Nat → Nat) : Bool := match guardS w h with | true => false | false => allP (fun i => cellS w h i) f (ups 0 64)
noncomputable def c59 : Ctr := ⟨[.p 66], fun | [x] => onPl (fun w h f => bv (plateS w h f)) x | _ => none⟩
theorem r59 (w h : Int) (f : Nat → Nat) (caps : Nat → Nat) : runC Try.ti [(38, c38), (42, c42), (73, c73)] 100000 2251799816306701 [] Try.f59 [.p 66] caps [plV w h f] = match guardS w h with | true => bv false | false => treeS w h f (ups 0 64) := by kernel_rfl
theorem g59 : Sx.Good Try.prog 59 c59 := good 2251799816306701 Try.func59 [(38, c38), (42, c42), (73, c73)] (goods_cons g38 (goods_cons g42 (goods_cons g73 goods_nil))) (by kernel_rfl) fun vals rv h caps => ⟨[], by
  simp only [c59] at h
  split at h
  · obtain ⟨w, h', f, rfl, h2⟩ := onPl_some h
    rw [← h2]
    refine (r59 w h' f caps).trans ?_
    rw [treeS_eq]
    show _ = bv (plateS w h' f)
    unfold plateS
    cases guardS w h' <;> rfl
  · cases h⟩
def cellI (w h x y : Int) : Bool := match (match (match decide (x ≥ 0) with | true => decide (x < wrapI .i64 w) | false => false) with | true => decide (y ≥ 0) | false => false) with | true => decide (y < wrapI .i64 h) | false => false
noncomputable def c41 : Ctr := ⟨[.p 66, .v, .v], fun | [p, .int .i64 x, .int .i64 y] => onPl (fun w h _ => bv (cellI w h x y)) p | _ => none⟩
theorem g41 : Sx.Good Try.prog 41 c41 := good 71 Try.func41 [] goods_nil (by kernel_rfl) fun vals rv h caps => ⟨[], by
  simp only [c41] at h
  split at h
  · obtain ⟨w, h', f, rfl, h2⟩ := onPl_some h
    rw [← h2]
    kernel_rfl
  · cases h⟩
noncomputable def treeI (w h : Int) (f : Nat → Nat) : List Nat → Option RV
  | [] => bv true
  | i :: l => match cellI w h (i % 8 : Nat) (i / 8 : Nat) with
    | true => match !part (f i) with | true => bv false | false => treeI w h f l
    | false => match fcmp .neq .f32 (f i) 0 with | true => bv false | false => treeI w h f l
end Go.Proofs.Ytdlcjmonnfjklaa
