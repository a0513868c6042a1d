/-
  PROVED HERE: contracts of both PlatesColour, for every input; no conditions.
-/
import Derived.Test.YtdlcjmonnfjklaaRA
import Derived.Test.YtdlcjmonnfjklaaRB
set_option linter.unusedSimpArgs false
set_option linter.unusedVariables false
namespace Go.Proofs.Ytdlcjmonnfjklaa
open Go.Sx
theorem onFl_at {n : Nat} {F : (Nat → Nat) → Option RV} {x : Value} {rv : RV} (h : onFl n F x = some rv) : ∃ f, x = .agg ⟨fcells f n⟩ ∧ F f = some rv := by
  unfold onFl at h
  split at h
  · rename_i cs
    split at h
    · rename_i h1
      exact ⟨flAt cs, congrArg (fun l => Value.agg ⟨l⟩) (isFl_fcf h1 fun i _ => by rw [Nat.zero_add]), h⟩
    · cases h
  · cases h
theorem onPl_at {F : Int → Int → (Nat → Nat) → Option RV} {x : Value} {rv : RV} (hx : onPl F x = some rv) : ∃ w h f, x = plV w h f ∧ F w h f = some rv := by
  unfold onPl at hx
  split at hx
  · rename_i w h cs
    split at hx
    · rename_i h1
      exact ⟨w, h, flAt cs, congrArg (fun l => Value.agg ⟨.int .i8 w :: .int .i8 h :: l⟩) (isFl_fcf h1 fun i _ => by rw [Nat.zero_add]), hx⟩
    · cases hx
  · cases hx
theorem wrap_i8 {w : Int} (h1 : -128 ≤ w) (h2 : w ≤ 127) : wrapI .i64 w = w := by
  have h : (decide (-9223372036854775808 ≤ w) && decide (w ≤ 9223372036854775807)) = true := by simp; omega
  simp only [wrapI, h]
theorem inB_iff {n a b : Int} : inB n a b = true ↔ a ≤ n ∧ n ≤ b := by
  unfold inB
  by_cases h : n ≥ a
  · simp [h]
  · simp [h] <;> omega
theorem cellI_iff {w h x y : Int} : cellI w h x y = true ↔ (0 ≤ x ∧ x < wrapI .i64 w) ∧ (0 ≤ y ∧ y < wrapI .i64 h) := by
  unfold cellI
  by_cases h1 : 0 ≤ x
  · by_cases h2 : x < wrapI .i64 w
    · by_cases h3 : 0 ≤ y
      · simp [h1, h2, h3]
      · simp [h1, h2, h3]
    · simp [h1, h2]
  · simp [h1]
theorem lt8 {x : Int} (h : 0 ≤ x ∧ x < 8) : x = 0 ∨ x = 1 ∨ x = 2 ∨ x = 3 ∨ x = 4 ∨ x = 5 ∨ x = 6 ∨ x = 7 := by omega
theorem r18_c {p : Nat → Nat} {w1 h1 : Int} {f1 : Nat → Nat} {w2 h2 : Int} {f2 : Nat → Nat} {w3 h3 : Int} {f3 : Nat → Nat} {x y : Int} {caps : Nat → Nat} (hx : 0 ≤ x ∧ x < 8) (hy : 0 ≤ y ∧ y < 8) (hc : codeS p w1 h1 f1 w2 h2 f2 w3 h3 f3 = 0) (hb : badCell (codeS p w1 h1 f1 w2 h2 f2 w3 h3 f3) w1 h1 x y = false) : runC Try.ti [(37, c37), (38, c38), (25, c25)] 100000 343597446143 [false, false] Try.f18 [.v, .v, .v, .v, .v, .v] caps [.agg ⟨fcells p 24⟩, plV w1 h1 f1, plV w2 h2 f2, plV w3 h3 f3, .int .i64 x, .int .i64 y] = outP 0 (colS p (f1 (at64 x y)) (f2 (at64 x y)) (f3 (at64 x y))) := by
  rcases lt8 hx with rfl | rfl | rfl | rfl | rfl | rfl | rfl | rfl
  · rcases lt8 hy with rfl | rfl | rfl | rfl | rfl | rfl | rfl | rfl
    · exact (r18_0_0 p w1 h1 f1 w2 h2 f2 w3 h3 f3 caps).trans (by rw [hb, hc]; rfl)
    · exact (r18_0_1 p w1 h1 f1 w2 h2 f2 w3 h3 f3 caps).trans (by rw [hb, hc]; rfl)
    · exact (r18_0_2 p w1 h1 f1 w2 h2 f2 w3 h3 f3 caps).trans (by rw [hb, hc]; rfl)
    · exact (r18_0_3 p w1 h1 f1 w2 h2 f2 w3 h3 f3 caps).trans (by rw [hb, hc]; rfl)
    · exact (r18_0_4 p w1 h1 f1 w2 h2 f2 w3 h3 f3 caps).trans (by rw [hb, hc]; rfl)
    · exact (r18_0_5 p w1 h1 f1 w2 h2 f2 w3 h3 f3 caps).trans (by rw [hb, hc]; rfl)
    · exact (r18_0_6 p w1 h1 f1 w2 h2 f2 w3 h3 f3 caps).trans (by rw [hb, hc]; rfl)
    · exact (r18_0_7 p w1 h1 f1 w2 h2 f2 w3 h3 f3 caps).trans (by rw [hb, hc]; rfl)
  · rcases lt8 hy with rfl | rfl | rfl | rfl | rfl | rfl | rfl | rfl
    · exact (r18_1_0 p w1 h1 f1 w2 h2 f2 w3 h3 f3 caps).trans (by rw [hb, hc]; rfl)
    · exact (r18_1_1 p w1 h1 f1 w2 h2 f2 w3 h3 f3 caps).trans (by rw [hb, hc]; rfl)
    · exact (r18_1_2 p w1 h1 f1 w2 h2 f2 w3 h3 f3 caps).trans (by rw [hb, hc]; rfl)
    · exact (r18_1_3 p w1 h1 f1 w2 h2 f2 w3 h3 f3 caps).trans (by rw [hb, hc]; rfl)
    · exact (r18_1_4 p w1 h1 f1 w2 h2 f2 w3 h3 f3 caps).trans (by rw [hb, hc]; rfl)
    · exact (r18_1_5 p w1 h1 f1 w2 h2 f2 w3 h3 f3 caps).trans (by rw [hb, hc]; rfl)
    · exact (r18_1_6 p w1 h1 f1 w2 h2 f2 w3 h3 f3 caps).trans (by rw [hb, hc]; rfl)
    · exact (r18_1_7 p w1 h1 f1 w2 h2 f2 w3 h3 f3 caps).trans (by rw [hb, hc]; rfl)
  · rcases lt8 hy with rfl | rfl | rfl | rfl | rfl | rfl | rfl | rfl
    · exact (r18_2_0 p w1 h1 f1 w2 h2 f2 w3 h3 f3 caps).trans (by rw [hb, hc]; rfl)
    · exact (r18_2_1 p w1 h1 f1 w2 h2 f2 w3 h3 f3 caps).trans (by rw [hb, hc]; rfl)
    · exact (r18_2_2 p w1 h1 f1 w2 h2 f2 w3 h3 f3 caps).trans (by rw [hb, hc]; rfl)
    · exact (r18_2_3 p w1 h1 f1 w2 h2 f2 w3 h3 f3 caps).trans (by rw [hb, hc]; rfl)
    · exact (r18_2_4 p w1 h1 f1 w2 h2 f2 w3 h3 f3 caps).trans (by rw [hb, hc]; rfl)
    · exact (r18_2_5 p w1 h1 f1 w2 h2 f2 w3 h3 f3 caps).trans (by rw [hb, hc]; rfl)
    · exact (r18_2_6 p w1 h1 f1 w2 h2 f2 w3 h3 f3 caps).trans (by rw [hb, hc]; rfl)
    · exact (r18_2_7 p w1 h1 f1 w2 h2 f2 w3 h3 f3 caps).trans (by rw [hb, hc]; rfl)
  · rcases lt8 hy with rfl | rfl | rfl | rfl | rfl | rfl | rfl | rfl
    · exact (r18_3_0 p w1 h1 f1 w2 h2 f2 w3 h3 f3 caps).trans (by rw [hb, hc]; rfl)
    · exact (r18_3_1 p w1 h1 f1 w2 h2 f2 w3 h3 f3 caps).trans (by rw [hb, hc]; rfl)
    · exact (r18_3_2 p w1 h1 f1 w2 h2 f2 w3 h3 f3 caps).trans (by rw [hb, hc]; rfl)
    · exact (r18_3_3 p w1 h1 f1 w2 h2 f2 w3 h3 f3 caps).trans (by rw [hb, hc]; rfl)
    · exact (r18_3_4 p w1 h1 f1 w2 h2 f2 w3 h3 f3 caps).trans (by rw [hb, hc]; rfl)
    · exact (r18_3_5 p w1 h1 f1 w2 h2 f2 w3 h3 f3 caps).trans (by rw [hb, hc]; rfl)
    · exact (r18_3_6 p w1 h1 f1 w2 h2 f2 w3 h3 f3 caps).trans (by rw [hb, hc]; rfl)
    · exact (r18_3_7 p w1 h1 f1 w2 h2 f2 w3 h3 f3 caps).trans (by rw [hb, hc]; rfl)
  · rcases lt8 hy with rfl | rfl | rfl | rfl | rfl | rfl | rfl | rfl
    · exact (r18_4_0 p w1 h1 f1 w2 h2 f2 w3 h3 f3 caps).trans (by rw [hb, hc]; rfl)
    · exact (r18_4_1 p w1 h1 f1 w2 h2 f2 w3 h3 f3 caps).trans (by rw [hb, hc]; rfl)
    · exact (r18_4_2 p w1 h1 f1 w2 h2 f2 w3 h3 f3 caps).trans (by rw [hb, hc]; rfl)
    · exact (r18_4_3 p w1 h1 f1 w2 h2 f2 w3 h3 f3 caps).trans (by rw [hb, hc]; rfl)
    · exact (r18_4_4 p w1 h1 f1 w2 h2 f2 w3 h3 f3 caps).trans (by rw [hb, hc]; rfl)
    · exact (r18_4_5 p w1 h1 f1 w2 h2 f2 w3 h3 f3 caps).trans (by rw [hb, hc]; rfl)
    · exact (r18_4_6 p w1 h1 f1 w2 h2 f2 w3 h3 f3 caps).trans (by rw [hb, hc]; rfl)
    · exact (r18_4_7 p w1 h1 f1 w2 h2 f2 w3 h3 f3 caps).trans (by rw [hb, hc]; rfl)
  · rcases lt8 hy with rfl | rfl | rfl | rfl | rfl | rfl | rfl | rfl
    · exact (r18_5_0 p w1 h1 f1 w2 h2 f2 w3 h3 f3 caps).trans (by rw [hb, hc]; rfl)
    · exact (r18_5_1 p w1 h1 f1 w2 h2 f2 w3 h3 f3 caps).trans (by rw [hb, hc]; rfl)
    · exact (r18_5_2 p w1 h1 f1 w2 h2 f2 w3 h3 f3 caps).trans (by rw [hb, hc]; rfl)
    · exact (r18_5_3 p w1 h1 f1 w2 h2 f2 w3 h3 f3 caps).trans (by rw [hb, hc]; rfl)
    · exact (r18_5_4 p w1 h1 f1 w2 h2 f2 w3 h3 f3 caps).trans (by rw [hb, hc]; rfl)
    · exact (r18_5_5 p w1 h1 f1 w2 h2 f2 w3 h3 f3 caps).trans (by rw [hb, hc]; rfl)
    · exact (r18_5_6 p w1 h1 f1 w2 h2 f2 w3 h3 f3 caps).trans (by rw [hb, hc]; rfl)
    · exact (r18_5_7 p w1 h1 f1 w2 h2 f2 w3 h3 f3 caps).trans (by rw [hb, hc]; rfl)
  · rcases lt8 hy with rfl | rfl | rfl | rfl | rfl | rfl | rfl | rfl
    · exact (r18_6_0 p w1 h1 f1 w2 h2 f2 w3 h3 f3 caps).trans (by rw [hb, hc]; rfl)
    · exact (r18_6_1 p w1 h1 f1 w2 h2 f2 w3 h3 f3 caps).trans (by rw [hb, hc]; rfl)
    · exact (r18_6_2 p w1 h1 f1 w2 h2 f2 w3 h3 f3 caps).trans (by rw [hb, hc]; rfl)
    · exact (r18_6_3 p w1 h1 f1 w2 h2 f2 w3 h3 f3 caps).trans (by rw [hb, hc]; rfl)
    · exact (r18_6_4 p w1 h1 f1 w2 h2 f2 w3 h3 f3 caps).trans (by rw [hb, hc]; rfl)
    · exact (r18_6_5 p w1 h1 f1 w2 h2 f2 w3 h3 f3 caps).trans (by rw [hb, hc]; rfl)
    · exact (r18_6_6 p w1 h1 f1 w2 h2 f2 w3 h3 f3 caps).trans (by rw [hb, hc]; rfl)
    · exact (r18_6_7 p w1 h1 f1 w2 h2 f2 w3 h3 f3 caps).trans (by rw [hb, hc]; rfl)
  · rcases lt8 hy with rfl | rfl | rfl | rfl | rfl | rfl | rfl | rfl
    · exact (r18_7_0 p w1 h1 f1 w2 h2 f2 w3 h3 f3 caps).trans (by rw [hb, hc]; rfl)
    · exact (r18_7_1 p w1 h1 f1 w2 h2 f2 w3 h3 f3 caps).trans (by rw [hb, hc]; rfl)
    · exact (r18_7_2 p w1 h1 f1 w2 h2 f2 w3 h3 f3 caps).trans (by rw [hb, hc]; rfl)
    · exact (r18_7_3 p w1 h1 f1 w2 h2 f2 w3 h3 f3 caps).trans (by rw [hb, hc]; rfl)
    · exact (r18_7_4 p w1 h1 f1 w2 h2 f2 w3 h3 f3 caps).trans (by rw [hb, hc]; rfl)
    · exact (r18_7_5 p w1 h1 f1 w2 h2 f2 w3 h3 f3 caps).trans (by rw [hb, hc]; rfl)
    · exact (r18_7_6 p w1 h1 f1 w2 h2 f2 w3 h3 f3 caps).trans (by rw [hb, hc]; rfl)
    · exact (r18_7_7 p w1 h1 f1 w2 h2 f2 w3 h3 f3 caps).trans (by rw [hb, hc]; rfl)
theorem r20_c {p : Nat → Nat} {w1 h1 : Int} {f1 : Nat → Nat} {w2 h2 : Int} {f2 : Nat → Nat} {w3 h3 : Int} {f3 : Nat → Nat} {x y : Int} {caps : Nat → Nat} (hx : 0 ≤ x ∧ x < 8) (hy : 0 ≤ y ∧ y < 8) (hc : codeI p w1 h1 f1 w2 h2 f2 w3 h3 f3 = 0) (hb : cellI w1 h1 x y = true) : runC Try.ti [(40, c40), (41, c41), (30, c30)] 100000 272692223 [false, false] Try.f20 [.v, .v, .v, .v, .v, .v] caps [.agg ⟨fcells p 24⟩, plV w1 h1 f1, plV w2 h2 f2, plV w3 h3 f3, .int .i64 x, .int .i64 y] = outP 0 (col1 p (f1 (at64 x y)) (f2 (at64 x y)) (f3 (at64 x y))) := by
  rcases lt8 hx with rfl | rfl | rfl | rfl | rfl | rfl | rfl | rfl
  · rcases lt8 hy with rfl | rfl | rfl | rfl | rfl | rfl | rfl | rfl
    · exact (r20_0_0 p w1 h1 f1 w2 h2 f2 w3 h3 f3 caps).trans (by rw [hc, hb]; rfl)
    · exact (r20_0_1 p w1 h1 f1 w2 h2 f2 w3 h3 f3 caps).trans (by rw [hc, hb]; rfl)
    · exact (r20_0_2 p w1 h1 f1 w2 h2 f2 w3 h3 f3 caps).trans (by rw [hc, hb]; rfl)
    · exact (r20_0_3 p w1 h1 f1 w2 h2 f2 w3 h3 f3 caps).trans (by rw [hc, hb]; rfl)
    · exact (r20_0_4 p w1 h1 f1 w2 h2 f2 w3 h3 f3 caps).trans (by rw [hc, hb]; rfl)
    · exact (r20_0_5 p w1 h1 f1 w2 h2 f2 w3 h3 f3 caps).trans (by rw [hc, hb]; rfl)
    · exact (r20_0_6 p w1 h1 f1 w2 h2 f2 w3 h3 f3 caps).trans (by rw [hc, hb]; rfl)
    · exact (r20_0_7 p w1 h1 f1 w2 h2 f2 w3 h3 f3 caps).trans (by rw [hc, hb]; rfl)
  · rcases lt8 hy with rfl | rfl | rfl | rfl | rfl | rfl | rfl | rfl
    · exact (r20_1_0 p w1 h1 f1 w2 h2 f2 w3 h3 f3 caps).trans (by rw [hc, hb]; rfl)
    · exact (r20_1_1 p w1 h1 f1 w2 h2 f2 w3 h3 f3 caps).trans (by rw [hc, hb]; rfl)
    · exact (r20_1_2 p w1 h1 f1 w2 h2 f2 w3 h3 f3 caps).trans (by rw [hc, hb]; rfl)
    · exact (r20_1_3 p w1 h1 f1 w2 h2 f2 w3 h3 f3 caps).trans (by rw [hc, hb]; rfl)
    · exact (r20_1_4 p w1 h1 f1 w2 h2 f2 w3 h3 f3 caps).trans (by rw [hc, hb]; rfl)
    · exact (r20_1_5 p w1 h1 f1 w2 h2 f2 w3 h3 f3 caps).trans (by rw [hc, hb]; rfl)
    · exact (r20_1_6 p w1 h1 f1 w2 h2 f2 w3 h3 f3 caps).trans (by rw [hc, hb]; rfl)
    · exact (r20_1_7 p w1 h1 f1 w2 h2 f2 w3 h3 f3 caps).trans (by rw [hc, hb]; rfl)
  · rcases lt8 hy with rfl | rfl | rfl | rfl | rfl | rfl | rfl | rfl
    · exact (r20_2_0 p w1 h1 f1 w2 h2 f2 w3 h3 f3 caps).trans (by rw [hc, hb]; rfl)
    · exact (r20_2_1 p w1 h1 f1 w2 h2 f2 w3 h3 f3 caps).trans (by rw [hc, hb]; rfl)
    · exact (r20_2_2 p w1 h1 f1 w2 h2 f2 w3 h3 f3 caps).trans (by rw [hc, hb]; rfl)
    · exact (r20_2_3 p w1 h1 f1 w2 h2 f2 w3 h3 f3 caps).trans (by rw [hc, hb]; rfl)
    · exact (r20_2_4 p w1 h1 f1 w2 h2 f2 w3 h3 f3 caps).trans (by rw [hc, hb]; rfl)
    · exact (r20_2_5 p w1 h1 f1 w2 h2 f2 w3 h3 f3 caps).trans (by rw [hc, hb]; rfl)
    · exact (r20_2_6 p w1 h1 f1 w2 h2 f2 w3 h3 f3 caps).trans (by rw [hc, hb]; rfl)
    · exact (r20_2_7 p w1 h1 f1 w2 h2 f2 w3 h3 f3 caps).trans (by rw [hc, hb]; rfl)
  · rcases lt8 hy with rfl | rfl | rfl | rfl | rfl | rfl | rfl | rfl
    · exact (r20_3_0 p w1 h1 f1 w2 h2 f2 w3 h3 f3 caps).trans (by rw [hc, hb]; rfl)
    · exact (r20_3_1 p w1 h1 f1 w2 h2 f2 w3 h3 f3 caps).trans (by rw [hc, hb]; rfl)
    · exact (r20_3_2 p w1 h1 f1 w2 h2 f2 w3 h3 f3 caps).trans (by rw [hc, hb]; rfl)
    · exact (r20_3_3 p w1 h1 f1 w2 h2 f2 w3 h3 f3 caps).trans (by rw [hc, hb]; rfl)
    · exact (r20_3_4 p w1 h1 f1 w2 h2 f2 w3 h3 f3 caps).trans (by rw [hc, hb]; rfl)
    · exact (r20_3_5 p w1 h1 f1 w2 h2 f2 w3 h3 f3 caps).trans (by rw [hc, hb]; rfl)
    · exact (r20_3_6 p w1 h1 f1 w2 h2 f2 w3 h3 f3 caps).trans (by rw [hc, hb]; rfl)
    · exact (r20_3_7 p w1 h1 f1 w2 h2 f2 w3 h3 f3 caps).trans (by rw [hc, hb]; rfl)
  · rcases lt8 hy with rfl | rfl | rfl | rfl | rfl | rfl | rfl | rfl
    · exact (r20_4_0 p w1 h1 f1 w2 h2 f2 w3 h3 f3 caps).trans (by rw [hc, hb]; rfl)
    · exact (r20_4_1 p w1 h1 f1 w2 h2 f2 w3 h3 f3 caps).trans (by rw [hc, hb]; rfl)
    · exact (r20_4_2 p w1 h1 f1 w2 h2 f2 w3 h3 f3 caps).trans (by rw [hc, hb]; rfl)
    · exact (r20_4_3 p w1 h1 f1 w2 h2 f2 w3 h3 f3 caps).trans (by rw [hc, hb]; rfl)
    · exact (r20_4_4 p w1 h1 f1 w2 h2 f2 w3 h3 f3 caps).trans (by rw [hc, hb]; rfl)
    · exact (r20_4_5 p w1 h1 f1 w2 h2 f2 w3 h3 f3 caps).trans (by rw [hc, hb]; rfl)
    · exact (r20_4_6 p w1 h1 f1 w2 h2 f2 w3 h3 f3 caps).trans (by rw [hc, hb]; rfl)
    · exact (r20_4_7 p w1 h1 f1 w2 h2 f2 w3 h3 f3 caps).trans (by rw [hc, hb]; rfl)
  · rcases lt8 hy with rfl | rfl | rfl | rfl | rfl | rfl | rfl | rfl
    · exact (r20_5_0 p w1 h1 f1 w2 h2 f2 w3 h3 f3 caps).trans (by rw [hc, hb]; rfl)
    · exact (r20_5_1 p w1 h1 f1 w2 h2 f2 w3 h3 f3 caps).trans (by rw [hc, hb]; rfl)
    · exact (r20_5_2 p w1 h1 f1 w2 h2 f2 w3 h3 f3 caps).trans (by rw [hc, hb]; rfl)
    · exact (r20_5_3 p w1 h1 f1 w2 h2 f2 w3 h3 f3 caps).trans (by rw [hc, hb]; rfl)
    · exact (r20_5_4 p w1 h1 f1 w2 h2 f2 w3 h3 f3 caps).trans (by rw [hc, hb]; rfl)
    · exact (r20_5_5 p w1 h1 f1 w2 h2 f2 w3 h3 f3 caps).trans (by rw [hc, hb]; rfl)
    · exact (r20_5_6 p w1 h1 f1 w2 h2 f2 w3 h3 f3 caps).trans (by rw [hc, hb]; rfl)
    · exact (r20_5_7 p w1 h1 f1 w2 h2 f2 w3 h3 f3 caps).trans (by rw [hc, hb]; rfl)
  · rcases lt8 hy with rfl | rfl | rfl | rfl | rfl | rfl | rfl | rfl
    · exact (r20_6_0 p w1 h1 f1 w2 h2 f2 w3 h3 f3 caps).trans (by rw [hc, hb]; rfl)
    · exact (r20_6_1 p w1 h1 f1 w2 h2 f2 w3 h3 f3 caps).trans (by rw [hc, hb]; rfl)
    · exact (r20_6_2 p w1 h1 f1 w2 h2 f2 w3 h3 f3 caps).trans (by rw [hc, hb]; rfl)
    · exact (r20_6_3 p w1 h1 f1 w2 h2 f2 w3 h3 f3 caps).trans (by rw [hc, hb]; rfl)
    · exact (r20_6_4 p w1 h1 f1 w2 h2 f2 w3 h3 f3 caps).trans (by rw [hc, hb]; rfl)
    · exact (r20_6_5 p w1 h1 f1 w2 h2 f2 w3 h3 f3 caps).trans (by rw [hc, hb]; rfl)
    · exact (r20_6_6 p w1 h1 f1 w2 h2 f2 w3 h3 f3 caps).trans (by rw [hc, hb]; rfl)
    · exact (r20_6_7 p w1 h1 f1 w2 h2 f2 w3 h3 f3 caps).trans (by rw [hc, hb]; rfl)
  · rcases lt8 hy with rfl | rfl | rfl | rfl | rfl | rfl | rfl | rfl
    · exact (r20_7_0 p w1 h1 f1 w2 h2 f2 w3 h3 f3 caps).trans (by rw [hc, hb]; rfl)
    · exact (r20_7_1 p w1 h1 f1 w2 h2 f2 w3 h3 f3 caps).trans (by rw [hc, hb]; rfl)
    · exact (r20_7_2 p w1 h1 f1 w2 h2 f2 w3 h3 f3 caps).trans (by rw [hc, hb]; rfl)
    · exact (r20_7_3 p w1 h1 f1 w2 h2 f2 w3 h3 f3 caps).trans (by rw [hc, hb]; rfl)
    · exact (r20_7_4 p w1 h1 f1 w2 h2 f2 w3 h3 f3 caps).trans (by rw [hc, hb]; rfl)
    · exact (r20_7_5 p w1 h1 f1 w2 h2 f2 w3 h3 f3 caps).trans (by rw [hc, hb]; rfl)
    · exact (r20_7_6 p w1 h1 f1 w2 h2 f2 w3 h3 f3 caps).trans (by rw [hc, hb]; rfl)
    · exact (r20_7_7 p w1 h1 f1 w2 h2 f2 w3 h3 f3 caps).trans (by rw [hc, hb]; rfl)
theorem plateS_guard {w h : Int} {f : Nat → Nat} (hp : plateS w h f = true) : (1 ≤ wrapI .i64 w ∧ wrapI .i64 w ≤ 8) ∧ (1 ≤ wrapI .i64 h ∧ wrapI .i64 h ≤ 8) := by
  unfold plateS at hp
  cases hg : guardS w h with
  | true => rw [hg] at hp; cases hp
  | false =>
    unfold guardS at hg
    cases h1 : inB (wrapI .i64 w) 1 8 with
    | false => rw [h1] at hg; cases hg
    | true =>
      rw [h1] at hg
      cases h2 : inB (wrapI .i64 h) 1 8 with
      | false => rw [h2] at hg; cases hg
      | true => exact ⟨inB_iff.1 h1, inB_iff.1 h2⟩
theorem plateI_guard {w h : Int} {f : Nat → Nat} (hp : plateI w h f = true) : (1 ≤ w ∧ w ≤ 8) ∧ (1 ≤ h ∧ h ≤ 8) := by
  unfold plateI at hp
  cases hg : guardI w h with
  | true => rw [hg] at hp; cases hp
  | false => exact guardI_iff.1 hg
theorem codeS_zero {p : Nat → Nat} {w1 h1 : Int} {f1 : Nat → Nat} {w2 h2 : Int} {f2 : Nat → Nat} {w3 h3 : Int} {f3 : Nat → Nat} (hc : codeS p w1 h1 f1 w2 h2 f2 w3 h3 f3 = 0) : plateS w1 h1 f1 = true := by
  unfold codeS badS at hc
  cases h : plateS w1 h1 f1 with
  | true => rfl
  | false =>
    rw [h] at hc
    revert hc
    cases okP p <;> cases plateS w2 h2 f2 <;> cases plateS w3 h3 f3 <;> cases neq4 w1 h1 w2 h2 w3 h3 <;> simp [two]
theorem codeI_zero {p : Nat → Nat} {w1 h1 : Int} {f1 : Nat → Nat} {w2 h2 : Int} {f2 : Nat → Nat} {w3 h3 : Int} {f3 : Nat → Nat} (hc : codeI p w1 h1 f1 w2 h2 f2 w3 h3 f3 = 0) : plateI w1 h1 f1 = true := by
  unfold codeI code2 at hc
  cases h : plateI w1 h1 f1 with
  | true => rfl
  | false =>
    rw [h] at hc
    revert hc
    cases okP p <;> cases plateI w3 h3 f3 <;> cases plateI w2 h2 f2 <;> simp [tri, pairN]
theorem outCell_no {w h x y : Int} (hw : 1 ≤ wrapI .i64 w ∧ wrapI .i64 w ≤ 8) (hh : 1 ≤ wrapI .i64 h ∧ wrapI .i64 h ≤ 8) (ho : outCell w h x y = false) : (0 ≤ x ∧ x < wrapI .i64 w) ∧ (0 ≤ y ∧ y < wrapI .i64 h) := by
  unfold outCell at ho
  rw [wrap_i8 (by omega) (by omega), wrap_i8 (w := wrapI .i64 h - 1) (by omega) (by omega)] at ho
  cases h1 : inB x 0 (wrapI .i64 w - 1) with
  | false => rw [h1] at ho; cases ho
  | true =>
    rw [h1] at ho
    cases h2 : inB y 0 (wrapI .i64 h - 1) with
    | false => rw [h2] at ho; cases ho
    | true =>
      have := inB_iff.1 h1
      have := inB_iff.1 h2
      omega
theorem outCell_cell {w h x y : Int} (hw : 1 ≤ wrapI .i64 w ∧ wrapI .i64 w ≤ 8) (hh : 1 ≤ wrapI .i64 h ∧ wrapI .i64 h ≤ 8) : outCell w h x y = !cellI w h x y := by
  cases ho : outCell w h x y with
  | false => rw [cellI_iff.2 (outCell_no hw hh ho)]; rfl
  | true =>
    cases hc : cellI w h x y with
    | false => rfl
    | true =>
      exfalso
      have hc := cellI_iff.1 hc
      unfold outCell at ho
      rw [wrap_i8 (by omega) (by omega), wrap_i8 (w := wrapI .i64 h - 1) (by omega) (by omega)] at ho
      rw [inB_iff.2 ⟨hc.1.1, by omega⟩, inB_iff.2 ⟨hc.2.1, by omega⟩] at ho
      cases ho
theorem g18 : Sx.Good Try.prog 18 c18 := good 343597446143 Try.func18 [(37, c37), (38, c38), (25, c25)] (goods_cons g37 (goods_cons g38 (goods_cons g25 goods_nil))) (by kernel_rfl) fun vals rv h caps => by
  simp only [c18] at h
  split at h
  · rename_i a b
    obtain ⟨p, rfl, h0⟩ := onFl_at h
    obtain ⟨w1, h1, f1, rfl, h01⟩ := onPl_at h0
    obtain ⟨w2, h2, f2, rfl, h02⟩ := onPl_at h01
    obtain ⟨w3, h3, f3, rfl, h03⟩ := onPl_at h02
    rw [← h03]
    show ∃ o, _ = outP (code3S (codeS p w1 h1 f1 w2 h2 f2 w3 h3 f3) w1 h1 a b) (gated (code3S (codeS p w1 h1 f1 w2 h2 f2 w3 h3 f3) w1 h1 a b) (colS p (f1 (at64 a b)) (f2 (at64 a b)) (f3 (at64 a b))))
    cases hb : badCell (codeS p w1 h1 f1 w2 h2 f2 w3 h3 f3) w1 h1 a b with
    | true =>
      refine ⟨[true], (r18_a p w1 h1 f1 w2 h2 f2 w3 h3 f3 a b caps).trans ?_⟩
      rw [code3S, hb]
      rfl
    | false =>
      cases hc : (codeS p w1 h1 f1 w2 h2 f2 w3 h3 f3 == 0) with
      | false =>
        refine ⟨[false, true], (r18_b p w1 h1 f1 w2 h2 f2 w3 h3 f3 a b caps).trans ?_⟩
        have hn : (codeS p w1 h1 f1 w2 h2 f2 w3 h3 f3 != 0) = true := by simp only [bne, hc]; rfl
        have h3 : code3S (codeS p w1 h1 f1 w2 h2 f2 w3 h3 f3) w1 h1 a b = codeS p w1 h1 f1 w2 h2 f2 w3 h3 f3 := by rw [code3S, hb]
        rw [h3, gated_no hc, hb, hn]
      | true =>
        have hz : codeS p w1 h1 f1 w2 h2 f2 w3 h3 f3 = 0 := eq_of_beq hc
        have hg := plateS_guard (codeS_zero hz)
        have ho : outCell w1 h1 a b = false := by
          have := hb
          unfold badCell at this
          rw [hc] at this
          exact this
        have hxy := outCell_no hg.1 hg.2 ho
        refine ⟨[false, false], (r18_c ⟨hxy.1.1, by omega⟩ ⟨hxy.2.1, by omega⟩ hz hb).trans ?_⟩
        have h3 : code3S (codeS p w1 h1 f1 w2 h2 f2 w3 h3 f3) w1 h1 a b = 0 := by rw [code3S, hb]; exact hz
        rw [h3, gated_yes]
  · cases h
theorem g20 : Sx.Good Try.prog 20 c20 := good 272692223 Try.func20 [(40, c40), (41, c41), (30, c30)] (goods_cons g40 (goods_cons g41 (goods_cons g30 goods_nil))) (by kernel_rfl) fun vals rv h caps => by
  simp only [c20] at h
  split at h
  · rename_i a b
    obtain ⟨p, rfl, h0⟩ := onFl_at h
    obtain ⟨w1, h1, f1, rfl, h01⟩ := onPl_at h0
    obtain ⟨w2, h2, f2, rfl, h02⟩ := onPl_at h01
    obtain ⟨w3, h3, f3, rfl, h03⟩ := onPl_at h02
    rw [← h03]
    show ∃ o, _ = outP (code3I (codeI p w1 h1 f1 w2 h2 f2 w3 h3 f3) w1 h1 a b) (gated (code3I (codeI p w1 h1 f1 w2 h2 f2 w3 h3 f3) w1 h1 a b) (col1 p (f1 (at64 a b)) (f2 (at64 a b)) (f3 (at64 a b))))
    cases hc : (codeI p w1 h1 f1 w2 h2 f2 w3 h3 f3 == 0) with
    | false =>
      refine ⟨[true], (r20_a p w1 h1 f1 w2 h2 f2 w3 h3 f3 a b caps).trans ?_⟩
      have hn : (codeI p w1 h1 f1 w2 h2 f2 w3 h3 f3 != 0) = true := by simp only [bne, hc]; rfl
      have h3 : code3I (codeI p w1 h1 f1 w2 h2 f2 w3 h3 f3) w1 h1 a b = codeI p w1 h1 f1 w2 h2 f2 w3 h3 f3 := by rw [code3I, hn]
      rw [h3, gated_no hc, hn]
    | true =>
      have hz : codeI p w1 h1 f1 w2 h2 f2 w3 h3 f3 = 0 := eq_of_beq hc
      have hn : (codeI p w1 h1 f1 w2 h2 f2 w3 h3 f3 != 0) = false := by simp only [bne, hc]; rfl
      cases hb : cellI w1 h1 a b with
      | false =>
        refine ⟨[false, true], (r20_b p w1 h1 f1 w2 h2 f2 w3 h3 f3 a b caps).trans ?_⟩
        have h3 : code3I (codeI p w1 h1 f1 w2 h2 f2 w3 h3 f3) w1 h1 a b = 2 := by rw [code3I, hn, hb]; rfl
        rw [h3, hn, hb]
        rfl
      | true =>
        have hg := plateI_guard (codeI_zero hz)
        have hxy := cellI_iff.1 hb
        rw [wrap_i8 (by omega) (by omega), wrap_i8 (w := h1) (by omega) (by omega)] at hxy
        refine ⟨[false, false], (r20_c ⟨hxy.1.1, by omega⟩ ⟨hxy.2.1, by omega⟩ hz hb).trans ?_⟩
        have h3 : code3I (codeI p w1 h1 f1 w2 h2 f2 w3 h3 f3) w1 h1 a b = 0 := by rw [code3I, hn, hb]; rfl
        rw [h3, gated_yes]
  · cases h
end Go.Proofs.Ytdlcjmonnfjklaa
