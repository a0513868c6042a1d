/-
  PROVED HERE: both PlatesColour answer alike, for every input; no conditions.
-/
import Derived.Test.YtdlcjmonnfjklaaRC
set_option linter.unusedSimpArgs false
set_option linter.unusedVariables false
namespace Go.Proofs.Ytdlcjmonnfjklaa
open Go.Sx
theorem allP_congr {c c' : Nat → Bool} {f : Nat → Nat} : ∀ {l : List Nat}, (∀ i ∈ l, c i = c' i) → allP c f l = allP c' f l
  | [], _ => rfl
  | i :: l, h => by
    simp only [allP]
    rw [h i (by simp), allP_congr fun j hj => h j (by simp [hj])]
theorem ups_lt : ∀ {n k i : Nat}, i ∈ ups k n → k ≤ i ∧ i < k + n
  | 0, _, _, h => by cases h
  | n + 1, k, i, h => by
    rcases List.mem_cons.1 h with rfl | h
    · omega
    · have := ups_lt h
      omega
theorem tmod8 (i : Nat) : (i : Int).tmod 8 = ((i % 8 : Nat) : Int) := rfl
theorem tdiv8 (i : Nat) : (i : Int).tdiv 8 = ((i / 8 : Nat) : Int) := rfl
theorem wrap_nat {i : Nat} (h : i < 64) : wrapI .i64 (i : Int) = i := wrap_i8 (by omega) (by omega)
theorem cellS_iff {w h : Int} {i : Nat} (hi : i < 64) : cellS w h i = true ↔ ((i % 8 : Nat) : Int) < wrapI .i64 w ∧ ((i / 8 : Nat) : Int) < wrapI .i64 h := by
  unfold cellS
  rw [inB_iff.2 ⟨by omega, by omega⟩, tmod8, tdiv8, wrap_nat (by omega)]
  by_cases h1 : ((i % 8 : Nat) : Int) < wrapI .i64 w
  · rw [decide_eq_true h1]
    exact ⟨fun h => ⟨h1, of_decide_eq_true h⟩, fun h => decide_eq_true h.2⟩
  · rw [decide_eq_false h1]
    exact ⟨fun h => (by cases h), fun h => absurd h.1 h1⟩
theorem cell_same {w h : Int} {i : Nat} (hi : i < 64) : cellS w h i = cellI w h (i % 8 : Nat) (i / 8 : Nat) := by
  rw [Bool.eq_iff_iff, cellS_iff hi, cellI_iff]
  omega
theorem guardS_iff {w h : Int} (hw : -128 ≤ w ∧ w ≤ 127) (hh : -128 ≤ h ∧ h ≤ 127) : guardS w h = false ↔ (1 ≤ w ∧ w ≤ 8) ∧ (1 ≤ h ∧ h ≤ 8) := by
  rw [← inB_iff, ← inB_iff]
  unfold guardS
  rw [wrap_i8 hw.1 hw.2, wrap_i8 hh.1 hh.2]
  cases inB w 1 8 <;> cases inB h 1 8 <;> simp
theorem guard_same {w h : Int} (hw : -128 ≤ w ∧ w ≤ 127) (hh : -128 ≤ h ∧ h ≤ 127) : guardS w h = guardI w h := by
  cases h1 : guardI w h with
  | false => exact (guardS_iff hw hh).2 (guardI_iff.1 h1)
  | true =>
    cases h2 : guardS w h with
    | true => rfl
    | false => rw [guardI_iff.2 ((guardS_iff hw hh).1 h2)] at h1; cases h1
theorem plate_same {w h : Int} {f : Nat → Nat} (hw : -128 ≤ w ∧ w ≤ 127) (hh : -128 ≤ h ∧ h ≤ 127) : plateS w h f = plateI w h f := by
  unfold plateS plateI
  rw [guard_same hw hh, allP_congr fun i hi => cell_same (ups_lt hi).2]
  rfl
def i8B (w : Int) : Bool := decide (-128 ≤ w) && decide (w ≤ 127)
theorem i8B_iff {w : Int} : i8B w = true ↔ -128 ≤ w ∧ w ≤ 127 := by simp [i8B]
theorem code_same {p : Nat → Nat} {w1 h1 : Int} {f1 : Nat → Nat} {w2 h2 : Int} {f2 : Nat → Nat} {w3 h3 : Int} {f3 : Nat → Nat} (e1 : plateS w1 h1 f1 = plateI w1 h1 f1) (e2 : plateS w2 h2 f2 = plateI w2 h2 f2) (e3 : plateS w3 h3 f3 = plateI w3 h3 f3) :
    codeS p w1 h1 f1 w2 h2 f2 w3 h3 f3 = codeI p w1 h1 f1 w2 h2 f2 w3 h3 f3 := by
  unfold codeS codeI badS code2 neq4 neq2
  rw [e1, e2, e3]
  cases okP p <;> cases plateI w1 h1 f1 <;> cases plateI w2 h2 f2 <;> cases plateI w3 h3 f3 <;> cases (w1 != w2) <;> cases (h1 != h2) <;> cases (w1 != w3) <;> cases (h1 != h3) <;> rfl
theorem code3_same {p : Nat → Nat} {w1 h1 : Int} {f1 : Nat → Nat} {w2 h2 : Int} {f2 : Nat → Nat} {w3 h3 : Int} {f3 : Nat → Nat} {x y : Int} (r1 : -128 ≤ w1 ∧ w1 ≤ 127) (r2 : -128 ≤ h1 ∧ h1 ≤ 127) (r3 : -128 ≤ w2 ∧ w2 ≤ 127) (r4 : -128 ≤ h2 ∧ h2 ≤ 127) (r5 : -128 ≤ w3 ∧ w3 ≤ 127) (r6 : -128 ≤ h3 ∧ h3 ≤ 127) :
    code3S (codeS p w1 h1 f1 w2 h2 f2 w3 h3 f3) w1 h1 x y = code3I (codeI p w1 h1 f1 w2 h2 f2 w3 h3 f3) w1 h1 x y := by
  rw [code_same (plate_same r1 r2) (plate_same r3 r4) (plate_same r5 r6)]
  unfold code3S code3I badCell
  cases hc : (codeI p w1 h1 f1 w2 h2 f2 w3 h3 f3 == 0) with
  | false =>
    have hn : (codeI p w1 h1 f1 w2 h2 f2 w3 h3 f3 != 0) = true := by simp only [bne, hc]; rfl
    rw [hn]
  | true =>
    have hz : codeI p w1 h1 f1 w2 h2 f2 w3 h3 f3 = 0 := eq_of_beq hc
    have hn : (codeI p w1 h1 f1 w2 h2 f2 w3 h3 f3 != 0) = false := by simp only [bne, hc]; rfl
    have hg := plateI_guard (codeI_zero hz)
    rw [hn]
    have e1 := wrap_i8 r1.1 r1.2
    have e2 := wrap_i8 r2.1 r2.2
    simp only []
    rw [outCell_cell (by omega) (by omega), hz]
theorem sameL_cvt {f g : Nat → Nat} (h : ∀ l, cvt (f l) = cvt (g l)) : ∀ n k, allT (sameL f g k n) = true
  | 0, _ => rfl
  | n + 1, k => by
    simp only [sameL, allT, h k, sameB_self]
    exact sameL_cvt h n (k + 1)
noncomputable def tree5 (cI cS : Int) (GI GS : Nat → Nat) : Option RV := match (match !allT (sameL GI GS 0 3) with | true => true | false => (cI != cS)) with | true => bv false | false => bv true
theorem tree5_true {c : Int} {GI GS : Nat → Nat} (h : ∀ l, cvt (GI l) = cvt (GS l)) : tree5 c c GI GS = bv true := by
  unfold tree5
  rw [sameL_cvt h]
  have : (c != c) = false := by simp
  rw [this]
  rfl
theorem r5 (p : Nat → Nat) (w1 h1 : Int) (f1 : Nat → Nat) (w2 h2 : Int) (f2 : Nat → Nat) (w3 h3 : Int) (f3 : Nat → Nat) (a b : Int) (caps : Nat → Nat) :
    runC Try.ti [(7, c7), (19, c19), (18, c18), (20, c20), (21, c21)] 100000 9007199254868991 [] Try.f5 [.v, .v, .v, .v, .v, .v] caps [.agg ⟨fcells p 24⟩, plV w1 h1 f1, plV w2 h2 f2, plV w3 h3 f3, .int .i64 a, .int .i64 b] =
      tree5 (code3I (codeI (flAt (fcells p 24)) w1 h1 (flAt (fcells f1 64)) w2 h2 (flAt (fcells f2 64)) w3 h3 (flAt (fcells f3 64))) w1 h1 a b) (code3S (codeS (flAt (fcells p 24)) w1 h1 (flAt (fcells f1 64)) w2 h2 (flAt (fcells f2 64)) w3 h3 (flAt (fcells f3 64))) w1 h1 a b) (gated (code3I (codeI (flAt (fcells p 24)) w1 h1 (flAt (fcells f1 64)) w2 h2 (flAt (fcells f2 64)) w3 h3 (flAt (fcells f3 64))) w1 h1 a b) (col1 (flAt (fcells p 24)) (flAt (fcells f1 64) (at64 a b)) (flAt (fcells f2 64) (at64 a b)) (flAt (fcells f3 64) (at64 a b))))
        (gated (code3S (codeS (flAt (fcells p 24)) w1 h1 (flAt (fcells f1 64)) w2 h2 (flAt (fcells f2 64)) w3 h3 (flAt (fcells f3 64))) w1 h1 a b) (colS (flAt (fcells p 24)) (flAt (fcells f1 64) (at64 a b)) (flAt (fcells f2 64) (at64 a b)) (flAt (fcells f3 64) (at64 a b)))) := by kernel_rfl
noncomputable def c5 : Ctr := ⟨[.v, .v, .v, .v, .v, .v], fun | [p, x, y, z, .int .i64 _, .int .i64 _] => onFl 24 (fun _ => onPl (fun w1 h1 _ => onPl (fun w2 h2 _ => onPl (fun w3 h3 _ => match i8B w1 && (i8B h1 && (i8B w2 && (i8B h2 && (i8B w3 && i8B h3)))) with | true => bv true | false => none) z) y) x) p | _ => none⟩
theorem g5 : Sx.Good Try.prog 5 c5 := good 9007199254868991 Try.func5 [(7, c7), (19, c19), (18, c18), (20, c20), (21, c21)] (goods_cons g7 (goods_cons g19 (goods_cons g18 (goods_cons g20 (goods_cons g21 goods_nil))))) (by kernel_rfl) fun vals rv h caps => ⟨[], by
  simp only [c5] at h
  split at h
  · rename_i a b
    obtain ⟨p, rfl, h0⟩ := onFl_at h
    obtain ⟨w1, h1, f1, rfl, h01⟩ := onPl_at h0
    obtain ⟨w2, h2, f2, rfl, h02⟩ := onPl_at h01
    obtain ⟨w3, h3, f3, rfl, h03⟩ := onPl_at h02
    split at h03
    · rename_i hr
      simp only [Bool.and_eq_true, i8B_iff] at hr
      obtain ⟨q1, q2, q3, q4, q5, q6⟩ := hr
      rw [← h03]
      refine (r5 p w1 h1 f1 w2 h2 f2 w3 h3 f3 a b caps).trans ?_
      rw [code3_same q1 q2 q3 q4 q5 q6]
      refine tree5_true fun l => ?_
      unfold gated
      split
      · exact cvt_col _ _ _ _ _
      · rfl
    · cases h03
  · cases h⟩
end Go.Proofs.Ytdlcjmonnfjklaa
