/-
  PROVED HERE: contracts of the plate codes, for every input; no conditions.
-/
import Derived.Test.YtdlcjmonnfjklaaR3
import Derived.Test.YtdlcjmonnfjklaaR4
import Derived.Test.YtdlcjmonnfjklaaR5
import Derived.Test.YtdlcjmonnfjklaaR6
set_option linter.unusedSimpArgs false
set_option linter.unusedVariables false
namespace Go.Proofs.Ytdlcjmonnfjklaa
open Go.Sx
def guardI (w h : Int) : Bool := match (match (match decide (w < 1) with | true => true | false => decide (w > 8)) with | true => true | false => decide (h < 1)) with | true => true | false => decide (h > 8)
theorem treeI_eq (w h : Int) (f : Nat → Nat) : ∀ l, treeI w h f l = bv (allP (fun i => cellI w h (i % 8 : Nat) (i / 8 : Nat)) f l)
  | [] => rfl
  | i :: l => by
    simp only [treeI, allP]
    rw [treeI_eq w h f l]
    cases cellI w h (i % 8 : Nat) (i / 8 : Nat) <;> cases part (f i) <;> cases fcmp .neq .f32 (f i) 0 <;> rfl
noncomputable def plateI (w h : Int) (f : Nat → Nat) : Bool := match guardI w h with | true => false | false => allP (fun i => cellI w h (i % 8 : Nat) (i / 8 : Nat)) f (ups 0 64)
theorem guardI_iff {w h : Int} : guardI w h = false ↔ (1 ≤ w ∧ w ≤ 8) ∧ (1 ≤ h ∧ h ≤ 8) := by
  unfold guardI
  by_cases h1 : w < 1
  · simp [h1] <;> omega
  · by_cases h2 : w > 8
    · simp [h1, h2] <;> omega
    · by_cases h3 : h < 1
      · simp [h1, h2, h3] <;> omega
      · by_cases h4 : h > 8
        · simp [h1, h2, h3, h4] <;> omega
        · simp [h1, h2, h3, h4] <;> omega
theorem r60_bad (w h : Int) (f : Nat → Nat) (caps : Nat → Nat) : runC Try.ti [(41, c41), (62, c42)] 100000 352308953119 [true] Try.f60 [.v] caps [plV w h f] = match guardI w h with | true => bv false | false => none := by kernel_rfl
noncomputable def c60 : Ctr := ⟨[.v], fun | [x] => onPl (fun w h f => bv (plateI w h f)) x | _ => none⟩
theorem plateI_ok {w h : Int} {f : Nat → Nat} (hg : guardI w h = false) : treeI w h f (ups 0 64) = bv (plateI w h f) := by
  rw [treeI_eq, plateI, hg]
theorem r60_all {w h : Int} {f : Nat → Nat} {caps : Nat → Nat} (hg : guardI w h = false) : runC Try.ti [(41, c41), (62, c42)] 100000 352308953119 [] Try.f60 [.v] caps [plV w h f] = bv (plateI w h f) := by
  refine Eq.trans ?_ (plateI_ok hg)
  obtain ⟨⟨h1, h2⟩, h3, h4⟩ := guardI_iff.1 hg
  have hw : w = 1 ∨ w = 2 ∨ w = 3 ∨ w = 4 ∨ w = 5 ∨ w = 6 ∨ w = 7 ∨ w = 8 := by omega
  have hh : h = 1 ∨ h = 2 ∨ h = 3 ∨ h = 4 ∨ h = 5 ∨ h = 6 ∨ h = 7 ∨ h = 8 := by omega
  rcases hw with rfl | rfl | rfl | rfl | rfl | rfl | rfl | rfl
  · rcases hh with rfl | rfl | rfl | rfl | rfl | rfl | rfl | rfl
    · exact r60_1_1 f caps
    · exact r60_1_2 f caps
    · exact r60_1_3 f caps
    · exact r60_1_4 f caps
    · exact r60_1_5 f caps
    · exact r60_1_6 f caps
    · exact r60_1_7 f caps
    · exact r60_1_8 f caps
  · rcases hh with rfl | rfl | rfl | rfl | rfl | rfl | rfl | rfl
    · exact r60_2_1 f caps
    · exact r60_2_2 f caps
    · exact r60_2_3 f caps
    · exact r60_2_4 f caps
    · exact r60_2_5 f caps
    · exact r60_2_6 f caps
    · exact r60_2_7 f caps
    · exact r60_2_8 f caps
  · rcases hh with rfl | rfl | rfl | rfl | rfl | rfl | rfl | rfl
    · exact r60_3_1 f caps
    · exact r60_3_2 f caps
    · exact r60_3_3 f caps
    · exact r60_3_4 f caps
    · exact r60_3_5 f caps
    · exact r60_3_6 f caps
    · exact r60_3_7 f caps
    · exact r60_3_8 f caps
  · rcases hh with rfl | rfl | rfl | rfl | rfl | rfl | rfl | rfl
    · exact r60_4_1 f caps
    · exact r60_4_2 f caps
    · exact r60_4_3 f caps
    · exact r60_4_4 f caps
    · exact r60_4_5 f caps
    · exact r60_4_6 f caps
    · exact r60_4_7 f caps
    · exact r60_4_8 f caps
  · rcases hh with rfl | rfl | rfl | rfl | rfl | rfl | rfl | rfl
    · exact r60_5_1 f caps
    · exact r60_5_2 f caps
    · exact r60_5_3 f caps
    · exact r60_5_4 f caps
    · exact r60_5_5 f caps
    · exact r60_5_6 f caps
    · exact r60_5_7 f caps
    · exact r60_5_8 f caps
  · rcases hh with rfl | rfl | rfl | rfl | rfl | rfl | rfl | rfl
    · exact r60_6_1 f caps
    · exact r60_6_2 f caps
    · exact r60_6_3 f caps
    · exact r60_6_4 f caps
    · exact r60_6_5 f caps
    · exact r60_6_6 f caps
    · exact r60_6_7 f caps
    · exact r60_6_8 f caps
  · rcases hh with rfl | rfl | rfl | rfl | rfl | rfl | rfl | rfl
    · exact r60_7_1 f caps
    · exact r60_7_2 f caps
    · exact r60_7_3 f caps
    · exact r60_7_4 f caps
    · exact r60_7_5 f caps
    · exact r60_7_6 f caps
    · exact r60_7_7 f caps
    · exact r60_7_8 f caps
  · rcases hh with rfl | rfl | rfl | rfl | rfl | rfl | rfl | rfl
    · exact r60_8_1 f caps
    · exact r60_8_2 f caps
    · exact r60_8_3 f caps
    · exact r60_8_4 f caps
    · exact r60_8_5 f caps
    · exact r60_8_6 f caps
    · exact r60_8_7 f caps
    · exact r60_8_8 f caps
theorem g60 : Sx.Good Try.prog 60 c60 := good 352308953119 Try.func60 [(41, c41), (62, c42)] (goods_cons g41 (goods_cons g62 goods_nil)) (by kernel_rfl) fun vals rv h caps => by
  simp only [c60] at h
  split at h
  · obtain ⟨w, h', f, rfl, h2⟩ := onPl_some h
    have e : rv = .o (.v (.bool (plateI w h' f))) := (Option.some.inj h2).symm
    rw [e]
    cases hg : guardI w h' with
    | true =>
      refine ⟨[true], (r60_bad w h' f caps).trans ?_⟩
      rw [plateI, hg]
      rfl
    | false => exact ⟨[], r60_all hg⟩
  · cases h
def iv (n : Int) : Option RV := some (.o (.v (.int .i64 n)))
def pairN (a b d : Bool) : Int := match (match !a with | true => true | false => !b) with | true => 1 | false => match d with | true => 4 | false => 0
def pairT (a b d : Bool) : Option RV := match (match !a with | true => true | false => !b) with | true => iv 1 | false => match d with | true => iv 4 | false => iv 0
theorem pairT_eq (a b d : Bool) : pairT a b d = iv (pairN a b d) := by cases a <;> cases b <;> cases d <;> rfl
def neq2 (w h w2 h2 : Int) : Bool := match w != w2 with | true => true | false => h != h2
noncomputable def code2 (w h : Int) (f : Nat → Nat) (w2 h2 : Int) (f2 : Nat → Nat) : Int := pairN (plateI w h f) (plateI w2 h2 f2) (neq2 w h w2 h2)
noncomputable def c61 : Ctr := ⟨[.v, .v], fun | [x, y] => onPl (fun w h f => onPl (fun w2 h2 f2 => iv (code2 w h f w2 h2 f2)) y) x | _ => none⟩
theorem g61 : Sx.Good Try.prog 61 c61 := good 16447 Try.func61 [(60, c60)] (goods_cons g60 goods_nil) (by kernel_rfl) fun vals rv h caps => ⟨[], by
  simp only [c61] at h
  split at h
  · obtain ⟨w, h', f, rfl, h2⟩ := onPl_some h
    obtain ⟨w2, h2', f2, rfl, h3⟩ := onPl_some h2
    rw [← h3]
    show _ = iv (code2 w h' f w2 h2' f2)
    rw [code2, ← pairT_eq]
    kernel_rfl
  · cases h⟩
def tri (ok : Bool) (a b : Int) : Int := match ok with | true => (match a != 0 with | true => a | false => b) | false => 1
noncomputable def codeI (p : Nat → Nat) (w1 h1 : Int) (f1 : Nat → Nat) (w2 h2 : Int) (f2 : Nat → Nat) (w3 h3 : Int) (f3 : Nat → Nat) : Int :=
  tri (match (match !okP p with | true => true | false => !plateI w3 h3 f3) with | true => false | false => true) (code2 w1 h1 f1 w2 h2 f2) (code2 w1 h1 f1 w3 h3 f3)
def tri40 (bad : Bool) (a b : Int) : Option RV := match bad with | true => iv 1 | false => match a != 0 with | true => iv a | false => iv b
theorem tri40_eq (bad : Bool) (a b : Int) : tri40 bad a b = iv (tri (match bad with | true => false | false => true) a b) := by
  unfold tri40 tri
  cases bad
  · cases a != 0 <;> rfl
  · rfl
noncomputable def c40 : Ctr := ⟨[.v, .v, .v, .v], fun | [p, x, y, z] => onFl 24 (fun p => onPl (fun w1 h1 f1 => onPl (fun w2 h2 f2 => onPl (fun w3 h3 f3 => iv (codeI p w1 h1 f1 w2 h2 f2 w3 h3 f3)) z) y) x) p | _ => none⟩
theorem g40 : Sx.Good Try.prog 40 c40 := good 4326399 Try.func40 [(27, c27), (60, c60), (61, c61)] (goods_cons g27 (goods_cons g60 (goods_cons g61 goods_nil))) (by kernel_rfl) fun vals rv h caps => ⟨[], by
  simp only [c40] at h
  split at h
  · obtain ⟨p, rfl, h0⟩ := onFl_some h
    obtain ⟨w1, h1, f1, rfl, h01⟩ := onPl_some h0
    obtain ⟨w2, h2, f2, rfl, h02⟩ := onPl_some h01
    obtain ⟨w3, h3, f3, rfl, h03⟩ := onPl_some h02
    rw [← h03]
    show _ = iv (codeI p w1 h1 f1 w2 h2 f2 w3 h3 f3)
    rw [codeI, ← tri40_eq]
    kernel_rfl
  · cases h⟩
noncomputable def badS (p : Nat → Nat) (w1 h1 : Int) (f1 : Nat → Nat) (w2 h2 : Int) (f2 : Nat → Nat) (w3 h3 : Int) (f3 : Nat → Nat) : Bool :=
  match (match (match !okP p with | true => true | false => !plateS w1 h1 f1) with | true => true | false => !plateS w2 h2 f2) with | true => true | false => !plateS w3 h3 f3
def neq4 (w1 h1 w2 h2 w3 h3 : Int) : Bool := match (match (match w1 != w2 with | true => true | false => h1 != h2) with | true => true | false => w1 != w3) with | true => true | false => h1 != h3
def two (a b : Bool) : Int := match a with | true => 1 | false => match b with | true => 4 | false => 0
def two37 (a b : Bool) : Option RV := match a with | true => iv 1 | false => match b with | true => iv 4 | false => iv 0
theorem two37_eq (a b : Bool) : two37 a b = iv (two a b) := by cases a <;> cases b <;> rfl
noncomputable def codeS (p : Nat → Nat) (w1 h1 : Int) (f1 : Nat → Nat) (w2 h2 : Int) (f2 : Nat → Nat) (w3 h3 : Int) (f3 : Nat → Nat) : Int := two (badS p w1 h1 f1 w2 h2 f2 w3 h3 f3) (neq4 w1 h1 w2 h2 w3 h3)
noncomputable def c37 : Ctr := ⟨[.p 24, .p 66, .p 66, .p 66], fun | [p, x, y, z] => onFl 24 (fun p => onPl (fun w1 h1 f1 => onPl (fun w2 h2 f2 => onPl (fun w3 h3 f3 => iv (codeS p w1 h1 f1 w2 h2 f2 w3 h3 f3)) z) y) x) p | _ => none⟩
theorem g37 : Sx.Good Try.prog 37 c37 := good 295147905179419934991 Try.func37 [(22, c22), (59, c59)] (goods_cons g22 (goods_cons g59 goods_nil)) (by kernel_rfl) fun vals rv h caps => ⟨[], by
  simp only [c37] at h
  split at h
  · obtain ⟨p, rfl, h0⟩ := onFl_some h
    obtain ⟨w1, h1, f1, rfl, h01⟩ := onPl_some h0
    obtain ⟨w2, h2, f2, rfl, h02⟩ := onPl_some h01
    obtain ⟨w3, h3, f3, rfl, h03⟩ := onPl_some h02
    rw [← h03]
    show _ = iv (codeS p w1 h1 f1 w2 h2 f2 w3 h3 f3)
    rw [codeS, ← two37_eq]
    kernel_rfl
  · cases h⟩
end Go.Proofs.Ytdlcjmonnfjklaa
