/-
  PROVED HERE: a part of FnExactDotsFor.
-/
import Derived.Test.YtdlcjmonnfjklaaD1
set_option linter.unusedSimpArgs false
set_option linter.unusedVariables false
namespace Go.Proofs.Ytdlcjmonnfjklaa
open Go.Sx
theorem dim0_map {R S : Type} (F : R → S) (own : Nat → Nat → Nat → Nat) (u v : Nat → Nat) (a b c far : Nat) (t : Bool) (K : Nat → Nat → Nat → Nat → Bool → R) : dim0 own u v a b c far t (fun a b c f t => F (K a b c f t)) = F (dim0 own u v a b c far t K) := by
  unfold dim0
  cases fcmp .lss .f32 (own (u a) b c) far
  · cases fcmp .lss .f32 (own (v a) b c) far <;> rfl
  · rfl
theorem dim1_map {R S : Type} (F : R → S) (own : Nat → Nat → Nat → Nat) (u v : Nat → Nat) (a b c far : Nat) (t : Bool) (K : Nat → Nat → Nat → Nat → Bool → R) : dim1 own u v a b c far t (fun a b c f t => F (K a b c f t)) = F (dim1 own u v a b c far t K) := by
  unfold dim1
  cases fcmp .lss .f32 (own a (u b) c) far
  · cases fcmp .lss .f32 (own a (v b) c) far <;> rfl
  · rfl
theorem dim2_map {R S : Type} (F : R → S) (own : Nat → Nat → Nat → Nat) (u v : Nat → Nat) (a b c far : Nat) (t : Bool) (K : Nat → Nat → Nat → Nat → Bool → R) : dim2 own u v a b c far t (fun a b c f t => F (K a b c f t)) = F (dim2 own u v a b c far t K) := by
  unfold dim2
  cases fcmp .lss .f32 (own a b (u c)) far
  · cases fcmp .lss .f32 (own a b (v c)) far <;> rfl
  · rfl
theorem round_map {R S : Type} (F : R → S) (own : Nat → Nat → Nat → Nat) (u v : Nat → Nat) (x : DX) (K : Nat → Nat → Nat → Nat → Bool → R) : roundK own u v x (fun a b c f t => F (K a b c f t)) = F (roundK own u v x K) := by
  unfold roundK
  rw [← dim0_map F]
  congr
  funext a b c f t
  rw [← dim1_map F]
  congr
  funext a b c f t
  exact dim2_map F own u v a b c f t K
theorem after_map {R S : Type} (F : R → S) (x : DX) (G : DX → R) (a b c f : Nat) (t : Bool) : afterK x (fun y => F (G y)) a b c f t = F (afterK x G a b c f t) := by cases t <;> rfl
noncomputable def stepS (p q : Nat → Nat) (x : DX) : Ex × DX := match goesS x with
  | true => roundK (ownS p q) (upS x.step) (dnS x.step) x (afterK x fun y => (.n, y))
  | false => (.x 0, x)
noncomputable def stepI (p q : Nat → Nat) (x : DX) : Ex × DX := match goesI x with
  | true => roundK (ownI p q) (upS x.step) (dnI x.step) x (afterK x fun y => (.n, y))
  | false => (.x 0, x)
theorem step_gen {mk : DX → St} {g : Bool} {own : Nat → Nat → Nat → Nat} {u v : Nat → Nat} {x : DX} : (match g with
    | true => roundK own u v x (afterK x fun y => some (Ex.n, mk y))
    | false => some (Ex.x 0, mk x)) = (fun z : Ex × DX => some (z.1, mk z.2)) (match g with | true => roundK own u v x (afterK x fun y => (Ex.n, y)) | false => (Ex.x 0, x)) := by
  cases g
  · rfl
  · show roundK own u v x (afterK x fun y => some (Ex.n, mk y)) = (fun z : Ex × DX => some (z.1, mk z.2)) (roundK own u v x (afterK x fun y => (Ex.n, y)))
    refine Eq.trans ?_ (round_map (fun z : Ex × DX => some (z.1, mk z.2)) own u v x (afterK x fun y => (Ex.n, y)))
    congr
    funext a b c f t
    exact after_map (fun z : Ex × DX => some (z.1, mk z.2)) x (fun y => (Ex.n, y)) a b c f t
/-! ### Both steps are the same -/
theorem fari_read {op : BinOp} {x x' y : Nat} (h : FloatKind.f32.format.read x = FloatKind.f32.format.read x') : fari op .f32 x y = fari op .f32 x' y := by
  unfold fari
  rw [hide_eq, hide_eq]
  unfold fari0 floatBits
  cases op <;> simp only [Ieee.Format.add, Ieee.Format.sub, Ieee.Format.mul, Ieee.Format.div, h]
theorem fari_nan {op : BinOp} {x y : Nat} (h : isNaN .f32 x = true) : fari op .f32 x y = qnan .f32 := by
  unfold fari
  rw [hide_eq]
  unfold fari0
  rw [floatBits_nan (.inl h)]
  rfl
theorem sub_most (x y : Nat) : fsub (mostS x) y = fsub (most1 x) y := by
  unfold most1 mostS fmin fcmp
  rw [hide_eq, hide_eq]
  unfold fmin0 fcmp0
  cases ho : FloatKind.f32.format.order x one with
  | none =>
    have hx : isNaN .f32 x = true := (order_none ho).resolve_right (by decide)
    show fsub x y = fsub (qnan .f32) y
    unfold fsub
    rw [fari_nan hx, fari_nan (isNaN_qnan .f32)]
  | some o =>
    cases o with
    | lt => rfl
    | gt => rfl
    | eq =>
      show fsub x y = fsub (if ((FloatKind.f32.decode x).neg == false) = true then one else x) y
      split
      · exact fari_read (read_one ho)
      · rfl
theorem own_same (p q : Nat → Nat) : ownS p q = ownI p q := by
  funext x y z
  unfold ownS ownI far colS col1
  rw [sub_most, sub_most, sub_most]
def steps : List Nat := [1048576000, 1040187392, 1031798784, 1023410176, 1015021568, 1006632960, 998244352, 989855744]
def VX (x : DX) : Prop := (x.step ∈ steps ∨ x.step = 981467136) ∧ 0 ≤ x.k ∧ x.k ≤ 400
theorem goes_lit : ∀ s ∈ steps, fcmp .geq .f32 s least = true ∧ fcmp .lss .f32 s least = false := by
  intro s hs
  unfold fcmp
  rw [hide_eq, hide_eq]
  revert s
  decide
theorem goes_last : fcmp .geq .f32 981467136 least = false ∧ fcmp .lss .f32 981467136 least = true := by
  unfold fcmp
  rw [hide_eq, hide_eq]
  decide
theorem goes_same {x : DX} (h : VX x) : goesS x = goesI x := by
  unfold goesS goesI
  rcases h.1 with hs | hs
  · rw [(goes_lit _ hs).1, (goes_lit _ hs).2]; rfl
  · rw [hs, goes_last.1, goes_last.2]; rfl
theorem neg_lit : ∀ s ∈ steps, FloatKind.f32.format.read (Op.negFloat .f32 s) = (FloatKind.f32.format.read s).opposite := by decide
theorem dn_same {s : Nat} (h : s ∈ steps) : dnS s = dnI s := by
  funext x
  unfold dnS dnI fadd fsub fari
  rw [hide_eq, hide_eq, fneg_eq]
  unfold fari0 floatBits
  simp only [Ieee.Format.add, Ieee.Format.sub, neg_lit s h]
theorem goes_true {x : DX} (h : VX x) (hg : goesS x = true) : x.step ∈ steps ∧ x.k < 400 := by
  rcases h.1 with hs | hs
  · refine ⟨hs, ?_⟩
    unfold goesS at hg
    rw [(goes_lit _ hs).1] at hg
    exact of_decide_eq_true hg
  · unfold goesS at hg
    rw [hs, goes_last.1] at hg
    cases hg
theorem step_same {p q : Nat → Nat} {x : DX} (h : VX x) : stepS p q x = stepI p q x := by
  unfold stepS stepI
  rw [← goes_same h]
  cases hg : goesS x with
  | false => rfl
  | true =>
    rw [own_same, dn_same (goes_true h hg).1]
theorem half_lit : ∀ s ∈ steps, half s ∈ steps ∨ half s = 981467136 := by
  intro s hs
  unfold half fari
  rw [hide_eq]
  revert s
  decide
/-- What holds of every outcome of a round. -/
theorem dim0_all {R : Type} {own : Nat → Nat → Nat → Nat} {u v : Nat → Nat} {a b c far : Nat} {t : Bool} {K : Nat → Nat → Nat → Nat → Bool → R} {G : R → Prop} (h : ∀ a b c f t, G (K a b c f t)) : G (dim0 own u v a b c far t K) := by
  unfold dim0
  cases fcmp .lss .f32 (own (u a) b c) far
  · cases fcmp .lss .f32 (own (v a) b c) far <;> exact h _ _ _ _ _
  · exact h _ _ _ _ _
theorem dim1_all {R : Type} {own : Nat → Nat → Nat → Nat} {u v : Nat → Nat} {a b c far : Nat} {t : Bool} {K : Nat → Nat → Nat → Nat → Bool → R} {G : R → Prop} (h : ∀ a b c f t, G (K a b c f t)) : G (dim1 own u v a b c far t K) := by
  unfold dim1
  cases fcmp .lss .f32 (own a (u b) c) far
  · cases fcmp .lss .f32 (own a (v b) c) far <;> exact h _ _ _ _ _
  · exact h _ _ _ _ _
theorem dim2_all {R : Type} {own : Nat → Nat → Nat → Nat} {u v : Nat → Nat} {a b c far : Nat} {t : Bool} {K : Nat → Nat → Nat → Nat → Bool → R} {G : R → Prop} (h : ∀ a b c f t, G (K a b c f t)) : G (dim2 own u v a b c far t K) := by
  unfold dim2
  cases fcmp .lss .f32 (own a b (u c)) far
  · cases fcmp .lss .f32 (own a b (v c)) far <;> exact h _ _ _ _ _
  · exact h _ _ _ _ _
theorem round_all {R : Type} {own : Nat → Nat → Nat → Nat} {u v : Nat → Nat} {x : DX} {K : Nat → Nat → Nat → Nat → Bool → R} {G : R → Prop} (h : ∀ a b c f t, G (K a b c f t)) : G (roundK own u v x K) :=
  dim0_all fun _ _ _ _ _ => dim1_all fun _ _ _ _ _ => dim2_all h
theorem step_out {p q : Nat → Nat} {x : DX} (h : VX x) : (stepS p q x = (.x 0, x)) ∨ ((stepS p q x).1 = .n ∧ VX (stepS p q x).2 ∧ (stepS p q x).2.k = x.k + 1 ∧ x.k < 400) := by
  unfold stepS
  cases hg : goesS x with
  | false => exact .inl rfl
  | true =>
    right
    obtain ⟨hs, hk⟩ := goes_true h hg
    have hw : wrapI .i64 (x.k + 1) = x.k + 1 := by
      have e : (decide (-9223372036854775808 ≤ x.k + 1) && decide (x.k + 1 ≤ 9223372036854775807)) = true := by
        have := h.2
        simp
        omega
      simp only [wrapI, e]
    refine round_all (G := fun r : Ex × DX => r.1 = .n ∧ VX r.2 ∧ r.2.k = x.k + 1 ∧ x.k < 400) fun a b c f t => ?_
    have := h.2
    cases t
    · exact ⟨rfl, ⟨half_lit _ hs, by show 0 ≤ wrapI .i64 (x.k + 1) ∧ wrapI .i64 (x.k + 1) ≤ 400; rw [hw]; omega⟩, hw, hk⟩
    · exact ⟨rfl, ⟨.inl hs, by show 0 ≤ wrapI .i64 (x.k + 1) ∧ wrapI .i64 (x.k + 1) ≤ 400; rw [hw]; omega⟩, hw, hk⟩
theorem loops_exist (p q : Nat → Nat) : ∀ (n : Nat) (x : DX), VX x → (400 - x.k).toNat ≤ n → ∃ z, Loops (stepS p q) x (.x 0) z ∧ Loops (stepI p q) x (.x 0) z
  | n, x, h, hn => by
    rcases step_out (p := p) (q := q) h with e | ⟨e1, hv, hk, hlt⟩
    · exact ⟨x, .done e (by simp), .done ((step_same h).symm.trans e) (by simp)⟩
    · cases n with
      | zero => omega
      | succ n =>
        obtain ⟨z, h1, h2⟩ := loops_exist p q n _ hv (by omega)
        have e : stepS p q x = (.n, (stepS p q x).2) := by rw [← e1]
        exact ⟨z, .more e h1, .more ((step_same h).symm.trans e) h2⟩
end Go.Proofs.Ytdlcjmonnfjklaa
