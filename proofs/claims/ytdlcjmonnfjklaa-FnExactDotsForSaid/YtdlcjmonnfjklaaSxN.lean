/-
  That a region that keeps the text's order, and code, is what the symbolic run says.
-/
import Derived.Test.YtdlcjmonnfjklaaSxM
import Derived.Test.YtdlcjmonnfjklaaSxE
set_option linter.unusedSimpArgs false
set_option linter.unusedVariables false
namespace Go.Sx
open Go.RowKit (Below)

structure FAg (n : Nat) (env : Nat → Option SV) (ρ : Rho) (nx : Nat) (a : Act) : Prop where
  size : a.tmps.size = n
  den : ∀ t sv, env t = some sv → sv.lt nx ∧ sv.den ρ a.tmps (a.tmps.getD t undef)
  defers : a.defers = []
def Ag (n base : Nat) (w0 : World) (env : List (Nat × SV)) (tbl : List (Nat × Option Blk)) (nx : Nat) (a : Act) (w : World) : Prop :=
  ∃ ρ, FAg n (look env) ρ nx a ∧ WAg base w0 (tab tbl) ρ w ∧ ∀ id b, tab tbl id = some b → id < nx

theorem den_plain {sv : SV} (h : sv.plain) {ρ : Rho} {tm tm' : Array Value} {y : Value} (hd : sv.den ρ tm y) : sv.den ρ tm' y := by
  cases sv <;> first | exact hd | exact h.elim
theorem look_putT : ∀ {l : List (Nat × Option Blk)} {d : Nat} {v : Option Blk} {m : List (Nat × Option Blk)}, putT l d v = some m → ∀ j, look m j = if d = j then some v else look l j
  | [], d, v, m, h, j => by
    cases h
    by_cases e : d = j
    · subst e; simp [look, beq_self]
    · simp [look, beq_ne e, e]
  | (i, x) :: l, d, v, m, h, j => by
    simp only [putT] at h
    split at h
    · rename_i e
      have e := Nat.eq_of_beq_eq_true e
      subst e
      cases h
      by_cases e : i = j
      · subst e; simp [look, beq_self]
      · simp [look, beq_ne e, e]
    · rename_i e
      have hne : i ≠ d := fun e' => by subst e'; rw [beq_self] at e; cases e
      split at h
      · rename_i m' hm
        cases h
        have ih := look_putT hm j
        by_cases e2 : i = j
        · subst e2
          simp [look, beq_self, Ne.symm hne]
        · simp only [look, beq_ne e2]
          exact ih
      · cases h
theorem tab_putTs : ∀ {chg : List (Nat × Option Blk)} {t t' : List (Nat × Option Blk)}, putTs t chg = some t' → tab t' = setT (tab t) chg
  | [], t, t', h => by cases h; rfl
  | (i, b) :: l, t, t', h => by
    simp only [putTs] at h
    split at h
    · rename_i t1 h1
      rw [tab_putTs h]
      have e : tab t1 = fun j => match Nat.beq i j with | true => b | false => tab t j := by
        funext j
        unfold tab
        rw [look_putT h1]
        by_cases e : i = j
        · subst e; simp [beq_self]
        · simp [e, beq_ne e]
      rw [e]
      rfl
    · cases h
theorem look_putE : ∀ {l : List (Nat × SV)} {d : Nat} {v : SV} {m : List (Nat × SV)}, putE l d v = some m → (∀ j, look m j = if d = j then some v else look l j) ∧ ∀ j sv, look l j = some sv → guardIs sv d = false
  | [], d, v, m, h => by
    cases h
    refine ⟨fun j => ?_, fun j sv hj => by simp [look] at hj⟩
    by_cases e : d = j
    · subst e; simp [look, beq_self]
    · simp [look, beq_ne e, e]
  | (i, x) :: l, d, v, m, h => by
    simp only [putE] at h
    split at h
    · cases h
    · rename_i hg
      split at h
      · rename_i e
        have e := Nat.eq_of_beq_eq_true e
        subst e
        split at h
        · rename_i hc
          cases h
          have hchk : ∀ {l : List (Nat × SV)}, putE.chk l i = true → ∀ j sv, look l j = some sv → guardIs sv i = false := by
            intro l
            induction l with
            | nil => intro _ j sv hj; simp [look] at hj
            | cons p l ih =>
              intro hc j sv hj
              obtain ⟨k, y⟩ := p
              simp only [putE.chk] at hc
              split at hc
              · cases hc
              · rename_i hy
                simp only [look] at hj
                split at hj
                · cases hj; exact hy
                · exact ih hc j sv hj
          refine ⟨fun j => ?_, fun j sv hj => ?_⟩
          · by_cases e : i = j
            · subst e; simp [look, beq_self]
            · simp [look, beq_ne e, e]
          · simp only [look] at hj
            split at hj
            · cases hj; exact hg
            · exact hchk hc j sv hj
        · cases h
      · rename_i e
        have hne : i ≠ d := fun e' => by subst e'; rw [beq_self] at e; cases e
        split at h
        · rename_i m' hm
          cases h
          obtain ⟨ih1, ih2⟩ := look_putE hm
          refine ⟨fun j => ?_, fun j sv hj => ?_⟩
          · by_cases e2 : i = j
            · subst e2
              simp [look, beq_self, Ne.symm hne]
            · simp only [look, beq_ne e2]
              exact ih1 j
          · simp only [look] at hj
            split at hj
            · cases hj; exact hg
            · exact ih2 j sv hj
        · cases h
theorem getD_put_same {a : Act} {d : Nat} {y : Value} (h : d < a.tmps.size) : (a.put (some d) y).tmps.getD d undef = y := by
  simp [Act.put, h]
theorem getD_put_other {a : Act} {d t : Nat} {y : Value} (h : d ≠ t) : (a.put (some d) y).tmps.getD t undef = a.tmps.getD t undef := by
  simp [Act.put, Array.getElem?_setIfInBounds, h]
/-- A slot is written. -/
theorem FAg.put {n nx nx' : Nat} {env env' : List (Nat × SV)} {ρ ρ' : Rho} {a : Act} {dst : Option Nat} {v : SV} {y : Value} (h : FAg n (look env) ρ nx a) (hl : Rho.like nx ρ ρ') (hx : nx ≤ nx') (hp : putD env n dst v = some env')
    (hv : v.lt nx') (hd : ∀ d, dst = some d → guardIs v d = false → v.den ρ' (a.put dst y).tmps y) : FAg n (look env') ρ' nx' (a.put dst y) := by
  unfold putD at hp
  split at hp
  · cases hp
    exact ⟨h.size, fun t sv ht => ⟨SV.lt_mono hx (h.den t sv ht).1, SV.den_like hl (h.den t sv ht).1 (h.den t sv ht).2⟩, h.defers⟩
  · rename_i d
    split at hp
    · cases hp
    · rename_i hgv
      split at hp
      · rename_i hlt
        have hlt : d < n := by simpa using hlt
        obtain ⟨h1, h2⟩ := look_putE hp
        refine ⟨by simp [Act.put, h.size], fun t sv ht => ?_, h.defers⟩
        rw [h1] at ht
        by_cases e : d = t
        · subst e
          rw [if_pos rfl] at ht
          cases ht
          rw [getD_put_same (by rw [h.size]; exact hlt)]
          exact ⟨hv, hd d rfl hgv⟩
        · rw [if_neg e] at ht
          rw [getD_put_other e]
          obtain ⟨h3, h4⟩ := h.den t sv ht
          refine ⟨SV.lt_mono hx h3, ?_⟩
          have h5 := SV.den_like hl h3 h4
          have hg := h2 t sv ht
          cases sv with
          | g t' w' x =>
            simp only [guardIs] at hg
            have hne : d ≠ t' := fun e' => by subst e'; rw [beq_self] at hg; cases hg
            intro hh
            rw [getD_put_other hne] at hh
            exact h5 hh
          | a x => exact h5
          | tu l => exact h5
          | u => exact h5
          | zz => trivial
      · cases hp
/-- What the operands hold. -/
theorem knows_of {n nx : Nat} {env : Nat → Option SV} {ρ : Rho} {a : Act} (h : FAg n env ρ nx a) {g : Option (Nat × Bool)} (hg : ∀ t w, g = some (t, w) → a.tmps.getD t undef = .bool w) : Knows ρ nx (srOf env g) a.eval := by
  intro x v hv hp
  unfold srOf at hv
  split at hv
  · rename_i t
    split at hv
    · rename_i t' w' x hl
      split at hv
      · rename_i tg wg
        split at hv
        · rename_i hc
          simp only [Bool.and_eq_true, beq_iff_eq] at hc
          cases hv
          have e := Nat.eq_of_beq_eq_true hc.1
          obtain ⟨h1, h2⟩ := h.den t _ hl
          exact ⟨h1, h2 (by rw [e, hc.2]; exact hg tg wg rfl)⟩
        · cases hv
      · cases hv
    · obtain ⟨h1, h2⟩ := h.den t v hv
      exact ⟨h1, den_plain hp h2⟩
  · rename_i c
    unfold constSV at hv
    split at hv
    · split at hv
      · rename_i hr
        cases hv
        exact ⟨trivial, rfl, hr⟩
      · cases hv
    · cases hv; exact ⟨trivial, rfl, rfl⟩
    · cases hv
    · cases hv
    · rename_i h1 h2 h3 h4
      cases hv
      refine ⟨trivial, veq.of_ceq (ceq.refl ?_)⟩
      show okc c = true
      cases c <;> first | rfl | exact absurd rfl (h1 _ _) | exact absurd rfl (h3 _) | exact absurd rfl (h4 _)
  · cases hv
theorem yielded_iff {ops : List Oper} {j t : Nat} {oj : Oper} {tm : Array Value} {b : Bool} (h1 : ops[j]? = some oj) (h2 : oj.dst = some t) : yielded ⟨ops⟩ tm j = some b ↔ tm.getD t undef = .bool b := by
  unfold yielded
  simp only [List.getElem?_toArray, h1, Option.bind_some, h2]
  by_cases ht : t < tm.size
  · simp only [Array.getElem?_eq_getElem ht, Array.getD_eq_getD_getElem?, Option.getD_some]
    cases tm[t] <;> simp
  · simp only [Array.getElem?_eq_none (Nat.le_of_not_lt ht), Array.getD_eq_getD_getElem?, Option.getD_none]
    simp [undef]
/-- Whether an operation is carried out. -/
theorem doing_ok {n nx : Nat} {env : Nat → Option SV} {ρ : Rho} {a : Act} (h : FAg n env ρ nx a) {ops : List Oper} {o : Oper} {d : Doing} (hd : doing env ops o = some d) :
    match d with
    | .run => Region.wanted o (yielded ⟨ops⟩ a.tmps) = true
    | .skip => Region.wanted o (yielded ⟨ops⟩ a.tmps) = false
    | .maybe t want => Region.wanted o (yielded ⟨ops⟩ a.tmps) = true ↔ a.tmps.getD t undef = .bool want := by
  unfold doing at hd
  split at hd
  · rename_i hg
    cases hd
    simp [Region.wanted, hg]
  · rename_i j want hg
    split at hd
    · rename_i oj hj
      split at hd
      · rename_i t ht
        have hw : Region.wanted o (yielded ⟨ops⟩ a.tmps) = true ↔ a.tmps.getD t undef = .bool want := by
          unfold Region.wanted
          rw [hg]
          simp only [beq_iff_eq]
          exact yielded_iff hj ht
        split at hd
        · rename_i b hl
          obtain ⟨_, h2⟩ := h.den t _ hl
          have hb : a.tmps.getD t undef = .bool b := h2.1
          split at hd
          · rename_i e
            cases hd
            rw [beq_iff_eq] at e
            exact hw.2 (by rw [hb, e])
          · rename_i e
            cases hd
            rw [Bool.eq_false_iff]
            intro hh
            rw [hb.symm.trans (hw.1 hh) |> Value.bool.inj] at e
            simp at e
        · rename_i hl
          cases hd
          obtain ⟨_, h2⟩ := h.den t _ hl
          have hb : a.tmps.getD t undef = undef := h2
          rw [Bool.eq_false_iff]
          intro hh
          have := hb.symm.trans (hw.1 hh)
          cases this
        · cases hd; exact hw
        · cases hd; exact hw
        · cases hd
      · cases hd
    · cases hd
end Go.Sx
