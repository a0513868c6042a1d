/-
  Code, symbolically, with drawn regions looked at; that it is what the model does.
-/
import Derived.Test.YtdlcjmonnfjklaaSxW
import Derived.LoopN
import Derived.Tactics
import Derived.OwnWalk
set_option linter.unusedSimpArgs false
set_option linter.unusedVariables false
namespace Go.Sx
open Go.RowKit (Below)

/-- What is kept beyond a region's end: a bit for each slot. -/
def keepF (m : Nat) : List (Nat × SV) → List (Nat × SV)
  | [] => []
  | (i, x) :: l => match Nat.beq (Nat.land (Nat.shiftRight m i) 1) 1 with
    | true => (i, tidy1 x) :: keepF m l
    | false => keepF m l
theorem look_keepF {m : Nat} : ∀ {l : List (Nat × SV)} {t : Nat} {sv : SV}, look (keepF m l) t = some sv → look (tidy l) t = some sv
  | [], _, _, h => h
  | (i, x) :: l, t, sv, h => by
    simp only [keepF] at h
    split at h
    · simp only [look, tidy] at h ⊢
      split at h
      · exact h
      · exact look_keepF h
    · rename_i hk
      simp only [look, tidy]
      split
      · rename_i e
        have := Nat.eq_of_beq_eq_true e
        subst this
        exfalso
        have none : ∀ {l : List (Nat × SV)}, look (keepF m l) i = none := by
          intro l
          induction l with
          | nil => rfl
          | cons p l ih =>
            obtain ⟨j, y⟩ := p
            simp only [keepF]
            split
            · rename_i hj
              simp only [look]
              split
              · rename_i e
                have := Nat.eq_of_beq_eq_true e
                subst this
                rw [hk] at hj
                cases hj
              · exact ih
            · exact ih
        rw [none] at h
        cases h
      · exact look_keepF h
noncomputable def xec {R : Type} (ti : List (Nat × TI)) (C : List (Nat × Ctr)) (n m : Nat) : Nat → Code → List (Option Bool) → St → (Ex → List (Option Bool) → St → Option R) → Option R
  | 0, _, _, _, _ => none
  | f + 1, c, o, st, K => match c with
    | .skip => K .n o st
    | .region _ ops false => match stepsO ti C n ops.toList ops.toList st.nx st.env st.tbl with
      | some st' => K .n o ⟨keepF m st'.env, st'.tbl, st'.nx⟩
      | none => none
    | .region _ ops true => match recs ti C n ops.toList ops.toList st.nx st.env st.tbl with
      | some (rs, st') => match orderOk ops.toList st.env rs with
        | true => K .n o ⟨keepF m st'.env, st'.tbl, st'.nx⟩
        | false => none
      | none => none
    | .seq a b => xec ti C n m f a o st fun e o st' => match e with
      | .n => xec ti C n m f b o st' K
      | e => K e o st'
    | .cond c a b => match srOf (look st.env) none c with
      | some (.a (.k (.bool t))) => match t with
        | true => xec ti C n m f a o st K
        | false => xec ti C n m f b o st K
      | some (.a (.v (.bool t))) => match o with
        | [] => match t with
          | true => xec ti C n m f a [] st K
          | false => xec ti C n m f b [] st K
        | none :: o => match t with
          | true => xec ti C n m f a o st K
          | false => xec ti C n m f b o st K
        | some true :: o => match t with
          | true => xec ti C n m f a o st K
          | false => none
        | some false :: o => match t with
          | true => none
          | false => xec ti C n m f b o st K
      | _ => none
    | .block id b => xec ti C n m f b o st fun e o st' => match e with
      | .x i => match Nat.beq i id with
        | true => K .n o st'
        | false => K (.x i) o st'
      | e => K e o st'
    | .loop b => xec ti C n m f b o st fun e o st' => match e with
      | .n => xec ti C n m f (.loop b) o st' K
      | e => K e o st'
    | .exit id => K (.x id) o st
    | .ret => K .r o st
    | _ => none

def Ex.ex : Ex → Exit
  | .n => .normal
  | .x id => .exit id
  | .r => .ret

section
variable {P : Program} {ti : List (Nat × TI)} {C : List (Nat × Ctr)} {n m base : Nat} {w0 : World}

theorem eval_of {env : List (Nat × SV)} {tbl : List (Nat × Option Blk)} {nx : Nat} {a : Act} {w : World} (hA : Ag n base w0 env tbl nx a w) {c : Operand} {t : Bool} (h : srOf (look env) none c = some (.a (.k (.bool t))) ∨ srOf (look env) none c = some (.a (.v (.bool t)))) : a.eval c = .bool t := by
  obtain ⟨ρ, hF, hW, hT⟩ := hA
  have hk := knows_of hF (g := none) (fun t w e => by cases e)
  rcases h with h | h
  · exact (hk c _ h trivial).2.1
  · exact veq.bool (hk c _ h trivial).2
theorem Ag.keepF {env : List (Nat × SV)} {tbl : List (Nat × Option Blk)} {nx : Nat} {a : Act} {w : World} (h : Ag n base w0 env tbl nx a w) (m : Nat) : Ag n base w0 (Sx.keepF m env) tbl nx a w := by
  obtain ⟨ρ, hF, hW, hT⟩ := h.tidy
  exact ⟨ρ, ⟨hF.size, fun t sv ht => hF.den t sv (look_keepF ht), hF.defers⟩, hW, hT⟩
theorem xec_both {R : Type} (hti : TIok P ti) (hC : ∀ f c, look C f = some c → Good P f c) (hm : P.follows .mixedOrders = true) : ∀ (f : Nat),
    (∀ (c : Code) (st : St) (o : List (Option Bool)) (K : Ex → List (Option Bool) → St → Option R) (r : R) (a : Act) (w : World) (Q : Exit → Act → World → Prop), xec ti C n m f c o st K = some r → Ag n base w0 st.env st.tbl st.nx a w →
      (∀ e o' (st' : St) a' w', K e o' st' = some r → Ag n base w0 st'.env st'.tbl st'.nx a' w' → Q e.ex a' w') → c.wp P Q a w) ∧
    (∀ (b : Code) (st : St) (o : List (Option Bool)) (K : Ex → List (Option Bool) → St → Option R) (r : R) (a : Act) (w : World) (Q : Exit → Act → World → Prop), xec ti C n m f (.loop b) o st K = some r → Ag n base w0 st.env st.tbl st.nx a w →
      (∀ e o' (st' : St) a' w', K e o' st' = some r → Ag n base w0 st'.env st'.tbl st'.nx a' w' → Q e.ex a' w') → Code.rounds P b Q f a w)
  | 0 => ⟨fun c st o K r a w Q h => by simp [xec] at h, fun b st o K r a w Q h => by simp [xec] at h⟩
  | f + 1 => by
    obtain ⟨ihA, ihB⟩ := xec_both (R := R) hti hC hm f
    have hB : ∀ (b : Code) (st : St) (o : List (Option Bool)) (K : Ex → List (Option Bool) → St → Option R) (r : R) (a : Act) (w : World) (Q : Exit → Act → World → Prop), xec ti C n m (f + 1) (.loop b) o st K = some r → Ag n base w0 st.env st.tbl st.nx a w →
      (∀ e o' (st' : St) a' w', K e o' st' = some r → Ag n base w0 st'.env st'.tbl st'.nx a' w' → Q e.ex a' w') → Code.rounds P b Q (f + 1) a w := by
      intro b st o K r a w Q h hA hK
      simp only [xec] at h
      rw [rounds_succ]
      refine ihA b st _ _ r a w _ h hA fun e o' st' a' w' he hA' => ?_
      cases e with
      | n => exact ihB b st' o' K r a' w' Q he hA' hK
      | x i => exact hK (.x i) _ st' a' w' he hA'
      | r => exact hK .r _ st' a' w' he hA'
    refine ⟨fun c st o K r a w Q h hA hK => ?_, hB⟩
    cases c with
    | skip => exact wp_skip (hK .n _ st a w h hA)
    | region id ops d =>
      cases d with
      | false =>
        simp only [xec] at h
        split at h
        · rename_i st' hs
          exact wp_region_list (stepsO_sound hti hC hA hs fun a' w' hA' => hK .n _ _ a' w' h (hA'.keepF m))
        · cases h
      | true =>
        simp only [xec] at h
        split at h
        · rename_i rs st' hs
          split at h
          · rename_i ho
            have := drawn_sound (id := id) hti hC hm hs ho hA (Q := Q) fun a' w' hA' => hK .n _ _ a' w' h (hA'.keepF m)
            exact this
          · cases h
        · cases h
    | seq x y =>
      simp only [xec] at h
      refine wp_seq (ihA x st _ _ r a w _ h hA fun e o' st' a' w' he hA' => ?_)
      cases e with
      | n => exact ihA y st' o' K r a' w' Q he hA' hK
      | x i => exact hK (.x i) _ st' a' w' he hA'
      | r => exact hK .r _ st' a' w' he hA'
    | cond c x y =>
      simp only [xec] at h
      split at h
      · rename_i t hs
        refine wp_cond (eval_of hA (.inl hs)) ?_
        cases t
        · exact ihA y st o K r a w Q h hA hK
        · exact ihA x st o K r a w Q h hA hK
      · rename_i t hs
        refine wp_cond (eval_of hA (.inr hs)) ?_
        split at h
        · cases t
          · exact ihA y st [] K r a w Q h hA hK
          · exact ihA x st [] K r a w Q h hA hK
        · rename_i o
          cases t
          · exact ihA y st o K r a w Q h hA hK
          · exact ihA x st o K r a w Q h hA hK
        · rename_i o
          cases t
          · cases h
          · exact ihA x st o K r a w Q h hA hK
        · rename_i o
          cases t
          · exact ihA y st o K r a w Q h hA hK
          · cases h
      · cases h
    | block id b =>
      simp only [xec] at h
      refine wp_block (ihA b st _ _ r a w _ h hA fun e o' st' a' w' he hA' => ?_)
      cases e with
      | n => exact hK .n _ st' a' w' he hA'
      | x i =>
        simp only [] at he
        split at he
        · rename_i hi
          have hi := Nat.eq_of_beq_eq_true hi
          simp only [Ex.ex, Exit.inBlock, hi, if_true]
          exact hK .n _ st' a' w' he hA'
        · rename_i hi
          have hne : i ≠ id := fun e => by subst e; rw [beq_self] at hi; cases hi
          simp only [Ex.ex, Exit.inBlock, hne, if_false]
          exact hK (.x i) _ st' a' w' he hA'
      | r => exact hK .r _ st' a' w' he hA'
    | loop b => exact wp_loop_rounds (f + 1) (hB b st o K r a w Q h hA hK)
    | exit id => exact wp_exit (hK (.x id) _ st a w h hA)
    | ret => exact wp_ret (hK .r _ st a w h hA)
    | _ => simp [xec] at h

/-! ### Entering a function -/
def argB : Value → Nat
  | .pointer (some a) => a.block
  | .slice (some a) _ _ => a.block
  | _ => 0
def argO : Value → Nat
  | .pointer (some a) => a.off
  | .slice (some a) _ _ => a.off
  | _ => 0
def argC : Value → Nat
  | .slice _ _ c => c
  | _ => 0
def enter1 (caps : Nat → Nat) (i : Nat) : PK → Value → Option (AV × Option Blk)
  | .v, x => some (.v x, none)
  | .p n, .agg ⟨cs⟩ => match Nat.beq cs.length n with
    | true => some (.p i 0, some (.c false 0 cs))
    | false => none
  | .s (esz + 1), .agg ⟨cs⟩ => match cs.length / (esz + 1) with
    | 0 => some (.s i 0 0 (caps i), none)
    | l + 1 => some (.s i 0 (l + 1) (caps i), some (.c false 0 cs))
  | _, _ => none
def entersC (caps : Nat → Nat) : Nat → List PK → List Value → Option (List (Nat × SV) × List (Nat × Option Blk))
  | _, [], [] => some ([], [])
  | i, k :: ks, x :: xs => match enter1 caps i k x with
    | some (v, b) => match entersC caps (i + 1) ks xs with
      | some (e, t) => some ((i, .a v) :: e, (i, b) :: t)
      | none => none
    | none => none
  | _, _, _ => none
def argRho (args : List Value) : Rho := ⟨fun i => argB (args.getD i undef), fun i => argO (args.getD i undef), fun _ => undef⟩
theorem enter1_ok {w : World} {args : List Value} {i : Nat} {k : PK} {y x : Value} (hy : args[i]? = some y) (hr : ReadsAs w k y x) {v : AV} {b : Option Blk} (h : enter1 (fun i => argC (args.getD i undef)) i k x = some (v, b)) {base : Nat} :
    v.lt (i + 1) ∧ v.den (argRho args) y ∧ ∀ b', b = some b' → b'.ag (argRho args) base w i ∧ b'.ownd = false := by
  have hg : args.getD i undef = y := by simp [hy]
  unfold enter1 at h
  split at h
  · cases h
    exact ⟨trivial, hr, fun _ e => by cases e⟩
  · rename_i n cs
    split at h
    · cases h
      obtain ⟨b, off, arr, ty, fr, cs', ds, rfl, h1, h2, h3, h4, h5⟩ := hr
      cases h2
      refine ⟨Nat.lt_succ_self i, ?_, fun b' e => ?_⟩
      · simp only [AV.den, argRho, hg, argB, argO, Nat.add_zero]
      · cases e
        refine ⟨⟨arr, ty, fr, ds, ?_, h4, fun j v hv => ?_, fun e => by cases e⟩, rfl⟩
        · simp only [argRho, hg, argB]; exact h1
        · simp only [argRho, hg, argO]; exact h5 j v hv
    · cases h
  · rename_i esz cs
    rcases hr with ⟨rfl, hx⟩ | ⟨b, off, len, cap, arr, ty, fr, cs', ds, rfl, h1, h2, h3, h4, h5⟩
    · cases hx
      simp at h
      obtain ⟨rfl, rfl⟩ := h
      exact ⟨Nat.lt_succ_self i, .inr ⟨rfl, rfl⟩, fun _ e => by cases e⟩
    · cases h2
      have hl : cs.length / (esz + 1) = len := by rw [h3]; exact Nat.mul_div_cancel _ (Nat.succ_pos esz)
      rw [hl] at h
      have hden : ∀ l, len = l → (AV.s i 0 l (argC (args.getD i undef))).den (argRho args) (.slice (some ⟨b, off, none⟩) len cap) := fun l e => by
        subst e
        simp only [AV.den, argRho, hg, argB, argO, argC]
        exact .inl (by simp)
      split at h
      · cases h
        exact ⟨Nat.lt_succ_self i, hden _ rfl, fun _ e => by cases e⟩
      · cases h
        refine ⟨Nat.lt_succ_self i, hden _ rfl, fun b' e => ?_⟩
        cases e
        refine ⟨⟨arr, ty, fr, ds, ?_, h4, fun j v hv => ?_, fun e => by cases e⟩, rfl⟩
        · simp only [argRho, hg, argB]; exact h1
        · simp only [argRho, hg, argO]; exact h5 j v hv
  · cases h
theorem entersC_ok {w : World} {args : List Value} {base : Nat} : ∀ {ks : List PK} {ys xs : List Value} {i : Nat} {e : List (Nat × SV)} {t : List (Nat × Option Blk)}, (∀ j y, ys[j]? = some y → args[i + j]? = some y) → ReadsAll w ks ys xs →
    entersC (fun i => argC (args.getD i undef)) i ks xs = some (e, t) →
    (∀ s sv, look e s = some sv → sv.lt (i + ys.length) ∧ ∀ tm, sv.den (argRho args) tm (args.getD s undef)) ∧ (∀ id b, tab t id = some b → id < i + ys.length ∧ b.ag (argRho args) base w id ∧ b.ownd = false) ∧ ys.length = ks.length
  | [], [], [], i, e, t, _, _, h => by
    cases h
    exact ⟨fun s sv h => by simp [look] at h, fun id b h => by simp [tab, look] at h, rfl⟩
  | k :: ks, y :: ys, x :: xs, i, e, t, hys, hr, h => by
    simp only [entersC] at h
    split at h
    · rename_i v b hv
      split at h
      · rename_i e' t' he
        cases h
        have hy : args[i]? = some y := by simpa using hys 0 y (by simp)
        obtain ⟨h1, h2, h3⟩ := enter1_ok (base := base) hy hr.1 hv
        obtain ⟨h4, h5, h6⟩ := entersC_ok (base := base) (ys := ys) (fun j y' hy' => by rw [show i + 1 + j = i + (j + 1) by omega]; exact hys (j + 1) y' (by simpa using hy')) hr.2 he
        have hlen : i + 1 + ys.length = i + (y :: ys).length := by simp; omega
        rw [hlen] at h4 h5
        refine ⟨fun s sv hs => ?_, fun id b' hb => ?_, by simp [h6]⟩
        · simp only [look] at hs
          split at hs
          · rename_i hi
            have hi := Nat.eq_of_beq_eq_true hi
            subst hi
            cases hs
            have hg : args.getD i undef = y := by simp [hy]
            rw [hg]
            exact ⟨AV.lt_mono (by simp) h1, fun _ => h2⟩
          · exact h4 s sv hs
        · simp only [tab, look] at hb
          split at hb
          · rename_i o ho
            split at ho
            · rename_i hi
              have hi := Nat.eq_of_beq_eq_true hi
              subst hi
              cases ho
              obtain ⟨h7, h8⟩ := h3 b' hb
              exact ⟨by simp, h7, h8⟩
            · exact h5 id b' (by simp only [tab, ho]; exact hb)
          · cases hb
      · cases h
    · cases h
  | [], _ :: _, _, _, _, _, _, hr, _ => hr.elim
  | [], [], _ :: _, _, _, _, _, hr, _ => hr.elim
  | _ :: _, [], _, _, _, _, _, hr, _ => hr.elim
  | _ :: _, _ :: _, [], _, _, _, _, hr, _ => hr.elim
end
end Go.Sx
