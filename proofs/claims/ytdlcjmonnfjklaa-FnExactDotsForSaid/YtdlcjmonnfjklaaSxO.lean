/-
  That a list of operations in the text's order is what the symbolic run says.
-/
import Derived.Test.YtdlcjmonnfjklaaSxN
set_option linter.unusedSimpArgs false
set_option linter.unusedVariables false
namespace Go.Sx
open Go.RowKit (Below)
section
variable {P : Program} {ti : List (Nat × TI)} {C : List (Nat × Ctr)} {n base : Nat} {w0 : World}

theorem knows_sub {ρ : Rho} {nx : Nat} {sr : Operand → Option SV} {ev : Operand → Value} (h : Knows ρ nx sr ev) : Knows ρ nx sr ev := h
theorem pick_sound {env : Nat → Option SV} {ρ : Rho} {nx : Nat} {a : Act} {w : World} {T : Nat → Option Blk} (hF : FAg n env ρ nx a) (hW : WAg base w0 T ρ w) (hT : ∀ id b, T id = some b → id < nx) {g : Option (Nat × Bool)} (hg : ∀ t w, g = some (t, w) → a.tmps.getD t undef = .bool w)
    {o : Oper} {c x y : Operand} (ho : o.op = .pick c x y) {v : SV} (h : pickV env g c x y = some v) (hp : v.plain) : Yields P base w0 T ρ nx w a.eval o (v, []) := by
  have hk := knows_of hF hg
  have out : ∀ (b : Bool) (u : Value), a.eval c = .bool b → (if b then a.eval x else a.eval y) = u → v.lt nx → v.den ρ #[] u → Yields P base w0 T ρ nx w a.eval o (v, []) := fun b u h1 h2 h3 h4 =>
    ⟨u, w, .inl (by simp only [execOp, ho, h1, asBool]; subst h2; cases b <;> rfl), Fit.same hW hT h4 h3 hp⟩
  unfold pickV at h
  split at h
  · rename_i hc
    have h2 := (hk c _ hc trivial).2
    obtain ⟨h3, h4⟩ := hk x _ h hp
    exact out true _ h2.1 rfl h3 h4
  · rename_i hc
    have h2 := (hk c _ hc trivial).2
    obtain ⟨h3, h4⟩ := hk y _ h hp
    exact out false _ h2.1 rfl h3 h4
  · rename_i t hc
    have h2 : a.eval c = .bool t := veq.bool (hk c _ hc trivial).2
    split at h
    · rename_i s
      split at h
      · rename_i p q hx hy
        split at h
        · rename_i pb qb hpp hqq
          cases h
          have hs : a.tmps.getD s undef = .bool t := h2
          cases t with
          | true =>
            have hk' := knows_of hF (g := some (s, true)) (fun t w e => by cases e; exact hs)
            have h4 : p.den ρ (a.eval x) := (hk' x _ hx trivial).2
            exact out true _ h2 rfl trivial (payload_den hpp h4)
          | false =>
            have hk' := knows_of hF (g := some (s, false)) (fun t w e => by cases e; exact hs)
            have h4 : q.den ρ (a.eval y) := (hk' y _ hy trivial).2
            exact out false _ h2 rfl trivial (payload_den hqq h4)
        · cases h
      · cases h
    · cases h
  · cases h
theorem opv_sound (hti : TIok P ti) (hC : ∀ f c, look C f = some c → Good P f c) {env : Nat → Option SV} {ρ : Rho} {nx : Nat} {a : Act} {w : World} {T : Nat → Option Blk} (hF : FAg n env ρ nx a) (hW : WAg base w0 T ρ w) (hT : ∀ id b, T id = some b → id < nx) {g : Option (Nat × Bool)} (hg : ∀ t w, g = some (t, w) → a.tmps.getD t undef = .bool w)
    {o : Oper} {r : SV × List (Nat × Option Blk)} (h : opv ti C T nx env g o.op = some r) {K : Act → World → Prop} {Q : Exit → Act → World → Prop} (hK : ∀ y w', Fit base w0 T ρ nx r y w' → K (a.put o.dst y) w') : o.wp P a w K Q := by
  have hk := knows_of hF hg
  unfold opv at h
  split at h
  · rename_i c x y ho
    split at h
    · rename_i v hv
      cases h
      exact wp_of_yields rfl (pick_sound hF hW hT hg ho hv trivial) hK
    · rename_i v hv
      cases h
      exact wp_of_yields rfl (pick_sound hF hW hT hg ho hv trivial) hK
    · cases h
  · exact aop_sound hti hC hW hT hk h hK
theorem guard_lt {sv : SV} {d : Nat} (h : sv.plain) : guardIs sv d = false := by
  cases sv <;> first | rfl | exact h.elim
theorem ltb_lt {v : AV} {m : Nat} (h : ltb v m = true) : v.lt m := by
  cases v <;> simp [ltb, AV.lt] at * <;> exact h
/-- What an operation, guarded or not, leaves. -/
def FitG (base : Nat) (w0 : World) (T : Nat → Option Blk) (ρ : Rho) (nid : Nat) (a : Act) (dst : Option Nat) (r : SV × List (Nat × Option Blk)) (y : Value) (w' : World) : Prop :=
  ∃ ρ', (∀ d, dst = some d → guardIs r.1 d = false → r.1.den ρ' (a.put dst y).tmps y) ∧ WAg base w0 (setT T r.2) ρ' w' ∧ Rho.like nid ρ ρ' ∧ r.1.lt (nid + 8) ∧ ∀ id b, setT T r.2 id = some b → id < nid + 8
theorem core_sound (hti : TIok P ti) (hC : ∀ f c, look C f = some c → Good P f c) {env : Nat → Option SV} {T : Nat → Option Blk} {ρ : Rho} {nx : Nat} {a : Act} {w : World} (hF : FAg n env ρ nx a) (hW : WAg base w0 T ρ w) (hT : ∀ id b, T id = some b → id < nx) {ops : List Oper} {o : Oper}
    {r : SV × List (Nat × Option Blk)} (h : core ti C ops nx env T o = some r) {K : Act → World → Prop} {Q : Exit → Act → World → Prop} (hK : ∀ y w', FitG base w0 T ρ nx a o.dst r y w' → K (a.put o.dst y) w') :
    if Region.wanted o (yielded ⟨ops⟩ a.tmps) then o.wp P a w K Q else K (a.put o.dst undef) w := by
  unfold core at h
  split at h
  · rename_i hd
    have hw : Region.wanted o (yielded ⟨ops⟩ a.tmps) = true := doing_ok hF hd
    rw [if_pos hw]
    refine opv_sound hti hC hF hW hT (g := none) (fun t w e => by cases e) h fun y w' ⟨ρ', h1, h2, h3, h4, h5, h6⟩ => hK _ _ ⟨ρ', fun d _ _ => den_plain h5 h1, h2, h3, h4, h6⟩
  · rename_i hd
    have hw : Region.wanted o (yielded ⟨ops⟩ a.tmps) = false := doing_ok hF hd
    rw [hw]
    simp only [Bool.false_eq_true, if_false]
    cases h
    exact hK _ _ ⟨ρ, fun d _ _ => rfl, hW, Rho.like.refl _ _, trivial, fun id b hb => by have := hT id b hb; omega⟩
  · rename_i t want hd
    have hw : Region.wanted o (yielded ⟨ops⟩ a.tmps) = true ↔ a.tmps.getD t undef = .bool want := doing_ok hF hd
    split at h
    · rename_i v hv
      split at h
      · rename_i hlt
        cases h
        have keep : ∀ d, o.dst = some d → guardIs (.g t want v) d = false → ∀ y, (a.put o.dst y).tmps.getD t undef = a.tmps.getD t undef := fun d hd hg y => by
          rw [hd]
          refine getD_put_other fun e => ?_
          subst e
          simp only [guardIs] at hg
          rw [beq_self] at hg
          cases hg
        cases hww : Region.wanted o (yielded ⟨ops⟩ a.tmps) with
        | true =>
          simp only [if_true]
          have hgt := hw.1 hww
          exact opv_sound hti hC hF hW hT (g := some (t, want)) (fun t' w' e => by cases e; exact hgt) hv fun y w' ⟨ρ', h1, h2, h3, h4, h5, h6⟩ => hK _ _ ⟨ρ', fun d _ _ _ => h1, h2, h3, h4, h6⟩
        | false =>
          simp only [Bool.false_eq_true, if_false]
          have hgt : ¬ a.tmps.getD t undef = .bool want := fun e => by rw [hw.2 e] at hww; cases hww
          refine hK _ _ ⟨ρ, fun d hd hg hh => ?_, hW, Rho.like.refl _ _, ltb_lt hlt, fun id b hb => by have := hT id b hb; omega⟩
          rw [keep d hd hg] at hh
          exact absurd hh hgt
      · cases h
    · cases h
  · cases h
/-- One operation, guarded or not. -/
theorem stepO_sound (hti : TIok P ti) (hC : ∀ f c, look C f = some c → Good P f c) {env env' : List (Nat × SV)} {tbl tbl' : List (Nat × Option Blk)} {nx : Nat} {a : Act} {w : World} (hA : Ag n base w0 env tbl nx a w) {ops : List Oper} {o : Oper}
    (h : stepO ti C n ops nx env tbl o = some (env', tbl')) {K : Act → World → Prop} {Q : Exit → Act → World → Prop} (hK : ∀ a' w', Ag n base w0 env' tbl' (nx + 8) a' w' → K a' w') :
    if Region.wanted o (yielded ⟨ops⟩ a.tmps) then o.wp P a w K Q else K (a.put o.dst undef) w := by
  obtain ⟨ρ, hF, hW, hT⟩ := hA
  unfold stepO at h
  split at h
  · rename_i v chg hv
    split at h
    · rename_i e' t' he ht
      cases h
      refine core_sound hti hC hF hW hT hv fun y w' ⟨ρ', h1, h2, h3, h4, h6⟩ => hK _ _ ⟨ρ', hF.put h3 (by omega) he h4 h1, ?_, ?_⟩
      · rw [tab_putTs ht]; exact h2
      · rw [tab_putTs ht]; exact h6
    · cases h
  · cases h
theorem stepsO_sound (hti : TIok P ti) (hC : ∀ f c, look C f = some c → Good P f c) {ops : List Oper} {Q : Exit → Act → World → Prop} : ∀ {l : List Oper} {nx : Nat} {env : List (Nat × SV)} {tbl : List (Nat × Option Blk)} {st : St} {a : Act} {w : World}, Ag n base w0 env tbl nx a w →
    stepsO ti C n ops l nx env tbl = some st → (∀ a' w', Ag n base w0 st.env st.tbl st.nx a' w' → Q .normal a' w') → wpList P ⟨ops⟩ Q l a w
  | [], nx, env, tbl, st, a, w, hA, h, hQ => by
    cases h
    exact wpList_nil (hQ a w hA)
  | o :: l, nx, env, tbl, st, a, w, hA, h, hQ => by
    simp only [stepsO] at h
    split at h
    · rename_i e' t' hs
      exact wpList_step fun K hK => stepO_sound hti hC hA hs fun a' w' hA' => hK _ _ (stepsO_sound hti hC hA' h hQ)
    · cases h
theorem look_tidy (l : List (Nat × SV)) (t : Nat) : look (tidy l) t = (look l t).map tidy1 := by
  induction l with
  | nil => rfl
  | cons p l ih =>
    obtain ⟨i, x⟩ := p
    simp only [tidy, look]
    split
    · rfl
    · exact ih
theorem Ag.tidy {env : List (Nat × SV)} {tbl : List (Nat × Option Blk)} {nx : Nat} {a : Act} {w : World} (h : Ag n base w0 env tbl nx a w) : Ag n base w0 (Sx.tidy env) tbl nx a w := by
  obtain ⟨ρ, hF, hW, hT⟩ := h
  refine ⟨ρ, ⟨hF.size, fun t sv ht => ?_, hF.defers⟩, hW, hT⟩
  rw [look_tidy] at ht
  cases hl : look env t with
  | none => rw [hl] at ht; cases ht
  | some x =>
    rw [hl] at ht
    cases ht
    obtain ⟨h1, h2⟩ := hF.den t x hl
    cases x <;> first | exact ⟨h1, h2⟩ | exact ⟨trivial, trivial⟩
end
end Go.Sx
