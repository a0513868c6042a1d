/-
  Loops whose number of rounds is not known: a state brought into a standing form; one round's law gives the loop's.
-/
import Derived.Test.YtdlcjmonnfjklaaSxZ
set_option linter.unusedSimpArgs false
set_option linter.unusedVariables false
namespace Go.Sx
open Go.RowKit (Below)

def norm1 (st : St) (t : Nat) : Option (AV × Option Blk) :=
  match look st.env t with
  | some (.a v) => match payload v with
    | some x => some (.v x, none)
    | none => match v with
      | .p id 0 => match tab st.tbl id with
        | some (.c o ty cs) => some (.p t 0, some (.c o ty cs))
        | _ => none
      | _ => none
  | _ => none
def normL (st : St) : List Nat → Option (List (Nat × SV) × List (Nat × Option Blk))
  | [] => some ([], [])
  | t :: l => match norm1 st t with
    | some (v, b) => match normL st l with
      | some (e, tb) => some ((t, .a v) :: e, (t, b) :: tb)
      | none => none
    | none => none
def idAt (st : St) (t : Nat) : Option Nat :=
  match look st.env t with
  | some (.a (.p id 0)) => some id
  | _ => none
def idsOf (st : St) : List Nat → List Nat
  | [] => []
  | t :: l => match idAt st t with
    | some id => id :: idsOf st l
    | none => idsOf st l
def nodupB : List Nat → Bool
  | [] => true
  | x :: l => match has l x with
    | true => false
    | false => nodupB l
def norm (ks : List Nat) (st : St) : Option St :=
  match normL st ks with
  | some (e, t) => match nodupB (idsOf st ks) && allB (fun t => Nat.blt t 1000) ks with
    | true => some ⟨e, t, 1000⟩
    | false => none
  | none => none
/-- The outcome of a piece of code, in the standing form. -/
def normK (ks : List Nat) (e : Ex) (_ : List (Option Bool)) (st : St) : Option (Ex × St) :=
  match norm ks st with
  | some s => some (e, s)
  | none => none

theorem normL_look {st : St} : ∀ {ks : List Nat} {e : List (Nat × SV)} {tb : List (Nat × Option Blk)}, normL st ks = some (e, tb) →
    (∀ t sv, look e t = some sv → t ∈ ks ∧ ∃ v b, sv = .a v ∧ norm1 st t = some (v, b)) ∧ (∀ t b, tab tb t = some b → t ∈ ks ∧ ∃ v, norm1 st t = some (v, some b))
  | [], e, tb, h => by
    cases h
    exact ⟨fun t sv h => (by simp [look] at h), fun t b h => (by simp [tab, look] at h)⟩
  | t0 :: l, e, tb, h => by
    simp only [normL] at h
    split at h
    · rename_i v b hv
      split at h
      · rename_i e' tb' hl
        cases h
        obtain ⟨h1, h2⟩ := normL_look hl
        refine ⟨fun t sv hs => ?_, fun t b' hb => ?_⟩
        · simp only [look] at hs
          split at hs
          · rename_i hi
            have hi := Nat.eq_of_beq_eq_true hi
            subst hi
            cases hs
            exact ⟨by simp, v, b, rfl, hv⟩
          · obtain ⟨h3, h4⟩ := h1 t sv hs
            exact ⟨by simp [h3], h4⟩
        · simp only [tab, look] at hb
          split at hb
          · rename_i o ho
            split at ho
            · rename_i hi
              have hi := Nat.eq_of_beq_eq_true hi
              subst hi
              cases ho
              subst hb
              exact ⟨by simp, v, hv⟩
            · obtain ⟨h3, h4⟩ := h2 t b' (by simp only [tab, ho]; exact hb)
              exact ⟨by simp [h3], h4⟩
          · cases hb
      · cases h
    · cases h
theorem norm1_cases {st : St} {t : Nat} {v : AV} {b : Option Blk} (h : norm1 st t = some (v, b)) :
    (∃ u x, look st.env t = some (.a u) ∧ payload u = some x ∧ v = .v x ∧ b = none) ∨ ∃ id b', look st.env t = some (.a (.p id 0)) ∧ idAt st t = some id ∧ tab st.tbl id = some b' ∧ v = .p t 0 ∧ b = some b' := by
  unfold norm1 at h
  split at h
  · rename_i u hu
    split at h
    · rename_i x hx
      cases h
      exact .inl ⟨u, x, hu, hx, rfl, rfl⟩
    · split at h
      · split at h
        · rename_i hid _ _ _ hb
          cases h
          refine .inr ⟨_, _, hu, ?_, hb, rfl, rfl⟩
          simp only [idAt, hu]
        · cases h
      · cases h
  · cases h
theorem nodup_ids {st : St} : ∀ {ks : List Nat}, nodupB (idsOf st ks) = true → ∀ i j id, i ∈ ks → j ∈ ks → idAt st i = some id → idAt st j = some id → i = j
  | [], _, i, _, _, hi, _, _, _ => by cases hi
  | t :: l, h, i, j, id, hi, hj, h1, h2 => by
    have mem : ∀ {l : List Nat} {k : Nat}, k ∈ l → idAt st k = some id → id ∈ idsOf st l := by
      intro l
      induction l with
      | nil => intro k hk; cases hk
      | cons t l ih =>
        intro k hk hid
        simp only [idsOf]
        rcases List.mem_cons.1 hk with rfl | hk
        · rw [hid]; simp
        · split
          · exact List.mem_cons_of_mem _ (ih hk hid)
          · exact ih hk hid
    have tl : nodupB (idsOf st l) = true := by
      simp only [idsOf] at h
      split at h
      · simp only [nodupB] at h
        split at h
        · cases h
        · exact h
      · exact h
    have hd : ∀ k, k ∈ l → idAt st k = some id → idAt st t = some id → False := fun k hk hid ht => by
      simp only [idsOf, ht, nodupB] at h
      split at h
      · cases h
      · rename_i hn
        rw [has_iff.2 (mem hk hid)] at hn
        cases hn
    rcases List.mem_cons.1 hi with rfl | hi'
    · rcases List.mem_cons.1 hj with rfl | hj'
      · rfl
      · exact (hd j hj' h2 h1).elim
    · rcases List.mem_cons.1 hj with rfl | hj'
      · exact (hd i hi' h1 h2).elim
      · exact nodup_ids tl i j id hi' hj' h1 h2
section
variable {P : Program} {ti : List (Nat × TI)} {C : List (Nat × Ctr)} {n m base : Nat} {w0 : World}
theorem norm_ok {ks : List Nat} {st s : St} (h : norm ks st = some s) {a : Act} {w : World} (hA : Ag n base w0 st.env st.tbl st.nx a w) : Ag n base w0 s.env s.tbl s.nx a w := by
  unfold norm at h
  split at h
  · rename_i e tb hl
    split at h
    · rename_i hc
      cases h
      simp only [Bool.and_eq_true] at hc
      obtain ⟨hnd, hlt⟩ := hc
      have hlt : ∀ t ∈ ks, t < 1000 := fun t ht => by simpa using allB_iff.1 hlt t ht
      obtain ⟨h1, h2⟩ := normL_look hl
      obtain ⟨ρ, hF, hW, hT⟩ := hA
      let g : Nat → Nat := fun t => (idAt st t).getD 0
      have hg : ∀ t b, tab tb t = some b → ∃ id, idAt st t = some id ∧ g t = id ∧ tab st.tbl id = some b := fun t b hb => by
        obtain ⟨_, v, hv⟩ := h2 t b hb
        rcases norm1_cases hv with ⟨_, _, _, _, _, hn⟩ | ⟨id, b', _, hid, hb', _, e⟩
        · cases hn
        · cases e
          exact ⟨id, hid, by simp [g, hid], hb'⟩
      refine ⟨ρ.via g, ⟨hF.size, fun t sv hs => ?_, hF.defers⟩, hW.via (fun t b hb => ?_) (fun i j bi bj hi hj e => ?_), fun t b hb => hlt t (h2 t b hb).1⟩
      · obtain ⟨hk, v, b, rfl, hv⟩ := h1 t sv hs
        rcases norm1_cases hv with ⟨u, x, hu, hx, rfl, _⟩ | ⟨id, b', hu, hid, _, rfl, _⟩
        · exact ⟨trivial, payload_den hx (hF.den t _ hu).2⟩
        · refine ⟨hlt t hk, ?_⟩
          have := (hF.den t _ hu).2
          have hgt : g t = id := by simp [g, hid]
          have : a.tmps.getD t undef = .pointer (some ⟨ρ.b id, ρ.o id + 0, none⟩) := this
          show a.tmps.getD t undef = .pointer (some ⟨ρ.b (g t), ρ.o (g t) + 0, none⟩)
          rw [hgt]
          exact this
      · obtain ⟨id, _, e, hb'⟩ := hg t b hb
        rw [e]
        exact hb'
      · obtain ⟨id, hi1, e1, _⟩ := hg i bi hi
        obtain ⟨jd, hj1, e2, _⟩ := hg j bj hj
        have : id = jd := by rw [← e1, ← e2]; exact e
        subst this
        exact nodup_ids hnd i j id (h2 i bi hi).1 (h2 j bj hj).1 hi1 hj1
    · cases h
  · cases h
/-- A piece of code whose outcome is known. -/
theorem piece_wp (hti : TIok P ti) (hC : ∀ f c, look C f = some c → Good P f c) (hm : P.follows .mixedOrders = true) {fuel : Nat} {code : Code} {o : List (Option Bool)} {st : St} {ks : List Nat} {e : Ex} {s : St} (h : xec ti C n m fuel code o st (normK ks) = some (e, s)) {a : Act} {w : World}
    (hA : Ag n base w0 st.env st.tbl st.nx a w) {Q : Exit → Act → World → Prop} (hQ : ∀ a' w', Ag n base w0 s.env s.tbl s.nx a' w' → Q e.ex a' w') : code.wp P Q a w :=
  (xec_both (R := Ex × St) (m := m) (w0 := w0) (base := base) hti hC hm fuel).1 code st o _ _ a w _ h hA fun e' o' st' a' w' hK hA' => by
    unfold normK at hK
    split at hK
    · rename_i s' hs
      cases hK
      exact hQ a' w' (norm_ok hs hA')
    · cases hK
/-- The rounds of a loop. -/
inductive Loops {X : Type} (step : X → Ex × X) : X → Ex → X → Prop where
  | done {x y : X} {e : Ex} (h : step x = (e, y)) (he : e ≠ .n) : Loops step x e y
  | more {x y z : X} {e : Ex} (h : step x = (.n, y)) (hl : Loops step y e z) : Loops step x e z
theorem loops_wp (hti : TIok P ti) (hC : ∀ f c, look C f = some c → Good P f c) (hm : P.follows .mixedOrders = true) {fuel : Nat} {body : Code} {o : List (Option Bool)} {ks : List Nat} {X : Type} {mk : X → St} {step : X → Ex × X} {V : X → Prop}
    (hstep : ∀ x, V x → xec ti C n m fuel body o (mk x) (normK ks) = some ((step x).1, mk (step x).2)) (hV : ∀ x y, V x → step x = (.n, y) → V y) {x z : X} {e : Ex} (hx : V x) (hl : Loops step x e z) {a : Act} {w : World}
    (hA : Ag n base w0 (mk x).env (mk x).tbl (mk x).nx a w) {Q : Exit → Act → World → Prop} (hQ : ∀ a' w', Ag n base w0 (mk z).env (mk z).tbl (mk z).nx a' w' → Q e.ex a' w') : (Code.loop body).wp P Q a w := by
  have key : ∃ k, ∀ a w, Ag n base w0 (mk x).env (mk x).tbl (mk x).nx a w → Code.rounds P body Q k a w := by
    clear hA
    induction hl with
    | @done x y e h he =>
      refine ⟨1, fun a w hA => ?_⟩
      rw [rounds_succ]
      refine piece_wp hti hC hm (hstep x hx) hA fun a' w' hA' => ?_
      rw [h] at hA' ⊢
      cases e with
      | n => exact absurd rfl he
      | x i => exact hQ a' w' hA'
      | r => exact hQ a' w' hA'
    | @more x y z e h hl ih =>
      obtain ⟨k, hk⟩ := ih (hV x y hx h) hQ
      refine ⟨k + 1, fun a w hA => ?_⟩
      rw [rounds_succ]
      refine piece_wp hti hC hm (hstep x hx) hA fun a' w' hA' => ?_
      rw [h] at hA' ⊢
      exact hk a' w' hA'
  obtain ⟨k, hk⟩ := key
  exact wp_loop_rounds k (hk a w hA)
end
end Go.Sx
