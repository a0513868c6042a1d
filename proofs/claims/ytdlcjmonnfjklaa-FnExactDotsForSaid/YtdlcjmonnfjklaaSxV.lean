/-
  A region that draws its order: the symbolic run in the text's order serves every order.
-/
import Derived.Test.YtdlcjmonnfjklaaSxU
set_option linter.unusedSimpArgs false
set_option linter.unusedVariables false
namespace Go.Sx
open Go.RowKit (Below)
section
variable {P : Program} {ti : List (Nat × TI)} {C : List (Nat × Ctr)} {n base : Nat} {w0 : World}

theorem srOf_congr {E E' : Nat → Option SV} {g : Option (Nat × Bool)} {x : Operand} (h : ∀ t ∈ tmpOf x, E t = E' t) : srOf E g x = srOf E' g x := by
  cases x with
  | tmp t => simp only [srOf]; rw [h t (by simp [tmpOf])]
  | _ => rfl
theorem pickV_congr {E E' : Nat → Option SV} {g : Option (Nat × Bool)} {c a b : Operand} (hc : ∀ g, srOf E g c = srOf E' g c) (ha : ∀ g, srOf E g a = srOf E' g a) (hb : ∀ g, srOf E g b = srOf E' g b) : pickV E g c a b = pickV E' g c a b := by
  unfold pickV
  simp only [hc, ha, hb]
theorem doing_congr {E E' : Nat → Option SV} {ops : List Oper} {o : Oper} (h : ∀ t ∈ guardSlot ops o, E t = E' t) : doing E ops o = doing E' ops o := by
  unfold doing
  unfold guardSlot at h
  split
  · rfl
  · rename_i j want hg
    rw [hg] at h
    simp only [] at h
    split
    · rename_i oj hj
      rw [hj] at h
      simp only [] at h
      split
      · rename_i t ht
        rw [ht] at h
        simp only [] at h
        rw [h t (by simp)]
      · rfl
    · rfl
theorem srOf_ids {E : Nat → Option SV} {g : Option (Nat × Bool)} {x : Operand} {v : AV} (h : arOf (srOf E g) x = some v) {id : Nat} (hid : id ∈ avIds v) : ∃ t ∈ tmpOf x, ∃ sv, E t = some sv ∧ id ∈ svIds sv := by
  unfold arOf at h
  split at h
  · rename_i u hu
    cases h
    unfold srOf at hu
    split at hu
    · rename_i t
      refine ⟨t, by simp [tmpOf], ?_⟩
      split at hu
      · rename_i t' w' x hl
        split at hu
        · split at hu
          · cases hu; exact ⟨_, hl, hid⟩
          · cases hu
        · cases hu
      · exact ⟨_, hu, hid⟩
    · rename_i c
      unfold constSV at hu
      repeat' split at hu
      all_goals first | (cases hu; cases hid; done) | (cases hu; done)
    · cases hu
  · cases h
/-- The tables matter only where the operation looks. -/
theorem opv_congr {nid : Nat} {E E' : Nat → Option SV} {T T' : Nat → Option Blk} {g : Option (Nat × Bool)} {op : Op} (hE : ∀ t ∈ cat tmpOf op.operands.toList, E t = E' t) (hT : ∀ t ∈ cat tmpOf op.operands.toList, ∀ sv, E t = some sv → ∀ id ∈ svIds sv, T id = T' id) : opv ti C T nid E g op = opv ti C T' nid E' g op := by
  have hs : ∀ x ∈ op.operands, ∀ g, srOf E g x = srOf E' g x := fun x hx g => srOf_congr fun t ht => hE t (mem_cat.2 ⟨x, Array.mem_toList_iff.2 hx, ht⟩)
  have ha : aop ti C T nid (srOf E g) op = aop ti C T' nid (srOf E' g) op := by
    rw [aop_congrT (T' := T') (fun x hx v hv id hid => by
      obtain ⟨t, ht, sv, h1, h2⟩ := srOf_ids hv hid
      exact hT t (mem_cat.2 ⟨x, hx, ht⟩) sv h1 id h2)]
    exact aop_congrS fun x hx => hs x hx g
  cases op with
  | pick c a b =>
    simp only [opv]
    rw [pickV_congr (hs c (by simp [Op.operands])) (hs a (by simp [Op.operands])) (hs b (by simp [Op.operands]))]
  | _ => exact ha
theorem core_congr {ops : List Oper} {nid : Nat} {E E' : Nat → Option SV} {T T' : Nat → Option Blk} {o : Oper} (hE : ∀ t ∈ namesOf ops o, E t = E' t) (hT : ∀ t ∈ namesOf ops o, ∀ sv, E t = some sv → ∀ id ∈ svIds sv, T id = T' id) : core ti C ops nid E T o = core ti C ops nid E' T' o := by
  unfold core
  rw [doing_congr (E' := E') fun t ht => hE t (by simp [namesOf, ht])]
  have ho : ∀ g, opv ti C T nid E g o.op = opv ti C T' nid E' g o.op := fun g => opv_congr (fun t ht => hE t (by simp [namesOf, ht])) (fun t ht => hT t (by simp [namesOf, ht]))
  simp only [ho]
/-- New blocks numbered otherwise. -/
theorem core_nid {ops : List Oper} {m m' : Nat} (hm : m ≤ m') {E : Nat → Option SV} {T : Nat → Option Blk} {o : Oper} (hacc : ∀ t ∈ namesOf ops o, ∀ sv, E t = some sv → ∀ id ∈ svIds sv, id < m) {r : SV × List (Nat × Option Blk)}
    (hs : isNid o.op = false → (∀ id ∈ svIds r.1, id < m) ∧ ∀ p ∈ r.2, p.1 < m) (h : core ti C ops m E T o = some r) : core ti C ops m' E T o = some (shS (shiftId m m') r.1, shC (shiftId m m') r.2) := by
  have key : ∀ g r', (isNid o.op = false → (∀ id ∈ svIds r'.1, id < m) ∧ ∀ p ∈ r'.2, p.1 < m) → opv ti C T m E g o.op = some r' → opv ti C T m' E g o.op = some (shS (shiftId m m') r'.1, shC (shiftId m m') r'.2) := fun g r' hs' h' => by
    have hall : ∀ op, op = o.op → aop ti C T m (srOf E g) op = some r' → aop ti C T m' (srOf E g) op = some (shS (shiftId m m') r'.1, shC (shiftId m m') r'.2) := fun op e h' =>
      aop_nid (fun x hx v hv id hid => by
        obtain ⟨t, ht, sv, h1, h2⟩ := srOf_ids hv hid
        refine hacc t ?_ sv h1 id h2
        rw [e] at hx
        exact List.mem_append.2 (.inl (mem_cat.2 ⟨x, hx, ht⟩))) (fun hn => hs' (by rw [← e]; exact hn)) h'
    have hop : ∀ op, op = o.op → opv ti C T m E g op = some r' → opv ti C T m' E g op = some (shS (shiftId m m') r'.1, shC (shiftId m m') r'.2) := fun op e h' => by
      cases op with
      | pick c a b =>
        obtain ⟨h1, h2⟩ := hs' (by rw [← e]; rfl)
        rw [shS_id fun id hid => shift_old (h1 id hid), shC_id fun p hp => shift_old (h2 p hp)]
        exact h'
      | _ => exact hall _ e h'
    exact hop _ rfl h'
  unfold core at h ⊢
  split at h
  · rename_i hd
    exact key none r hs h
  · rename_i hd
    cases h; rfl
  · rename_i t want hd
    split at h
    · rename_i v hv
      split at h
      · rename_i hlt
        cases h
        have := key (some (t, want)) (.a v, []) (fun hn => ⟨fun id hid => (hs hn).1 id hid, fun p hp => by cases hp⟩) hv
        rw [this]
        simp only [shS, shC, List.map_nil]
        have hlt' : ltb (shA (shiftId m m') v) (m' + 8) = true := by
          have sh : ∀ id, id < m + 8 → shiftId m m' id < m' + 8 := fun id hid => by unfold shiftId; split <;> omega
          cases v <;> simp [ltb, shA] at hlt ⊢ <;> exact sh _ hlt
        rw [hlt']
      · cases h
    · cases h
  · cases h

/-! ### Numbers turned -/
def Rho.via (ρ : Rho) (g : Nat → Nat) : Rho := ⟨fun i => ρ.b (g i), fun i => ρ.o (g i), fun i => ρ.s (g i)⟩
theorem AV.den_via {ρ : Rho} {g : Nat → Nat} {x : AV} {y : Value} : (shA g x).den ρ y ↔ x.den (ρ.via g) y := by
  cases x <;> exact Iff.rfl
theorem dens_via {ρ : Rho} {g : Nat → Nat} : ∀ {l : List AV} {ys : List Value}, dens ρ (l.map (shA g)) ys ↔ dens (ρ.via g) l ys
  | [], [] => Iff.rfl
  | x :: l, y :: ys => by simp only [List.map_cons, dens]; rw [AV.den_via, dens_via]
  | [], _ :: _ => Iff.rfl
  | _ :: _, [] => Iff.rfl
theorem SV.den_via {ρ : Rho} {g : Nat → Nat} {tm : Array Value} {x : SV} {y : Value} : (shS g x).den ρ tm y ↔ x.den (ρ.via g) tm y := by
  cases x with
  | a x => exact AV.den_via
  | g t w x => simp only [shS, SV.den]; rw [AV.den_via]
  | tu l => simp only [shS, SV.den]; exact exists_congr fun ys => by rw [dens_via]
  | u => exact Iff.rfl
  | zz => exact Iff.rfl
theorem WAg.via {w : World} {T T' : Nat → Option Blk} {ρ : Rho} {g : Nat → Nat} (h : WAg base w0 T' ρ w) (hT : ∀ id b, T id = some b → T' (g id) = some b) (hi : ∀ i j bi bj, T i = some bi → T j = some bj → g i = g j → i = j) : WAg base w0 T (ρ.via g) w := by
  refine ⟨fun id b hb => ?_, fun i j bi bj hij hbi hbj ho m hm => ?_, h.below, h.le⟩
  · have := h.blk (g id) b (hT id b hb)
    cases b <;> exact this
  · have := h.sep (g i) (g j) bi bj (fun e => hij (hi i j bi bj hbi hbj e)) (hT i bi hbi) (hT j bj hbj) ho m
    cases bi <;> cases bj <;> exact this hm
theorem setT_via {g : Nat → Nat} {N : Nat} (hi : ∀ i j, i < N → j < N → g i = g j → i = j) : ∀ {chg : List (Nat × Option Blk)} {T T' : Nat → Option Blk}, (∀ i ∈ chgIds chg, i < N) → (∀ id b, id < N → T id = some b → T' (g id) = some b) → ∀ id b, id < N → setT T chg id = some b → setT T' (shC g chg) (g id) = some b
  | [], T, T', _, h => h
  | (i, x) :: l, T, T', hl, h => by
    have hil : i < N := hl i (by simp [chgIds])
    exact setT_via (chg := l) (T := fun j => match Nat.beq i j with | true => x | false => T j) (T' := fun j => match Nat.beq (g i) j with | true => x | false => T' j) hi (fun j hj => hl j (List.mem_cons_of_mem _ hj)) fun id b hid hb => by
      by_cases e : i = id
      · subst e
        simp only [beq_self] at hb ⊢
        exact hb
      · simp only [beq_ne e] at hb
        have : g i ≠ g id := fun e' => e (hi i id hil hid e')
        simp only [beq_ne this]
        exact h id b hid hb
end
end Go.Sx
