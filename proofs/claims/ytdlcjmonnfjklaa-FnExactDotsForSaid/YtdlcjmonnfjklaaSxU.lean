/-
  A region that draws its order: the symbolic run in the text's order serves every order. The tables behind some of the operations.
-/
import Derived.Test.YtdlcjmonnfjklaaSxS
set_option linter.unusedSimpArgs false
set_option linter.unusedVariables false
namespace Go.Sx
open Go.RowKit (Below)

def upE (E : Nat → Option SV) (r : Rec) (t : Nat) : Option SV :=
  match r.o.dst with
  | some d => if d = t then some r.sv else E t
  | none => E t
def FE (L : Nat → Bool) : List Rec → Nat → (Nat → Option SV) → Nat → Option SV
  | [], _, E => E
  | r :: rs, k, E => FE L rs (k + 1) (if L k then upE E r else E)
def FT (L : Nat → Bool) : List Rec → Nat → (Nat → Option Blk) → Nat → Option Blk
  | [], _, T => T
  | r :: rs, k, T => FT L rs (k + 1) (if L k then setT T r.chg else T)
theorem FE_congr {L L' : Nat → Bool} {t : Nat} : ∀ {rs : List Rec} {k : Nat} {E E' : Nat → Option SV}, E t = E' t → (∀ (i : Nat) r, rs[i]? = some r → r.o.dst = some t → L (k + i) = L' (k + i)) → FE L rs k E t = FE L' rs k E' t
  | [], _, _, _, h, _ => h
  | r :: rs, k, E, E', h, hl => by
    simp only [FE]
    refine FE_congr ?_ fun i r' hr hd => by have := hl (i + 1) r' (by simpa using hr) hd; rwa [show k + 1 + i = k + (i + 1) by omega]
    by_cases hd : r.o.dst = some t
    · have := hl 0 r rfl hd
      simp only [Nat.add_zero] at this
      rw [this]
      cases L' k
      · exact h
      · simp [upE, hd]
    · have hu : ∀ F : Nat → Option SV, upE F r t = F t := fun F => by
        unfold upE
        split
        · rename_i d e; rw [if_neg (fun e' => hd (by rw [e, e']))]
        · rfl
      have h1 : ∀ (b : Bool) (F : Nat → Option SV), (if b then upE F r else F) t = F t := fun b F => by cases b <;> simp [hu]
      rw [h1, h1]; exact h
theorem setT_not_mem {id : Nat} : ∀ {chg : List (Nat × Option Blk)} {T : Nat → Option Blk}, id ∉ chgIds chg → setT T chg id = T id
  | [], T, _ => rfl
  | (i, b) :: l, T, h => by
    simp only [chgIds, List.mem_cons, not_or] at h
    simp only [setT]
    rw [setT_not_mem h.2]
    simp [beq_ne (Ne.symm h.1)]
theorem setT_mem {id : Nat} : ∀ {chg : List (Nat × Option Blk)} {T T' : Nat → Option Blk}, id ∈ chgIds chg → setT T chg id = setT T' chg id
  | [], _, _, h => by cases h
  | (i, b) :: l, T, T', h => by
    simp only [setT]
    by_cases hl : id ∈ chgIds l
    · exact setT_mem hl
    · rw [setT_not_mem hl, setT_not_mem hl]
      have : i = id := by
        simp only [chgIds, List.mem_cons] at h
        rcases h with h | h
        · exact h.symm
        · exact absurd h hl
      simp [this, beq_self]
theorem FT_congr {L L' : Nat → Bool} {id : Nat} : ∀ {rs : List Rec} {k : Nat} {T T' : Nat → Option Blk}, T id = T' id → (∀ (i : Nat) r, rs[i]? = some r → id ∈ chgIds r.chg → L (k + i) = L' (k + i)) → FT L rs k T id = FT L' rs k T' id
  | [], _, _, _, h, _ => h
  | r :: rs, k, T, T', h, hl => by
    simp only [FT]
    refine FT_congr ?_ fun i r' hr hd => by have := hl (i + 1) r' (by simpa using hr) hd; rwa [show k + 1 + i = k + (i + 1) by omega]
    by_cases hd : id ∈ chgIds r.chg
    · have := hl 0 r rfl hd
      simp only [Nat.add_zero] at this
      rw [this]
      cases L' k
      · exact h
      · exact setT_mem hd
    · have h1 : ∀ (b : Bool) (F : Nat → Option Blk), (if b then setT F r.chg else F) id = F id := fun b F => by cases b <;> simp [setT_not_mem hd]
      rw [h1, h1]; exact h
theorem FE_cases {L : Nat → Bool} {t : Nat} {v : SV} : ∀ {rs : List Rec} {k : Nat} {E : Nat → Option SV}, FE L rs k E t = some v → E t = some v ∨ ∃ (i : Nat) (r : Rec), rs[i]? = some r ∧ L (k + i) = true ∧ r.sv = v ∧ r.o.dst = some t
  | [], _, _, h => .inl h
  | r :: rs, k, E, h => by
    simp only [FE] at h
    rcases FE_cases h with h1 | ⟨i, r', h1, h2, h3⟩
    · cases hL : L k with
      | false => rw [hL] at h1; exact .inl h1
      | true =>
        rw [hL] at h1
        simp only [if_true] at h1
        unfold upE at h1
        split at h1
        · rename_i d hd
          by_cases e : d = t
          · rw [if_pos e] at h1
            cases h1
            exact .inr ⟨0, r, rfl, hL, rfl, by rw [hd, e]⟩
          · rw [if_neg e] at h1; exact .inl h1
        · exact .inl h1
    · exact .inr ⟨i + 1, r', by simpa using h1, by rwa [show k + (i + 1) = k + 1 + i by omega], h3⟩
theorem FE_none {L : Nat → Bool} : ∀ {rs : List Rec} {k : Nat} {E : Nat → Option SV}, (∀ i, k ≤ i → L i = false) → FE L rs k E = E
  | [], _, _, _ => rfl
  | r :: rs, k, E, h => by
    simp only [FE]
    rw [h k (Nat.le_refl k)]
    simp only [Bool.false_eq_true, if_false]
    exact FE_none fun i hi => h i (by omega)
theorem FT_none {L : Nat → Bool} : ∀ {rs : List Rec} {k : Nat} {T : Nat → Option Blk}, (∀ i, k ≤ i → L i = false) → FT L rs k T = T
  | [], _, _, _ => rfl
  | r :: rs, k, T, h => by
    simp only [FT]
    rw [h k (Nat.le_refl k)]
    simp only [Bool.false_eq_true, if_false]
    exact FT_none fun i hi => h i (by omega)
/-- One alone. -/
theorem FE_one {L : Nat → Bool} {t : Nat} {r : Rec} : ∀ {rs : List Rec} {k j : Nat} {E : Nat → Option SV}, rs[j]? = some r → r.o.dst = some t → L (k + j) = true → (∀ (i : Nat) s, rs[i]? = some s → s.o.dst = some t → i = j) → FE L rs k E t = some r.sv
  | [], _, _, _, h, _, _, _ => by simp at h
  | s :: rs, k, 0, E, h, hd, hL, hu => by
    simp only [List.getElem?_cons_zero, Option.some.injEq] at h
    subst h
    simp only [FE]
    simp only [Nat.add_zero] at hL
    rw [hL]
    simp only [if_true]
    rw [FE_congr (L' := fun _ => false) (E' := upE E s) rfl fun i r' hr' hd' => absurd (hu (i + 1) r' (by simpa using hr') hd') (by omega)]
    rw [FE_none fun _ _ => rfl]
    simp [upE, hd]
  | s :: rs, k, j + 1, E, h, hd, hL, hu => by
    simp only [FE]
    exact FE_one (by simpa using h) hd (by rwa [show k + 1 + j = k + (j + 1) by omega]) fun i s' hs' hd' => by have := hu (i + 1) s' (by simpa using hs') hd'; omega
theorem FT_last {L : Nat → Bool} {id : Nat} {r : Rec} : ∀ {rs : List Rec} {k j : Nat} {T T' : Nat → Option Blk}, rs[j]? = some r → id ∈ chgIds r.chg → L (k + j) = true → (∀ (i : Nat) s, rs[i]? = some s → j < i → L (k + i) = true → id ∉ chgIds s.chg) → FT L rs k T id = setT T' r.chg id
  | [], _, _, _, _, h, _, _, _ => by simp at h
  | s :: rs, k, 0, T, T', h, hd, hL, hu => by
    simp only [List.getElem?_cons_zero, Option.some.injEq] at h
    subst h
    simp only [FT]
    simp only [Nat.add_zero] at hL
    rw [hL]
    simp only [if_true]
    have : ∀ {rs : List Rec} {k : Nat} {T : Nat → Option Blk}, (∀ (i : Nat) s, rs[i]? = some s → L (k + i) = true → id ∉ chgIds s.chg) → FT L rs k T id = T id := by
      intro rs
      induction rs with
      | nil => intro k T _; rfl
      | cons s rs ih =>
        intro k T h
        simp only [FT]
        rw [ih fun i s' hs' hl => h (i + 1) s' (by simpa using hs') (by rwa [show k + (i + 1) = k + 1 + i by omega])]
        cases hk : L k with
        | false => rfl
        | true => exact setT_not_mem (h 0 s rfl (by simpa using hk))
    rw [this fun i s' hs' hl => hu (i + 1) s' (by simpa using hs') (by omega) (by rwa [show k + (i + 1) = k + 1 + i by omega])]
    exact setT_mem hd
  | s :: rs, k, j + 1, T, T', h, hd, hL, hu => by
    simp only [FT]
    exact FT_last (by simpa using h) hd (by rwa [show k + 1 + j = k + (j + 1) by omega]) fun i s' hs' hij hl => hu (i + 1) s' (by simpa using hs') (by omega) (by rwa [show k + (i + 1) = k + 1 + i by omega])
theorem look_putD {env env' : List (Nat × SV)} {n : Nat} {r : Rec} (h : putD env n r.o.dst r.sv = some env') : look env' = upE (look env) r ∧ ∀ d, r.o.dst = some d → d < n ∧ guardIs r.sv d = false ∧ ∀ t sv, look env t = some sv → guardIs sv d = false := by
  unfold putD at h
  unfold upE
  split at h
  · rename_i hd
    cases h
    exact ⟨by funext t; simp [hd], fun d e => by rw [hd] at e; cases e⟩
  · rename_i d hd
    split at h
    · cases h
    · rename_i hg
      split at h
      · rename_i hlt
        obtain ⟨h1, h2⟩ := look_putE h
        refine ⟨by funext t; simp [hd, h1], fun d' e => ?_⟩
        rw [hd] at e
        cases e
        exact ⟨by simpa using hlt, hg, h2⟩
      · cases h
/-- What the records are. -/
structure RecsOk (ti : List (Nat × TI)) (C : List (Nat × Ctr)) (n : Nat) (ops l : List Oper) (nid : Nat) (env : List (Nat × SV)) (tbl : List (Nat × Option Blk)) (rs : List Rec) (st : St) : Prop where
  flen : rs.length = l.length
  fop : ∀ (j : Nat) r, rs[j]? = some r → l[j]? = some r.o
  fnid : ∀ (j : Nat) r, rs[j]? = some r → r.nid = nid + 8 * j
  fcore : ∀ (j : Nat) r, rs[j]? = some r → Sx.core ti C ops r.nid (look r.env) (tab r.tbl) r.o = some (r.sv, r.chg)
  fput : ∀ (j : Nat) r, rs[j]? = some r → ∀ d, r.o.dst = some d → d < n ∧ guardIs r.sv d = false ∧ ∀ t sv, look r.env t = some sv → guardIs sv d = false
  fenv : ∀ (j : Nat) r, rs[j]? = some r → look r.env = FE (fun i => decide (i < j)) rs 0 (look env)
  ftbl : ∀ (j : Nat) r, rs[j]? = some r → tab r.tbl = FT (fun i => decide (i < j)) rs 0 (tab tbl)
  lastE : look st.env = FE (fun _ => true) rs 0 (look env)
  lastT : tab st.tbl = FT (fun _ => true) rs 0 (tab tbl)
  lastN : st.nx = nid + 8 * rs.length
theorem FE_shift {L L' : Nat → Bool} : ∀ {rs : List Rec} {k k' : Nat} {E : Nat → Option SV}, (∀ i, L (k + i) = L' (k' + i)) → FE L rs k E = FE L' rs k' E
  | [], _, _, _, _ => rfl
  | r :: rs, k, k', E, h => by
    simp only [FE]
    have := h 0
    simp only [Nat.add_zero] at this
    rw [this]
    exact FE_shift fun i => by have := h (i + 1); rwa [show k + 1 + i = k + (i + 1) by omega, show k' + 1 + i = k' + (i + 1) by omega]
theorem FT_shift {L L' : Nat → Bool} : ∀ {rs : List Rec} {k k' : Nat} {E : Nat → Option Blk}, (∀ i, L (k + i) = L' (k' + i)) → FT L rs k E = FT L' rs k' E
  | [], _, _, _, _ => rfl
  | r :: rs, k, k', E, h => by
    simp only [FT]
    have := h 0
    simp only [Nat.add_zero] at this
    rw [this]
    exact FT_shift fun i => by have := h (i + 1); rwa [show k + 1 + i = k + (i + 1) by omega, show k' + 1 + i = k' + (i + 1) by omega]
theorem recs_ok {ti : List (Nat × TI)} {C : List (Nat × Ctr)} {n : Nat} {ops : List Oper} : ∀ {l : List Oper} {nid : Nat} {env : List (Nat × SV)} {tbl : List (Nat × Option Blk)} {rs : List Rec} {st : St}, recs ti C n ops l nid env tbl = some (rs, st) → RecsOk ti C n ops l nid env tbl rs st
  | [], nid, env, tbl, rs, st, h => by
    cases h
    exact ⟨rfl, by simp, by simp, by simp, by simp, by simp, by simp, rfl, rfl, rfl⟩
  | o :: l, nid, env, tbl, rs, st, h => by
    simp only [recs] at h
    split at h
    · rename_i v chg hc
      split at h
      · rename_i env' tbl' he ht
        split at h
        · rename_i rs' st' hr
          cases h
          have ih := recs_ok hr
          have hp := look_putD (r := ⟨o, env, tbl, nid, v, chg⟩) he
          have hT : tab tbl' = setT (tab tbl) chg := tab_putTs ht
          have e0 : ∀ (L : Nat → Bool), (∀ i, L i = false) → FE L (⟨o, env, tbl, nid, v, chg⟩ :: rs') 0 (look env) = look env := fun L h => FE_none fun i _ => h i
          have t0 : ∀ (L : Nat → Bool), (∀ i, L i = false) → FT L (⟨o, env, tbl, nid, v, chg⟩ :: rs') 0 (tab tbl) = tab tbl := fun L h => FT_none fun i _ => h i
          have e1 : ∀ (L L' : Nat → Bool), L 0 = true → (∀ i, L (i + 1) = L' i) → FE L (⟨o, env, tbl, nid, v, chg⟩ :: rs') 0 (look env) = FE L' rs' 0 (look env') := fun L L' h0 h => by
            simp only [FE]
            rw [h0, hp.1]
            simp only [if_true]
            exact FE_shift fun i => by rw [show 0 + 1 + i = i + 1 by omega, Nat.zero_add]; exact h i
          have t1 : ∀ (L L' : Nat → Bool), L 0 = true → (∀ i, L (i + 1) = L' i) → FT L (⟨o, env, tbl, nid, v, chg⟩ :: rs') 0 (tab tbl) = FT L' rs' 0 (tab tbl') := fun L L' h0 h => by
            simp only [FT]
            rw [h0, hT]
            simp only [if_true]
            exact FT_shift fun i => by rw [show 0 + 1 + i = i + 1 by omega, Nat.zero_add]; exact h i
          refine ⟨by simp [ih.flen], fun j r hj => ?_, fun j r hj => ?_, fun j r hj => ?_, fun j r hj => ?_, fun j r hj => ?_, fun j r hj => ?_, ?_, ?_, ?_⟩
          · cases j with
            | zero => simp at hj; subst hj; rfl
            | succ j => simpa using ih.fop j r (by simpa using hj)
          · cases j with
            | zero => simp at hj; subst hj; rfl
            | succ j => have := ih.fnid j r (by simpa using hj); omega
          · cases j with
            | zero => simp at hj; subst hj; exact hc
            | succ j => exact ih.fcore j r (by simpa using hj)
          · cases j with
            | zero => simp at hj; subst hj; exact hp.2
            | succ j => exact ih.fput j r (by simpa using hj)
          · cases j with
            | zero => simp at hj; subst hj; exact (e0 _ (by simp)).symm
            | succ j =>
              rw [ih.fenv j r (by simpa using hj)]
              exact (e1 _ _ (by simp) (by simp)).symm
          · cases j with
            | zero => simp at hj; subst hj; exact (t0 _ (by simp)).symm
            | succ j =>
              rw [ih.ftbl j r (by simpa using hj)]
              exact (t1 _ _ (by simp) (by simp)).symm
          · rw [ih.lastE]; exact (e1 _ _ rfl (by simp)).symm
          · rw [ih.lastT]; exact (t1 _ _ rfl (by simp)).symm
          · rw [ih.lastN]; simp; omega
        · cases h
      · cases h
    · cases h
end Go.Sx
