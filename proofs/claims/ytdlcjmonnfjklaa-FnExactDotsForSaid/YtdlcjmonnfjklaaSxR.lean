/-
  A symbolic step whose new blocks are numbered otherwise.
-/
import Derived.Test.YtdlcjmonnfjklaaSxQ
set_option linter.unusedSimpArgs false
set_option linter.unusedVariables false
namespace Go.Sx
open Go.RowKit (Below)

def isNid : Op → Bool
  | .alloc _ => true
  | .box _ _ => true
  | .buildSlice _ _ _ => true
  | .call _ => true
  | _ => false
def shiftId (n n' id : Nat) : Nat := if n ≤ id then id - n + n' else id
def shA (f : Nat → Nat) : AV → AV
  | .p id o => .p (f id) o
  | .s id o l c => .s (f id) o l c
  | .r id => .r (f id)
  | x => x
def shS (f : Nat → Nat) : SV → SV
  | .a x => .a (shA f x)
  | .g t w x => .g t w (shA f x)
  | .tu l => .tu (l.map (shA f))
  | x => x
def shC (f : Nat → Nat) (c : List (Nat × Option Blk)) : List (Nat × Option Blk) := c.map fun p => (f p.1, p.2)
theorem shA_id {f : Nat → Nat} {x : AV} (h : ∀ id ∈ avIds x, f id = id) : shA f x = x := by
  cases x <;> simp only [shA] <;> first | rfl | rw [h _ (by simp [avIds])]
theorem shAs_id {f : Nat → Nat} : ∀ {l : List AV}, (∀ id ∈ avsIds l, f id = id) → l.map (shA f) = l
  | [], _ => rfl
  | x :: l, h => by
    rw [List.map_cons, shA_id fun id hid => h id (by simp [avsIds, hid]), shAs_id fun id hid => h id (by simp [avsIds, hid])]
theorem shS_id {f : Nat → Nat} {x : SV} (h : ∀ id ∈ svIds x, f id = id) : shS f x = x := by
  cases x with
  | a x => simp only [shS]; rw [shA_id h]
  | g t w x => simp only [shS]; rw [shA_id h]
  | tu l => simp only [shS]; rw [shAs_id h]
  | u => rfl
  | zz => rfl
theorem shC_id {f : Nat → Nat} : ∀ {c : List (Nat × Option Blk)}, (∀ p ∈ c, f p.1 = p.1) → shC f c = c
  | [], _ => rfl
  | (i, b) :: c, h => by
    have := shC_id (f := f) (c := c) fun p hp => h p (by simp [hp])
    simp only [shC, List.map_cons] at this ⊢
    rw [this, h (i, b) (by simp)]
section
variable {ti : List (Nat × TI)} {C : List (Nat × Ctr)} {T : Nat → Option Blk}
theorem aop_nid_same {n n' : Nat} {sr : Operand → Option SV} {op : Op} (h : isNid op = false) : aop ti C T n sr op = aop ti C T n' sr op := by
  cases op <;> first | rfl | simp [isNid] at h
theorem shift_new (n n' k : Nat) : shiftId n n' (n + k) = n' + k := by
  unfold shiftId; rw [if_pos (by omega)]; omega
theorem shift_old {n n' id : Nat} (h : id < n) : shiftId n n' id = id := by
  unfold shiftId; rw [if_neg (by omega)]
theorem avsOf_shift (n n' : Nat) : ∀ (l : List RA) (k : Nat), (avsOf (n + k) l).map (shA (shiftId n n')) = avsOf (n' + k) l
  | [], _ => rfl
  | x :: l, k => by
    simp only [avsOf, List.map_cons]
    rw [show n + k + 1 = n + (k + 1) from rfl, avsOf_shift n n' l (k + 1)]
    cases x <;> simp [avOfRA, shA, shift_new, Nat.add_assoc]
theorem chgsOf_shift (n n' : Nat) : ∀ (l : List RA) (k : Nat), shC (shiftId n n') (chgsOf (n + k) l) = chgsOf (n' + k) l
  | [], _ => rfl
  | x :: l, k => by
    have ih := chgsOf_shift n n' l (k + 1)
    simp only [chgsOf, shC, List.map_append] at ih ⊢
    rw [show n + k + 1 = n + (k + 1) from rfl, ih]
    cases x <;> simp [chgOfRA, shift_new, Nat.add_assoc]
theorem svOfRV_shift (n n' : Nat) (rv : RV) : svOfRV n' rv = (shS (shiftId n n') (svOfRV n rv).1, shC (shiftId n n') (svOfRV n rv).2) := by
  cases rv with
  | o x =>
    have h1 := avsOf_shift n n' [x] 0
    have h2 := chgsOf_shift n n' [x] 0
    cases x <;> simp_all [svOfRV, avOfRA, chgOfRA, shS, shA, shC, avsOf, chgsOf]
  | tu l =>
    have h1 := avsOf_shift n n' l 0
    have h2 := chgsOf_shift n n' l 0
    simp only [Nat.add_zero] at h1 h2
    simp [svOfRV, shS, h1, h2]
theorem rowOf_gone {e esz : Nat} {x : AV} {r : Nat × List Value × List (Nat × Option Blk)} (h : rowOf T e esz x = some r) : ∀ p ∈ r.2.2, p.1 ∈ avIds x := by
  unfold rowOf at h
  split at h
  · split at h
    · split at h
      · cases h; simp [avIds]
      · cases h
    · cases h
  · split at h
    · split at h
      · split at h
        · cases h; simp [avIds]
        · cases h
      · cases h
    · cases h
  · split at h
    · cases h; simp
    · cases h
theorem builtin_nid {n n' : Nat} {b : Builtin} {ts : List Nat} {xs : List AV} (hacc : ∀ x ∈ xs, ∀ id ∈ avIds x, id < n) {r : SV × List (Nat × Option Blk)} (h : builtinOp ti T n b ts xs = some r) :
    builtinOp ti T n' b ts xs = some (shS (shiftId n n') r.1, shC (shiftId n n') r.2) := by
  have plain : ∀ {v : AV}, avIds v = [] → (shS (shiftId n n') (.a v), shC (shiftId n n') ([] : List (Nat × Option Blk))) = (.a v, []) := fun {v} hv => by
    cases v <;> first | rfl | cases hv
  cases b with
  | append =>
    simp only [builtinOp] at h ⊢
    split at h
    · rename_i t t' x y
      split at h
      · rename_i i htt hi
        try rw [htt, hi]
        try simp only []
        split at h
        · rename_i e hd
          try rw [hd]
          try simp only []
          split at h
          · rename_i ie hie
            try rw [hie]
            try simp only []
            split at h
            · rename_i n0 zs gone m ws hr hn
              try rw [hr, hn]
              try simp only []
              split at h
              · rename_i hc
                try rw [hc]
                cases h
                have hg : shC (shiftId n n') gone = gone := shC_id fun p hp => shift_old (hacc x (by simp) p.1 (rowOf_gone hr p hp))
                simp only [shC] at hg
                have h0 := shift_new n n' 0
                simp only [Nat.add_zero] at h0
                simp [shS, shA, shC, h0, hg]
              · cases h
            · cases h
          · cases h
        · cases h
      · cases h
    · cases h
  | len =>
    have e : builtinOp ti T n' .len ts xs = builtinOp ti T n .len ts xs := rfl
    rw [e, h]
    simp only [builtinOp, lenOf] at h
    repeat' split at h
    all_goals first
      | (cases h; done)
      | (cases h; exact congrArg some (plain rfl).symm)
  | min =>
    have e : builtinOp ti T n' .min ts xs = builtinOp ti T n .min ts xs := rfl
    rw [e, h]
    simp only [builtinOp] at h
    repeat' split at h
    all_goals first
      | (cases h; done)
      | (cases h; exact congrArg some (plain rfl).symm)
  | max =>
    have e : builtinOp ti T n' .max ts xs = builtinOp ti T n .max ts xs := rfl
    rw [e, h]
    simp only [builtinOp] at h
    repeat' split at h
    all_goals first
      | (cases h; done)
      | (cases h; exact congrArg some (plain rfl).symm)
  | _ => simp [builtinOp] at h
theorem aop_nid {n n' : Nat} {sr : Operand → Option SV} {op : Op} (hacc : ∀ x ∈ op.operands.toList, ∀ v, arOf sr x = some v → ∀ id ∈ avIds v, id < n) {r : SV × List (Nat × Option Blk)} (hs : isNid op = false → (∀ id ∈ svIds r.1, id < n) ∧ ∀ p ∈ r.2, p.1 < n)
    (h : aop ti C T n sr op = some r) : aop ti C T n' sr op = some (shS (shiftId n n') r.1, shC (shiftId n n') r.2) := by
  cases hn : isNid op with
  | false =>
    obtain ⟨h1, h2⟩ := hs hn
    rw [← aop_nid_same (n := n) hn, h, shS_id fun id hid => shift_old (h1 id hid), shC_id fun p hp => shift_old (h2 p hp)]
  | true =>
    have h0 := shift_new n n' 0
    simp only [Nat.add_zero] at h0
    cases op with
    | alloc t =>
      simp only [aop] at h ⊢
      split at h
      · cases h; simp [shS, shA, shC, h0]
      · cases h
    | box t x =>
      simp only [aop] at h ⊢
      split at h
      · split at h
        · cases h; simp [shS, shA, shC, h0]
        · cases h
      · cases h
    | buildSlice t len parts =>
      simp only [aop] at h ⊢
      repeat' split at h
      all_goals first
        | (cases h; done)
        | (cases h; simp [shS, shA, shC, h0])
    | call c =>
      simp only [aop] at h ⊢
      split at h
      · rename_i xs hx
        split at h
        · refine builtin_nid (fun v hv id hid => ?_) h
          obtain ⟨x, hxl, hxv⟩ := mapO_mem hx v hv
          exact hacc x (by simp only [Op.operands, Call.operands, Array.toList_append, List.mem_append]; exact .inr hxl) v hxv id hid
        · split at h
          · split at h
            · split at h
              · cases h; exact congrArg some (svOfRV_shift n n' _)
              · split at h
                · cases h; exact congrArg some (svOfRV_shift n n' _)
                · cases h
              · cases h
            · cases h
          · cases h
        · cases h
      · cases h
    | _ => simp [isNid] at hn
end
end Go.Sx
