/-
  An operation's symbolic step looks at its operands and at the blocks that these name, and at nothing else.
-/
import Derived.Test.YtdlcjmonnfjklaaSxO
set_option linter.unusedSimpArgs false
set_option linter.unusedVariables false
namespace Go.Sx
open Go.RowKit (Below)

def avIds : AV → List Nat
  | .p id _ => [id]
  | .s id _ _ _ => [id]
  | .r id => [id]
  | _ => []
def avsIds : List AV → List Nat
  | [] => []
  | x :: l => avIds x ++ avsIds l
def svIds : SV → List Nat
  | .a x => avIds x
  | .g _ _ x => avIds x
  | .tu l => avsIds l
  | _ => []
/-- Two tables that agree on what operands name. -/
def AgreeT (T T' : Nat → Option Blk) (sr : Operand → Option SV) (xs : List Operand) : Prop := ∀ x ∈ xs, ∀ v, arOf sr x = some v → ∀ id ∈ avIds v, T id = T' id
section
variable {ti : List (Nat × TI)} {C : List (Nat × Ctr)} {T T' : Nat → Option Blk}

theorem resolve1_congr {k : PK} {x : AV} (h : ∀ id ∈ avIds x, T id = T' id) : resolve1 T k x = resolve1 T' k x := by
  cases k <;> cases x <;> simp only [resolve1] <;> first | rfl | rw [h _ (by simp [avIds])]
theorem resolveAll_congr : ∀ {ks : List PK} {xs : List AV}, (∀ x ∈ xs, ∀ id ∈ avIds x, T id = T' id) → resolveAll T ks xs = resolveAll T' ks xs
  | [], [], _ => rfl
  | k :: ks, x :: xs, h => by
    simp only [resolveAll]
    rw [resolve1_congr (h x (by simp)), resolveAll_congr fun y hy => h y (by simp [hy])]
  | [], _ :: _, _ => rfl
  | _ :: _, [], _ => rfl
theorem rowOf_congr {e esz : Nat} {x : AV} (h : ∀ id ∈ avIds x, T id = T' id) : rowOf T e esz x = rowOf T' e esz x := by
  cases x with
  | r id => simp only [rowOf]; rw [h _ (by simp [avIds])]
  | s id off len cap =>
    cases off with
    | zero => simp only [rowOf]; rw [h _ (by simp [avIds])]
    | succ off => rfl
  | _ => rfl
theorem newsOf_congr {esz : Nat} {x : AV} (h : ∀ id ∈ avIds x, T id = T' id) : newsOf T esz x = newsOf T' esz x := by
  cases x with
  | r id => simp only [newsOf]; rw [h _ (by simp [avIds])]
  | s id off len cap => simp only [newsOf]; rw [h _ (by simp [avIds])]
  | _ => rfl
theorem builtin_congr {nid : Nat} {b : Builtin} {ts : List Nat} {xs : List AV} (h : ∀ x ∈ xs, ∀ id ∈ avIds x, T id = T' id) : builtinOp ti T nid b ts xs = builtinOp ti T' nid b ts xs := by
  cases b with
  | len =>
    simp only [builtinOp]
    cases ts with
    | nil => rfl
    | cons t ts => cases ts with
      | cons _ _ => rfl
      | nil => cases xs with
        | nil => rfl
        | cons x xs => cases xs with
          | cons _ _ => rfl
          | nil => cases x with
            | r id => simp only []; rw [h (.r id) (by simp) id (by simp [avIds])]
            | _ => rfl
  | append =>
    simp only [builtinOp]
    cases ts with
    | nil => rfl
    | cons t ts => cases ts with
      | nil => rfl
      | cons t' ts => cases ts with
        | cons _ _ => rfl
        | nil => cases xs with
          | nil => rfl
          | cons x xs => cases xs with
            | nil => rfl
            | cons y xs => cases xs with
              | cons _ _ => rfl
              | nil =>
                have h1 : ∀ e esz, rowOf T e esz x = rowOf T' e esz x := fun e esz => rowOf_congr (h x (by simp))
                have h2 : ∀ esz, newsOf T esz y = newsOf T' esz y := fun esz => newsOf_congr (h y (by simp))
                simp only [h1, h2]
  | _ => rfl
theorem mapO_mem {sr : Operand → Option AV} : ∀ {l : List Operand} {m : List AV}, mapO sr l = some m → ∀ v ∈ m, ∃ x ∈ l, sr x = some v
  | [], m, h, v, hv => by cases h; cases hv
  | x :: l, m, h, v, hv => by
    simp only [mapO] at h
    split at h
    · rename_i y hy
      split at h
      · rename_i m' hm
        cases h
        rcases List.mem_cons.1 hv with rfl | hv
        · exact ⟨x, by simp, hy⟩
        · obtain ⟨z, hz, h2⟩ := mapO_mem hm v hv
          exact ⟨z, by simp [hz], h2⟩
      · cases h
    · cases h
/-- The table matters only where the operands lead. -/
theorem aop_congrT {nid : Nat} {sr : Operand → Option SV} {op : Op} (h : AgreeT T T' sr op.operands.toList) : aop ti C T nid sr op = aop ti C T' nid sr op := by
  cases op with
  | load t x =>
    simp only [aop]
    cases look ti t with
    | none => rfl
    | some i => cases hx : arOf sr x with
      | none => rfl
      | some v => cases v with
        | p id off => simp only []; rw [h x (by simp [Op.operands]) _ hx id (by simp [avIds])]
        | _ => rfl
  | store t x y =>
    simp only [aop]
    cases look ti t with
    | none => rfl
    | some i => cases hx : arOf sr x with
      | none => rfl
      | some v => cases arOf sr y with
        | none => cases v <;> rfl
        | some u => cases v with
          | p id off => simp only []; rw [h x (by simp [Op.operands]) _ hx id (by simp [avIds])]
          | _ => rfl
  | indexAddr t x ix =>
    simp only [aop]
    cases look ti t with
    | none => rfl
    | some i => cases hx : arOf sr x with
      | none => rfl
      | some v => cases arOf sr ix with
        | none => rfl
        | some j => cases v with
          | r id =>
            simp only []
            cases intOfAV j with
            | none => rfl
            | some n =>
              have e := h x (by simp [Op.operands]) _ hx id (by simp [avIds])
              cases i.d <;> simp only [] <;> rw [e]
          | _ =>
            simp only []
            cases intOfAV j with
            | none => rfl
            | some n => cases i.d <;> rfl
  | call c =>
    simp only [aop]
    cases hx : mapO (arOf sr) c.args.toList with
    | none => rfl
    | some xs =>
      have hm : ∀ x ∈ xs, ∀ id ∈ avIds x, T id = T' id := fun v hv => by
        obtain ⟨x, hxl, hxv⟩ := mapO_mem hx v hv
        exact h x (by simp only [Op.operands, Call.operands, Array.toList_append, List.mem_append]; exact .inr hxl) v hxv
      simp only []
      split
      · exact builtin_congr hm
      · split
        · rw [resolveAll_congr hm]
        · rfl
      · rfl
  | _ => rfl
theorem mapO_congr {α β : Type} {f g : α → Option β} : ∀ {l : List α}, (∀ x ∈ l, f x = g x) → mapO f l = mapO g l
  | [], _ => rfl
  | x :: l, h => by
    simp only [mapO]
    rw [h x (by simp), mapO_congr fun y hy => h y (by simp [hy])]
theorem optAR_congr {f g : Operand → Option AV} {x : Option Operand} (h : ∀ y ∈ x.toArray, f y = g y) : optAR f x = optAR g x := by
  cases x with
  | none => rfl
  | some x => simp only [optAR]; rw [h x (by simp)]
/-- Only the operands matter. -/
theorem aop_congrS {nid : Nat} {sr sr' : Operand → Option SV} {op : Op} (h : ∀ x ∈ op.operands, sr x = sr' x) : aop ti C T nid sr op = aop ti C T nid sr' op := by
  have ha : ∀ x ∈ op.operands, arOf sr x = arOf sr' x := fun x hx => by simp only [arOf, h x hx]
  cases op with
  | move x => simp only [aop]; rw [h x (by simp [Op.operands])]
  | assign x => simp only [aop]; rw [h x (by simp [Op.operands])]
  | alloc t => rfl
  | box t x => simp only [aop]; rw [ha x (by simp [Op.operands])]
  | build t parts =>
    simp only [aop]
    rw [mapO_congr (f := partAR (arOf sr)) (g := partAR (arOf sr')) fun p hp => by
      simp only [partAR]
      rw [ha p.2 (by simp only [Op.operands, List.mem_toArray, List.mem_map]; exact ⟨p, hp, rfl⟩)]]
  | buildSlice t n parts =>
    simp only [aop]
    rw [mapO_congr (f := partAR (arOf sr)) (g := partAR (arOf sr')) fun p hp => by
      simp only [partAR]
      rw [ha p.2 (by simp only [Op.operands, List.mem_toArray, List.mem_map]; exact ⟨p, hp, rfl⟩)]]
  | load t x => simp only [aop]; rw [ha x (by simp [Op.operands])]
  | store t x y => simp only [aop]; rw [ha x (by simp [Op.operands]), ha y (by simp [Op.operands])]
  | nilCheck x => simp only [aop]; rw [ha x (by simp [Op.operands])]
  | binOp o t x y t' => simp only [aop]; rw [ha x (by simp [Op.operands]), ha y (by simp [Op.operands])]
  | unOp o t x => simp only [aop]; rw [ha x (by simp [Op.operands])]
  | convert s d x => simp only [aop]; rw [ha x (by simp [Op.operands])]
  | slice t x lo hi mx =>
    simp only [aop]
    rw [ha x (by simp [Op.operands]), optAR_congr (f := arOf sr) (g := arOf sr') (x := lo) fun y hy => ha y (by simp only [Op.operands, Array.mem_append]; exact .inl (.inl (.inr hy))),
      optAR_congr (f := arOf sr) (g := arOf sr') (x := hi) fun y hy => ha y (by simp only [Op.operands, Array.mem_append]; exact .inl (.inr hy))]
  | fieldAddr t x f => simp only [aop]; rw [ha x (by simp [Op.operands])]
  | field t x f => simp only [aop]; rw [ha x (by simp [Op.operands])]
  | indexAddr t x i => simp only [aop]; rw [ha x (by simp [Op.operands]), ha i (by simp [Op.operands])]
  | index t x i => simp only [aop]; rw [ha x (by simp [Op.operands]), ha i (by simp [Op.operands])]
  | extract x i => simp only [aop]; rw [h x (by simp [Op.operands])]
  | call c =>
    simp only [aop]
    rw [mapO_congr (f := arOf sr) (g := arOf sr') fun x hx => ha x (by simp only [Op.operands, Call.operands, Array.mem_append]; exact .inr (by simpa using hx))]
  | _ => rfl
end
end Go.Sx
