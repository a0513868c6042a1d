/-
  That one symbolic operation is what the model does: all of them.
-/
import Derived.Test.YtdlcjmonnfjklaaSxG
set_option linter.unusedSimpArgs false
set_option linter.unusedVariables false
namespace Go.Sx
open Go.RowKit (Below)
section
variable {P : Program} {ti : List (Nat × TI)} {C : List (Nat × Ctr)} {base : Nat} {w0 w : World} {T : Nat → Option Blk} {ρ : Rho} {nid : Nat}

theorem mapO_spec {α β : Type} {f : α → Option β} : ∀ {l : List α} {m : List β}, mapO f l = some m → m.length = l.length ∧ ∀ (i : Nat) x, l[i]? = some x → ∃ y, m[i]? = some y ∧ f x = some y
  | [], m, h => by cases h; exact ⟨rfl, fun i x hx => by simp at hx⟩
  | x :: l, m, h => by
    simp only [mapO] at h
    split at h
    · rename_i y hy
      split at h
      · rename_i m' hm
        cases h
        obtain ⟨h1, h2⟩ := mapO_spec hm
        refine ⟨by simp [h1], fun i x' hx => ?_⟩
        cases i with
        | zero => simp at hx; subst hx; exact ⟨y, rfl, hy⟩
        | succ i => simpa using h2 i x' (by simpa using hx)
      · cases h
    · cases h
/-- A list of operands and what they hold. -/
theorem mapO_dens {sr : Operand → Option AV} {ev : Operand → Value} (hsr : ∀ x v, sr x = some v → v.lt nid ∧ v.den ρ (ev x)) : ∀ {l : List Operand} {m : List AV}, mapO sr l = some m → dens ρ m (l.map ev) ∧ ∀ x ∈ m, x.lt nid
  | [], m, h => by cases h; exact ⟨trivial, by simp⟩
  | x :: l, m, h => by
    simp only [mapO] at h
    split at h
    · rename_i y hy
      split at h
      · rename_i m' hm
        cases h
        obtain ⟨h1, h2⟩ := mapO_dens hsr hm
        obtain ⟨h3, h4⟩ := hsr x y hy
        exact ⟨⟨h4, h1⟩, fun z hz => (List.mem_cons.1 hz).elim (fun e => e ▸ h3) (fun hz => h2 z hz)⟩
      · cases h
    · cases h
theorem mapO_parts {sr : Operand → Option AV} {ev : Operand → Value} (hsr : ∀ x v, sr x = some v → v.lt nid ∧ v.den ρ (ev x)) : ∀ {l : List (Nat × Operand)} {m : List (Nat × AV)},
    mapO (partAR sr) l = some m → partsAg ρ m (l.map fun p => (p.1, ev p.2))
  | [], m, h => by cases h; trivial
  | (i, x) :: l, m, h => by
    simp only [mapO] at h
    split at h
    · rename_i y hy
      split at h
      · rename_i m' hm
        cases h
        unfold partAR at hy
        split at hy
        · rename_i v hv
          cases hy
          exact ⟨rfl, (hsr x v hv).2, mapO_parts hsr hm⟩
        · cases hy
      · cases h
    · cases h
theorem dens_get {l : List AV} {ys : List Value} (h : dens ρ l ys) : ∀ (i : Nat) x, l[i]? = some x → ∃ y, ys[i]? = some y ∧ x.den ρ y := by
  induction l generalizing ys with
  | nil => intro i x hx; simp at hx
  | cons z l ih =>
    cases ys with
    | nil => exact h.elim
    | cons y ys =>
      intro i x hx
      cases i with
      | zero => simp at hx; subst hx; exact ⟨y, rfl, h.1⟩
      | succ i => simpa using ih h.2 i x (by simpa using hx)

/-! ### What a callee reads, and what it hands back -/
theorem resolve1_ok (hW : WAg base w0 T ρ w) {k : PK} {x : AV} {v y : Value} (h : resolve1 T k x = some v) (hd : x.den ρ y) : ReadsAs w k y v := by
  unfold resolve1 at h
  split at h
  · exact payload_den h hd
  · rename_i n id off
    split at h
    · rename_i own ty cs hb
      split at h
      · rename_i l hl
        cases h
        obtain ⟨h1, h2, h3⟩ := part_eq hl
        obtain ⟨arr, ty', fr, ds, hh, hc, hg, _⟩ := hW.blk id _ hb
        refine ⟨ρ.b id, ρ.o id + off, arr, ty', fr, l, (ds.drop off).take n, hd, hh, rfl, h3, h2 ▸ (hc.drop off).take n, fun i u hu => ?_⟩
        rw [Nat.add_assoc]
        exact hg _ _ (getElem?_part rfl hu)
      · cases h
    · rename_i ty esz m xs hb
      split at h
      · rename_i hn
        split at h
        · rename_i l hl
          cases h
          obtain ⟨h1, h2, h3⟩ := part_eq hl
          obtain ⟨ys, hown, hc, hlink⟩ := hW.blk id _ hb
          have hn : 0 < n := by simpa using hn
          have hyl := hc.length
          rcases hown.2 with ⟨e, hm⟩ | ⟨g, cap, cur, e, _, hgg, hle, _, hsz, htake⟩
          · have := hown.1
            subst hm
            simp at this
            rw [this] at hyl
            simp at hyl
            rw [hyl] at h1
            simp at h1
            omega
          · obtain ⟨e1, e2⟩ := hlink _ _ _ e
            refine ⟨g, off, cur, ty, (0, 0), l, (ys.drop off).take n, ?_, hgg, rfl, h3, h2 ▸ (hc.drop off).take n, fun i u hu => ?_⟩
            · have hd : y = .pointer (some ⟨ρ.b id, ρ.o id + off, none⟩) := hd
              rw [hd, e1, e2, Nat.zero_add]
            · have hy := getElem?_part rfl hu
              rw [← htake, List.getElem?_take] at hy
              split at hy
              · simpa using hy
              · cases hy
        · cases h
      · cases h
    · cases h
  · rename_i esz id off len cap
    split at h
    · rename_i own ty cs hb
      split at h
      · rename_i l hl
        cases h
        obtain ⟨h1, h2, h3⟩ := part_eq hl
        obtain ⟨arr, ty', fr, ds, hh, hc, hg, _⟩ := hW.blk id _ hb
        rcases hd with hd | ⟨rfl, hd⟩
        · refine .inr ⟨ρ.b id, ρ.o id + off, len, cap, arr, ty', fr, l, (ds.drop off).take (len * esz), hd, hh, rfl, h3, h2 ▸ (hc.drop off).take _, fun i u hu => ?_⟩
          rw [Nat.add_assoc]
          exact hg _ _ (getElem?_part rfl hu)
        · refine .inl ⟨hd, ?_⟩
          have : l = [] := List.eq_nil_of_length_eq_zero (by simpa using h3)
          rw [this]
      · cases h
    · cases h
  · rename_i esz id
    split at h
    · rename_i ty esz' n xs hb
      split at h
      · rename_i he
        have he := Nat.eq_of_beq_eq_true he
        subst he
        cases h
        obtain ⟨ys, hown, hc, hlink⟩ := hW.blk id _ hb
        have hd : y = ρ.s id := hd
        rcases hown.2 with ⟨e, hn⟩ | ⟨g, cap, cur, e, _, hgg, hle, _, hsz, htake⟩
        · subst hn
          have : ys = [] := List.eq_nil_of_length_eq_zero (by simpa using hown.1)
          subst this
          have : xs = [] := List.eq_nil_of_length_eq_zero hc.length
          subst this
          exact .inl ⟨hd.trans e, rfl⟩
        · refine .inr ⟨g, 0, n, cap, cur, ty, (0, 0), xs, ys, hd.trans e, hgg, rfl, by rw [hc.length]; exact hown.1, hc, fun i u hu => ?_⟩
          rw [← htake, List.getElem?_take] at hu
          split at hu
          · simpa using hu
          · cases hu
      · cases h
    · cases h
  · rename_i esz x _ _
    split at h
    · rename_i hx
      cases h
      refine .inl ⟨?_, rfl⟩
      unfold isNilSlice at hx
      split at hx
      · exact ceq.slice hd
      · exact hd.1
      · cases hx
    · cases h
  · cases h
theorem resolveAll_ok (hW : WAg base w0 T ρ w) : ∀ {ks : List PK} {xs : List AV} {vs ys : List Value}, resolveAll T ks xs = some vs → dens ρ xs ys → ReadsAll w ks ys vs
  | [], [], vs, [], h, _ => by cases h; trivial
  | k :: ks, x :: xs, vs, y :: ys, h, hd => by
    simp only [resolveAll] at h
    split at h
    · rename_i v hv
      split at h
      · rename_i l hl
        cases h
        exact ⟨resolve1_ok hW hv hd.1, resolveAll_ok hW hl hd.2⟩
      · cases h
    · cases h
  | [], _ :: _, _, _, h, _ => by simp [resolveAll] at h
  | _ :: _, [], _, _, h, _ => by simp [resolveAll] at h
  | _, [], _, _ :: _, _, hd => hd.elim
  | _, _ :: _, _, [], _, hd => hd.elim
end
end Go.Sx
