/-
  That one symbolic operation is what the model does: the operations.
-/
import Derived.Test.YtdlcjmonnfjklaaSxD
set_option linter.unusedSimpArgs false
set_option linter.unusedVariables false
namespace Go.Sx
open Go.RowKit (Below)

theorem AV.lt_mono {n m : Nat} (h : n ≤ m) {x : AV} (hx : x.lt n) : x.lt m := by
  cases x <;> simp only [AV.lt] at * <;> omega
theorem SV.lt_mono {n m : Nat} (h : n ≤ m) {x : SV} (hx : x.lt n) : x.lt m := by
  cases x with
  | a x => exact AV.lt_mono h hx
  | g t w x => exact AV.lt_mono h hx
  | tu l => exact fun x hm => AV.lt_mono h (hx x hm)
  | u => trivial
  | zz => trivial
theorem AV.plain_a (x : AV) : (SV.a x).plain := trivial

/-- What an operation leaves. -/
def Fit (base : Nat) (w0 : World) (T : Nat → Option Blk) (ρ : Rho) (nid : Nat) (r : SV × List (Nat × Option Blk)) (y : Value) (w' : World) : Prop :=
  ∃ ρ', r.1.den ρ' #[] y ∧ WAg base w0 (setT T r.2) ρ' w' ∧ Rho.like nid ρ ρ' ∧ r.1.lt (nid + 8) ∧ r.1.plain ∧ ∀ id b, setT T r.2 id = some b → id < nid + 8

section
variable {P : Program} {ti : List (Nat × TI)} {base : Nat} {w0 w : World} {T : Nat → Option Blk} {ρ : Rho} {nid : Nat}

theorem Fit.same (hW : WAg base w0 T ρ w) (hT : ∀ id b, T id = some b → id < nid) {sv : SV} {y : Value} (hd : sv.den ρ #[] y) (hl : sv.lt nid) (hp : sv.plain) : Fit base w0 T ρ nid (sv, []) y w :=
  ⟨ρ, hd, hW, Rho.like.refl _ _, SV.lt_mono (by omega) hl, hp, fun id b h => by have := hT id b h; omega⟩
theorem wp_of_value {o : Oper} {a : Act} {w' : World} {y : Value} {K : Act → World → Prop} {Q : Exit → Act → World → Prop} (h : (execOp a.eval o).run P w = .ok (.value y) w') (hk : K (a.put o.dst y) w') : o.wp P a w K Q := by
  unfold Oper.wp; rw [h]; exact hk
theorem wp_of_skip {o : Oper} {a : Act} {w' : World} {K : Act → World → Prop} {Q : Exit → Act → World → Prop} (h : (execOp a.eval o).run P w = .ok .skip w') (hk : K (a.put o.dst undef) w') : o.wp P a w K Q := by
  unfold Oper.wp; rw [h]; exact hk

theorem run_zero {t : Nat} {i : TI} (h : i.ok P t) (w : World) : ∃ z, (zeroValue t).run P w = .ok z w ∧ z.cells = ⟨i.zero⟩ ∧ (i.agg = true → z = .agg ⟨i.zero⟩) := by
  obtain ⟨inf, h1, _, _, z, h4, h5, h6⟩ := h.inf
  exact ⟨z, by simp [zeroValue, typeInfo, h1, h4], h5, h6⟩
theorem run_size {t : Nat} {i : TI} (h : i.ok P t) (w : World) : (sizeOf t).run P w = .ok i.size w := by
  obtain ⟨inf, h1, h2, _⟩ := h.inf
  simp [sizeOf, typeInfo, h1, h2]
theorem run_isAgg {t : Nat} {i : TI} (h : i.ok P t) (w : World) : (isAgg t).run P w = .ok i.agg w := by
  obtain ⟨d, h1, h2, _⟩ := h.und
  unfold isAgg
  rw [Sem.run_bind, run_underlying h1 w, ← h2]
  cases d <;> rfl
theorem run_und {t : Nat} {i : TI} (h : i.ok P t) (w : World) : ∃ d, (underlying t).run P w = .ok d w ∧ aggD d = i.agg ∧ i.d.ok d := by
  obtain ⟨d, h1, h2, h3⟩ := h.und
  exact ⟨d, run_underlying h1 w, h2, h3⟩

theorem cell_at {b off : Nat} {arr : Array Value} {ty : TypeId} {fr : Nat × Nat} (h : w.heap[b]? = some (.cells arr ty fr)) (j : Nat) : w.cell? ⟨b, off + j, none⟩ = arr[off + j]? := by
  simp [World.cell?, h]
theorem getElem?_part {ds m : List Value} {off n : Nat} (h : m = (ds.drop off).take n) {j : Nat} {v : Value} (hj : m[j]? = some v) : ds[off + j]? = some v := by
  subst h
  rw [List.getElem?_take] at hj
  split at hj
  · rwa [List.getElem?_drop] at hj
  · cases hj
/-- What is read at a place. -/
theorem read_ok (hW : WAg base w0 T ρ w) {id off n : Nat} {l : List Value} (h : readBlk (T id) off n = some l) :
    l.length = n ∧ ∃ m, ceqs l m ∧ ∀ (j : Nat) v, m[j]? = some v → w.cell? ⟨ρ.b id, ρ.o id + off + j, none⟩ = some v := by
  cases hb : T id with
  | none => rw [hb] at h; simp [readBlk] at h
  | some b =>
    rw [hb] at h
    have hag := hW.blk id b hb
    cases b with
    | c own ty cs =>
      simp only [readBlk] at h
      obtain ⟨h1, h2, h3⟩ := part_eq h
      obtain ⟨arr, ty', fr, ds, hh, hc, hg, _⟩ := hag
      refine ⟨h3, (ds.drop off).take n, h2 ▸ (hc.drop off).take n, fun j v hj => ?_⟩
      rw [Nat.add_assoc, cell_at hh]
      exact hg _ _ (getElem?_part rfl hj)
    | r ty esz m xs =>
      simp only [readBlk] at h
      obtain ⟨h1, h2, h3⟩ := part_eq h
      obtain ⟨ys, hown, hc, hlink⟩ := hag
      refine ⟨h3, (ys.drop off).take n, h2 ▸ (hc.drop off).take n, fun j v hj => ?_⟩
      have hy := getElem?_part rfl hj
      rcases hown.2 with ⟨e, _⟩ | ⟨g, cap, cur, e, _, hgg, _⟩
      · have : ys = [] := by
          have := hown.1
          rename_i hm
          subst hm
          exact List.eq_nil_of_length_eq_zero (by simpa using this)
        subst this
        simp at hy
      · obtain ⟨e1, e2⟩ := hlink _ _ _ e
        have := hown.cells (g := g) (by simp [e, Value.ownBlock]) (off + j) v hy
        rw [Addr.add_lit] at this
        rw [e1, e2]
        simpa [Nat.add_assoc] using this
theorem asVal_den {i : TI} {l m : List Value} {v : AV} (hv : asVal i l = some v) (hc : ceqs l m) :
    v.lt nid ∧ ((i.agg = true ∧ v.den ρ (.agg ⟨m⟩)) ∨ (i.agg = false ∧ ∃ c, m = [c] ∧ v.den ρ c)) := by
  unfold asVal at hv
  split at hv
  · rename_i e
    cases hv
    exact ⟨trivial, .inl ⟨e, veq.agg hc⟩⟩
  · rename_i e
    split at hv
    · rename_i c
      cases hv
      cases m with
      | nil => exact hc.elim
      | cons c' m =>
        cases m with
        | cons _ _ => exact hc.2.elim
        | nil => exact ⟨trivial, .inr ⟨e, c', rfl, veq.of_ceq hc.1⟩⟩
    · cases hv
theorem run_load_ok {t : Nat} {i : TI} (hi : i.ok P t) {b off : Nat} {l m : List Value} {v : AV} (hv : asVal i l = some v) (hn : l.length = i.size) (hc : ceqs l m)
    (hcell : ∀ (j : Nat) v, m[j]? = some v → w.cell? ⟨b, off + j, none⟩ = some v) : ∃ y, (loadVar t ⟨b, off, none⟩).run P w = .ok y w ∧ v.den ρ y := by
  obtain ⟨_, hd⟩ := asVal_den (nid := 0) (ρ := ρ) hv hc
  have hm : m.length = i.size := by rw [← hc.length, hn]
  rcases hd with ⟨ha, hd⟩ | ⟨ha, c, rfl, hd⟩
  · refine ⟨.agg ⟨m⟩, ?_, hd⟩
    have hl := run_loadCells_list (P := P) w ⟨b, off, none⟩ m (fun j u hu => by rw [Addr.add_lit]; exact hcell j u hu)
    rw [hm] at hl
    simp [loadVar, run_isAgg hi, ha, run_size hi, hl]
  · refine ⟨c, ?_, hd⟩
    have := hcell 0 c rfl
    simp only [Nat.add_zero] at this
    simp [loadVar, run_isAgg hi, ha, this]
theorem payload_den {x : AV} {v y : Value} (h : payload x = some v) (hd : x.den ρ y) : veq v y := by
  cases x <;> simp [payload] at h <;> subst h
  · obtain ⟨rfl, h1⟩ := hd; exact veq.of_ceq (ceq.refl h1)
  · exact hd
theorem cellsOf_den {v y : Value} {cs : List Value} (h : cellsOf v = some cs) (hd : veq v y) : ∃ ds, y.cells = ⟨ds⟩ ∧ ceqs cs ds := by
  refine ⟨y.cells.toList, rfl, ?_⟩
  have := hd.cells
  cases v <;> simp [cellsOf] at h <;> subst h <;> simpa [Value.cells] using this
theorem cellsAV_den {x : AV} {y : Value} {cs : List Value} (h : cellsAV x = some cs) (hd : x.den ρ y) : ∃ ds, y.cells = ⟨ds⟩ ∧ ceqs cs ds := by
  unfold cellsAV at h
  split at h
  · rename_i v hv; exact cellsOf_den h (payload_den hv hd)
  · cases h
theorem intOfAV_den {x : AV} {y : Value} {n : Int} (h : intOfAV x = some n) (hd : x.den ρ y) : ∃ k, y = .int k n := by
  unfold intOfAV at h
  split at h
  · rename_i k m hv
    cases h
    exact ⟨k, (payload_den hv hd).int⟩
  · cases h

/-! ### Composite values -/
/-- Parts and the operands' values. -/
def partsAg (ρ : Rho) : List (Nat × AV) → List (Nat × Value) → Prop
  | [], [] => True
  | (i, x) :: l, (j, y) :: m => i = j ∧ x.den ρ y ∧ partsAg ρ l m
  | _, _ => False
theorem over_set {cells : List Value} {o : Nat} {x : Value} {xs : List Value} (h : o < cells.length) : over (cells.set o x) (o + 1) xs = over cells o (x :: xs) := by
  have e : (cells.set o x).take (o + 1) = cells.take o ++ [x] := by
    rw [List.take_succ_eq_append_getElem (by simpa using h)]
    simp [List.take_set]
    rw [List.set_eq_of_length_le (by simp; omega)]
  unfold over
  rw [e]
  simp [List.drop_set, Nat.add_comm, Nat.add_left_comm]
theorem foldl_over (off : Nat) : ∀ (xs : List Value) (k : Nat) (cells : Array Value), off + k + xs.length ≤ cells.size →
    ((xs.zipIdx k).foldl (fun (cs : Array Value) (p : Value × Nat) => cs.setIfInBounds (off + p.2) p.1) cells) = (over cells.toList (off + k) xs).toArray
  | [], k, cells, _ => by simp [over]
  | x :: xs, k, cells, hk => by
    simp only [List.length_cons] at hk
    rw [List.zipIdx_cons, List.foldl_cons, foldl_over off xs (k + 1) _ (by simp; omega)]
    congr 1
    rw [Array.toList_setIfInBounds, ← Nat.add_assoc]
    exact over_set (by simp; omega)
theorem fill_ok {place : Nat → Option (Nat × Nat)} : ∀ {ps : List (Nat × AV)} {qs : List (Nat × Value)} {cells ds l : List Value}, fillL place cells ps = some l → partsAg ρ ps qs → ceqs cells ds →
    ∃ m, Instr.fill place ⟨ds⟩ qs = some ⟨m⟩ ∧ ceqs l m
  | [], [], cells, ds, l, h, _, hc => by cases h; exact ⟨ds, rfl, hc⟩
  | (i, x) :: ps, (j, y) :: qs, cells, ds, l, h, hp, hc => by
    obtain ⟨rfl, hd, hp⟩ := hp
    simp only [fillL] at h
    split at h
    · cases h
    · rename_i off size hpl
      split at h
      · cases h
      · rename_i xs hx
        split at h
        · cases h
        · rename_i hsz
          have hsz := Nat.eq_of_beq_eq_true hsz
          split at h
          · cases h
          · rename_i l' hl
            obtain ⟨h1, rfl⟩ := lay_eq hl
            obtain ⟨ys, hy, hxy⟩ := cellsAV_den hx hd
            have hlen := hc.length
            have hxl := hxy.length
            obtain ⟨m, hm, hlm⟩ := fill_ok h hp (hc.over hxy off)
            refine ⟨m, ?_, hlm⟩
            simp only [Instr.fill, hpl, hy]
            rw [if_neg (by simp; omega)]
            rw [← hm]
            congr 1
            have := foldl_over off ys 0 ⟨ds⟩ (by simp; omega)
            simp only [Nat.add_zero] at this
            rw [← Array.foldl_toList]
            simpa using this
  | [], _ :: _, _, _, _, _, hp, _ => hp.elim
  | _ :: _, [], _, _, _, _, hp, _ => hp.elim
end
end Go.Sx
