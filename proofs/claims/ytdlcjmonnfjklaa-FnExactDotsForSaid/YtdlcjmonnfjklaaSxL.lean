/-
  That one symbolic operation is what the model does: the whole.
-/
import Derived.Test.YtdlcjmonnfjklaaSxK
set_option linter.unusedSimpArgs false
set_option linter.unusedVariables false
namespace Go.Sx
open Go.RowKit (Below)
section
variable {P : Program} {ti : List (Nat × TI)} {C : List (Nat × Ctr)} {base : Nat} {w0 w : World} {T : Nat → Option Blk} {ρ : Rho} {nid : Nat}

theorem run_indexAt (w : World) {t : Nat} {d : TypeDesc} (hu : (underlying t).run P w = .ok d w) {e len : Nat} {x : Value} {a : Addr} (hx : (d = .array len e ∧ x = .pointer (some a)) ∨ ∃ cap, d = .slice e ∧ x = .slice (some a) len cap) {k : IntKind} {n : Int} (h0 : 0 ≤ n) (h1 : n < len) {ie : TI} (he : ie.ok P e) :
    (Instr.indexAt t x (.int k n)).run P w = .ok (.pointer (some (a.add (n.toNat * ie.size)))) w := by
  rcases hx with ⟨rfl, rfl⟩ | ⟨cap, rfl, rfl⟩
  · simp [Instr.indexAt, asIntOf, hu, Instr.sureAddr, h0, h1, run_size he]
  · simp [Instr.indexAt, asIntOf, hu, h0, h1, run_size he]
theorem indexAddr_y (hti : TIok P ti) (hW : WAg base w0 T ρ w) (hT : ∀ id b, T id = some b → id < nid) {sr : Operand → Option SV} {ev : Operand → Value} (hk : Knows ρ nid sr ev) {o : Oper} {t : Nat} {x ix : Operand} (ho : o.op = .indexAddr t x ix)
    {i : TI} (hi : look ti t = some i) {u j : AV} (hv : arOf sr x = some u) (hj : arOf sr ix = some j) {n : Int} (hn : intOfAV j = some n) {len e id off : Nat}
    (hu : (i.d = .arr len e ∧ u = .p id off) ∨ (∃ cap, i.d = .sl e ∧ u = .s id off len cap) ∨ (off = 0 ∧ i.d = .sl e ∧ u = .r id ∧ ∃ ty esz xs, T id = some (.r ty esz len xs))) (h0 : 0 ≤ n) (h1 : n < len) {ie : TI} (he : look ti e = some ie) :
    Yields P base w0 T ρ nid w ev o (.a (.p id (off + n.toNat * ie.size)), []) := by
  obtain ⟨d, hu1, hu2, hu3⟩ := run_und (hti t i hi) w
  obtain ⟨k, hkv⟩ := intOfAV_den hn (arOf_ok hk ix _ hj).2
  have hx := arOf_ok hk x _ hv
  have hid : id < nid ∧ ((d = .array len e ∧ ev x = .pointer (some ⟨ρ.b id, ρ.o id + off, none⟩)) ∨ ∃ cap, d = .slice e ∧ ev x = .slice (some ⟨ρ.b id, ρ.o id + off, none⟩) len cap) := by
    rcases hu with ⟨hd, rfl⟩ | ⟨cap, hd, rfl⟩ | ⟨rfl, hd, rfl, ty, esz, xs, hb⟩
    · rw [hd] at hu3; exact ⟨hx.1, .inl ⟨hu3, hx.2⟩⟩
    · rw [hd] at hu3
      rcases hx.2 with h | ⟨h, _⟩
      · exact ⟨hx.1, .inr ⟨cap, hu3, h⟩⟩
      · omega
    · rw [hd] at hu3
      obtain ⟨ys, hown, hc, hlink⟩ := hW.blk id _ hb
      have hxv : ev x = ρ.s id := hx.2
      rcases hown.2 with ⟨_, h⟩ | ⟨g, cap, cur, e1, _⟩
      · omega
      · obtain ⟨e2, e3⟩ := hlink _ _ _ e1
        exact ⟨hx.1, .inr ⟨cap, hu3, by rw [hxv, e1, e2, e3]⟩⟩
  have hr := run_indexAt (P := P) w hu1 hid.2 (k := k) h0 h1 (hti e ie he)
  rw [Addr.add_lit] at hr
  refine ⟨.pointer (some ⟨ρ.b id, ρ.o id + (off + n.toNat * ie.size), none⟩), w, .inl ?_, Fit.pure hW hT (v := .p id (off + n.toNat * ie.size)) rfl hid.1 0⟩
  simp only [execOp, ho, hkv]
  rw [Sem.run_bind, hr]
  simp [Nat.add_assoc]

theorem bound_ok {len : Nat} {x : Option AV} {dflt b : Nat} (h : bound len x dflt = some b) : (x = none ∧ b = dflt) ∨ ∃ v, x = some v ∧ intOfAV v = some (b : Int) ∧ b ≤ len := by
  unfold bound at h
  split at h
  · cases h; exact .inl ⟨rfl, rfl⟩
  · rename_i v
    split at h
    · rename_i i hi
      split at h
      · rename_i hc
        simp only [Bool.and_eq_true, decide_eq_true_eq] at hc
        cases h
        refine .inr ⟨v, rfl, ?_, by omega⟩
        rw [hi]; congr 1; omega
      · cases h
    · cases h
theorem optAR_ok {sr : Operand → Option SV} {ev : Operand → Value} (hk : Knows ρ nid sr ev) {lo : Option Operand} {l : Option AV} (h : optAR (arOf sr) lo = some l) : (lo = none ∧ l = none) ∨ ∃ x v, lo = some x ∧ l = some v ∧ v.den ρ (ev x) := by
  unfold optAR at h
  split at h
  · cases h; exact .inl ⟨rfl, rfl⟩
  · rename_i x
    split at h
    · rename_i v hv
      cases h
      exact .inr ⟨x, v, rfl, rfl, (arOf_ok hk x v hv).2⟩
    · cases h
theorem run_bounds (w : World) {isS : Bool} {len cap : Nat} {ev : Operand → Value} {lo hi : Option Operand} {l h : Nat} (hh : (hi = none ∧ h = len) ∨ ∃ x k, hi = some x ∧ ev x = .int k h ∧ h ≤ cap) (hl : (lo = none ∧ l = 0) ∨ ∃ x k, lo = some x ∧ ev x = .int k l ∧ l ≤ h) :
    (Instr.sliceBounds isS len cap (lo.map ev) (hi.map ev) none).run P w = .ok (l, h, cap) w := by
  rcases hh with ⟨rfl, rfl⟩ | ⟨x, k, rfl, hx, hle⟩ <;> rcases hl with ⟨rfl, rfl⟩ | ⟨y, k', rfl, hy, hle'⟩
  · simp [Instr.sliceBounds]
  · simp [Instr.sliceBounds, Instr.sliceBound, asIntOf, hy]; omega
  · simp [Instr.sliceBounds, Instr.sliceBound, asIntOf, hx]; omega
  · simp [Instr.sliceBounds, Instr.sliceBound, asIntOf, hx, hy]
    rw [if_pos (by omega)]
    simp
    omega
theorem slice_y (hti : TIok P ti) (hW : WAg base w0 T ρ w) (hT : ∀ id b, T id = some b → id < nid) {sr : Operand → Option SV} {ev : Operand → Value} (hk : Knows ρ nid sr ev) {o : Oper} {t : Nat} {x : Operand} {lo hi : Option Operand} (ho : o.op = .slice t x lo hi none)
    {i : TI} (hti' : look ti t = some i) {u : AV} (hv : arOf sr x = some u) {lv hv' : Option AV} (hl : optAR (arOf sr) lo = some lv) (hh : optAR (arOf sr) hi = some hv') {e id off cap len h l : Nat}
    (hu : (i.d = .arr cap e ∧ u = .p id off ∧ len = cap) ∨ (i.d = .sl e ∧ u = .s id off len cap ∧ 0 < len)) {ie : TI} (he : look ti e = some ie) (hb : bound cap hv' len = some h) (hb' : bound h lv 0 = some l) :
    Yields P base w0 T ρ nid w ev o (.a (.s id (match Nat.beq cap l with | true => off | false => off + l * ie.size) (h - l) (cap - l)), []) := by
  obtain ⟨d, hu1, hu2, hu3⟩ := run_und (hti t i hti') w
  have hx := arOf_ok hk x _ hv
  have hhi : (hi = none ∧ h = len) ∨ ∃ x k, hi = some x ∧ ev x = .int k h ∧ h ≤ cap := by
    rcases optAR_ok hk hh with ⟨rfl, rfl⟩ | ⟨y, v, rfl, rfl, hd⟩
    · rcases bound_ok hb with ⟨_, rfl⟩ | ⟨v, hv, _⟩
      · exact .inl ⟨rfl, rfl⟩
      · cases hv
    · rcases bound_ok hb with ⟨hv, _⟩ | ⟨v', hv, hn, hle⟩
      · cases hv
      · cases hv
        obtain ⟨k, hk⟩ := intOfAV_den hn hd
        exact .inr ⟨y, k, rfl, hk, hle⟩
  have hlo : (lo = none ∧ l = 0) ∨ ∃ x k, lo = some x ∧ ev x = .int k l ∧ l ≤ h := by
    rcases optAR_ok hk hl with ⟨rfl, rfl⟩ | ⟨y, v, rfl, rfl, hd⟩
    · rcases bound_ok hb' with ⟨_, rfl⟩ | ⟨v, hv, _⟩
      · exact .inl ⟨rfl, rfl⟩
      · cases hv
    · rcases bound_ok hb' with ⟨hv, _⟩ | ⟨v', hv, hn, hle⟩
      · cases hv
      · cases hv
        obtain ⟨k, hk⟩ := intOfAV_den hn hd
        exact .inr ⟨y, k, rfl, hk, hle⟩
  have hoff : ∀ (b o : Nat), (if cap = l then (⟨b, o, none⟩ : Addr) else (⟨b, o, none⟩ : Addr).add (l * ie.size)) = ⟨b, (match Nat.beq cap l with | true => o | false => o + l * ie.size), none⟩ := fun b o => by
    by_cases hc : cap = l
    · rw [if_pos hc, hc, beq_self]
    · rw [if_neg hc, beq_ne hc, Addr.add_lit]
  have hplus : ∀ (a : Nat), (match Nat.beq cap l with | true => a + off | false => a + off + l * ie.size) = a + (match Nat.beq cap l with | true => off | false => off + l * ie.size) := fun a => by
    cases Nat.beq cap l <;> simp [Nat.add_assoc]
  have hid : id < nid := by
    rcases hu with ⟨_, rfl, _⟩ | ⟨_, rfl, _⟩ <;> exact hx.1
  refine ⟨.slice (some ⟨ρ.b id, ρ.o id + (match Nat.beq cap l with | true => off | false => off + l * ie.size), none⟩) (h - l) (cap - l), w, .inl ?_, Fit.pure hW hT (v := .s id _ _ _) (.inl rfl) hid 0⟩
  rcases hu with ⟨hd, rfl, rfl⟩ | ⟨hd, rfl, hpos⟩
  · rw [hd] at hu3
    have hu3 : d = .array len e := hu3
    subst hu3
    have hxv : ev x = .pointer (some ⟨ρ.b id, ρ.o id + off, none⟩) := hx.2
    have hb := run_bounds (P := P) w (isS := false) (ev := ev) hhi hlo
    simp only [execOp, ho, Instr.sliceAt, Option.map_none]
    simp [hu1, hxv, Instr.sureAddr, hb, run_size (hti e ie he), hoff, hplus]
  · rw [hd] at hu3
    have hu3 : d = .slice e := hu3
    subst hu3
    rcases hx.2 with hxv | ⟨h0, _⟩
    · have hb := run_bounds (P := P) w (isS := true) (ev := ev) hhi hlo
      simp only [execOp, ho, Instr.sliceAt, Option.map_none]
      have hmap : (if cap = l then (some ⟨ρ.b id, ρ.o id + off, none⟩ : Option Addr) else (some (⟨ρ.b id, ρ.o id + off, none⟩ : Addr)).map (·.add (l * ie.size))) = some ⟨ρ.b id, ρ.o id + (match Nat.beq cap l with | true => off | false => off + l * ie.size), none⟩ := by
        rw [← hplus, ← hoff]
        split <;> rfl
      simp [hu1, hxv, Instr.slice, hb, run_size (hti e ie he)]
      simpa using hmap
    · omega
end
end Go.Sx
