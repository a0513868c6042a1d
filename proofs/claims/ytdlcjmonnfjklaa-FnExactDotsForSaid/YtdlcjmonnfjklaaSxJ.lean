/-
  That one symbolic operation is what the model does: the whole.
-/
import Derived.Test.YtdlcjmonnfjklaaSxI
set_option linter.unusedSimpArgs false
set_option linter.unusedVariables false
namespace Go.Sx
open Go.RowKit (Below)
section
variable {P : Program} {ti : List (Nat × TI)} {C : List (Nat × Ctr)} {base : Nat} {w0 w : World} {T : Nat → Option Blk} {ρ : Rho} {nid : Nat}

/-- What is known of the operands. -/
def Knows (ρ : Rho) (nid : Nat) (sr : Operand → Option SV) (ev : Operand → Value) : Prop := ∀ x v, sr x = some v → v.plain → v.lt nid ∧ v.den ρ #[] (ev x)
theorem arOf_ok {sr : Operand → Option SV} {ev : Operand → Value} (h : Knows ρ nid sr ev) : ∀ x v, arOf sr x = some v → v.lt nid ∧ v.den ρ (ev x) := by
  intro x v hv
  unfold arOf at hv
  split at hv
  · rename_i u hu; cases hv; exact h x _ hu trivial
  · cases hv
/-- An operation that yields a value. -/
def Yields (P : Program) (base : Nat) (w0 : World) (T : Nat → Option Blk) (ρ : Rho) (nid : Nat) (w : World) (ev : Operand → Value) (o : Oper) (r : SV × List (Nat × Option Blk)) : Prop :=
  ∃ y w', ((execOp ev o).run P w = .ok (.value y) w' ∨ ((execOp ev o).run P w = .ok .skip w' ∧ y = undef)) ∧ Fit base w0 T ρ nid r y w'

theorem drewN_below (w : World) (n : Nat) : Below w.heap.size w (w.drewN n) := ⟨rfl, rfl, rfl, Nat.le_refl _, fun _ _ => rfl⟩
theorem Fit.pure (hW : WAg base w0 T ρ w) (hT : ∀ id b, T id = some b → id < nid) {v : AV} {y : Value} (hd : v.den ρ y) (hl : v.lt nid) (n : Nat) : Fit base w0 T ρ nid (.a v, []) y (w.drewN n) :=
  Fit.same (hW.drewN n) hT hd hl trivial
theorem Fit.alloc (hW : WAg base w0 T ρ w) (hT : ∀ id b, T id = some b → id < nid) (ty : Nat) {cs ds : List Value} (hc : ceqs cs ds) {v : AV} {y : Value} (hv : ∀ ρ', ρ'.b nid = w.heap.size → ρ'.o nid = 0 → v.den ρ' y) (hl : v.lt (nid + 8)) :
    Fit base w0 T ρ nid (.a v, [(nid, some (.c true ty cs))]) y { w with heap := w.heap.push (.cells ⟨ds⟩ ty) } :=
  ⟨_, hv _ (by simp [Rho.set]) (by simp [Rho.set]), hW.alloc hT ty hc, Rho.like_set ρ _ _ _ (Nat.le_refl _), hl, trivial, fun id b h => by
    simp only [setT] at h
    split at h
    · rename_i e; have := Nat.eq_of_beq_eq_true e; omega
    · have := hT id b h; omega⟩

theorem alloc_y (hti : TIok P ti) (hW : WAg base w0 T ρ w) (hT : ∀ id b, T id = some b → id < nid) {ev : Operand → Value} {o : Oper} {t : Nat} (ho : o.op = .alloc t) {i : TI} (hi : look ti t = some i) :
    Yields P base w0 T ρ nid w ev o (.a (.p nid 0), [(nid, some (.c true t i.zero))]) := by
  obtain ⟨z, h1, h2, _⟩ := run_zero (hti t i hi) w
  refine ⟨.pointer (some ⟨w.heap.size, 0, none⟩), _, .inl ?_, Fit.alloc hW hT t (ceqs.refl (hti t i hi).one) (fun ρ' h1 h2 => by simp [AV.den, h1, h2]) (by show nid < nid + 8; omega)⟩
  simp [execOp, ho, Instr.alloc, h1, newVar, newRow, h2]
theorem box_y (hW : WAg base w0 T ρ w) (hT : ∀ id b, T id = some b → id < nid) {sr : Operand → Option SV} {ev : Operand → Value} (hk : Knows ρ nid sr ev) {o : Oper} {t : Nat} {x : Operand} (ho : o.op = .box t x)
    {v : AV} (hv : arOf sr x = some v) {cs : List Value} (hc : cellsAV v = some cs) : Yields P base w0 T ρ nid w ev o (.a (.p nid 0), [(nid, some (.c true t cs))]) := by
  obtain ⟨ds, h1, h2⟩ := cellsAV_den hc (arOf_ok hk x v hv).2
  refine ⟨.pointer (some ⟨w.heap.size, 0, none⟩), _, .inl ?_, Fit.alloc hW hT t h2 (fun ρ' h1 h2 => by simp [AV.den, h1, h2]) (by show nid < nid + 8; omega)⟩
  simp [execOp, ho, Instr.box, newVar, newRow, h1]
theorem load_y (hti : TIok P ti) (hW : WAg base w0 T ρ w) (hT : ∀ id b, T id = some b → id < nid) {sr : Operand → Option SV} {ev : Operand → Value} (hk : Knows ρ nid sr ev) {o : Oper} {t : Nat} {x : Operand} (ho : o.op = .load t x)
    {i : TI} (hi : look ti t = some i) {id off : Nat} (hv : arOf sr x = some (.p id off)) {l : List Value} (hl : readBlk (T id) off i.size = some l) {v : AV} (ha : asVal i l = some v) : Yields P base w0 T ρ nid w ev o (.a v, []) := by
  obtain ⟨hn, m, hc, hcell⟩ := read_ok hW hl
  have hx : ev x = .pointer (some ⟨ρ.b id, ρ.o id + off, none⟩) := (arOf_ok hk x _ hv).2
  obtain ⟨y, h1, h2⟩ := run_load_ok (ρ := ρ) (hti t i hi) ha hn hc hcell
  refine ⟨y, w, .inl ?_, Fit.pure hW hT h2 (asVal_den (nid := nid) (ρ := ρ) ha hc).1 0⟩
  simp [execOp, ho, Instr.loadAt, hx, Instr.sureAddr, h1]
theorem store_y (hti : TIok P ti) (hW : WAg base w0 T ρ w) (hT : ∀ id b, T id = some b → id < nid) {sr : Operand → Option SV} {ev : Operand → Value} (hk : Knows ρ nid sr ev) {o : Oper} {t : Nat} {x y : Operand} (ho : o.op = .store t x y)
    {i : TI} (hi : look ti t = some i) {id off : Nat} (hv : arOf sr x = some (.p id off)) {u : AV} (hu : arOf sr y = some u) {xs : List Value} (hx : cellsAV u = some xs) (hlen : xs.length = i.size) {ty : Nat} {cs l : List Value} (hb : T id = some (.c true ty cs)) (hl : lay cs off xs = some l) :
    Yields P base w0 T ρ nid w ev o (.u, [(id, some (.c true ty l))]) := by
  obtain ⟨ys, h1, h2⟩ := cellsAV_den hx (arOf_ok hk y u hu).2
  have hxv : ev x = .pointer (some ⟨ρ.b id, ρ.o id + off, none⟩) := (arOf_ok hk x _ hv).2
  obtain ⟨h3, rfl⟩ := lay_eq hl
  obtain ⟨arr, ty', fr, ds, hh, hc, hg, hown⟩ := hW.blk id _ hb
  obtain ⟨rfl, rfl, hoo, rfl, hle⟩ := hown rfl
  have hcl := hc.length
  have hyl := h2.length
  have hfit : off + 0 + ys.length ≤ (⟨ds⟩ : Array Value).size := by show off + 0 + ys.length ≤ ds.length; omega
  have hst := run_storeCells_at P (ρ.b id) off ty' ys 0 ⟨ds⟩ w hh hfit h2.one
  have hsz : (ev y).cells.size = i.size := by rw [h1]; show ys.length = i.size; omega
  refine ⟨undef, _, .inr ⟨?_, rfl⟩, ρ, rfl, hW.write hb (hc.over h2 off), Rho.like.refl _ _, trivial, trivial, fun j b hj => ?_⟩
  · have hsv : (storeVar t ⟨ρ.b id, off, none⟩ (ev y)).run P w = .ok () (w.setRow (ρ.b id) ⟨over ds off ys⟩) := by
      unfold storeVar
      rw [Sem.run_bind, run_size (hti t i hi)]
      simp only [Result.andThen_ok]
      rw [if_neg (fun h => h hsz), h1]
      simp only [Nat.add_zero] at hst
      exact hst
    simp [execOp, ho, Instr.storeAt, hxv, Instr.sureAddr, hoo, hsv]
  · simp only [setT] at hj
    split at hj
    · rename_i e; have := Nat.eq_of_beq_eq_true e; have := hT id _ hb; omega
    · have := hT j b hj; omega
theorem bin_y (hti : TIok P ti) (hW : WAg base w0 T ρ w) (hT : ∀ id b, T id = some b → id < nid) {sr : Operand → Option SV} {ev : Operand → Value} (hk : Knows ρ nid sr ev) {o : Oper} {op : BinOp} {t t' : Nat} {x y : Operand} (ho : o.op = .binOp op t x y t')
    {i : TI} (hi : look ti t = some i) {u u' : AV} (hu : arOf sr x = some u) (hu' : arOf sr y = some u') {a b v : Value} (ha : payload u = some a) (hb : payload u' = some b) (hv : valBin op i.d a b = some v) {z : AV} (hz : z = avK v ∨ z = .v v) : Yields P base w0 T ρ nid w ev o (.a z, []) := by
  obtain ⟨ds, h1, _, h2⟩ := (hti t i hi).und
  obtain ⟨r, n, hr, hvr⟩ := valBin_ok (P := P) (w := w) hv h1 h2 (payload_den ha (arOf_ok hk x u hu).2) (payload_den hb (arOf_ok hk y u' hu').2) x y
  refine ⟨r, _, .inl ?_, Fit.pure hW hT ?_ ?_ n⟩
  · simp only [execOp, ho]
    rw [Sem.run_bind, hr]
    rfl
  · rcases hz with rfl | rfl
    · exact avK_den hvr
    · exact hvr
  · rcases hz with rfl | rfl
    · exact avK_lt _ _
    · trivial
theorem un_y (hW : WAg base w0 T ρ w) (hT : ∀ id b, T id = some b → id < nid) {sr : Operand → Option SV} {ev : Operand → Value} (hk : Knows ρ nid sr ev) {o : Oper} {op : UnOp} {t : Nat} {x : Operand} (ho : o.op = .unOp op t x)
    {u : AV} (hu : arOf sr x = some u) {a v : Value} (ha : payload u = some a) (hv : valUn op a = some v) {z : AV} (hz : z = avK v ∨ z = .v v) : Yields P base w0 T ρ nid w ev o (.a z, []) := by
  obtain ⟨r, hr, hvr⟩ := valUn_ok (P := P) (w := w) hv (payload_den ha (arOf_ok hk x u hu).2)
  refine ⟨r, _, .inl ?_, Fit.pure hW hT ?_ ?_ 0⟩
  · simp only [execOp, ho]
    rw [Sem.run_bind, hr]
    rfl
  · rcases hz with rfl | rfl
    · exact avK_den hvr
    · exact hvr
  · rcases hz with rfl | rfl
    · exact avK_lt _ _
    · trivial
theorem conv_y (hti : TIok P ti) (hW : WAg base w0 T ρ w) (hT : ∀ id b, T id = some b → id < nid) {sr : Operand → Option SV} {ev : Operand → Value} (hk : Knows ρ nid sr ev) {o : Oper} {s d : Nat} {x : Operand} (ho : o.op = .convert s d x)
    {i j : TI} (hi : look ti s = some i) (hj : look ti d = some j) {u : AV} (hu : arOf sr x = some u) {a v : Value} (ha : payload u = some a) (hv : valConv i.d j.d a = some v) {z : AV} (hz : z = avK v ∨ z = .v v) : Yields P base w0 T ρ nid w ev o (.a z, []) := by
  obtain ⟨ds, h1, _, _⟩ := (hti s i hi).und
  obtain ⟨dd, h2, _, h3⟩ := (hti d j hj).und
  obtain ⟨r, n, hr, hvr⟩ := valConv_ok (P := P) (w := w) hv h1 h2 h3 (payload_den ha (arOf_ok hk x u hu).2)
  refine ⟨r, _, .inl ?_, Fit.pure hW hT ?_ ?_ n⟩
  · simp only [execOp, ho]
    rw [Sem.run_bind, hr]
    rfl
  · rcases hz with rfl | rfl
    · exact avK_den hvr
    · exact hvr
  · rcases hz with rfl | rfl
    · exact avK_lt _ _
    · trivial
end
end Go.Sx
