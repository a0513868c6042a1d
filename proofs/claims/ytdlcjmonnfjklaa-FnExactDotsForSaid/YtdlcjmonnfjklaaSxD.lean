/-
  That one symbolic operation is what the model does: first the worlds.
-/
import Derived.Test.YtdlcjmonnfjklaaSxC
set_option linter.unusedSimpArgs false
set_option linter.unusedVariables false
namespace Go.Sx
open Go.RowKit (Below)

theorem beq_ne {a b : Nat} (h : a ≠ b) : Nat.beq a b = false := Bool.eq_false_iff.2 fun e => h (Nat.eq_of_beq_eq_true e)
theorem beq_self (a : Nat) : Nat.beq a a = true := Nat.beq_refl a
def aggD : TypeDesc → Bool
  | .struct _ | .array .. => true
  | _ => false
def TD.ok (e : TD) (d : TypeDesc) : Prop :=
  match e with
  | .arr n t => d = .array n t
  | .st fs => ∃ fields, d = .struct fields ∧ fields.toList.map (fun f => (f.offset, f.type)) = fs
  | .sl t => d = .slice t
  | .ik k => d = .int k
  | .fk k => d = .float k
  | .bl => d = .bool
  | .str => d = .string
  | .ptr t => d = .pointer t
  | .ot => True
structure TI.ok (P : Program) (t : Nat) (i : TI) : Prop where
  inf : ∃ inf, P.info? t = some inf ∧ inf.size = i.size ∧ inf.bytes = i.bytes ∧ ∃ z, inf.zero = some z ∧ z.cells = ⟨i.zero⟩ ∧ (i.agg = true → z = .agg ⟨i.zero⟩)
  und : ∃ d, P.underlying t = some d ∧ aggD d = i.agg ∧ i.d.ok d
  one : ∀ c ∈ i.zero, okc c = true
def TIok (P : Program) (ti : List (Nat × TI)) : Prop := ∀ t i, look ti t = some i → i.ok P t

/-- The world behind some new blocks, with what was known of old ones. -/
theorem WAg.mono {base : Nat} {w0 w w' : World} {T : Nat → Option Blk} {ρ : Rho} (h : WAg base w0 T ρ w) (hb : Below w.heap.size w w') : WAg base w0 T ρ w' := by
  refine ⟨fun id b hT => ?_, h.sep, h.below.trans (hb.mono h.le), Nat.le_trans h.le hb.size⟩
  have := h.blk id b hT
  cases b with
  | c own ty cs =>
    obtain ⟨arr, ty', fr, ds, hh, h2⟩ := this
    exact ⟨arr, ty', fr, ds, by rw [hb.block _ (Array.getElem?_eq_some_iff.1 hh).1]; exact hh, h2⟩
  | r ty esz n xs =>
    obtain ⟨ys, hh, h2⟩ := this
    refine ⟨ys, ?_, h2⟩
    refine ⟨hh.1, ?_⟩
    rcases hh.2 with h3 | ⟨g, cap, cur, e, hg, hgg, rest⟩
    · exact .inl h3
    · exact .inr ⟨g, cap, cur, e, hg, by rw [hb.block _ (Array.getElem?_eq_some_iff.1 hgg).1]; exact hgg, rest⟩
theorem WAg.drewN {base : Nat} {w0 w : World} {T : Nat → Option Blk} {ρ : Rho} (h : WAg base w0 T ρ w) (n : Nat) : WAg base w0 T ρ (w.drewN n) :=
  h.mono ⟨rfl, rfl, rfl, Nat.le_refl _, fun _ _ => rfl⟩
/-- Less is known. -/
theorem WAg.sub {base : Nat} {w0 w : World} {T T' : Nat → Option Blk} {ρ : Rho} (h : WAg base w0 T ρ w) (hs : ∀ id b, T' id = some b → T id = some b) : WAg base w0 T' ρ w :=
  ⟨fun id b hT => h.blk id b (hs id b hT), fun i j bi bj hij hi hj => h.sep i j bi bj hij (hs i bi hi) (hs j bj hj), h.below, h.le⟩
def setT (T : Nat → Option Blk) : List (Nat × Option Blk) → Nat → Option Blk
  | [] => T
  | (i, b) :: l => setT (fun j => match Nat.beq i j with | true => b | false => T j) l
def Rho.set (ρ : Rho) (id b o : Nat) (s : Value) : Rho :=
  { b := fun i => if i = id then b else ρ.b i, o := fun i => if i = id then o else ρ.o i, s := fun i => if i = id then s else ρ.s i }
def Rho.like (n : Nat) (ρ ρ' : Rho) : Prop := ∀ i, i < n → ρ'.b i = ρ.b i ∧ ρ'.o i = ρ.o i ∧ ρ'.s i = ρ.s i
theorem Rho.like.refl (n : Nat) (ρ : Rho) : Rho.like n ρ ρ := fun _ _ => ⟨rfl, rfl, rfl⟩
theorem Rho.like.trans {n : Nat} {a b c : Rho} (h : Rho.like n a b) (h' : Rho.like n b c) : Rho.like n a c :=
  fun i hi => ⟨(h' i hi).1.trans (h i hi).1, (h' i hi).2.1.trans (h i hi).2.1, (h' i hi).2.2.trans (h i hi).2.2⟩
theorem Rho.like.mono {n m : Nat} {a b : Rho} (h : Rho.like n a b) (hm : m ≤ n) : Rho.like m a b := fun i hi => h i (Nat.lt_of_lt_of_le hi hm)
theorem Rho.like_set {n id : Nat} (ρ : Rho) (b o : Nat) (s : Value) (h : n ≤ id) : Rho.like n ρ (ρ.set id b o s) := fun i hi => by
  have : i ≠ id := by omega
  simp [Rho.set, this]
theorem AV.den_like {n : Nat} {ρ ρ' : Rho} (h : Rho.like n ρ ρ') {x : AV} (hx : x.lt n) {y : Value} (hd : x.den ρ y) : x.den ρ' y := by
  cases x with
  | k v => exact hd
  | v v => exact hd
  | p id off => obtain ⟨h1, h2, _⟩ := h id hx; simp only [AV.den] at hd ⊢; rw [h1, h2]; exact hd
  | s id off len cap => obtain ⟨h1, h2, _⟩ := h id hx; simp only [AV.den] at hd ⊢; rw [h1, h2]; exact hd
  | r id => obtain ⟨_, _, h3⟩ := h id hx; simp only [AV.den] at hd ⊢; rw [h3]; exact hd
theorem dens_like {n : Nat} {ρ ρ' : Rho} (h : Rho.like n ρ ρ') : ∀ {l : List AV} {ys : List Value}, (∀ x ∈ l, x.lt n) → dens ρ l ys → dens ρ' l ys
  | [], [], _, _ => trivial
  | x :: l, y :: ys, hl, hd => ⟨AV.den_like h (hl x (by simp)) hd.1, dens_like h (fun z hz => hl z (by simp [hz])) hd.2⟩
  | [], _ :: _, _, hd => hd.elim
  | _ :: _, [], _, hd => hd.elim
theorem SV.den_like {n : Nat} {ρ ρ' : Rho} (h : Rho.like n ρ ρ') {tm : Array Value} {x : SV} (hx : x.lt n) {y : Value} (hd : x.den ρ tm y) : x.den ρ' tm y := by
  cases x with
  | a x => exact AV.den_like h hx hd
  | g t want x => exact fun e => AV.den_like h hx (hd e)
  | tu l => obtain ⟨ys, e, hd⟩ := hd; exact ⟨ys, e, dens_like h hx hd⟩
  | u => exact hd
  | zz => trivial
theorem Blk.ag_like {n : Nat} {ρ ρ' : Rho} (h : Rho.like n ρ ρ') {base : Nat} {w : World} {id : Nat} (hid : id < n) {b : Blk} (hb : b.ag ρ base w id) : b.ag ρ' base w id := by
  obtain ⟨h1, h2, h3⟩ := h id hid
  cases b <;> simp only [Blk.ag] at hb ⊢ <;> rw [h1, h2] <;> first | exact hb | (rw [h3]; exact hb)
theorem Blk.bof_like {n : Nat} {ρ ρ' : Rho} (h : Rho.like n ρ ρ') {id : Nat} (hid : id < n) (b : Blk) : b.bof ρ' id = b.bof ρ id := by
  obtain ⟨h1, h2, h3⟩ := h id hid
  cases b <;> simp only [Blk.bof] <;> first | rw [h1] | rw [h3]
theorem Blk.ag_lt {ρ : Rho} {base : Nat} {w : World} {id : Nat} {b : Blk} (h : b.ag ρ base w id) : ∀ n, b.bof ρ id = some n → n < w.heap.size := by
  intro n hn
  cases b with
  | c own ty cs =>
    obtain ⟨arr, ty', fr, ds, hh, _⟩ := h
    simp only [Blk.bof, Option.some.injEq] at hn
    exact hn ▸ (Array.getElem?_eq_some_iff.1 hh).1
  | r ty esz m xs =>
    obtain ⟨ys, hh, _⟩ := h
    exact (hh.lt n hn).2
/-- New blocks: what is new lies apart from what was. -/
theorem WAg.add {base : Nat} {w0 w w' : World} {T : Nat → Option Blk} {ρ ρ' : Rho} {nid : Nat} {b : Blk} (h : WAg base w0 T ρ w) (hT : ∀ id b, T id = some b → id < nid)
    (hl : Rho.like nid ρ ρ') (hb : Below w.heap.size w w') (hag : b.ag ρ' base w' nid) (hnew : ∀ n, b.bof ρ' nid = some n → w.heap.size ≤ n) :
    WAg base w0 (fun j => match Nat.beq nid j with | true => some b | false => T j) ρ' w' := by
  have h' := h.mono hb
  have hne : ∀ {id b'}, T id = some b' → Nat.beq nid id = false := fun {id b'} hh => by
    have := hT id b' hh
    exact beq_ne (by omega)
  refine ⟨fun id b' hT' => ?_, fun i j bi bj hij hi hj hown n hn hc => ?_, h'.below, h'.le⟩
  · split at hT'
    · rename_i e
      have : nid = id := Nat.eq_of_beq_eq_true e
      subst this
      cases hT'
      exact hag
    · exact Blk.ag_like hl (hT id b' hT') (h'.blk id b' hT')
  · split at hi
    · rename_i ei
      have ei : nid = i := Nat.eq_of_beq_eq_true ei
      subst ei
      cases hi
      split at hj
      · rename_i ej
        exact hij (Nat.eq_of_beq_eq_true ej)
      · rw [Blk.bof_like hl (hT j bj hj)] at hc
        have := Blk.ag_lt (h.blk j bj hj) n hc
        have := hnew n hn
        omega
    · rw [Blk.bof_like hl (hT i bi hi)] at hn
      split at hj
      · rename_i ej
        have ej : nid = j := Nat.eq_of_beq_eq_true ej
        subst ej
        cases hj
        have := Blk.ag_lt (h.blk i bi hi) n hn
        have := hnew n hc
        omega
      · rw [Blk.bof_like hl (hT j bj hj)] at hc
        exact h.sep i j bi bj hij hi hj hown n hn hc
/-- A block is made. -/
theorem WAg.alloc {base : Nat} {w0 w : World} {T : Nat → Option Blk} {ρ : Rho} {nid : Nat} (h : WAg base w0 T ρ w) (hT : ∀ id b, T id = some b → id < nid) (ty : Nat) {cs ds : List Value} (hc : ceqs cs ds) :
    WAg base w0 (fun j => match Nat.beq nid j with | true => some (.c true ty cs) | false => T j) (ρ.set nid w.heap.size 0 undef) { w with heap := w.heap.push (.cells ⟨ds⟩ ty) } := by
  refine h.add hT (Rho.like_set ρ _ _ _ (Nat.le_refl _)) ⟨rfl, rfl, rfl, by simp, fun k hk => by simp [Array.getElem?_push, Nat.ne_of_lt hk]⟩ ?_ ?_
  · refine ⟨⟨ds⟩, ty, (0, 0), ds, by simp [Rho.set], hc, fun i v hv => by simpa [Rho.set] using hv, fun _ => ⟨rfl, rfl, by simp [Rho.set], rfl, by simpa [Rho.set] using h.le⟩⟩
  · intro n hn
    simp [Blk.bof, Rho.set] at hn
    omega
/-- A block of one's own is written. -/
theorem WAg.write {base : Nat} {w0 w : World} {T : Nat → Option Blk} {ρ : Rho} {id ty : Nat} {cs : List Value} (h : WAg base w0 T ρ w) (hid : T id = some (.c true ty cs)) {cs' ds' : List Value} (hc : ceqs cs' ds') :
    WAg base w0 (fun j => match Nat.beq id j with | true => some (.c true ty cs') | false => T j) ρ (w.setRow (ρ.b id) ⟨ds'⟩) := by
  have hb := h.blk id _ hid
  obtain ⟨arr, ty', fr, ds, hh, hcs, hget, hown⟩ := hb
  obtain ⟨rfl, rfl, ho, rfl, hle⟩ := hown rfl
  have hset := setRow_heap w (ρ.b id) _ (⟨ds'⟩ : Array Value) _ _ hh
  refine ⟨fun j b hj => ?_, fun i j bi bj hij hi hj ho n hn => ?_, ?_, by simpa using h.le⟩
  · split at hj
    · rename_i e
      have e : id = j := Nat.eq_of_beq_eq_true e
      subst e
      cases hj
      exact ⟨⟨ds'⟩, ty', (0, 0), ds', hset, hc, fun i v hv => by rw [ho]; simpa using hv, fun _ => ⟨rfl, rfl, ho, rfl, hle⟩⟩
    · rename_i e
      have hne : id ≠ j := fun e' => by subst e'; simp at e
      have hsep := h.sep id j _ b hne hid hj rfl (ρ.b id) rfl
      have hbj := h.blk j b hj
      cases b with
      | c own ty2 cs2 =>
        obtain ⟨arr2, ty2', fr2, ds2, hh2, h2⟩ := hbj
        refine ⟨arr2, ty2', fr2, ds2, ?_, h2⟩
        rw [setRow_other _ _ _ _ (fun e => hsep (by simp [Blk.bof, e]))]
        exact hh2
      | r ty2 esz n xs =>
        obtain ⟨ys, hh2, h2⟩ := hbj
        refine ⟨ys, ⟨hh2.1, ?_⟩, h2⟩
        rcases hh2.2 with h3 | ⟨g, cap, cur, e2, hg, hgg, rest⟩
        · exact .inl h3
        · refine .inr ⟨g, cap, cur, e2, hg, ?_, rest⟩
          rw [setRow_other _ _ _ _ (fun e => hsep (by simp [Blk.bof, e2, Value.ownBlock, e]))]
          exact hgg
  · have key : ∀ {j b}, (match Nat.beq id j with | true => some (Blk.c true ty' cs') | false => T j) = some b → ∃ b', T j = some b' ∧ b'.bof ρ j = b.bof ρ j ∧ b'.ownd = b.ownd := fun {j b} hj => by
      split at hj
      · rename_i e
        have e : id = j := Nat.eq_of_beq_eq_true e
        subst e
        cases hj
        exact ⟨_, hid, rfl, rfl⟩
      · exact ⟨b, hj, rfl, rfl⟩
    obtain ⟨bi', hi', ei, eo⟩ := key hi
    obtain ⟨bj', hj', ej, _⟩ := key hj
    rw [← ej]
    exact h.sep i j bi' bj' hij hi' hj' (eo ▸ ho) n (ei ▸ hn)
  · refine h.below.trans ⟨rfl, rfl, rfl, by simp, fun k hk => setRow_other _ _ _ _ (by omega)⟩
end Go.Sx
