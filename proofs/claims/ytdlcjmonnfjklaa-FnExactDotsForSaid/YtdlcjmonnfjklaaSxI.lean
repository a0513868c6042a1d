/-
  That one symbolic operation is what the model does: rows that a call hands back, and append.
-/
import Derived.Test.YtdlcjmonnfjklaaSxH
set_option linter.unusedSimpArgs false
set_option linter.unusedVariables false
namespace Go.Sx
open Go.RowKit (Below)
section
variable {P : Program} {ti : List (Nat × TI)} {C : List (Nat × Ctr)} {base : Nat} {w0 w : World} {T : Nat → Option Blk} {ρ : Rho} {nid : Nat}

theorem WAg.add' {ρ' : Rho} {b : Blk} (h : WAg base w0 T ρ w) (hT : ∀ id b, T id = some b → id < nid)
    (hl : Rho.like nid ρ ρ') (hag : b.ag ρ' base w nid) (hnew : ∀ n, b.bof ρ' nid = some n → ∀ i bi, T i = some bi → bi.bof ρ i ≠ some n) :
    WAg base w0 (fun j => match Nat.beq nid j with | true => some b | false => T j) ρ' w := by
  refine ⟨fun id b' hT' => ?_, fun i j bi bj hij hi hj hown n hn hc => ?_, h.below, h.le⟩
  · split at hT'
    · rename_i e
      have : nid = id := Nat.eq_of_beq_eq_true e
      subst this
      cases hT'
      exact hag
    · exact Blk.ag_like hl (hT id b' hT') (h.blk id b' hT')
  · split at hi
    · rename_i ei
      have ei : nid = i := Nat.eq_of_beq_eq_true ei
      subst ei
      cases hi
      split at hj
      · rename_i ej
        exact hij (Nat.eq_of_beq_eq_true ej)
      · rw [Blk.bof_like hl (hT j bj hj)] at hc
        exact hnew n hn j bj hj hc
    · rw [Blk.bof_like hl (hT i bi hi)] at hn
      split at hj
      · rename_i ej
        have ej : nid = j := Nat.eq_of_beq_eq_true ej
        subst ej
        cases hj
        exact hnew n hc i bi hi hn
      · rw [Blk.bof_like hl (hT j bj hj)] at hc
        exact h.sep i j bi bj hij hi hj hown n hn hc
theorem ownsRow_mono {B : Nat} {e size n : Nat} {v : Value} {xs : List Value} (h : w.ownsRow B e size v n xs) (hb : base ≤ B) : w.ownsRow base e size v n xs := by
  refine ⟨h.1, ?_⟩
  rcases h.2 with h | ⟨g, cap, cur, e1, hg, rest⟩
  · exact .inl h
  · exact .inr ⟨g, cap, cur, e1, Nat.le_trans hb hg, rest⟩
def blockNo : Value → Nat
  | .slice (some a) _ _ => a.block
  | _ => 0
theorem row_ag {e size n : Nat} {v : Value} {xs ys : List Value} (h : w.ownsRow base e size v n ys) (hc : ceqs xs ys) : (Blk.r e size n xs).ag (ρ.set nid (blockNo v) 0 v) base w nid := by
  refine ⟨ys, by simpa [Rho.set] using h, hc, fun g n' cap hv => ?_⟩
  simp only [Rho.set, if_true] at hv ⊢
  subst hv
  exact ⟨rfl, trivial⟩
theorem row_bof {e size n : Nat} {v : Value} {xs : List Value} : (Blk.r e size n xs).bof (ρ.set nid (blockNo v) 0 v) nid = v.ownBlock := by simp [Blk.bof, Rho.set]
/-- The lists that a call hands back. -/
theorem rows_ok {B : Nat} (hB : base ≤ B) : ∀ {l : List RA} {ys : List Value} {T : Nat → Option Blk} {ρ : Rho} {nid : Nat}, WAg base w0 T ρ w → (∀ id b, T id = some b → id < nid) →
    (∀ i bi, T i = some bi → ∀ n, bi.bof ρ i = some n → ∀ (j : Nat) (x : RA) (y : Value), l[j]? = some x → ys[j]? = some y → x.bof y ≠ some n) → rdens B w l ys → rsep l ys →
    ∃ ρ', dens ρ' (avsOf nid l) ys ∧ WAg base w0 (setT T (chgsOf nid l)) ρ' w ∧ Rho.like nid ρ ρ' ∧ (∀ x ∈ avsOf nid l, x.lt (nid + l.length)) ∧ ∀ id b, setT T (chgsOf nid l) id = some b → id < nid + l.length
  | [], [], T, ρ, nid, hW, hT, _, _, _ => ⟨ρ, trivial, hW, Rho.like.refl _ _, by simp [avsOf], fun id b h => hT id b h⟩
  | .v x :: l, y :: ys, T, ρ, nid, hW, hT, ho, hd, hs => by
    obtain ⟨ρ', h1, h2, h3, h4, h5⟩ := rows_ok hB (nid := nid + 1) hW (fun id b h => Nat.lt_succ_of_lt (hT id b h)) (fun i bi hi n hn j x y hx hy => ho i bi hi n hn (j + 1) x y (by simpa using hx) (by simpa using hy)) hd.2 hs.2
    refine ⟨ρ', ⟨hd.1, h1⟩, h2, h3.mono (by omega), fun z hz => ?_, fun id b h => by have := h5 id b h; simp; omega⟩
    rcases List.mem_cons.1 hz with rfl | hz
    · trivial
    · exact AV.lt_mono (by simp; omega) (h4 z hz)
  | .l e esz n xs :: l, y :: ys, T, ρ, nid, hW, hT, ho, hd, hs => by
    obtain ⟨zs, hown, hc⟩ := hd.1
    have hnew : ∀ k, (Blk.r e esz n xs).bof (ρ.set nid (blockNo y) 0 y) nid = some k → ∀ i bi, T i = some bi → bi.bof ρ i ≠ some k := fun k hk i bi hi hc => by
      rw [row_bof] at hk
      exact ho i bi hi k hc 0 (.l e esz n xs) y rfl rfl hk
    have hl := Rho.like_set ρ (blockNo y) 0 y (Nat.le_refl nid)
    have hW1 := hW.add' hT hl (row_ag (ownsRow_mono hown hB) hc) hnew
    obtain ⟨ρ', h1, h2, h3, h4, h5⟩ := rows_ok hB (l := l) (nid := nid + 1) hW1 (fun id b h => by
        split at h
        · rename_i e; have := Nat.eq_of_beq_eq_true e; omega
        · exact Nat.lt_succ_of_lt (hT id b h)) (fun i bi hi k hk j x' y' hx hy => by
        split at hi
        · rename_i e
          have e : nid = i := Nat.eq_of_beq_eq_true e
          subst e
          cases hi
          rw [row_bof] at hk
          exact hs.1 k hk j x' y' hx hy
        · rw [Blk.bof_like hl (hT i bi hi)] at hk
          exact ho i bi hi k hk (j + 1) x' y' (by simpa using hx) (by simpa using hy)) hd.2 hs.2
    refine ⟨ρ', ⟨?_, h1⟩, h2, hl.trans (h3.mono (by omega)), fun z hz => ?_, fun id b h => by have := h5 id b h; simp; omega⟩
    · have := (h3 nid (by omega)).2.2
      show y = ρ'.s nid
      rw [this]; simp [Rho.set]
    · rcases List.mem_cons.1 hz with rfl | hz
      · show nid < _; simp
      · exact AV.lt_mono (by simp; omega) (h4 z hz)
  | [], _ :: _, _, _, _, _, _, _, hd, _ => hd.elim
  | _ :: _, [], _, _, _, _, _, _, hd, _ => by cases ‹RA› <;> exact hd.elim

/-- What a call hands back, as a symbolic value. -/
theorem call_ok (hW : WAg base w0 T ρ w) (hT : ∀ id b, T id = some b → id < nid) {rv : RV} {y : Value} {w' : World} (hd : rv.den w.heap.size w' y) (hb : Below w.heap.size w w')
    (hlen : ∀ l, rv = .tu l → l.length ≤ 8) : Fit base w0 T ρ nid (svOfRV nid rv) y w' := by
  have hW' := hW.mono hb
  have apart : ∀ i bi, T i = some bi → ∀ n, bi.bof ρ i = some n → ∀ (x : RA) (z : Value), x.den w.heap.size w' z → x.bof z ≠ some n := fun i bi hi n hn x z hx hz => by
    have h1 := Blk.ag_lt (hW.blk i bi hi) n hn
    cases x with
    | v x => cases hz
    | l e esz m xs =>
      obtain ⟨ys, hown, _⟩ := hx
      have := hown.lt n hz
      omega
  have rget : ∀ {l : List RA} {ys : List Value}, rdens w.heap.size w' l ys → ∀ (j : Nat) x z, l[j]? = some x → ys[j]? = some z → x.den w.heap.size w' z := by
    intro l
    induction l with
    | nil => intro ys _ j x z hx _; simp at hx
    | cons a l ih =>
      intro ys h j x z hx hz
      cases ys with
      | nil => exact h.elim
      | cons b ys =>
        cases j with
        | zero => simp at hx hz; subst hx; subst hz; exact h.1
        | succ j => exact ih h.2 j x z (by simpa using hx) (by simpa using hz)
  cases rv with
  | o x =>
    obtain ⟨ρ', h1, h2, h3, h4, h5⟩ := rows_ok (l := [x]) (ys := [y]) hW.le hW' hT (fun i bi hi n hn j x' y' hx hy => apart i bi hi n hn x' y' (rget (l := [x]) (ys := [y]) ⟨hd, trivial⟩ j x' y' hx hy)) ⟨hd, trivial⟩ ⟨fun _ _ i x' y' hx => by simp at hx, trivial⟩
    refine ⟨ρ', h1.1, ?_, h3, ?_, trivial, ?_⟩
    · have e : chgsOf nid [x] = chgOfRA nid x := by simp [chgsOf]
      rw [e] at h2; exact h2
    · exact AV.lt_mono (by simp) (h4 _ (by simp [avsOf]))
    · have e : chgsOf nid [x] = chgOfRA nid x := by simp [chgsOf]
      rw [e] at h5
      exact fun id b h => by have := h5 id b h; simp at this; omega
  | tu l =>
    obtain ⟨ys, rfl, hr, hs⟩ := hd
    have hl := hlen l rfl
    obtain ⟨ρ', h1, h2, h3, h4, h5⟩ := rows_ok hW.le hW' hT (fun i bi hi n hn j x' y' hx hy => apart i bi hi n hn x' y' (rget hr j x' y' hx hy)) hr hs
    exact ⟨ρ', ⟨ys, rfl, h1⟩, h2, h3, fun x hx => AV.lt_mono (by omega) (h4 x hx), trivial, fun id b h => by have := h5 id b h; omega⟩

/-! ### append -/
theorem append_block (w : World) {t ty e : TypeId} {i : TypeInfo} {z : Value} (ht : P.underlying t = some (.slice e)) (hi : P.info? e = some i) (hz : i.zero = some z)
    {v : Value} {n : Nat} {xs : List Value} (hown : w.ownsRow base e i.size v n xs) {a : Addr} {m c : Nat} {news : List Value} (hl : news.length = m * i.size) (hnews : ∀ j u, news[j]? = some u → w.cell? (a.add j) = some u) (h1 : ∀ u ∈ news, u.oneCell' = true)
    (hm : 0 < m) (h63 : n + m ≤ 9223372036854775807) (hbytes : (n + m) * i.bytes ≤ 140737488355328) {v' : Value} {w' : World} (hr : (Builtin.append_ #[t, t] ty #[v, .slice (some a) m c]).run P w = .ok v' w') :
    v'.ownBlock = v.ownBlock ∨ v'.ownBlock = some w.heap.size := by
  rcases hown.2 with ⟨rfl, rfl⟩ | ⟨g, cap, cur, rfl, hbg, hg, hnc, hcm, hcs, htake⟩
  · have h := run_append_nil (P := P) w t ty e i z ht hi hz a m c news hl hnews (by omega) (by omega) (by have hb := hbytes; simp only [Nat.zero_add] at hb; omega)
    rw [h] at hr
    cases hr
    exact .inr rfl
  · by_cases hroom : n + m ≤ cap
    · have hfit : n * i.size + news.length ≤ cur.size := by rw [hl, hcs, ← Nat.add_mul]; exact Nat.mul_le_mul_right _ hroom
      have h := run_append_room (P := P) w t ty e i ht hi g n cap cur hg a m c news hl hnews h1 hroom hfit
      rw [h] at hr
      cases hr
      exact .inl rfl
    · have holds : ∀ j u, xs[j]? = some u → w.cell? ((⟨g, 0, none⟩ : Addr).add j) = some u := hown.cells (g := g) rfl
      have h := run_append_grow (P := P) w t ty e i z ht hi hz ⟨g, 0, none⟩ n cap xs hown.1 holds a m c news hl hnews (by omega) (by omega) (growslice_fits (by omega) hbytes)
      rw [h] at hr
      cases hr
      exact .inr rfl
theorem setT_sub_none {T : Nat → Option Blk} {id : Nat} : ∀ i bi, setT T [(id, none)] i = some bi → i ≠ id ∧ T i = some bi := fun i bi h => by
  simp only [setT] at h
  split at h
  · cases h
  · rename_i e
    refine ⟨fun e' => ?_, h⟩
    subst e'
    rw [beq_self] at e
    cases e
theorem rowOf_ok (hW : WAg base w0 T ρ w) {e esz n : Nat} {x : AV} {xs : List Value} {gone : List (Nat × Option Blk)} {y : Value} (h : rowOf T e esz x = some (n, xs, gone)) (hd : x.den ρ y) :
    ∃ zs, w.ownsRow base e esz y n zs ∧ ceqs xs zs ∧ (∀ i bi, setT T gone i = some bi → T i = some bi ∧ ∀ k, y.ownBlock = some k → bi.bof ρ i ≠ some k) := by
  unfold rowOf at h
  split at h
  · rename_i id
    split at h
    · rename_i ty esz' n' xs' hb
      split at h
      · rename_i he
        simp only [Bool.and_eq_true] at he
        have e1 := Nat.eq_of_beq_eq_true he.1
        have e2 := Nat.eq_of_beq_eq_true he.2
        subst e1; subst e2
        cases h
        obtain ⟨ys, hown, hc, _⟩ := hW.blk id _ hb
        have hd : y = ρ.s id := hd
        refine ⟨ys, hd ▸ hown, hc, fun i bi hi => ?_⟩
        obtain ⟨h1, h2⟩ := setT_sub_none i bi hi
        exact ⟨h2, fun k hk => hW.sep id i _ bi (Ne.symm h1) hb h2 rfl k (by show (ρ.s id).ownBlock = _; rw [← hd]; exact hk)⟩
      · cases h
    · cases h
  · rename_i id len cap
    split at h
    · rename_i ty cs hb
      split at h
      · rename_i he
        simp only [Bool.and_eq_true] at he
        have e1 := Nat.eq_of_beq_eq_true he.1
        have e2 := Nat.eq_of_beq_eq_true he.2.1
        have e3 := Nat.le_of_ble_eq_true he.2.2.1
        have e4 := Nat.le_of_ble_eq_true he.2.2.2
        subst e1
        split at h
        · rename_i l hl
          cases h
          obtain ⟨h1, h2, h3⟩ := part_eq hl
          obtain ⟨arr, ty', fr, ds, hh, hc, hg, hown⟩ := hW.blk id _ hb
          obtain ⟨rfl, rfl, ho, rfl, hle⟩ := hown rfl
          have hlen := hc.length
          have sub : ∀ i bi, setT T [(id, none)] i = some bi → T i = some bi ∧ bi.bof ρ i ≠ some (ρ.b id) := fun i bi hi => by
            obtain ⟨h1, h2⟩ := setT_sub_none i bi hi
            exact ⟨h2, hW.sep id i _ bi (Ne.symm h1) hb h2 rfl (ρ.b id) rfl⟩
          rcases hd with hd | ⟨rfl, hd⟩
          · rw [ho] at hd
            subst hd
            refine ⟨ds.take (n * esz), ⟨?_, .inr ⟨ρ.b id, cap, ⟨ds⟩, rfl, hle, hh, e3, by simpa [maxLen] using e4, by simp; omega, rfl⟩⟩, ?_, fun i bi hi => ⟨(sub i bi hi).1, fun k hk => ?_⟩⟩
            · rw [List.length_take]
              simp at h1
              omega
            · rw [h2]
              have := (hc.drop 0).take (n * esz)
              simpa using this
            · simp [Value.ownBlock] at hk
              exact hk ▸ (sub i bi hi).2
          · subst hd
            have : xs = [] := List.eq_nil_of_length_eq_zero (by simpa using h3)
            subst this
            exact ⟨[], World.ownsRow_nil w base _ esz, trivial, fun i bi hi => ⟨(sub i bi hi).1, fun k hk => by simp [Value.ownBlock] at hk⟩⟩
        · cases h
      · cases h
    · cases h
  · split at h
    · rename_i hx
      cases h
      have hy : y = .slice none 0 0 := by
        unfold isNilSlice at hx
        split at hx
        · exact ceq.slice hd
        · exact hd.1
        · cases hx
      subst hy
      exact ⟨[], World.ownsRow_nil w base e esz, trivial, fun i bi hi => ⟨hi, fun k hk => by simp [Value.ownBlock] at hk⟩⟩
    · cases h
theorem newsOf_ok (hW : WAg base w0 T ρ w) {esz m : Nat} {x : AV} {xs : List Value} {y : Value} (h : newsOf T esz x = some (m, xs)) (hd : x.den ρ y) :
    ∃ a c news, y = .slice (some a) m c ∧ ceqs xs news ∧ news.length = m * esz ∧ 0 < m ∧ ∀ (j : Nat) u, news[j]? = some u → w.cell? (a.add j) = some u := by
  unfold newsOf at h
  split at h
  · rename_i id off len cap
    split at h
    · rename_i own ty cs hb
      split at h
      · rename_i hpos
        split at h
        · rename_i l hl
          cases h
          have hpos : 0 < m := by simpa using hpos
          obtain ⟨h1, h2, h3⟩ := part_eq hl
          obtain ⟨arr, ty', fr, ds, hh, hc, hg, _⟩ := hW.blk id _ hb
          rcases hd with hd | ⟨h0, _⟩
          · refine ⟨_, _, (ds.drop off).take (m * esz), hd, h2 ▸ (hc.drop off).take _, ?_, hpos, fun j u hu => ?_⟩
            · rw [← (h2 ▸ (hc.drop off).take (m * esz) : ceqs xs _).length, h3]
            · rw [Addr.add_lit, Nat.add_assoc, cell_at hh]
              exact hg _ _ (getElem?_part rfl hu)
          · omega
        · cases h
      · cases h
    · cases h
  · rename_i id
    split at h
    · rename_i ty esz' n xs' hb
      split at h
      · rename_i he
        simp only [Bool.and_eq_true] at he
        have e1 := Nat.eq_of_beq_eq_true he.1
        subst e1
        cases h
        have hpos : 0 < m := by simpa using he.2
        obtain ⟨ys, hown, hc, _⟩ := hW.blk id _ hb
        have hd : y = ρ.s id := hd
        rcases hown.2 with ⟨_, h0⟩ | ⟨g, cap, cur, e, hbg, hgg, hle, hcm, hsz, htake⟩
        · omega
        · exact ⟨⟨g, 0, none⟩, cap, ys, hd.trans e, hc, hown.1, hpos, hown.cells (g := g) (by rw [e]; rfl)⟩
      · cases h
    · cases h
  · cases h
theorem append_ok (hti : TIok P ti) (hW : WAg base w0 T ρ w) (hT : ∀ id b, T id = some b → id < nid) {t e : Nat} {i ie : TI} (hi : look ti t = some i) (hie : look ti e = some ie) (hd : i.d = .sl e)
    {x y : AV} {n m : Nat} {xs ys : List Value} {gone : List (Nat × Option Blk)} {v u : Value} (hr : rowOf T e ie.size x = some (n, xs, gone)) (hn : newsOf T ie.size y = some (m, ys)) (hx : x.den ρ v) (hy : y.den ρ u)
    (h0 : 0 < ie.size) (hz : ie.zero.length = ie.size) (hby : (n + m) * ie.bytes ≤ 140737488355328) (h63 : n + m ≤ 9223372036854775807) (ty : TypeId) :
    ∃ v' w', (Builtin.append_ #[t, t] ty #[v, u]).run P w = .ok v' w' ∧ Fit base w0 T ρ nid (.a (.r nid), gone ++ [(nid, some (.r e ie.size (n + m) (xs ++ ys)))]) v' w' := by
  obtain ⟨zs, hown, hcx, hgone⟩ := rowOf_ok hW hr hx
  obtain ⟨a, c, news, rfl, hcy, hlen, hm, hcells⟩ := newsOf_ok hW hn hy
  obtain ⟨ds, hu, _, hds⟩ := (hti t i hi).und
  rw [hd] at hds
  have hds : ds = .slice e := hds
  subst hds
  obtain ⟨inf, hinf, hsz, hbs, z, hzz, hzc, _⟩ := (hti e ie hie).inf
  have hzs : z.cells.size = ie.size := by rw [hzc]; simpa using hz
  have h1 := hcy.one
  obtain ⟨v', w', hrun, hown', hgrown, _⟩ := run_append_own (P := P) w base t ty e inf z ie.size ie.bytes hu hinf hzz hsz hbs hzs h0 v n zs hown a m c news hlen hcells h1 (by simpa [maxLen] using h63) hby hW.le
  refine ⟨v', w', hrun, ?_⟩
  have hblk := append_block (P := P) (ty := ty) w hu hinf hzz (hsz.symm ▸ hown) (hsz.symm ▸ hlen) hcells h1 hm h63 (hbs.symm ▸ hby) hrun
  have hWg : WAg base w0 (setT T gone) ρ w := hW.sub fun i bi hi => (hgone i bi hi).1
  have hTg : ∀ i b, setT T gone i = some b → i < nid := fun i b hi => hT i b (hgone i b hi).1
  -- what is left is as it was
  have hW' : WAg base w0 (setT T gone) ρ w' := by
    refine ⟨fun id b hb => ?_, hWg.sep, hWg.below.grown hgrown hW.le (fun k hk => (hown.lt k hk).1), Nat.le_trans hW.le hgrown.size⟩
    have hne := (hgone id b hb).2
    have hag := hWg.blk id b hb
    have keep : ∀ k, k < w.heap.size → b.bof ρ id = some k → w'.heap[k]? = w.heap[k]? := fun k hk hbk => hgrown.block k hk fun e => hne k e.symm hbk
    cases b with
    | c own ty' cs =>
      obtain ⟨arr, ty2, fr, ds, hh, h2⟩ := hag
      exact ⟨arr, ty2, fr, ds, by rw [keep _ (Array.getElem?_eq_some_iff.1 hh).1 rfl]; exact hh, h2⟩
    | r ty' esz' n' xs' =>
      obtain ⟨ys', hh, h2⟩ := hag
      refine ⟨ys', ⟨hh.1, ?_⟩, h2⟩
      rcases hh.2 with h3 | ⟨g, cap, cur, e2, hg, hgg, rest⟩
      · exact .inl h3
      · exact .inr ⟨g, cap, cur, e2, hg, by rw [keep g (Array.getElem?_eq_some_iff.1 hgg).1 (by simp [Blk.bof, e2, Value.ownBlock])]; exact hgg, rest⟩
  have hl := Rho.like_set ρ (blockNo v') 0 v' (Nat.le_refl nid)
  have hadd := hW'.add' hTg hl (row_ag hown' (hcx.append hcy)) (fun k hk i bi hi hc => by
    rw [row_bof] at hk
    have h2 := Blk.ag_lt (hWg.blk i bi hi) k hc
    rcases hblk with hb | hb
    · exact (hgone i bi hi).2 k (hb ▸ hk) hc
    · rw [hb] at hk
      cases hk
      omega)
  have eT : ∀ (g : List (Nat × Option Blk)) (T : Nat → Option Blk) b, setT T (g ++ [(nid, some b)]) = fun j => match Nat.beq nid j with | true => some b | false => setT T g j := by
    intro g
    induction g with
    | nil => intro T b; rfl
    | cons p g ih => intro T b; exact ih _ b
  refine ⟨ρ.set nid (blockNo v') 0 v', by simp [AV.den, SV.den, Rho.set], by rw [eT]; exact hadd, hl, by show nid < nid + 8; omega, trivial, fun id b h => ?_⟩
  rw [eT] at h
  dsimp only at h
  split at h
  · rename_i e; have := Nat.eq_of_beq_eq_true e; omega
  · have := hTg id b h; omega
end
end Go.Sx
