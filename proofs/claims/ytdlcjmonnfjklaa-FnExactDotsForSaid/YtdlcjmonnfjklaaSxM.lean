/-
  That one symbolic operation is what the model does: built-in functions, calls, and all together.
-/
import Derived.Test.YtdlcjmonnfjklaaSxL
set_option linter.unusedSimpArgs false
set_option linter.unusedVariables false
namespace Go.Sx
open Go.RowKit (Below)
section
variable {P : Program} {ti : List (Nat × TI)} {C : List (Nat × Ctr)} {base : Nat} {w0 w : World} {T : Nat → Option Blk} {ρ : Rho} {nid : Nat}

/-- The run of a call of a built-in function. -/
theorem lenOf_some {n : Nat} {r : SV × List (Nat × Option Blk)} (h : lenOf n = some r) : r = (.a (.k (.int .i64 n)), []) ∧ n ≤ 9223372036854775807 := by
  unfold lenOf at h
  split at h
  · rename_i hn
    cases h
    exact ⟨rfl, Nat.le_of_ble_eq_true hn⟩
  · cases h
theorem run_builtin (w : World) {ev : Operand → Value} {o : Oper} {c : Call} (ho : o.op = .call c) {b : Builtin} (hb : c.callee = .builtin b) : ∃ cs, (execOp ev o).run P w = (builtin b c.argTypes o.type cs (c.args.map ev)).run P w := by
  refine ⟨c.args.map (fun x => match x with | .const _ => true | _ => false), ?_⟩
  simp only [execOp, ho, resolve, hb]
  rw [Sem.run_bind]
  rfl
theorem isNil_y {x : AV} {y : Value} (h : isNilSlice x = true) (hd : x.den ρ y) : y = .slice none 0 0 := by
  unfold isNilSlice at h
  split at h
  · exact ceq.slice hd
  · exact hd.1
  · cases h
theorem builtin_y (hti : TIok P ti) (hW : WAg base w0 T ρ w) (hT : ∀ id b, T id = some b → id < nid) {sr : Operand → Option SV} {ev : Operand → Value} (hk : Knows ρ nid sr ev) {o : Oper} {c : Call} (ho : o.op = .call c) {b : Builtin} (hb : c.callee = .builtin b)
    {xs : List AV} (hx : mapO (arOf sr) c.args.toList = some xs) {r : SV × List (Nat × Option Blk)} (h : builtinOp ti T nid b c.argTypes.toList xs = some r) : Yields P base w0 T ρ nid w ev o r := by
  obtain ⟨consts, hrun⟩ := run_builtin (P := P) w (ev := ev) ho hb
  obtain ⟨hd, -⟩ := mapO_dens (arOf_ok hk) hx
  have hargs : c.args.map ev = (c.args.toList.map ev).toArray := by apply Array.ext'; simp
  have htys : c.argTypes = c.argTypes.toList.toArray := rfl
  generalize c.args.toList.map ev = ys at hd hargs
  rw [hargs, htys] at hrun
  generalize c.argTypes.toList = ts at h hrun
  have lenOut : ∀ {n : Nat} {y : Value}, n ≤ 9223372036854775807 → (Builtin.len_ ts.toArray o.type ys.toArray).run P w = .ok y w → y = .int .i64 n → b = .len → ∀ (z : AV), z = .k (.int .i64 n) ∨ z = .v (.int .i64 n) → Yields P base w0 T ρ nid w ev o (.a z, []) := by
    intro n y hn h1 h2 h3 z hz
    have hok : okc (.int .i64 n) = true := by
      have e1 : IntKind.i64.min = -9223372036854775808 := rfl
      have e2 : IntKind.i64.max = 9223372036854775807 := rfl
      simp only [okc, e1, e2, Bool.and_eq_true, decide_eq_true_eq]
      omega
    subst h2; subst h3
    refine ⟨.int .i64 n, w, .inl ?_, Fit.pure hW hT ?_ ?_ 0⟩
    · rw [hrun]
      simp only [builtin]
      rw [Sem.run_bind, h1]
      rfl
    · rcases hz with rfl | rfl
      · exact ⟨rfl, hok⟩
      · exact ceq.refl hok
    · rcases hz with rfl | rfl <;> trivial
  unfold builtinOp at h
  split at h
  · -- len
    split at h
    · rename_i t x
      cases ys with
      | nil => exact hd.elim
      | cons y ys => cases ys with
        | cons _ _ => exact hd.2.elim
        | nil =>
          replace hd := hd.1
          split at h
          · rename_i i hi
            obtain ⟨d, hu1, hu2, hu3⟩ := run_und (hti t i hi) w
            split at h
            · rename_i n e hdd
              rw [hdd] at hu3
              have hu3 : d = .array n e := hu3
              subst hu3
              obtain ⟨rfl, hle⟩ := lenOf_some h
              exact lenOut (n := n) (y := .int .i64 n) hle (by simp [Builtin.len_, hu1, goInt]) rfl rfl _ (.inl rfl)
            · rename_i e hdd
              rw [hdd] at hu3
              have hu3 : d = .slice e := hu3
              subst hu3
              split at h
              · rename_i id off len cap
                obtain ⟨rfl, hle⟩ := lenOf_some h
                rcases hd with rfl | ⟨rfl, rfl⟩
                · exact lenOut (n := len) (y := .int .i64 len) hle (by simp [Builtin.len_, hu1, goInt]) rfl rfl _ (.inl rfl)
                · exact lenOut (n := 0) (y := .int .i64 0) (by decide) (by simp [Builtin.len_, hu1, goInt]) rfl rfl _ (.inl rfl)
              · rename_i id
                split at h
                · rename_i ty esz n zs hbk
                  obtain ⟨rfl, hle⟩ := lenOf_some h
                  obtain ⟨ws, hown, _⟩ := hW.blk id _ hbk
                  have hd : y = ρ.s id := hd
                  rcases hown.2 with ⟨e1, rfl⟩ | ⟨g, cap, cur, e1, _⟩
                  · exact lenOut (n := 0) (y := .int .i64 0) (by decide) (by simp [Builtin.len_, hu1, goInt, hd, e1]) rfl rfl _ (.inl rfl)
                  · exact lenOut (n := n) (y := .int .i64 n) hle (by simp [Builtin.len_, hu1, goInt, hd, e1]) rfl rfl _ (.inl rfl)
                · cases h
              · split at h
                · rename_i hn
                  cases h
                  have hy := isNil_y hn hd
                  subst hy
                  exact lenOut (n := 0) (y := .int .i64 0) (by decide) (by simp [Builtin.len_, hu1, goInt]) rfl rfl _ (.inl rfl)
                · cases h
            · cases h
          · cases h
    · cases h
  · -- min
    split at h
    · rename_i x y
      cases ys with
      | nil => exact hd.elim
      | cons u ys => cases ys with
        | nil => exact hd.2.elim
        | cons v ys => cases ys with
          | cons _ _ => exact hd.2.2.elim
          | nil =>
            split at h
            · rename_i k a k' b' ha hb'
              split at h
              · rename_i hkk
                simp only [decide_eq_true_eq] at hkk
                subst hkk
                cases h
                obtain ⟨p, rfl, hp⟩ := (payload_den ha hd.1).float
                obtain ⟨q, rfl, hq⟩ := (payload_den hb' hd.2.1).float
                obtain ⟨r, n, h1, h2⟩ := run_min2 (P := P) w hp hq
                exact ⟨.float k r, w.drewN n, .inl (by rw [hrun]; simp [builtin, Builtin.min_, h1]), Fit.pure hW hT (v := .v (.float k (fmin false k a b'))) (veq.of_feq h2) trivial n⟩
              · cases h
            · cases h
    · cases h
  · -- max
    split at h
    · rename_i x y
      cases ys with
      | nil => exact hd.elim
      | cons u ys => cases ys with
        | nil => exact hd.2.elim
        | cons v ys => cases ys with
          | cons _ _ => exact hd.2.2.elim
          | nil =>
            split at h
            · rename_i k a k' b' ha hb'
              split at h
              · rename_i hkk
                simp only [decide_eq_true_eq] at hkk
                subst hkk
                cases h
                obtain ⟨p, rfl, hp⟩ := (payload_den ha hd.1).float
                obtain ⟨q, rfl, hq⟩ := (payload_den hb' hd.2.1).float
                obtain ⟨r, n, h1, h2⟩ := run_max2 (P := P) w hp hq
                exact ⟨.float k r, w.drewN n, .inl (by rw [hrun]; simp [builtin, Builtin.max_, h1]), Fit.pure hW hT (v := .v (.float k (fmin true k a b'))) (veq.of_feq h2) trivial n⟩
              · cases h
            · cases h
    · cases h
  · -- append
    split at h
    · rename_i t t' x y
      cases ys with
      | nil => exact hd.elim
      | cons u ys => cases ys with
        | nil => exact hd.2.elim
        | cons v ys => cases ys with
          | cons _ _ => exact hd.2.2.elim
          | nil =>
            split at h
            · rename_i i htt hi
              have htt := Nat.eq_of_beq_eq_true htt
              subst htt
              split at h
              · rename_i e hdd
                split at h
                · rename_i ie hie
                  split at h
                  · rename_i n zs gone m ws hr hn
                    split at h
                    · rename_i hc
                      cases h
                      simp only [Bool.and_eq_true] at hc
                      have h0 : 0 < ie.size := by simpa using hc.1
                      have hz := Nat.eq_of_beq_eq_true hc.2.1
                      have hby := Nat.le_of_ble_eq_true hc.2.2.1
                      have h63 := Nat.le_of_ble_eq_true hc.2.2.2
                      obtain ⟨v', w', h1, h2⟩ := append_ok hti hW hT hi hie hdd hr hn hd.1 hd.2.1 h0 hz hby h63 o.type
                      exact ⟨v', w', .inl (by rw [hrun]; simp [builtin, h1]), h2⟩
                    · cases h
                  · cases h
                · cases h
              · cases h
            · cases h
    · cases h
  · cases h

theorem wp_of_yields {ev : Operand → Value} {o : Oper} {a : Act} (hev : ev = a.eval) {r : SV × List (Nat × Option Blk)} (h : Yields P base w0 T ρ nid w ev o r) {K : Act → World → Prop} {Q : Exit → Act → World → Prop} (hk : ∀ y w', Fit base w0 T ρ nid r y w' → K (a.put o.dst y) w') : o.wp P a w K Q := by
  subst hev
  obtain ⟨y, w', h | ⟨h, rfl⟩, hf⟩ := h
  · exact wp_of_value h (hk y w' hf)
  · exact wp_of_skip h (hk _ w' hf)
/-- One operation. -/
theorem aop_sound (hti : TIok P ti) (hC : ∀ f c, look C f = some c → Good P f c) (hW : WAg base w0 T ρ w) (hT : ∀ id b, T id = some b → id < nid) {sr : Operand → Option SV} {a : Act} (hk : Knows ρ nid sr a.eval) {o : Oper}
    {r : SV × List (Nat × Option Blk)} (h : aop ti C T nid sr o.op = some r) {K : Act → World → Prop} {Q : Exit → Act → World → Prop} (hK : ∀ y w', Fit base w0 T ρ nid r y w' → K (a.put o.dst y) w') : o.wp P a w K Q := by
  cases ho : o.op
  case move x =>
    rw [ho] at h
    simp only [aop] at h
    split at h
    · rename_i v hv; cases h; exact wp_of_yields rfl (move_y hW hT hk (.inl ho) hv trivial) hK
    · rename_i v hv; cases h; exact wp_of_yields rfl (move_y hW hT hk (.inl ho) hv trivial) hK
    · cases h
  case assign x =>
    rw [ho] at h
    simp only [aop] at h
    split at h
    · rename_i v hv; cases h; exact wp_of_yields rfl (move_y hW hT hk (.inr ho) hv trivial) hK
    · rename_i v hv; cases h; exact wp_of_yields rfl (move_y hW hT hk (.inr ho) hv trivial) hK
    · cases h
  case alloc t =>
    rw [ho] at h
    simp only [aop] at h
    split at h
    · rename_i i hi; cases h; exact wp_of_yields rfl (alloc_y hti hW hT ho hi) hK
    · cases h
  case box t x =>
    rw [ho] at h
    simp only [aop] at h
    split at h
    · rename_i v hv
      split at h
      · rename_i cs hc; cases h; exact wp_of_yields rfl (box_y hW hT hk ho hv hc) hK
      · cases h
    · cases h
  case build t parts =>
    rw [ho] at h
    simp only [aop] at h
    split at h
    · rename_i i ps hi hp
      split at h
      · rename_i fs hd
        split at h
        · rename_i l hl
          split at h
          · rename_i ys hm; cases h; exact wp_of_yields rfl (build_y hti hW hT hk ho hi hp (.inl ⟨fs, ys, hd, hl, hm⟩)) hK
          · cases h
        · cases h
      · rename_i n e hd
        split at h
        · rename_i ie he
          split at h
          · rename_i l hl; cases h; exact wp_of_yields rfl (build_y hti hW hT hk ho hi hp (.inr ⟨n, e, ie, hd, he, hl⟩)) hK
          · cases h
        · cases h
      · cases h
    · cases h
  case buildSlice t len parts =>
    rw [ho] at h
    simp only [aop] at h
    split at h
    · rename_i i ps hi hp
      split at h
      · rename_i e hd
        split at h
        · rename_i ie he
          split at h
          · rename_i hle
            split at h
            · rename_i hz
              split at h
              · rename_i l hl
                cases h
                exact wp_of_yields rfl (buildSlice_y hti hW hT hk ho hi hp hd he (Nat.le_of_ble_eq_true hle) (by
                  simp only [Bool.or_eq_true] at hz
                  rcases hz with hz | hz
                  · have h0 : 0 < ie.zero.length := by simpa using hz
                    exact .inl (List.length_pos_iff.1 h0)
                  · exact .inr (Nat.eq_of_beq_eq_true hz)) hl) hK
              · cases h
            · cases h
          · cases h
        · cases h
      · cases h
    · cases h
  case load t x =>
    rw [ho] at h
    simp only [aop] at h
    split at h
    · rename_i i id off hi hv
      split at h
      · rename_i l hl
        split at h
        · rename_i v ha; cases h; exact wp_of_yields rfl (load_y hti hW hT hk ho hi hv hl ha) hK
        · cases h
      · cases h
    · cases h
  case store t x y =>
    rw [ho] at h
    simp only [aop] at h
    split at h
    · rename_i i id off v hi hv hu
      split at h
      · rename_i xs hx
        split at h
        · rename_i hlen
          split at h
          · rename_i ty cs hb
            split at h
            · rename_i l hl; cases h; exact wp_of_yields rfl (store_y hti hW hT hk ho hi hv hu hx (Nat.eq_of_beq_eq_true hlen) hb hl) hK
            · cases h
          · cases h
        · cases h
      · cases h
    · cases h
  case nilCheck x =>
    rw [ho] at h
    simp only [aop] at h
    split at h
    · rename_i id off hv; cases h; exact wp_of_yields rfl (nil_y hW hT hk ho hv) hK
    · cases h
  case binOp op t x y t' =>
    rw [ho] at h
    simp only [aop] at h
    split at h
    · rename_i i a' b' hi hu hu'
      split at h
      · rename_i v hv; cases h; exact wp_of_yields rfl (bin_y hti hW hT hk ho hi hu hu' rfl rfl hv (.inl rfl)) hK
      · cases h
    · rename_i i u u' _ hi hu hu'
      split at h
      · rename_i a' b' ha hb
        split at h
        · rename_i v hv; cases h; exact wp_of_yields rfl (bin_y hti hW hT hk ho hi hu hu' ha hb hv (.inr rfl)) hK
        · cases h
      · cases h
    · cases h
  case unOp op t x =>
    rw [ho] at h
    simp only [aop] at h
    split at h
    · rename_i a' hu
      split at h
      · rename_i v hv; cases h; exact wp_of_yields rfl (un_y hW hT hk ho hu rfl hv (.inl rfl)) hK
      · cases h
    · rename_i a' hu
      split at h
      · rename_i v hv; cases h; exact wp_of_yields rfl (un_y hW hT hk ho hu rfl hv (.inr rfl)) hK
      · cases h
    · cases h
  case convert s d x =>
    rw [ho] at h
    simp only [aop] at h
    split at h
    · rename_i i j a' hi hj hu
      split at h
      · rename_i v hv; cases h; exact wp_of_yields rfl (conv_y hti hW hT hk ho hi hj hu rfl hv (.inl rfl)) hK
      · cases h
    · rename_i i j a' hi hj hu
      split at h
      · rename_i v hv; cases h; exact wp_of_yields rfl (conv_y hti hW hT hk ho hi hj hu rfl hv (.inr rfl)) hK
      · cases h
    · cases h
  case slice t x lo hi mx =>
    rw [ho] at h
    simp only [aop] at h
    split at h
    · rename_i i u lv hv' hti' hu hl hh
      split at h
      · rename_i n e id off hd
        split at h
        · rename_i ie he
          split at h
          · rename_i hb' hb
            split at h
            · rename_i lb hb2; cases h; exact wp_of_yields rfl (slice_y hti hW hT hk ho hti' hu hl hh (.inl ⟨hd, rfl, rfl⟩) he hb hb2) hK
            · cases h
          · cases h
        · cases h
      · rename_i e id off len cap hd
        split at h
        · rename_i ie he
          split at h
          · rename_i hb' hb
            split at h
            · rename_i lb hb2
              split at h
              · rename_i hpos; cases h; exact wp_of_yields rfl (slice_y hti hW hT hk ho hti' hu hl hh (.inr ⟨hd, rfl, by simpa using hpos⟩) he hb hb2) hK
              · cases h
            · cases h
          · cases h
        · cases h
      · cases h
    · cases h
  case fieldAddr t x f =>
    rw [ho] at h
    simp only [aop] at h
    split at h
    · rename_i i id off hi hv
      split at h
      · rename_i fs hd
        split at h
        · rename_i foff ft hf
          split at h
          · rename_i fi hfi
            split at h
            · rename_i hne; cases h; exact wp_of_yields rfl (addr_y hti hW hT hk ho hi hv hd hf hfi (fun e => by rw [e] at hne; cases hne)) hK
            · cases h
          · cases h
        · cases h
      · cases h
    · cases h
  case field t x f =>
    rw [ho] at h
    simp only [aop] at h
    split at h
    · rename_i i u hi hv
      split at h
      · rename_i fs cs hd hp
        split at h
        · rename_i foff ft hf
          split at h
          · rename_i fi hfi
            split at h
            · rename_i l hl
              split at h
              · rename_i v ha; cases h; exact wp_of_yields rfl (field_y hti hW hT hk ho hi hv hp hd hf hfi hl ha) hK
              · cases h
            · cases h
          · cases h
        · cases h
      · cases h
    · cases h
  case indexAddr t x ix =>
    rw [ho] at h
    simp only [aop] at h
    split at h
    · rename_i i u j hi hv hj
      split at h
      · rename_i n hn
        split at h
        · rename_i len e id off hd
          split at h
          · rename_i ie hc he
            simp only [Bool.and_eq_true, decide_eq_true_eq] at hc
            cases h; exact wp_of_yields rfl (indexAddr_y hti hW hT hk ho hi hv hj hn (.inl ⟨hd, rfl⟩) hc.1 hc.2 he) hK
          · cases h
        · rename_i e id off len cap hd
          split at h
          · rename_i ie hc he
            simp only [Bool.and_eq_true, decide_eq_true_eq] at hc
            cases h; exact wp_of_yields rfl (indexAddr_y hti hW hT hk ho hi hv hj hn (.inr (.inl ⟨cap, hd, rfl⟩)) hc.1 hc.2 he) hK
          · cases h
        · rename_i e id hd
          split at h
          · rename_i ty esz len xs ie hb he
            split at h
            · rename_i hc
              simp only [Bool.and_eq_true, decide_eq_true_eq] at hc
              cases h
              have := indexAddr_y (P := P) (w0 := w0) (base := base) (ρ := ρ) hti hW hT hk ho hi hv hj hn (off := 0) (.inr (.inr ⟨rfl, hd, rfl, ty, esz, xs, hb⟩)) hc.1 hc.2 he
              rw [Nat.zero_add] at this
              exact wp_of_yields rfl this hK
            · cases h
          · cases h
        · cases h
      · cases h
    · cases h
  case index t x ix =>
    rw [ho] at h
    simp only [aop] at h
    split at h
    · rename_i i u j hi hv hj
      split at h
      · rename_i n len e cs hn hd hp
        split at h
        · rename_i ie hc he
          simp only [Bool.and_eq_true, decide_eq_true_eq] at hc
          split at h
          · rename_i l hl
            split at h
            · rename_i v ha; cases h; exact wp_of_yields rfl (index_y hti hW hT hk ho hi hv hj hn hd hp hc.1 hc.2 he hl ha) hK
            · cases h
          · cases h
        · cases h
      · cases h
    · cases h
  case extract x j =>
    rw [ho] at h
    simp only [aop] at h
    split at h
    · rename_i l hl
      split at h
      · rename_i v hv; cases h; exact wp_of_yields rfl (extract_y hW hT hk ho hl hv) hK
      · cases h
    · cases h
  case call c =>
    rw [ho] at h
    simp only [aop] at h
    split at h
    · rename_i xs hx
      split at h
      · rename_i b hb; exact wp_of_yields rfl (builtin_y hti hW hT hk ho hb hx h) hK
      · rename_i f hf
        split at h
        · rename_i ct hct
          split at h
          · rename_i vs hvs
            obtain ⟨hd, -⟩ := mapO_dens (arOf_ok hk) hx
            have hreads := resolveAll_ok hW hvs hd
            have hmain : ∀ rv, ct.m vs = some rv → (∀ l, rv = .tu l → l.length ≤ 8) → r = svOfRV nid rv → o.wp P a w K Q := fun rv hm hl hr => by
              have hg := hC f ct hct w _ vs rv hreads hm
              have hargs : (⟨c.args.toList.map a.eval⟩ : Array Value) = c.args.map a.eval := by apply Array.ext'; simp
              rw [hargs] at hg
              have hexec : (execOp a.eval o).run P w = (callFunc f (c.args.map a.eval)).run P w := by
                simp [execOp, ho, resolve, hf, Act.eval, Deferred.ofValue, invoke]
              subst hr
              rcases hg with ⟨h1, h2⟩ | ⟨y, w', h1, h2, h3⟩
              · unfold Oper.wp
                rw [hexec, h1]
                refine h2.mono fun e w' ⟨v, he, hd, hb⟩ => ?_
                subst he
                exact hK v w' (call_ok hW hT hd hb hl)
              · exact wp_of_value (by rw [hexec, h1]) (hK y w' (call_ok hW hT h2 h3 hl))
            split at h
            · rename_i x hm; cases h; exact hmain _ hm (fun l e => by cases e) rfl
            · rename_i l hm
              split at h
              · rename_i hle; cases h; exact hmain _ hm (fun l' e => by cases e; exact Nat.le_of_ble_eq_true hle) rfl
              · cases h
            · cases h
          · cases h
        · cases h
      · cases h
    · cases h
  all_goals
    rw [ho] at h
    simp [aop] at h
end
end Go.Sx
