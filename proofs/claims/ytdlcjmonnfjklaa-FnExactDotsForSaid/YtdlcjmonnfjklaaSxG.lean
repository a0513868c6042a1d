/-
  That one symbolic operation is what the model does: operations on values.
-/
import Derived.Test.YtdlcjmonnfjklaaSxF
set_option linter.unusedSimpArgs false
set_option linter.unusedVariables false
namespace Go.Sx
open Go.RowKit (Below)
section
variable {P : Program} {w : World} {ρ : Rho}

theorem avK_den {v y : Value} (h : veq v y) : (avK v).den ρ y := by
  unfold avK
  split
  · exact ⟨h.int, ceq.ok h⟩
  · exact ⟨h.bool, by rw [h.bool]; rfl⟩
  · exact h
theorem avK_lt (n : Nat) (v : Value) : (avK v).lt n := by
  unfold avK; split <;> trivial
theorem kind_zero (k : IntKind) : k.min ≤ 0 ∧ 0 ≤ k.max := by cases k <;> decide
theorem okc_wrapI (k : IntKind) (n : Int) : okc (.int k (wrapI k n)) = true := by rw [wrapI_eq]; exact okc_wrap k n
theorem okc_fdiv {k : IntKind} {a : Int} (h : k.min ≤ a ∧ a ≤ k.max) {d : Int} (hd : 0 < d) : okc (.int k (a.fdiv d)) = true := by
  have hz := kind_zero k
  rw [Int.fdiv_eq_ediv_of_nonneg a (by omega)]
  have h1 := Int.mul_ediv_add_emod a d
  have h2 := Int.emod_nonneg a (show d ≠ 0 by omega)
  have h3 := Int.emod_lt_of_pos a hd
  have h4 : a ≤ a / d ∨ 0 ≤ a := by
    rcases Int.lt_or_le a 0 with ha | ha
    · left
      rw [Int.le_ediv_iff_mul_le hd]
      have : a * d ≤ a * 1 := Int.mul_le_mul_of_nonpos_left (by omega) (by omega)
      omega
    · exact .inr ha
  have h5 : a / d ≤ a ∨ a < 0 := by
    rcases Int.lt_or_le a 0 with ha | ha
    · exact .inr ha
    · exact .inl (Int.ediv_le_self d ha)
  have h6 : 0 ≤ a → 0 ≤ a / d := fun ha => Int.ediv_nonneg ha (by omega)
  have h7 : a < 0 → a / d < 0 := fun ha => Int.ediv_neg_of_neg_of_pos ha hd
  simp only [okc, Bool.and_eq_true, decide_eq_true_eq]
  constructor
  · rcases Int.lt_or_le a 0 with ha | ha
    · have := h4.resolve_right (by omega); omega
    · have := h6 ha; omega
  · rcases Int.lt_or_le a 0 with ha | ha
    · have := h7 ha; omega
    · have := h5.resolve_right (by omega); omega
theorem okc_tmod {k : IntKind} {a : Int} (h : k.min ≤ a ∧ a ≤ k.max) (b : Int) : okc (.int k (a.tmod b)) = true := by
  have hz := kind_zero k
  have h1 : (a.tmod b).natAbs ≤ a.natAbs := by
    rw [Int.natAbs_tmod]
    exact Nat.mod_le _ _
  have h2 : 0 ≤ a → 0 ≤ a.tmod b := fun ha => Int.tmod_nonneg b ha
  have h3 : a ≤ 0 → a.tmod b ≤ 0 := fun ha => by
    have := Int.tmod_nonneg b (show 0 ≤ -a by omega)
    rw [Int.neg_tmod] at this
    omega
  simp only [okc, Bool.and_eq_true, decide_eq_true_eq]
  rcases Int.le_total 0 a with ha | ha
  · have := h2 ha; omega
  · have := h3 ha; omega
theorem intBin_ok {op : BinOp} {k k' : IntKind} {a b : Int} {v : Value} (ha : k.min ≤ a ∧ a ≤ k.max) (h : intBin op k a k' b = some v) (t : TypeId) : (binOp op t (.int k a) (.int k' b)).run P w = .ok v w ∧ veq v v := by
  unfold intBin at h
  cases op
  case shl =>
    simp only at h
    split at h
    · cases h
    · rename_i hb
      cases h
      simp only [decide_eq_false_iff_not] at hb
      exact ⟨by simp [binOp, Op.shift, hb, wrapI_eq], ceq.refl (okc_wrapI _ _)⟩
  case shr =>
    simp only at h
    split at h
    · cases h
    · rename_i hb
      cases h
      simp only [decide_eq_false_iff_not] at hb
      exact ⟨by simp [binOp, Op.shift, hb], ceq.refl (okc_fdiv ha (Int.pow_pos (by decide)))⟩
  all_goals
    simp only at h
    split at h
    · cases h
    · rename_i hk
      simp only [decide_eq_true_eq] at hk
      subst hk
      first
        | (cases h; done)
        | (cases h; exact ⟨by simp [binOp, Op.intArith, Op.intCmp, Op.intBits, wrapI_eq], ceq.refl (by first | rfl | exact okc_wrapI _ _ | exact okc_wrap _ _ | exact okc_tmod ha _)⟩)
        | (split at h
           · cases h
           · rename_i hb
             simp only [decide_eq_false_iff_not] at hb
             cases h
             exact ⟨by simp [binOp, Op.intDiv, hb, wrapI_eq], ceq.refl (by first | rfl | exact okc_wrapI _ _ | exact okc_wrap _ _ | exact okc_tmod ha _)⟩)
theorem floBin_ok {op : BinOp} {k : FloatKind} {x y x' y' : Nat} {v : Value} (h : floBin op k x y = some v) (t : TypeId) (hx : feq k x x') (hy : feq k y y') :
    ∃ r n, (binOp op t (.float k x') (.float k y')).run P w = .ok r (w.drewN n) ∧ veq v r := by
  have ari : ∀ op, (op = .add ∨ op = .sub ∨ op = .mul ∨ op = .quo) → ∃ r n, (binOp op t (.float k x') (.float k y')).run P w = .ok r (w.drewN n) ∧ veq (.float k (fari op k x y)) r := fun op ho => by
    obtain ⟨r, n, h1, h2⟩ := run_fari (P := P) w ho t hx hy
    exact ⟨_, n, h1, veq.of_feq h2⟩
  have cmp : ∀ op, (op = .eql ∨ op = .neq ∨ op = .lss ∨ op = .leq ∨ op = .gtr ∨ op = .geq) → ∃ r n, (binOp op t (.float k x') (.float k y')).run P w = .ok r (w.drewN n) ∧ veq (.bool (fcmp op k x y)) r := fun op ho =>
    ⟨_, 0, run_fcmp (P := P) w ho t hx hy, veq.of_ceq (ceq.refl rfl)⟩
  cases op <;> simp only [floBin] at h <;> first
    | (cases h; done)
    | (cases h; exact ari _ (by simp))
    | (cases h; exact cmp _ (by simp))
theorem strEq_eq (a b : ByteArray) : strEq a b = (a.toList == b.toList) := hide_eq _
theorem run_guard (op : BinOp) (t : TypeId) (x y : Operand) (a b : Value) (h1 : ∀ cs, a ≠ .agg cs) (h2 : a ≠ .nilIface) : (eqGuard op t x y a b).run P w = .ok () w := by
  unfold eqGuard
  cases op <;> cases a <;> cases b <;> first
    | rfl
    | exact absurd rfl (h1 _)
    | exact absurd rfl h2
theorem run_equalIn_bool (w : World) (d : Nat) {t : TypeId} (p q : Bool) (hu : P.underlying t = some .bool) : (Op.equalIn (d + 1) t (.bool p) (.bool q)).run P w = .ok (p == q) w := by
  simp [Op.equalIn, run_underlying hu]
theorem valBin_ok {op : BinOp} {d : TD} {a b v a' b' : Value} (h : valBin op d a b = some v) {t : TypeId} {ds : TypeDesc} (hu : P.underlying t = some ds) (hd : d.ok ds) (ha : veq a a') (hb : veq b b') (x y : Operand) :
    ∃ r n, (do eqGuard op t x y a' b'; binOp op t a' b').run P w = .ok r (w.drewN n) ∧ veq v r := by
  unfold valBin at h
  split at h
  · rename_i k m k' m'
    have ea := ha.int; subst ea
    have eb := hb.int; subst eb
    obtain ⟨h1, h2⟩ := intBin_ok (P := P) (w := w) ha.range h t
    refine ⟨v, 0, ?_, h2⟩
    rw [Sem.run_bind, run_guard op t x y _ _ (by simp) (by simp)]
    exact h1
  · rename_i k m k' m'
    split at h
    · rename_i hk
      simp only [decide_eq_true_eq] at hk
      subst hk
      obtain ⟨x', rfl, hx⟩ := ha.float
      obtain ⟨y', rfl, hy⟩ := hb.float
      obtain ⟨r, n, h1, h2⟩ := floBin_ok (P := P) (w := w) h t hx hy
      refine ⟨r, n, ?_, h2⟩
      rw [Sem.run_bind, run_guard op t x y _ _ (by simp) (by simp)]
      exact h1
    · cases h
  · rename_i p q
    have ea := ha.bool; subst ea
    have eb := hb.bool; subst eb
    split at h
    · have hd : ds = .bool := hd
      subst hd
      have heq : ∀ w, (Op.equal t (.bool p) (.bool q)).run P w = .ok (p == q) w := fun w => by
        have := run_equalIn_bool (P := P) w 9999 p q hu
        exact this
      cases op <;> simp only at h <;> first
        | (cases h; done)
        | (cases h
           refine ⟨_, 0, ?_, veq.of_ceq (ceq.refl rfl)⟩
           rw [Sem.run_bind, run_guard _ t x y _ _ (by simp) (by simp)]
           simp [binOp, heq]
           rfl)
    · cases h
  · rename_i p q
    have ea := ha.string; subst ea
    have eb := hb.string; subst eb
    cases op <;> simp only at h <;> first
      | (cases h; done)
      | (cases h
         refine ⟨_, 0, ?_, veq.of_ceq (ceq.refl rfl)⟩
         rw [Sem.run_bind, run_guard _ t x y _ _ (by simp) (by simp)]
         simp [binOp, Op.stringOp, strEq_eq]
         rfl)
  · cases h

/-! ### Conversions -/
theorem cut_zero (neg : Bool) (n : Nat) : Ieee.Toward.even.cut neg n 0 = n := by
  simp [Ieee.Toward.cut, Nat.mod_one]
/-- A narrow number, written wide. -/
theorem enc64 (neg : Bool) {m : Nat} {e : Int} (hm : 0 < m) (h24 : m < 2 ^ 24) (h1 : -149 ≤ e) (h2 : e ≤ 104) :
    Ieee.double.nearest neg m e = Ieee.double.word neg ((e + m.log2 + 1022).toNat * 2 ^ 52 + m * 2 ^ (52 - m.log2)) ∧ (e + m.log2 + 1022).toNat * 2 ^ 52 + m * 2 ^ (52 - m.log2) < 2047 * 2 ^ 52 := by
  have hl : m.log2 < 24 := (Nat.log2_lt (by omega)).2 h24
  have hlt : m < 2 ^ (m.log2 + 1) := Nat.lt_log2_self
  have hk : m * 2 ^ (52 - m.log2) < 2 ^ 53 := by
    have := Nat.mul_lt_mul_of_pos_right hlt (Nat.two_pow_pos (52 - m.log2))
    rw [← Nat.pow_add] at this
    rwa [show m.log2 + 1 + (52 - m.log2) = 53 by omega] at this
  generalize hll : m.log2 = l at *
  have hlast : max (e + (l : Int) - 52) (-1074) = e + l - 52 := by omega
  have hb : (e + l + 1022).toNat * 2 ^ 52 + m * 2 ^ (52 - l) < 2047 * 2 ^ 52 := by
    have : (e + l + 1022).toNat ≤ 1149 := by omega
    generalize (e + l + 1022).toNat = q at *
    omega
  refine ⟨?_, hb⟩
  have hlp : Ieee.double.leastPlace = -1074 := by decide
  have hfb : Ieee.double.fractionBits = 52 := rfl
  have hbn : Ieee.double.binade = 2 ^ 52 := rfl
  have hinf : Ieee.double.infRung = 2047 * 2 ^ 52 := by decide
  unfold Ieee.Format.nearest
  rw [if_neg (by omega)]
  dsimp only
  rw [hlp, hfb, hbn, hinf, hll]
  rw [show ((52 : Nat) : Int) = 52 from rfl, hlast]
  rw [show (e - (e + (l : Int) - 52)).toNat = 52 - l by omega, show (e + (l : Int) - 52 - e).toNat = 0 by omega, show (e + (l : Int) - 52 - -1074).toNat = (e + l + 1022).toNat by omega]
  rw [cut_zero, Nat.shiftLeft_eq, Nat.min_eq_left (Nat.le_of_lt hb)]
theorem read_word (f : Ieee.Format) (neg : Bool) {rung : Nat} (h : rung < f.infRung) : ∃ m e, f.read (f.word neg rung) = .number neg m e := by
  have h1 := f.infRung_lt
  have h2 : f.word neg rung % f.signWeight = rung := by
    unfold Ieee.Format.word
    split
    · rw [Nat.add_mod_left, Nat.mod_eq_of_lt (by omega)]
    · exact Nat.mod_eq_of_lt (by omega)
  have h3 : (f.word neg rung / f.signWeight % 2 == 1) = neg := by
    have hp : 0 < f.signWeight := by omega
    unfold Ieee.Format.word
    cases neg
    · simp [Nat.div_eq_of_lt (show rung < f.signWeight by omega)]
    · simp [Nat.add_div_left _ hp, Nat.div_eq_of_lt (show rung < f.signWeight by omega)]
  unfold Ieee.Format.read
  dsimp only
  rw [h2, h3]
  split
  · exact ⟨_, _, rfl⟩
  · exact ⟨_, _, rfl⟩
theorem read32 {x : Nat} {s : Bool} {m : Nat} {e : Int} (h : Ieee.single.read x = .number s m e) : m < 2 ^ 24 ∧ -149 ≤ e ∧ e ≤ 104 := by
  have hlp : Ieee.single.leastPlace = -149 := by decide
  have hbn : Ieee.single.binade = 8388608 := by decide
  have hinf : Ieee.single.infRung = 2139095040 := by decide
  unfold Ieee.Format.read at h
  dsimp only at h
  rw [hlp, hbn, hinf] at h
  split at h
  · cases h; omega
  · split at h
    · cases h; omega
    · split at h <;> cases h
theorem cvt_ok (w : World) {x x' : Nat} (h : feq .f32 x x') : ∃ r n, (Conv.floatToFloat .f32 x' .f64).run P w = .ok (.float .f64 r) (w.drewN n) ∧ feq .f64 (cvt x) r := by
  have e : cvt x = cvt0 x := hide_eq _
  rw [e]
  have nan : ∀ z, isNaN .f32 z = true → cvt0 z = qnan .f64 := fun z hz => by
    obtain ⟨s, f, e⟩ := decode_nan hz
    simp [cvt0, FloatKind.decode, e]
  cases hn : isNaN .f32 x' with
  | true =>
    obtain ⟨s, f, e⟩ := decode_nan hn
    refine ⟨(Question.nanConv .f64 x').cut (w.tape w.drawn (.nanConv .f64 x')), 1, ?_, .inr ⟨?_, isNaN_nanConv ..⟩⟩
    · have hf : (Question.nanConv .f64 x').forced = false := rfl
      simp [Conv.floatToFloat, FloatKind.decode, e, hf]
      rfl
    · rw [nan x (by rw [h.nan]; exact hn)]
      exact isNaN_qnan _
  | false =>
    have : x = x' := h.resolve_right (fun hh => by rw [hn] at hh; simp at hh)
    subst this
    have hd : ∃ r, (Conv.floatToFloat .f32 x .f64).run P w = .ok (.float .f64 r) w ∧ cvt0 x = r := by
      unfold isNaN at hn
      cases hx : FloatKind.f32.decode x with
      | nan s f => rw [hx] at hn; simp [Ieee.Datum.isNaN] at hn
      | infinity s => exact ⟨_, by simp [Conv.floatToFloat, hx]; rfl, by simp [cvt0, hx]⟩
      | number s m e =>
        obtain ⟨hm, h1, h2⟩ := read32 (show Ieee.single.read x = .number s m e from hx)
        have hr : ∃ rung, rung < Ieee.double.infRung ∧ FloatKind.f64.encode (.number s m e) = Ieee.double.word s rung := by
          have hinf : Ieee.double.infRung = 2047 * 2 ^ 52 := by decide
          by_cases h0 : m = 0
          · subst h0
            exact ⟨0, by rw [hinf]; decide, by simp [FloatKind.encode, FloatKind.format, Ieee.Format.write, Ieee.Format.nearest]⟩
          · obtain ⟨h3, h4⟩ := enc64 s (by omega) hm h1 h2
            exact ⟨_, by rw [hinf]; exact h4, h3⟩
        obtain ⟨rung, hlt, henc⟩ := hr
        obtain ⟨m', e', hread⟩ := read_word Ieee.double s hlt
        have hdec : (FloatKind.f64.decode (FloatKind.f64.encode (.number s m e))).isInfinity = false := by
          rw [henc]
          show (Ieee.double.read _).isInfinity = false
          rw [hread]; rfl
        refine ⟨_, ?_, rfl⟩
        have hne : (FloatKind.f32 = FloatKind.f64) ↔ False := by simp
        simp [Conv.floatToFloat, hx, hdec, cvt0]
    obtain ⟨r, h1, h2⟩ := hd
    exact ⟨r, 0, h1, .inl h2⟩
theorem ofInt_eq (k : FloatKind) (n : Int) : ofInt k n = k.nearest n := hide_eq _
theorem valConv_ok {s d : TD} {a v a' : Value} (h : valConv s d a = some v) {ts tD : TypeId} {ds dd : TypeDesc} (hus : P.underlying ts = some ds) (hu : P.underlying tD = some dd) (hd : d.ok dd) (ha : veq a a') :
    ∃ r n, (convert ts tD a').run P w = .ok r (w.drewN n) ∧ veq v r := by
  unfold valConv at h
  split at h
  · rename_i k m
    have ea := ha.int; subst ea
    split at h
    · cases h
      have hd : dd = .int _ := hd
      subst hd
      refine ⟨_, 0, ?_, ceq.refl (okc_wrapI _ _)⟩
      cases ds <;> simp [convert, run_underlying hus, run_underlying hu, Conv.intToInt, wrapI_eq] <;> rfl
    · cases h
      have hd : dd = .float _ := hd
      subst hd
      refine ⟨_, 0, ?_, ceq.refl rfl⟩
      cases ds <;> simp [convert, run_underlying hus, run_underlying hu, Conv.intToFloat, ofInt_eq] <;> rfl
    · cases h
  · rename_i k b
    obtain ⟨y, rfl, hy⟩ := ha.float
    split at h
    · rename_i k'
      have hd : dd = .float _ := hd
      subst hd
      split at h
      · rename_i hk
        cases h
        simp only [decide_eq_true_eq] at hk
        subst hk
        refine ⟨.float k y, 0, ?_, veq.of_feq hy⟩
        cases ds <;> simp [convert, run_underlying hus, run_underlying hu, Conv.floatToFloat] <;> rfl
      · rename_i hk
        split at h
        · cases h
          cases k' with
          | f32 => simp at hk
          | f64 =>
            obtain ⟨r, n, h1, h2⟩ := cvt_ok (P := P) w hy
            refine ⟨_, n, ?_, veq.of_feq h2⟩
            cases ds <;> simp [convert, run_underlying hus, run_underlying hu, h1]
        · cases h
    · cases h
  · cases h
theorem isNaN_neg (k : FloatKind) (x : Nat) (h : isNaN k x = true) : isNaN k (Op.negFloat k x) = true := by
  have hs : (Op.negFloat k x) % k.format.signWeight = x % k.format.signWeight := by
    unfold Op.negFloat Ieee.Format.signWeight
    apply Nat.eq_of_testBit_eq
    intro i
    simp only [Nat.testBit_mod_two_pow, Nat.testBit_xor, Nat.testBit_two_pow]
    by_cases hi : i < k.format.exponentBits + k.format.fractionBits
    · have : ¬ (k.format.exponentBits + k.format.fractionBits = i) := by omega
      simp [hi, this]
    · simp [hi]
  unfold isNaN FloatKind.decode Ieee.Format.read at h ⊢
  dsimp only at h ⊢
  rw [hs]
  split at h
  · simp [Ieee.Datum.isNaN] at h
  · split at h
    · simp [Ieee.Datum.isNaN] at h
    · split at h
      · simp [Ieee.Datum.isNaN] at h
      · rw [if_neg (by assumption), if_neg (by assumption), if_neg (by assumption)]
        rfl
theorem fneg_eq (k : FloatKind) (x : Nat) : fneg k x = Op.negFloat k x := hide_eq _
theorem valUn_ok {op : UnOp} {a v a' : Value} (h : valUn op a = some v) (ha : veq a a') : ∃ r, (Op.unary op a').run P w = .ok r w ∧ veq v r := by
  unfold valUn at h
  split at h
  · have ea := ha.bool; subst ea
    split at h
    · cases h; exact ⟨_, rfl, ceq.refl rfl⟩
    · cases h
  · rename_i k b
    obtain ⟨y, rfl, hy⟩ := ha.float
    split at h
    · cases h
      refine ⟨_, rfl, veq.of_feq ?_⟩
      rw [fneg_eq]
      rcases hy with rfl | ⟨h1, h2⟩
      · exact .inl rfl
      · exact .inr ⟨isNaN_neg k _ h1, isNaN_neg k _ h2⟩
    · cases h
  · have ea := ha.int; subst ea
    split at h
    · cases h; exact ⟨_, by simp [Op.unary, Op.intArith, wrapI_eq], ceq.refl (okc_wrapI _ _)⟩
    · cases h
  · cases h
theorem fmin_eq (m : Bool) (k : FloatKind) (x y : Nat) : fmin m k x y = fmin0 m k x y := hide_eq _
theorem decode_feq_neg {k : FloatKind} {x x' y y' : Nat} (hx : feq k x x') (hy : feq k y y') (h : k.format.order x' y' ≠ none) : x = x' ∧ y = y' := by
  constructor
  · exact hx.resolve_right fun hh => h (order_nan (.inl hh.2))
  · exact hy.resolve_right fun hh => h (order_nan (.inr hh.2))
theorem order_feq {k : FloatKind} {x x' y y' : Nat} (h : feq k x x') (h' : feq k y y') : k.format.order x y = k.format.order x' y' := by
  rcases h with rfl | ⟨a, b⟩
  · rcases h' with rfl | ⟨a, b⟩
    · rfl
    · rw [order_nan (.inr a), order_nan (.inr b)]
  · rw [order_nan (.inl a), order_nan (.inl b)]
theorem run_max2 (w : World) {k : FloatKind} {x y x' y' : Nat} (hx : feq k x x') (hy : feq k y y') :
    ∃ r n, (Builtin.max2 (.float k x') (.float k y')).run P w = .ok (.float k r) (w.drewN n) ∧ feq k (fmin true k x y) r := by
  rw [fmin_eq]
  cases ho : k.format.order x' y' with
  | none =>
    refine ⟨(Question.nanMinMax k true x' y').cut (w.tape w.drawn (.nanMinMax k true x' y')), 1, ?_, .inr ⟨?_, isNaN_nanMinMax ..⟩⟩
    · have hf : (Question.nanMinMax k true x' y').forced = false := rfl
      simp [Builtin.max2, ho, hf]
      rfl
    · simp [fmin0, order_feq hx hy, ho, isNaN_qnan]
  | some c =>
    obtain ⟨rfl, rfl⟩ := decode_feq_neg hx hy (by rw [ho]; simp)
    refine ⟨_, 0, ?_, .inl rfl⟩
    cases c <;> simp [Builtin.max2, ho, fmin0] <;> rfl
theorem run_min2 (w : World) {k : FloatKind} {x y x' y' : Nat} (hx : feq k x x') (hy : feq k y y') :
    ∃ r n, (Builtin.min2 (.float k x') (.float k y')).run P w = .ok (.float k r) (w.drewN n) ∧ feq k (fmin false k x y) r := by
  rw [fmin_eq]
  cases ho : k.format.order x' y' with
  | none =>
    refine ⟨(Question.nanMinMax k false x' y').cut (w.tape w.drawn (.nanMinMax k false x' y')), 1, ?_, .inr ⟨?_, isNaN_nanMinMax ..⟩⟩
    · have hf : (Question.nanMinMax k false x' y').forced = false := rfl
      simp [Builtin.min2, ho, hf]
      rfl
    · simp [fmin0, order_feq hx hy, ho, isNaN_qnan]
  | some c =>
    obtain ⟨rfl, rfl⟩ := decode_feq_neg hx hy (by rw [ho]; simp)
    refine ⟨_, 0, ?_, .inl rfl⟩
    cases c <;> simp [Builtin.min2, ho, fmin0] <;> first | rfl | (cases (k.decode x).neg <;> simp <;> rfl) | skip
end
end Go.Sx
