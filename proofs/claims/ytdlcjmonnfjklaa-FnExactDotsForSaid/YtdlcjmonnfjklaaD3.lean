/-
  PROVED HERE: a part of FnExactDotsFor.
-/
import Derived.Test.YtdlcjmonnfjklaaD2
set_option linter.unusedSimpArgs false
set_option linter.unusedVariables false
namespace Go.Proofs.Ytdlcjmonnfjklaa
open Go.Sx
noncomputable def xecL {R : Type} (ti : List (Nat × TI)) (C : List (Nat × Ctr)) (n m fuel : Nat) : List Code → List (Option Bool) → St → (Ex → List (Option Bool) → St → Option R) → Option R
  | [], o, st, K => K .n o st
  | c :: l, o, st, K => xec ti C n m fuel c o st fun e o st' => match e with
    | .n => xecL ti C n m fuel l o st' K
    | e => K e o st'
def seqs : List Code → Code → Code
  | [], r => r
  | c :: l, r => .seq c (seqs l r)
theorem xecL_wp {R : Type} {P : Program} {ti : List (Nat × TI)} {C : List (Nat × Ctr)} {n m base : Nat} {w0 : World} (hti : TIok P ti) (hC : ∀ f c, Sx.look C f = some c → Sx.Good P f c) (hm : P.follows .mixedOrders = true) {fuel : Nat} {rest : Code} {Q : Exit → Act → World → Prop} {K : Ex → List (Option Bool) → St → Option R} {r : R}
    (hK : ∀ e o' (st' : St) a' w', K e o' st' = some r → Ag n base w0 st'.env st'.tbl st'.nx a' w' → match e with | .n => rest.wp P Q a' w' | e => Q e.ex a' w') : ∀ {l : List Code} {o : List (Option Bool)} {st : St} {a : Act} {w : World}, xecL ti C n m fuel l o st K = some r → Ag n base w0 st.env st.tbl st.nx a w → (seqs l rest).wp P Q a w
  | [], o, st, a, w, h, hA => hK .n o st a w h hA
  | c :: l, o, st, a, w, h, hA => by
    simp only [xecL] at h
    refine wp_seq ((xec_both (R := R) (m := m) (w0 := w0) (base := base) hti hC hm fuel).1 c st o _ r a w _ h hA fun e o' st' a' w' he hA' => ?_)
    cases e with
    | n => exact xecL_wp hti hC hm hK he hA'
    | x i => exact hK (.x i) o' st' a' w' he hA'
    | r => exact hK .r o' st' a' w' he hA'
noncomputable def X0 (p q : Nat → Nat) : DX := ⟨1056964608, 1056964608, 1056964608, ownS p q 1056964608 1056964608 1056964608, 1048576000, 0⟩
theorem X0_ok (p q : Nat → Nat) : VX (X0 p q) := ⟨.inl (by show 1048576000 ∈ steps; decide), by show (0 : Int) ≤ 0; decide, by show (0 : Int) ≤ 400; decide⟩
theorem X0_loops (p q : Nat → Nat) : ∃ z, Loops (stepS p q) (X0 p q) (.x 0) z ∧ Loops (stepI p q) (X0 p q) (.x 0) z := loops_exist p q 400 (X0 p q) (X0_ok p q) (by show (400 - (0 : Int)).toNat ≤ 400; decide)
noncomputable def runZ (p q : Nat → Nat) : DX := Classical.choose (X0_loops p q)
noncomputable def badB (p q : Nat → Nat) : Bool := match !okP p with | true => true | false => !w3 (q 0) (q 1) (q 2)
def nth3 (z : DX) : Nat → Nat
  | 0 => z.a
  | 1 => z.b
  | _ => z.c
def g3 (bad : Bool) (z : DX) (i : Nat) : Nat := match bad with | true => 0 | false => nth3 z i
def outD (bad : Bool) (z : DX) : List RA := [.v (.agg ⟨fcells (g3 bad z) 3⟩), .v (.float .f32 (match bad with | true => 0 | false => z.far)), .v (.int .i64 (match bad with | true => 0 | false => z.k)), .v (.int .i64 (match bad with | true => 1 | false => 0))]
noncomputable def c6 : Ctr := ⟨[.v, .v], fun | [x, y] => onFl 24 (fun p => onFl 3 (fun q => some (.tu (outD (badB p q) (runZ p q)))) y) x | _ => none⟩
theorem onFl_at {n : Nat} {F : (Nat → Nat) → Option RV} {x : Value} {rv : RV} (h : onFl n F x = some rv) : ∃ f, x = .agg ⟨fcells f n⟩ ∧ F f = some rv := by
  unfold onFl at h
  split at h
  · rename_i cs
    split at h
    · rename_i h1
      exact ⟨flAt cs, congrArg (fun l => Value.agg ⟨l⟩) (isFl_fcf h1 fun i _ => by rw [Nat.zero_add]), h⟩
    · cases h
  · cases h
def stD (p q : Nat → Nat) : St := ⟨[(0, .a (.v (.agg ⟨fcells p 24⟩))), (1, .a (.v (.agg ⟨fcells q 3⟩)))], [(0, none), (1, none)], 1000⟩
theorem fcf_flAt {f : Nat → Nat} {n : Nat} : fcells f n = fcells (flAt (fcells f n)) n := isFl_fcf (f := flAt (fcells f n)) (k := 0) (n := n) (cs := fcells f n) (by
    have : ∀ (n k : Nat), isFl n (fcf f k n) = true := by
      intro n
      induction n with
      | zero => intro k; rfl
      | succ n ih => intro k; exact ih (k + 1)
    exact this n 0) (fun i _ => by rw [Nat.zero_add])
noncomputable def P6 : List Code := [sL B6, sL (sR B6), sL (sR (sR B6)), sL (sR (sR (sR B6))), sL (sR (sR (sR (sR B6)))), sL (sR (sR (sR (sR (sR B6)))))]
noncomputable def E6 : Code := sR (sR (sR (sR (sR (sR (sR B6))))))
theorem body6 : Try.f6.body = some (seqs P6 (.seq (.block 0 (.loop L6)) E6)) := by kernel_rfl
theorem bad6 (p q : Nat → Nat) : xec Try.ti [(25, c25), (24, c24), (26, c26), (22, c22), (23, c23)] Try.f6.ntmps 5017514670692222894079 100000 (seqs P6 (.seq (.block 0 (.loop L6)) E6)) [some true] (stD p q) (resK Try.ti Try.f6) = match badB (flAt (fcells p 24)) (flAt (fcells q 3)) with | true => some (.tu (outD true (X0 p q))) | false => none := by kernel_rfl
theorem pre6 (p q : Nat → Nat) : xecL Try.ti [(25, c25), (24, c24), (26, c26), (22, c22), (23, c23)] Try.f6.ntmps 5017514670692222894079 100000 P6 [some false] (stD p q) (normK ksS) = match badB (flAt (fcells p 24)) (flAt (fcells q 3)) with | true => none | false => some (.n, mkS p q ⟨1056964608, 1056964608, 1056964608, ownS (flAt (fcells p 24)) (flAt (fcells q 3)) 1056964608 1056964608 1056964608, 1048576000, 0⟩) := by kernel_rfl
theorem end6 (p q : Nat → Nat) (z : DX) : xec Try.ti [(25, c25), (24, c24), (26, c26), (22, c22), (23, c23)] Try.f6.ntmps 5017514670692222894079 100000 E6 [] (mkS p q z) (resK Try.ti Try.f6) = some (.tu (outD false z)) := by kernel_rfl
theorem goods6 : ∀ f c, Sx.look [(25, c25), (24, c24), (26, c26), (22, c22), (23, c23)] f = some c → Sx.Good Try.prog f c := (goods_cons g25 (goods_cons g24 (goods_cons g26 (goods_cons g22 (goods_cons g23 goods_nil)))))
noncomputable def P9 : List Code := [sL B9, sL (sR B9), sL (sR (sR B9)), sL (sR (sR (sR B9)))]
noncomputable def E9 : Code := sR (sR (sR (sR (sR B9))))
theorem body9 : Try.f9.body = some (seqs P9 (.seq (.block 0 (.loop L9)) E9)) := by kernel_rfl
theorem bad9 (p q : Nat → Nat) : xec Try.ti [(30, c30), (29, c24), (31, c31), (27, c27), (28, c28)] Try.f9.ntmps 1227817447287672822546431 100000 (seqs P9 (.seq (.block 0 (.loop L9)) E9)) [some true] (stD p q) (resK Try.ti Try.f9) = match badB (flAt (fcells p 24)) (flAt (fcells q 3)) with | true => some (.tu (outD true (X0 p q))) | false => none := by kernel_rfl
theorem pre9 (p q : Nat → Nat) : xecL Try.ti [(30, c30), (29, c24), (31, c31), (27, c27), (28, c28)] Try.f9.ntmps 1227817447287672822546431 100000 P9 [some false] (stD p q) (normK ksI) = match badB (flAt (fcells p 24)) (flAt (fcells q 3)) with | true => none | false => some (.n, mkI p q ⟨1056964608, 1056964608, 1056964608, ownI (flAt (fcells p 24)) (flAt (fcells q 3)) 1056964608 1056964608 1056964608, 1048576000, 0⟩) := by kernel_rfl
theorem end9 (p q : Nat → Nat) (z : DX) : xec Try.ti [(30, c30), (29, c24), (31, c31), (27, c27), (28, c28)] Try.f9.ntmps 1227817447287672822546431 100000 E9 [] (mkI p q z) (resK Try.ti Try.f9) = some (.tu (outD false z)) := by kernel_rfl
theorem goods9 : ∀ f c, Sx.look [(30, c30), (29, c24), (31, c31), (27, c27), (28, c28)] f = some c → Sx.Good Try.prog f c := (goods_cons g30 (goods_cons g29 (goods_cons g31 (goods_cons g27 (goods_cons g28 goods_nil)))))
end Go.Proofs.Ytdlcjmonnfjklaa
