/-
  PROVED HERE: a part of FnExactDotsFor.
-/
import Derived.Test.YtdlcjmonnfjklaaD3
set_option linter.unusedSimpArgs false
set_option linter.unusedVariables false
namespace Go.Proofs.Ytdlcjmonnfjklaa
open Go.Sx
theorem step6 (p q : Nat → Nat) (x : DX) : xec Try.ti [(25, c25), (24, c24), (26, c26)] Try.f6.ntmps 5017514670692222894079 100000 L6 [] (mkS p q x) (normK ksS) = some ((stepS (flAt (fcells p 24)) (flAt (fcells q 3)) x).1, mkS p q (stepS (flAt (fcells p 24)) (flAt (fcells q 3)) x).2) :=
  (round6 p q x).trans step_gen
theorem g6 : Sx.Good Try.prog 6 c6 := good_by Try.func6 (by kernel_rfl) body6 fun vals rv hok h caps => by
  simp only [c6] at h
  split at h
  · obtain ⟨p, rfl, h2⟩ := onFl_some h
    obtain ⟨q, rfl, h3⟩ := onFl_some h2
    have e : rv = .tu (outD (badB (flAt (fcells p 24)) (flAt (fcells q 3))) (runZ (flAt (fcells p 24)) (flAt (fcells q 3)))) := (Option.some.inj h3).symm
    rw [e]
    refine ⟨(stD p q).env, (stD p q).tbl, by kernel_rfl, of_decide_eq_true (by kernel_rfl), of_decide_eq_true (by kernel_rfl), fun a w hA => ?_⟩
    cases hb : badB (flAt (fcells p 24)) (flAt (fcells q 3)) with
    | true =>
      have hbad := bad6 p q
      rw [hb] at hbad
      exact final_wp (st := stD p q) Try.tiok goods6 Try.mixed hbad hA
    | false =>
      have hpre := pre6 p q
      rw [hb] at hpre
      refine xecL_wp (m := 5017514670692222894079) Try.tiok goods6 Try.mixed (fun e o' st' a' w' hK hA' => ?_) hpre hA
      unfold normK at hK
      split at hK
      · rename_i s hs
        have hK := Option.some.inj hK
        obtain ⟨rfl, rfl⟩ := Prod.mk.inj hK
        have hA2 := norm_ok hs hA'
        show (Code.seq (.block 0 (.loop L6)) E6).wp Try.prog _ a' w'
        refine wp_seq (wp_block (loops_wp (m := 5017514670692222894079) (fuel := 100000) (o := []) (ks := ksS) (mk := mkS p q) (step := stepS (flAt (fcells p 24)) (flAt (fcells q 3))) (V := fun _ => True) (x := X0 (flAt (fcells p 24)) (flAt (fcells q 3))) Try.tiok (goods_cons g25 (goods_cons g24 (goods_cons g26 goods_nil))) Try.mixed (fun x _ => step6 p q x) (fun _ _ _ _ => trivial) trivial (Classical.choose_spec (X0_loops (flAt (fcells p 24)) (flAt (fcells q 3)))).1 hA2 fun a2 w2 hA3 => ?_))
        simp only [Ex.ex, Exit.inBlock, if_true, Exit.then]
        exact final_wp (st := mkS p q (runZ (flAt (fcells p 24)) (flAt (fcells q 3)))) Try.tiok goods6 Try.mixed (end6 p q _) hA3
      · cases hK
  · cases h
theorem step9 (p q : Nat → Nat) (x : DX) : xec Try.ti [(30, c30), (29, c24), (31, c31)] Try.f9.ntmps 1227817447287672822546431 100000 L9 [] (mkI p q x) (normK ksI) = some ((stepI (flAt (fcells p 24)) (flAt (fcells q 3)) x).1, mkI p q (stepI (flAt (fcells p 24)) (flAt (fcells q 3)) x).2) :=
  (round9 p q x).trans step_gen
theorem g9 : Sx.Good Try.prog 9 c6 := good_by Try.func9 (by kernel_rfl) body9 fun vals rv hok h caps => by
  simp only [c6] at h
  split at h
  · obtain ⟨p, rfl, h2⟩ := onFl_some h
    obtain ⟨q, rfl, h3⟩ := onFl_some h2
    have e : rv = .tu (outD (badB (flAt (fcells p 24)) (flAt (fcells q 3))) (runZ (flAt (fcells p 24)) (flAt (fcells q 3)))) := (Option.some.inj h3).symm
    rw [e]
    refine ⟨(stD p q).env, (stD p q).tbl, by kernel_rfl, of_decide_eq_true (by kernel_rfl), of_decide_eq_true (by kernel_rfl), fun a w hA => ?_⟩
    cases hb : badB (flAt (fcells p 24)) (flAt (fcells q 3)) with
    | true =>
      have hbad := bad9 p q
      rw [hb] at hbad
      exact final_wp (st := stD p q) Try.tiok goods9 Try.mixed hbad hA
    | false =>
      have hpre := pre9 p q
      rw [hb] at hpre
      rw [← own_same] at hpre
      refine xecL_wp (m := 1227817447287672822546431) Try.tiok goods9 Try.mixed (fun e o' st' a' w' hK hA' => ?_) hpre hA
      unfold normK at hK
      split at hK
      · rename_i s hs
        have hK := Option.some.inj hK
        obtain ⟨rfl, rfl⟩ := Prod.mk.inj hK
        have hA2 := norm_ok hs hA'
        show (Code.seq (.block 0 (.loop L9)) E9).wp Try.prog _ a' w'
        refine wp_seq (wp_block (loops_wp (m := 1227817447287672822546431) (fuel := 100000) (o := []) (ks := ksI) (mk := mkI p q) (step := stepI (flAt (fcells p 24)) (flAt (fcells q 3))) (V := fun _ => True) (x := X0 (flAt (fcells p 24)) (flAt (fcells q 3))) Try.tiok (goods_cons g30 (goods_cons g29 (goods_cons g31 goods_nil))) Try.mixed (fun x _ => step9 p q x) (fun _ _ _ _ => trivial) trivial (Classical.choose_spec (X0_loops (flAt (fcells p 24)) (flAt (fcells q 3)))).2 hA2 fun a2 w2 hA3 => ?_))
        simp only [Ex.ex, Exit.inBlock, if_true, Exit.then]
        exact final_wp (st := mkI p q (runZ (flAt (fcells p 24)) (flAt (fcells q 3)))) Try.tiok goods9 Try.mixed (end9 p q _) hA3
      · cases hK
  · cases h
/-! ### The law -/
theorem g10 : Sx.Good Try.prog 10 c21 := good 524479 Try.func10 [(11, c11)] (goods_cons g11 goods_nil) (by kernel_rfl) fun vals rv h caps => ⟨[], by
  simp only [c21] at h
  split at h
  · obtain ⟨p, rfl, h2⟩ := onFl_some h
    obtain ⟨f, rfl, h3⟩ := onFl_some h2
    rw [← h3, ← early_all]
    kernel_rfl
  · cases h⟩
noncomputable def tree3 (E S N M : Bool) : Option RV := match (match (match (match !E with | true => true | false => !S) with | true => true | false => N) with | true => true | false => M) with | true => bv false | false => bv true
noncomputable def c3 : Ctr := ⟨[.v, .v], fun | [x, y] => onFl 24 (fun _ => onFl 3 (fun _ => bv true) y) x | _ => none⟩
theorem r3 (p q : Nat → Nat) (caps : Nat → Nat) : runC Try.ti [(7, c7), (8, c8), (6, c6), (9, c6), (10, c21), (11, c11)] 100000 18014398509490175 [] Try.f3 [.v, .v] caps [.agg ⟨fcells p 24⟩, .agg ⟨fcells q 3⟩] =
    tree3 (allT (sameL (g3 (badB (flAt (fcells p 24)) (flAt (fcells q 3))) (runZ (flAt (fcells p 24)) (flAt (fcells q 3)))) (g3 (badB (flAt (fcells p 24)) (flAt (fcells q 3))) (runZ (flAt (fcells p 24)) (flAt (fcells q 3)))) 0 3))
      (sameB (cvt (match badB (flAt (fcells p 24)) (flAt (fcells q 3)) with | true => 0 | false => (runZ (flAt (fcells p 24)) (flAt (fcells q 3))).far)) (cvt (match badB (flAt (fcells p 24)) (flAt (fcells q 3)) with | true => 0 | false => (runZ (flAt (fcells p 24)) (flAt (fcells q 3))).far)))
      ((match badB (flAt (fcells p 24)) (flAt (fcells q 3)) with | true => (0 : Int) | false => (runZ (flAt (fcells p 24)) (flAt (fcells q 3))).k) != (match badB (flAt (fcells p 24)) (flAt (fcells q 3)) with | true => (0 : Int) | false => (runZ (flAt (fcells p 24)) (flAt (fcells q 3))).k))
      ((match badB (flAt (fcells p 24)) (flAt (fcells q 3)) with | true => (1 : Int) | false => 0) != (match badB (flAt (fcells p 24)) (flAt (fcells q 3)) with | true => (1 : Int) | false => 0)) := by kernel_rfl
theorem bne_same (n : Int) : (n != n) = false := by simp
theorem law3 : Sx.Good Try.prog 3 c3 := good 18014398509490175 Try.func3 [(7, c7), (8, c8), (6, c6), (9, c6), (10, c21), (11, c11)] (goods_cons g7 (goods_cons g8 (goods_cons g6 (goods_cons g9 (goods_cons g10 (goods_cons g11 goods_nil)))))) (by kernel_rfl) fun vals rv h caps => ⟨[], by
  simp only [c3] at h
  split at h
  · obtain ⟨p, rfl, h2⟩ := onFl_some h
    obtain ⟨q, rfl, h3⟩ := onFl_some h2
    rw [← h3]
    refine (r3 p q caps).trans ?_
    rw [sameL_self, sameB_self, bne_same, bne_same]
    rfl
  · cases h⟩
end Go.Proofs.Ytdlcjmonnfjklaa
