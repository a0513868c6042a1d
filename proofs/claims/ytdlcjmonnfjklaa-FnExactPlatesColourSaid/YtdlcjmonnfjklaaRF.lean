/-
  PROVED HERE: laws.FnExactPlatesColour returns true at every input, its arguments read afterwards as before; no conditions.
-/
import Derived.Test.YtdlcjmonnfjklaaRE
set_option linter.unusedSimpArgs false
set_option linter.unusedVariables false
namespace Go.Proofs.Ytdlcjmonnfjklaa
open Go.ChangeShapes Go.WideShapes Go.ChangeAt Go.RowKit

theorem ct24 : Try.prog.cellTypes Try.prog.depth 24 = some (List.replicate 24 (22 : TypeId)) := by kernel_rfl
theorem ct64 : Try.prog.cellTypes Try.prog.depth 64 = some ((37 : TypeId) :: (37 : TypeId) :: List.replicate 64 (22 : TypeId)) := by kernel_rfl
theorem ag24 : (Try.prog.underlying 24).map Sx.aggD = some true := by kernel_rfl
theorem ag64 : (Try.prog.underlying 64).map Sx.aggD = some true := by kernel_rfl
theorem sz24 : Try.prog.cellsOf 24 = (List.replicate 24 (22 : TypeId)).length := by kernel_rfl
theorem sz64 : Try.prog.cellsOf 64 = ((37 : TypeId) :: (37 : TypeId) :: List.replicate 64 (22 : TypeId)).length := by kernel_rfl
theorem f24 : (List.replicate 24 (22 : TypeId)).all (isF32 Try.prog) = true := by kernel_rfl
theorem f64 : (List.replicate 64 (22 : TypeId)).all (isF32 Try.prog) = true := by kernel_rfl
theorem i37 : isI8 Try.prog 37 = true := by kernel_rfl
theorem read5 : ([24, 64, 64, 64, 2, 2] : List TypeId).all (fun t => Try.prog.readableRec t && decide (t < Try.prog.types.size)) = true := by kernel_rfl
set_option maxRecDepth 100000 in
theorem open24 {W : World} {b : Nat} {v : Value} (hv : Value.okWide Try.prog W .any b 24 v) : ∃ f, v = .agg ⟨fcells f 24⟩ := by
  have h := open_floats (P := Try.prog) ag24 ct24 sz24 f24 hv
  rw [List.length_replicate] at h
  exact h
set_option maxRecDepth 100000 in
theorem open64 {W : World} {b : Nat} {v : Value} (hv : Value.okWide Try.prog W .any b 64 v) : ∃ w h f, v = plV w h f ∧ i8B w = true ∧ i8B h = true :=
  open_plate (P := Try.prog) ag64 ct64 sz64 i37 i37 f64 List.length_replicate hv
theorem plates_calls (p : Nat → Nat) (w1 h1 : Int) (f1 : Nat → Nat) (w2 h2 : Int) (f2 : Nat → Nat) (w3 h3 : Int) (f3 : Nat → Nat) (x y : Int) (b1 : i8B w1 = true) (b2 : i8B h1 = true) (b3 : i8B w2 = true) (b4 : i8B h2 = true) (b5 : i8B w3 = true) (b6 : i8B h3 = true) (W : World) :
    Calls Try.prog 5 #[.agg ⟨fcells p 24⟩, plV w1 h1 f1, plV w2 h2 f2, plV w3 h3 f3, .int .i64 x, .int .i64 y] W fun e W' => e = .returned (.bool true) ∧ Below W.heap.size W W' := by
  have hm : c5.m [.agg ⟨fcells p 24⟩, plV w1 h1 f1, plV w2 h2 f2, plV w3 h3 f3, .int .i64 x, .int .i64 y] = bv true := by
    have : c5.m [.agg ⟨fcells p 24⟩, plV w1 h1 f1, plV w2 h2 f2, plV w3 h3 f3, .int .i64 x, .int .i64 y] = (match i8B w1 && (i8B h1 && (i8B w2 && (i8B h2 && (i8B w3 && i8B h3)))) with | true => bv true | false => none) := by kernel_rfl
    rw [this, b1, b2, b3, b4, b5, b6]
    rfl
  have hr : Sx.ReadsAll W [.v, .v, .v, .v, .v, .v] [.agg ⟨fcells p 24⟩, plV w1 h1 f1, plV w2 h2 f2, plV w3 h3 f3, .int .i64 x, .int .i64 y] [.agg ⟨fcells p 24⟩, plV w1 h1 f1, plV w2 h2 f2, plV w3 h3 f3, .int .i64 x, .int .i64 y] :=
    ⟨veq_agg fcf_one, veq_pl _ _ _, veq_pl _ _ _, veq_pl _ _ _, veq_ints _ _, veq_ints _ _, trivial⟩
  refine (calls_of_good g5 Try.func5 (by kernel_rfl) (by kernel_rfl) hr hm).mono fun e W' h => ?_
  obtain ⟨v, rfl, hv, hb⟩ := h
  have hv : Sx.veq (.bool true) v := hv
  rw [hv.bool]
  exact ⟨rfl, hb⟩
set_option maxRecDepth 100000 in
theorem plates_lifted (os : Os) (started : os.Started) (H : Type) (enc : TypeId × Value → H) :
    ReturnsInHanded {} Try.checked os 5 .any (Rows.fnExactPlatesColourSpec.pre6 enc Try.prog Try.f5 Rows.fnExactPlatesColourRow.domain false) (Rows.fnExactPlatesColourSpec.post enc Try.prog Try.f5 false true false false) := by
  refine returnsInHanded_of_change (C := Try.checked) Try.own started (by kernel_rfl) Try.func5
    (ChangeSpec.witness6 (enc := enc) (C := Try.checked) false ⟨#[], #[.agg ⟨fcells (fun _ => 0) 24⟩, plV 0 0 (fun _ => 0), plV 0 0 (fun _ => 0), plV 0 0 (fun _ => 0), .int .i64 0, .int .i64 0], []⟩ 8 (by kernel_rfl) (by kernel_rfl) (by kernel_rfl) (by kernel_rfl)) ?_
  intro W base args ds gs before hval0 hW hcnd _
  have hval : ∀ (j : Nat) t v, Try.f5.params[j]? = some t → args[j]? = some v → Value.okWide Try.prog W .any base t v := hval0
  have hW' := hW
  obtain ⟨p, q, hA0, hV, rfl, hfz, hnd⟩ := hW
  have hA : DataW.TrodAll enc Try.prog W 0 (fun _ => true) true Try.f5.params.toList args.toList ds p := hA0
  have hp : Try.f5.params = #[24, 64, 64, 64, 2, 2] := by kernel_rfl
  have hA : DataW.TrodAll enc Try.prog W 0 (fun _ => true) true [24, 64, 64, 64, 2, 2] args.toList ds p := by rw [hp] at hA; exact hA
  rw [hp] at hval
  obtain ⟨rfl, rfl⟩ := trodVars_none hV
  obtain ⟨l⟩ := args
  obtain ⟨v0, l0, d0, e0, p0, q0, rfl, rfl, _, _, hA1⟩ := trodAll_cons hA
  obtain ⟨v1, l1, d1, e1, p1, q1, rfl, rfl, _, _, hA2⟩ := trodAll_cons hA1
  obtain ⟨v2, l2, d2, e2, p2, q2, rfl, rfl, _, _, hA3⟩ := trodAll_cons hA2
  obtain ⟨v3, l3, d3, e3, p3, q3, rfl, rfl, _, _, hA4⟩ := trodAll_cons hA3
  obtain ⟨v4, l4, d4, e4, p4, q4, rfl, rfl, _, _, hA5⟩ := trodAll_cons hA4
  obtain ⟨v5, l5, d5, e5, p5, q5, rfl, rfl, _, _, hA6⟩ := trodAll_cons hA5
  obtain ⟨rfl, rfl, _⟩ := trodAll_nil hA6
  obtain ⟨f0, rfl⟩ := open24 (hval 0 24 v0 rfl rfl)
  obtain ⟨w1, h1, f1, rfl, b1, b2⟩ := open64 (hval 1 64 v1 rfl rfl)
  obtain ⟨w2, h2, f2, rfl, b3, b4⟩ := open64 (hval 2 64 v2 rfl rfl)
  obtain ⟨w3, h3, f3, rfl, b5, b6⟩ := open64 (hval 3 64 v3 rfl rfl)
  obtain ⟨x, rfl⟩ := okWide_int Try.underlying2 (hval 4 2 v4 rfl rfl)
  obtain ⟨y, rfl⟩ := okWide_int Try.underlying2 (hval 5 2 v5 rfl rfl)
  simp only [List.append_nil] at hW'
  have hlt : ∀ x ∈ p, x.block < W.heap.size := fun x hx => by simpa using hW'.lt x hx
  refine (plates_calls f0 w1 h1 f1 w2 h2 f2 w3 h3 f3 x y b1 b2 b3 b4 b5 b6 W).mono fun e W' ⟨he, hnx⟩ => ?_
  subst he
  exact ⟨_, rfl, _, _, _, [], _, [], hW', trodAll_mk1 (shut_bool Try.underlying4 true), below_trodAll Try.laidOut hnx read5 hA hlt, rfl, hnx.frame _, fun h => by cases h⟩

theorem plates_holds : Rows.FnExactPlatesColourSaid :=
  OpenClaim.holds_of_wide 5 Try.f5 rfl rfl rfl rfl rfl rfl rfl ⟨rfl, rfl, rfl, rfl, rfl⟩ rfl rfl rfl rfl rfl (by kernel_rfl) Try.func5 (by kernel_rfl)
    (of_decide_eq_true (by kernel_rfl)) (by unfold Func.isWrapper; first | (rw [if_pos (by decide +kernel)]; kernel_rfl) | (rw [if_neg (by decide +kernel)]; exact ⟨rfl, rfl⟩))
    (fun os started H enc _ => plates_lifted os started H enc)
#print axioms plates_holds
end Go.Proofs.Ytdlcjmonnfjklaa
