/-
  PROVED HERE: laws.FnExactDotsFor returns true at every input, its arguments read afterwards as before; no conditions.
-/
import Derived.Test.YtdlcjmonnfjklaaD5
set_option linter.unusedSimpArgs false
set_option linter.unusedVariables false
namespace Go.Proofs.Ytdlcjmonnfjklaa
open Go.ChangeShapes Go.WideShapes Go.ChangeAt Go.RowKit

theorem ct24 : Try.prog.cellTypes Try.prog.depth 24 = some (List.replicate 24 (22 : TypeId)) := by kernel_rfl
theorem ct23 : Try.prog.cellTypes Try.prog.depth 23 = some (List.replicate 3 (22 : TypeId)) := by kernel_rfl
theorem ag24 : (Try.prog.underlying 24).map Sx.aggD = some true := by kernel_rfl
theorem ag23 : (Try.prog.underlying 23).map Sx.aggD = some true := by kernel_rfl
theorem sz24 : Try.prog.cellsOf 24 = (List.replicate 24 (22 : TypeId)).length := by kernel_rfl
theorem sz23 : Try.prog.cellsOf 23 = (List.replicate 3 (22 : TypeId)).length := by kernel_rfl
theorem f24 : (List.replicate 24 (22 : TypeId)).all (isF32 Try.prog) = true := by kernel_rfl
theorem f23 : (List.replicate 3 (22 : TypeId)).all (isF32 Try.prog) = true := by kernel_rfl
theorem read3 : ([24, 23] : List TypeId).all (fun t => Try.prog.readableRec t && decide (t < Try.prog.types.size)) = true := by kernel_rfl
set_option maxRecDepth 100000 in
theorem open24 {W : World} {b : Nat} {v : Value} (hv : Value.okWide Try.prog W .any b 24 v) : ∃ f, v = .agg ⟨fcells f 24⟩ := by
  have h := open_floats (P := Try.prog) ag24 ct24 sz24 f24 hv
  rw [List.length_replicate] at h
  exact h
set_option maxRecDepth 100000 in
theorem open23 {W : World} {b : Nat} {v : Value} (hv : Value.okWide Try.prog W .any b 23 v) : ∃ f, v = .agg ⟨fcells f 3⟩ := by
  have h := open_floats (P := Try.prog) ag23 ct23 sz23 f23 hv
  rw [List.length_replicate] at h
  exact h
theorem dots_calls (p q : Nat → Nat) (W : World) :
    Calls Try.prog 3 #[.agg ⟨fcells p 24⟩, .agg ⟨fcells q 3⟩] W fun e W' => e = .returned (.bool true) ∧ Below W.heap.size W W' := by
  have hm : c3.m [.agg ⟨fcells p 24⟩, .agg ⟨fcells q 3⟩] = bv true := by kernel_rfl
  have hr : Sx.ReadsAll W [.v, .v] [.agg ⟨fcells p 24⟩, .agg ⟨fcells q 3⟩] [.agg ⟨fcells p 24⟩, .agg ⟨fcells q 3⟩] := ⟨veq_agg fcf_one, veq_agg fcf_one, trivial⟩
  refine (calls_of_good law3 Try.func3 (by kernel_rfl) (by kernel_rfl) hr hm).mono fun e W' h => ?_
  obtain ⟨v, rfl, hv, hb⟩ := h
  have hv : Sx.veq (.bool true) v := hv
  rw [hv.bool]
  exact ⟨rfl, hb⟩
set_option maxRecDepth 100000 in
theorem dots_lifted (os : Os) (started : os.Started) (H : Type) (enc : TypeId × Value → H) :
    ReturnsInHanded {} Try.checked os 3 .any (Rows.fnExactDotsForSpec.pre6 enc Try.prog Try.f3 Rows.fnExactDotsForRow.domain false) (Rows.fnExactDotsForSpec.post enc Try.prog Try.f3 false true false false) := by
  refine returnsInHanded_of_change (C := Try.checked) Try.own started (by kernel_rfl) Try.func3
    (ChangeSpec.witness6 (enc := enc) (C := Try.checked) false ⟨#[], #[.agg ⟨fcells (fun _ => 0) 24⟩, .agg ⟨fcells (fun _ => 0) 3⟩], []⟩ 8 (by kernel_rfl) (by kernel_rfl) (by kernel_rfl) (by kernel_rfl)) ?_
  intro W base args ds gs before hval0 hW hcnd _
  have hval : ∀ (j : Nat) t v, Try.f3.params[j]? = some t → args[j]? = some v → Value.okWide Try.prog W .any base t v := hval0
  have hW' := hW
  obtain ⟨p, q, hA0, hV, rfl, hfz, hnd⟩ := hW
  have hA : DataW.TrodAll enc Try.prog W 0 (fun _ => true) true Try.f3.params.toList args.toList ds p := hA0
  have hp : Try.f3.params = #[24, 23] := by kernel_rfl
  have hA : DataW.TrodAll enc Try.prog W 0 (fun _ => true) true [24, 23] args.toList ds p := by rw [hp] at hA; exact hA
  rw [hp] at hval
  obtain ⟨rfl, rfl⟩ := trodVars_none hV
  obtain ⟨l⟩ := args
  obtain ⟨v0, l0, d0, e0, p0, q0, rfl, rfl, _, _, hA1⟩ := trodAll_cons hA
  obtain ⟨v1, l1, d1, e1, p1, q1, rfl, rfl, _, _, hA2⟩ := trodAll_cons hA1
  obtain ⟨rfl, rfl, _⟩ := trodAll_nil hA2
  obtain ⟨f0, rfl⟩ := open24 (hval 0 24 v0 rfl rfl)
  obtain ⟨f1, rfl⟩ := open23 (hval 1 23 v1 rfl rfl)
  simp only [List.append_nil] at hW'
  have hlt : ∀ x ∈ p, x.block < W.heap.size := fun x hx => by simpa using hW'.lt x hx
  refine (dots_calls f0 f1 W).mono fun e W' ⟨he, hnx⟩ => ?_
  subst he
  exact ⟨_, rfl, _, _, _, [], _, [], hW', trodAll_mk1 (shut_bool Try.underlying4 true), below_trodAll Try.laidOut hnx read3 hA hlt, rfl, hnx.frame _, fun h => by cases h⟩

theorem dots_holds : Rows.FnExactDotsForSaid :=
  OpenClaim.holds_of_wide 3 Try.f3 rfl rfl rfl rfl rfl rfl rfl ⟨rfl, rfl, rfl, rfl, rfl⟩ rfl rfl rfl rfl rfl (by kernel_rfl) Try.func3 (by kernel_rfl)
    (of_decide_eq_true (by kernel_rfl)) (by unfold Func.isWrapper; first | (rw [if_pos (by decide +kernel)]; kernel_rfl) | (rw [if_neg (by decide +kernel)]; exact ⟨rfl, rfl⟩))
    (fun os started H enc _ => dots_lifted os started H enc)
#print axioms dots_holds
end Go.Proofs.Ytdlcjmonnfjklaa
