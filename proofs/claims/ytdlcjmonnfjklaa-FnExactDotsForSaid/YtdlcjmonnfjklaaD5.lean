/-
  PROVED HERE: arguments opened, results shut, for every input; no conditions.
-/
import Derived.Test.YtdlcjmonnfjklaaD4
import Derived.Test.YtdlcjmonnfjklaaRows
import Derived.ProofKit
set_option linter.unusedSimpArgs false
set_option linter.unusedVariables false
namespace Go.Proofs.Ytdlcjmonnfjklaa
open Go.ChangeShapes Go.WideShapes Go.ChangeAt Go.RowKit

theorem calls_of_good {P : Program} {f : Nat} {c : Sx.Ctr} {fn : Func} (h : Sx.Good P f c) (hf : P.funcs[f]? = some fn) (hb : fn.body.isNone = false) (hname : (fn.name == "runtime.NumGoroutine") = false) {w : World} {args vals : List Value} {rv : Sx.RV} (hr : Sx.ReadsAll w c.pk args vals) (hm : c.m vals = some rv) :
    Calls P f ⟨args⟩ w fun e w' => ∃ v, e = .returned v ∧ rv.den w.heap.size w' v ∧ Below w.heap.size w w' := by
  rcases h w args vals rv hr hm with ⟨_, h⟩ | ⟨v, w', he, _⟩
  · exact h
  · exfalso
    have hn : ¬ fn.name = "runtime.NumGoroutine" := by simpa using hname
    cases hbody : fn.body with
    | none => rw [hbody] at hb; cases hb
    | some body => simp [callFunc, hf, hn, hbody] at he
theorem below_trodAll {H : Type} {enc : TypeId × Value → H} {P : Program} (hl : laidOutB P = true) {W W' : World} (hb : Below W.heap.size W W') : ∀ {ts : List TypeId} {vs : List Value} {ds : List (DataW H)} {ps : List MemPlace},
    ts.all (fun t => P.readableRec t && decide (t < P.types.size)) = true → DataW.TrodAll enc P W 0 (fun _ => true) true ts vs ds ps → (∀ x ∈ ps, x.block < W.heap.size) → DataW.TrodAll enc P W' 0 (fun b => decide (b < W.heap.size)) true ts vs ds ps
  | [], [], [], _, _, h, _ => h
  | t :: ts, v :: vs, d :: ds, ps, ht, ⟨p, q, h1, h2, e⟩, hlt => by
    simp only [List.all_cons, Bool.and_eq_true, decide_eq_true_eq] at ht
    subst e
    exact ⟨p, q, Below.trod hl ht.1.1 ht.1.2 h1 hb (fun x hx => hlt x (List.mem_append_left _ hx)), below_trodAll hl hb ht.2 h2 (fun x hx => hlt x (List.mem_append_right _ hx)), rfl⟩
  | [], [], _ :: _, _, _, h, _ => h.elim
  | [], _ :: _, _, _, _, h, _ => h.elim
  | _ :: _, [], _, _, _, h, _ => h.elim
  | _ :: _, _ :: _, [], _, _, h, _ => h.elim
def cellsOk (P : Program) (W : World) (b : Nat) : List TypeId → List Value → Prop
  | [], [] => True
  | t :: ts, v :: vs => Cell.okWide P W .any b t v ∧ cellsOk P W b ts vs
  | _, _ => False
theorem cellsOk_of {P : Program} {W : World} {b : Nat} : ∀ {ts : List TypeId} {vs : List Value}, vs.length = ts.length → (∀ (i : Nat) v, vs[i]? = some v → ∃ u, ts[i]? = some u ∧ Cell.okWide P W .any b u v) → cellsOk P W b ts vs
  | [], [], _, _ => trivial
  | t :: ts, v :: vs, hl, h => by
    obtain ⟨u, h1, h2⟩ := h 0 v rfl
    simp at h1
    subst h1
    exact ⟨h2, cellsOk_of (by simpa using hl) fun i v hv => by simpa using h (i + 1) v (by simpa using hv)⟩
  | [], _ :: _, hl, _ => by simp at hl
  | _ :: _, [], hl, _ => by simp at hl
theorem open_agg {P : Program} {W : World} {b : Nat} {t : TypeId} {v : Value} {ts : List TypeId} (hu : (P.underlying t).map Sx.aggD = some true) (hts : P.cellTypes P.depth t = some ts) (hsz : P.cellsOf t = ts.length) (hv : Value.okWide P W .any b t v) :
    ∃ l, v = .agg ⟨l⟩ ∧ cellsOk P W b ts l := by
  have key : (∃ cs, v = .agg cs ∧ cs.size = P.cellsOf t ∧ Row.okWide P W .any b t cs) → ∃ l, v = .agg ⟨l⟩ ∧ cellsOk P W b ts l := by
    rintro ⟨⟨l⟩, rfl, hs, ts', h1, _, h3⟩
    rw [hts] at h1
    cases h1
    refine ⟨l, rfl, cellsOk_of (by rw [← hsz, ← hs]; rfl) fun i v hv => ?_⟩
    obtain ⟨u, h4, h5⟩ := h3 i v (by simpa using hv)
    have hi : i < ts.length := by
      have := (List.getElem?_eq_some_iff.1 hv).1
      have hs : l.length = P.cellsOf t := hs
      omega
    rw [Nat.mod_eq_of_lt hi] at h4
    exact ⟨u, h4, h5⟩
  cases hd : P.underlying t with
  | none => rw [hd] at hu; cases hu
  | some d =>
    rw [hd] at hu
    unfold Value.okWide at hv
    rw [hd] at hv
    cases d <;> first | exact key hv | (simp [Sx.aggD] at hu)
def isF32 (P : Program) (t : TypeId) : Bool := match P.underlying t with | some (.float .f32) => true | _ => false
theorem okWide_f32 {P : Program} {W : World} {b : Nat} {t : TypeId} {v : Value} (ht : isF32 P t = true) (hv : Cell.okWide P W .any b t v) : ∃ x, v = .float .f32 x := by
  unfold isF32 at ht
  split at ht
  · rename_i hu
    unfold Cell.okWide Cell.ok at hv
    rw [hu] at hv
    cases v <;> simp at hv
    rename_i k x
    exact ⟨x, by rw [hv.1]⟩
  · cases ht
theorem isFl_of {P : Program} {W : World} {b : Nat} : ∀ {ts : List TypeId} {l : List Value}, ts.all (isF32 P) = true → cellsOk P W b ts l → isFl ts.length l = true
  | [], [], _, _ => rfl
  | t :: ts, v :: l, ht, h => by
    simp only [List.all_cons, Bool.and_eq_true] at ht
    obtain ⟨x, rfl⟩ := okWide_f32 ht.1 h.1
    show isFl ts.length l = true
    exact isFl_of ht.2 h.2
  | [], _ :: _, _, h => h.elim
  | _ :: _, [], _, h => h.elim
theorem open_floats {P : Program} {W : World} {b : Nat} {t : TypeId} {v : Value} {ts : List TypeId} (hu : (P.underlying t).map Sx.aggD = some true) (hts : P.cellTypes P.depth t = some ts) (hsz : P.cellsOf t = ts.length) (hall : ts.all (isF32 P) = true) (hv : Value.okWide P W .any b t v) : ∃ f, v = .agg ⟨fcells f ts.length⟩ := by
  obtain ⟨l, rfl, hl⟩ := open_agg hu hts hsz hv
  obtain ⟨f, rfl⟩ := isFl_eq (isFl_of hall hl)
  exact ⟨f, rfl⟩
theorem Try.own : ownKnob Try.prog.godebug = none := by kernel_rfl
theorem Try.laidOut : laidOutB Try.prog = true := by kernel_rfl
theorem veq_agg {l : List Value} (h : ∀ a ∈ l, Sx.okc a = true) : Sx.veq (.agg ⟨l⟩) (.agg ⟨l⟩) := Sx.veq.agg (Sx.ceqs.refl h)
theorem fcf_one {f : Nat → Nat} : ∀ {n k : Nat}, ∀ a ∈ fcf f k n, Sx.okc a = true
  | 0, _, _, h => by cases h
  | n + 1, k, a, h => by
    rcases List.mem_cons.1 h with rfl | h
    · rfl
    · exact fcf_one a h
end Go.Proofs.Ytdlcjmonnfjklaa
