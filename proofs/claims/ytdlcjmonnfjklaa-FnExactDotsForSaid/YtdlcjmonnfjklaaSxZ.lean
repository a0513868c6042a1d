/-
  A function, symbolically: its contract from its run.
-/
import Derived.Test.YtdlcjmonnfjklaaSxY
set_option linter.unusedSimpArgs false
set_option linter.unusedVariables false
namespace Go.Sx
open Go.RowKit (Below)

def resOne (ti : List (Nat × TI)) (st : St) : ResultVar → Option RA
  | .tmp t => match look st.env t with
    | some (.a v) => match payload v with
      | some x => some (.v x)
      | none => match v with
        | .r id => match tab st.tbl id with
          | some (.r ty esz n xs) => some (.l ty esz n xs)
          | _ => none
        | _ => none
    | _ => none
  | .cell p t => match look st.env p, look ti t with
    | some (.a (.p id off)), some i => match readBlk (tab st.tbl id) off i.size with
      | some l => match asVal i l with
        | some (.v x) => some (.v x)
        | _ => none
      | none => none
    | _, _ => none
def resV (ti : List (Nat × TI)) (st : St) (r : ResultVar) : Option RA :=
  match resOne ti st r with
  | some (.v x) => some (.v x)
  | _ => none
def resC (ti : List (Nat × TI)) (fn : Func) (st : St) : Option RV :=
  match fn.results.toList with
  | [] => some (.tu [])
  | [r] => match resOne ti st r with
    | some x => some (.o x)
    | none => none
  | [r, s] => match resV ti st r, resV ti st s with
    | some x, some y => some (.tu [x, y])
    | _, _ => none
  | [r, s, t] => match resV ti st r, resV ti st s, resV ti st t with
    | some x, some y, some z => some (.tu [x, y, z])
    | _, _, _ => none
  | [r, s, t, u] => match resV ti st r, resV ti st s, resV ti st t, resV ti st u with
    | some x, some y, some z, some q => some (.tu [x, y, z, q])
    | _, _, _, _ => none
  | _ => none
/-- The answer out of the end's state. -/
def resK (ti : List (Nat × TI)) (fn : Func) (e : Ex) (_ : List (Option Bool)) (st : St) : Option RV :=
  match e with
  | .x _ => none
  | _ => resC ti fn st
noncomputable def runC (ti : List (Nat × TI)) (C : List (Nat × Ctr)) (fuel m : Nat) (o : List (Option Bool)) (fn : Func) (pk : List PK) (caps : Nat → Nat) (vals : List Value) : Option RV :=
  match fn.body with
  | some c => match entersC caps 0 pk vals with
    | some (e, t) => match Nat.ble pk.length fn.ntmps && Nat.ble pk.length 1000 with
      | true => xec ti C fn.ntmps m fuel c o ⟨e, t, 1000⟩ (resK ti fn)
      | false => none
    | none => none
  | none => none

section
variable {P : Program} {ti : List (Nat × TI)} {C : List (Nat × Ctr)} {n base : Nat} {w0 : World}

def resRun (tmps : Array Value) : ResultVar → Sem Value
  | .tmp t => pure (tmps.getD t undef)
  | .cell a t => do loadVar t (← asAddr (tmps.getD a undef))
/-! ### Which slots outlive their region -/
def opSlots (o : Oper) : List Nat := cat tmpOf o.op.operands.toList
/-- (slot, region, place): reads and writes. -/
structure Uses where
  rd : List (Nat × Nat × Nat)
  wr : List (Nat × Nat × Nat)
  nr : Nat
def usesOps (r : Nat) : List Oper → Nat → Uses → Uses
  | [], _, u => u
  | o :: l, k, u => usesOps r l (k + 1) ⟨(opSlots o).map (fun t => (t, r, k)) ++ u.rd, (match o.dst with | some d => [(d, r, k)] | none => []) ++ u.wr, u.nr⟩
def usesOf : Code → Uses → Uses
  | .region _ ops _, u => let v := usesOps u.nr ops.toList 0 u; ⟨v.rd, v.wr, u.nr + 1⟩
  | .seq a b, u => usesOf b (usesOf a u)
  | .cond c a b, u => usesOf b (usesOf a ⟨(tmpOf c).map (fun t => (t, u.nr + 1000000, 0)) ++ u.rd, u.wr, u.nr⟩)
  | .block _ b, u => usesOf b u
  | .loop b, u => usesOf b u
  | _, u => u
def isKept (u : Uses) (t : Nat) : Bool :=
  u.rd.any fun (s, r, k) => Nat.beq s t && !(u.wr.any (fun (d, r', k') => Nat.beq d t && Nat.beq r' r && Nat.blt k' k) && u.wr.all (fun (d, r', _) => !Nat.beq d t || Nat.beq r' r))
def keepBits (u : Uses) (rs : List Nat) : Nat → Nat
  | 0 => 0
  | n + 1 => let t := n; keepBits u rs n + (if isKept u t || rs.any (Nat.beq t) then 2 ^ t else 0)
def resSlots : List ResultVar → List Nat
  | [] => []
  | .tmp t :: l => t :: resSlots l
  | .cell p _ :: l => p :: resSlots l
def keepOf (fn : Func) : Nat :=
  match fn.body with
  | some c => keepBits (usesOf c ⟨[], [], 0⟩) (resSlots fn.results.toList) fn.ntmps
  | none => 0
theorem resOne_ok (hti : TIok P ti) {st : St} {ρ : Rho} {nx : Nat} {a : Act} {w : World} (hF : FAg n (look st.env) ρ nx a) (hW : WAg base w0 (tab st.tbl) ρ w) {r : ResultVar} {x : RA} (h : resOne ti st r = some x) :
    ∃ y, (resRun a.tmps r).run P w = .ok y w ∧ x.den base w y := by
  unfold resOne at h
  split at h
  · rename_i t
    refine ⟨a.tmps.getD t undef, rfl, ?_⟩
    split at h
    · rename_i v hv
      have hd := (hF.den t _ hv).2
      have hd : v.den ρ (a.tmps.getD t undef) := hd
      split at h
      · rename_i z hz
        cases h
        exact payload_den hz hd
      · split at h
        · rename_i id _ _
          split at h
          · rename_i ty esz m xs hb
            cases h
            obtain ⟨ys, hown, hc, _⟩ := hW.blk id _ hb
            have hd : a.tmps.getD t undef = ρ.s id := hd
            rw [hd]
            exact ⟨ys, hown, hc⟩
          · cases h
        · cases h
    · cases h
  · rename_i p t
    split at h
    · rename_i id off i hp hi
      split at h
      · rename_i l hl
        split at h
        · rename_i z hz
          cases h
          obtain ⟨hn, m, hc, hcell⟩ := read_ok hW hl
          have hx : a.tmps.getD p undef = .pointer (some ⟨ρ.b id, ρ.o id + off, none⟩) := (hF.den p _ hp).2
          obtain ⟨y, h1, h2⟩ := run_load_ok (ρ := ρ) (hti t i hi) hz hn hc hcell
          refine ⟨y, ?_, h2⟩
          simp [resRun, hx, asAddr, h1]
        · cases h
      · cases h
    · cases h
theorem resV_ok (hti : TIok P ti) {st : St} {ρ : Rho} {nx : Nat} {a : Act} {w : World} (hF : FAg n (look st.env) ρ nx a) (hW : WAg base w0 (tab st.tbl) ρ w) {r : ResultVar} {x : RA} (h : resV ti st r = some x) :
    ∃ y z, (resRun a.tmps r).run P w = .ok y w ∧ x.den base w y ∧ x = .v z := by
  unfold resV at h
  split at h
  · rename_i z hz
    cases h
    obtain ⟨y, h1, h2⟩ := resOne_ok hti hF hW hz
    exact ⟨y, _, h1, h2, rfl⟩
  · cases h
theorem results_eq {fn : Func} {tmps : Array Value} : results fn tmps = (do
    let vs ← fn.results.mapM (resRun tmps)
    pure (if h : vs.size = 1 then vs[0] else .tuple vs)) := by
  unfold results
  congr
theorem resC_ok (hti : TIok P ti) {st : St} {ρ : Rho} {nx : Nat} {a : Act} {w : World} (hF : FAg n (look st.env) ρ nx a) (hW : WAg base w0 (tab st.tbl) ρ w) {fn : Func} {rv : RV} (h : resC ti fn st = some rv) :
    ∃ y, (results fn a.tmps).run P w = .ok y w ∧ rv.den base w y := by
  rw [results_eq]
  have he : fn.results = ⟨fn.results.toList⟩ := rfl
  unfold resC at h
  split at h
  · rename_i hr
    cases h
    rw [he, hr]
    exact ⟨.tuple ⟨[]⟩, by simp, [], rfl, trivial, trivial⟩
  · rename_i r hr
    split at h
    · rename_i x hx
      cases h
      obtain ⟨y, h1, h2⟩ := resOne_ok hti hF hW hx
      rw [he, hr]
      exact ⟨y, by simp [h1], h2⟩
    · cases h
  · rename_i r s hr
    split at h
    · rename_i x y hx hy
      cases h
      obtain ⟨x', _, h1, h2, rfl⟩ := resV_ok hti hF hW hx
      obtain ⟨y', _, h3, h4, rfl⟩ := resV_ok hti hF hW hy
      rw [he, hr]
      exact ⟨.tuple ⟨[x', y']⟩, by simp [h1, h3], [x', y'], rfl, ⟨h2, h4, trivial⟩, by simp [rsep, RA.bof]⟩
    · cases h
  · rename_i r s t hr
    split at h
    · rename_i x y z hx hy hz
      cases h
      obtain ⟨x', _, h1, h2, rfl⟩ := resV_ok hti hF hW hx
      obtain ⟨y', _, h3, h4, rfl⟩ := resV_ok hti hF hW hy
      obtain ⟨z', _, h5, h6, rfl⟩ := resV_ok hti hF hW hz
      rw [he, hr]
      exact ⟨.tuple ⟨[x', y', z']⟩, by simp [h1, h3, h5], [x', y', z'], rfl, ⟨h2, h4, h6, trivial⟩, by simp [rsep, RA.bof]⟩
    · cases h
  · rename_i r s t u hr
    split at h
    · rename_i x y z q hx hy hz hq
      cases h
      obtain ⟨x', _, h1, h2, rfl⟩ := resV_ok hti hF hW hx
      obtain ⟨y', _, h3, h4, rfl⟩ := resV_ok hti hF hW hy
      obtain ⟨z', _, h5, h6, rfl⟩ := resV_ok hti hF hW hz
      obtain ⟨q', _, h7, h8, rfl⟩ := resV_ok hti hF hW hq
      rw [he, hr]
      exact ⟨.tuple ⟨[x', y', z', q']⟩, by simp [h1, h3, h5, h7], [x', y', z', q'], rfl, ⟨h2, h4, h6, h8, trivial⟩, by simp [rsep, RA.bof]⟩
    · cases h
  · cases h
theorem getD_args {args : List Value} {k s : Nat} : ((⟨args⟩ : Array Value) ++ Array.replicate k undef).getD s undef = args.getD s undef := by
  by_cases h : s < args.length
  · simp [Array.getElem?_append, h]
  · simp [Array.getElem?_append, h, Array.getElem?_replicate]
    split <;> rfl
/-- Whole numbers in range, cell by cell. -/
def okV : Value → Bool
  | .agg ⟨cs⟩ => allB okc cs
  | x => okc x
theorem ceq.ok' {a b : Value} (h : ceq a b) : okc a = true := by
  obtain ⟨h1, rfl | ⟨k, x, y, rfl, rfl, _⟩⟩ := h
  · exact h1
  · rfl
theorem ceqs.ok' : ∀ {as bs : List Value}, ceqs as bs → allB okc as = true
  | [], _, _ => rfl
  | a :: as, b :: bs, h => by
    simp only [allB, ceq.ok' h.1]
    exact ceqs.ok' h.2
  | _ :: _, [], h => h.elim
theorem readsAs_ok {w : World} {k : PK} {y x : Value} (h : ReadsAs w k y x) : okV x = true := by
  cases k with
  | v =>
    have h : veq x y := h
    cases x with
    | agg cs => obtain ⟨ds, _, h⟩ := h; exact ceqs.ok' h
    | _ => exact ceq.ok' h
  | p n =>
    obtain ⟨b, off, arr, ty, fr, cs, ds, _, _, rfl, _, h, _⟩ := h
    exact ceqs.ok' h
  | s e =>
    rcases h with ⟨_, rfl⟩ | ⟨b, off, len, cap, arr, ty, fr, cs, ds, _, _, rfl, _, h, _⟩
    · rfl
    · exact ceqs.ok' h
theorem readsAll_ok {w : World} : ∀ {ks : List PK} {ys xs : List Value}, ReadsAll w ks ys xs → ∀ x ∈ xs, okV x = true
  | [], [], [], _, x, hx => by cases hx
  | k :: ks, y :: ys, x :: xs, h, z, hz => by
    rcases List.mem_cons.1 hz with rfl | hz
    · exact readsAs_ok h.1
    · exact readsAll_ok h.2 z hz
  | [], _ :: _, _, h, _, _ => h.elim
  | [], [], _ :: _, h, _, _ => h.elim
  | _ :: _, [], _, h, _, _ => h.elim
  | _ :: _, _ :: _, [], h, _, _ => h.elim
/-- What a body's end must show. -/
def PostR (P : Program) (fn : Func) (rv : RV) (w : World) : Exit → Act → World → Prop :=
  bodyPost P fn fun e w' => ∃ v, e = .returned v ∧ rv.den w.heap.size w' v ∧ Below w.heap.size w w'
theorem post_of_ag (hti : TIok P ti) {fn : Func} {n : Nat} {st : St} {rv : RV} {a : Act} {w w' : World} (hA : Ag n w.heap.size w st.env st.tbl st.nx a w') (h : resC ti fn st = some rv) {e : Ex} (he : ∀ i, e ≠ .x i) : PostR P fn rv w e.ex a w' := by
  obtain ⟨ρ, hF, hW, hT⟩ := hA
  obtain ⟨y, h1, h2⟩ := resC_ok hti hF hW h
  have post : a.defers = [] ∧ ∃ v, (results fn a.tmps).run P w' = .ok v w' ∧ ∃ v', Ending.returned v = .returned v' ∧ rv.den w.heap.size w' v' ∧ Below w.heap.size w w' := ⟨hF.defers, y, h1, y, rfl, h2, hW.below⟩
  cases e with
  | n => exact post
  | x i => exact absurd rfl (he i)
  | r => exact post
theorem good_by {f : Nat} {fn : Func} (hf : P.funcs[f]? = some fn) (hname : (fn.name == "runtime.NumGoroutine") = false) {body : Code} (hb : fn.body = some body) {c : Ctr}
    (h : ∀ vals rv, (∀ x ∈ vals, okV x = true) → c.m vals = some rv → ∀ caps, ∃ e t, entersC caps 0 c.pk vals = some (e, t) ∧ c.pk.length ≤ fn.ntmps ∧ c.pk.length ≤ 1000 ∧ ∀ a w, Ag fn.ntmps w.heap.size w e t 1000 a w → body.wp P (PostR P fn rv w) a w) : Good P f c := by
  intro w args vals rv hr hmv
  obtain ⟨e, t, he, hl1, hl2, hwp⟩ := h vals rv (readsAll_ok hr) hmv (fun i => argC (args.getD i undef))
  obtain ⟨h1, h2, h3⟩ := entersC_ok (base := w.heap.size) (fun j y hy => by simpa using hy) hr he
  refine .inl ⟨?_, calls_of_wp hf hb ?_⟩
  · have hname : ¬ fn.name = "runtime.NumGoroutine" := by simpa using hname
    simp [callFunc, hf, hname, hb]
  · have hA : Ag fn.ntmps w.heap.size w e t 1000 ⟨(⟨args⟩ : Array Value) ++ Array.replicate (fn.ntmps - args.length) undef, []⟩ w := by
      refine ⟨argRho args, ⟨?_, fun s sv hs => ?_, rfl⟩, ⟨fun id b hb => (h2 id b hb).2.1, fun i j bi bj _ hi hj ho => ?_, ⟨rfl, rfl, rfl, Nat.le_refl _, fun _ _ => rfl⟩, Nat.le_refl _⟩, fun id b hb => ?_⟩
      · simp; omega
      · obtain ⟨h4, h5⟩ := h1 s sv hs
        refine ⟨SV.lt_mono (by omega) h4, ?_⟩
        show sv.den _ _ (((⟨args⟩ : Array Value) ++ Array.replicate (fn.ntmps - args.length) undef).getD s undef)
        rw [getD_args]
        exact h5 _
      · rw [(h2 i bi hi).2.2] at ho; cases ho
      · have := (h2 id b hb).1; omega
    exact hwp _ w hA
theorem final_wp (hti : TIok P ti) (hC : ∀ f c, look C f = some c → Good P f c) (hm : P.follows .mixedOrders = true) {fn : Func} {fuel m : Nat} {code : Code} {o : List (Option Bool)} {st : St} {rv : RV} (h : xec ti C fn.ntmps m fuel code o st (resK ti fn) = some rv) {a : Act} {w w' : World} (hA : Ag fn.ntmps w.heap.size w st.env st.tbl st.nx a w') : code.wp P (PostR P fn rv w) a w' :=
  (xec_both (R := RV) (m := m) (w0 := w) (base := w.heap.size) hti hC hm fuel).1 code st o _ rv a w' _ h hA fun e o' st' a' w' hK hA' => by
    cases e with
    | n => exact post_of_ag hti hA' hK (fun i hi => by cases hi)
    | x i => cases hK
    | r => exact post_of_ag hti hA' hK (fun i hi => by cases hi)
theorem good_ok (hti : TIok P ti) (hC : ∀ f c, look C f = some c → Good P f c) (hm : P.follows .mixedOrders = true) {f : Nat} {fn : Func} (hf : P.funcs[f]? = some fn) (hname : (fn.name == "runtime.NumGoroutine") = false) {c : Ctr} (fuel m : Nat)
    (hrun : ∀ vals rv, (∀ x ∈ vals, okV x = true) → c.m vals = some rv → ∀ caps, ∃ o, runC ti C fuel m o fn c.pk caps vals = some rv) (hbody : fn.body.isSome = true) : Good P f c := by
  obtain ⟨body, hb⟩ := Option.isSome_iff_exists.1 hbody
  refine good_by hf hname hb fun vals rv hok hmv caps => ?_
  obtain ⟨o, h⟩ := hrun vals rv hok hmv caps
  unfold runC at h
  rw [hb] at h
  simp only [] at h
  split at h
  · rename_i e t he
    split at h
    · rename_i hle
      simp only [Bool.and_eq_true, Nat.ble_eq] at hle
      exact ⟨e, t, he, hle.1, hle.2, fun a w hA => final_wp (st := ⟨e, t, 1000⟩) hti hC hm h hA⟩
    · cases h
  · cases h
theorem good_of (hti : TIok P ti) (hC : ∀ f c, look C f = some c → Good P f c) (hm : P.follows .mixedOrders = true) {f : Nat} {fn : Func} (hf : P.funcs[f]? = some fn) (hname : (fn.name == "runtime.NumGoroutine") = false) {c : Ctr} (fuel m : Nat)
    (hrun : ∀ vals rv, c.m vals = some rv → ∀ caps, ∃ o, runC ti C fuel m o fn c.pk caps vals = some rv) : Good P f c := by
  intro w args vals rv hr hmv
  cases hbody : fn.body with
  | none =>
    obtain ⟨o, h⟩ := hrun vals rv hmv (fun _ => 0)
    unfold runC at h
    rw [hbody] at h
    cases h
  | some body => exact good_ok hti hC hm hf hname fuel m (fun vals rv _ => hrun vals rv) (by rw [hbody]; rfl) w args vals rv hr hmv
end
end Go.Sx
