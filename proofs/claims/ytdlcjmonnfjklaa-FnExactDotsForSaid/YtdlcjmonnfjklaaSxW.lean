/-
  A region that draws its order: the symbolic run in the text's order serves every order. The theorem.
-/
import Derived.Test.YtdlcjmonnfjklaaSxV
import Derived.StillTail
set_option linter.unusedSimpArgs false
set_option linter.unusedVariables false
namespace Go.Sx
open Go.RowKit (Below)
section
variable {P : Program} {ti : List (Nat × TI)} {C : List (Nat × Ctr)} {n base : Nat} {w0 : World}

theorem numbered_mem {p : Rec × Nat} : ∀ {rs : List Rec} {k : Nat}, p ∈ numbered rs k ↔ k ≤ p.2 ∧ rs[p.2 - k]? = some p.1
  | [], k => by simp [numbered]
  | r :: rs, k => by
    simp only [numbered, List.mem_cons]
    rw [numbered_mem (rs := rs)]
    constructor
    · rintro (rfl | ⟨h1, h2⟩)
      · simp
      · refine ⟨by omega, ?_⟩
        rw [show p.2 - k = (p.2 - (k + 1)) + 1 by omega]
        simpa using h2
    · rintro ⟨h1, h2⟩
      by_cases e : p.2 = k
      · left
        rw [e] at h2
        simp at h2
        exact Prod.ext h2.symm e
      · right
        refine ⟨by omega, ?_⟩
        rw [show p.2 - k = (p.2 - (k + 1)) + 1 by omega] at h2
        simpa using h2
theorem pairs_spec {ops : List Oper} {ms : List Nat} : ∀ {rs : List Rec} {k : Nat}, pairs ops ms (numbered rs k) = true → ∀ (i j : Nat) r s, rs[i]? = some r → rs[j]? = some s → i < j →
    sameDst r s = false ∧ (needs ops r s = true → Nat.testBit (ms.getD (k + j) 0) (k + i) = true)
  | [], _, _, i, j, r, s, hr, _, _ => by simp at hr
  | x :: rs, k, h, i, j, r, s, hr, hs, hij => by
    simp only [numbered, pairs] at h
    split at h
    · rename_i h1
      cases i with
      | zero =>
        simp at hr
        subst hr
        have := allB_iff.1 h1 (s, k + j) (numbered_mem.2 ⟨by simp; omega, by
          cases j with
          | zero => omega
          | succ j => simp at hs ⊢; rw [show k + (j + 1) - (k + 1) = j by omega]; exact hs⟩)
        simp only [Bool.and_eq_true, Bool.not_eq_true', Bool.or_eq_true] at this
        exact ⟨this.1, fun hn => this.2.resolve_left (by simp [hn])⟩
      | succ i =>
        cases j with
        | zero => omega
        | succ j =>
          have := pairs_spec h i j r s (by simpa using hr) (by simpa using hs) (by omega)
          rw [show k + 1 + j = k + (j + 1) by omega, show k + 1 + i = k + (i + 1) by omega] at this
          exact this
    · cases h
theorem noG_spec : ∀ {env : List (Nat × SV)}, noG env = true → ∀ t sv, look env t = some sv → ∀ d, guardIs sv d = false
  | [], _, t, sv, h, d => by simp [look] at h
  | (i, x) :: l, hn, t, sv, h, d => by
    simp only [look] at h
    simp only [noG] at hn
    split at h
    · cases h
      cases x <;> first | rfl | simp at hn
    · exact noG_spec (by cases x <;> first | exact hn | cases hn) t sv h d
theorem g_of_core {ops : List Oper} {nid : Nat} {E : Nat → Option SV} {T : Nat → Option Blk} {o : Oper} {sv : SV} {chg : List (Nat × Option Blk)} (h : core ti C ops nid E T o = some (sv, chg)) {d : Nat} (hg : guardIs sv d = true) : d ∈ guardSlot ops o := by
  have hplain : ∀ {g r}, opv ti C T nid E g o.op = some r → guardIs r.1 d = true → False := fun {g r} hr hgr => by
    have : ∀ op, opv ti C T nid E g op = some r → False := fun op h => by
      cases op with
      | pick c a b =>
        simp only [opv] at h
        split at h <;> first | (cases h; simp [guardIs] at hgr) | cases h
      | call c =>
        simp only [opv, aop] at h
        repeat' split at h
        all_goals first
          | (cases h; done)
          | (cases h; simp [guardIs, svOfRV] at hgr; done)
          | skip
        rename_i b _
        unfold builtinOp at h
        unfold lenOf at h
        repeat' split at h
        all_goals first
          | (cases h; done)
          | (cases h; simp [guardIs] at hgr; done)
      | _ =>
        simp only [opv, aop] at h
        repeat' split at h
        all_goals first
          | (cases h; done)
          | (cases h; simp [guardIs] at hgr; done)
    exact this _ hr
  unfold core at h
  split at h
  · exact (hplain h hg).elim
  · cases h; simp [guardIs] at hg
  · rename_i t want hd
    split at h
    · split at h
      · cases h
        simp only [guardIs] at hg
        have hg := Nat.eq_of_beq_eq_true hg
        subst hg
        unfold doing at hd
        unfold guardSlot
        split at hd
        · cases hd
        · rename_i j w hgd
          skip
          split at hd
          · rename_i oj hj
            skip
            split at hd
            · rename_i t ht
              skip
              split at hd
              · split at hd <;> cases hd
              · cases hd
              · cases hd; simp [hgd, hj, ht]
              · cases hd; simp [hgd, hj, ht]
              · cases hd
            · cases hd
          · cases hd
      · cases h
    · cases h
  · cases h
theorem needs1 {ops : List Oper} {r s : Rec} {d : Nat} (h : r.o.dst = some d) (hn : d ∈ namesOf ops s.o) : needs ops r s = true := by
  simp [needs, h, has_iff.2 hn]
theorem needs2 {ops : List Oper} {r s : Rec} {d : Nat} (h : s.o.dst = some d) (hn : d ∈ namesOf ops r.o) : needs ops r s = true := by
  simp [needs, h, has_iff.2 hn]
theorem needs3 {ops : List Oper} {r s : Rec} {i : Nat} (h : i ∈ touchOf ops s) (hn : winB r i = true ∨ i ∈ chgIds r.chg) : needs ops r s = true := by
  have : allB (fun id => !(winB r id || has (chgIds r.chg) id)) (touchOf ops s) = false := by
    rw [Bool.eq_false_iff]
    intro hh
    have := allB_iff.1 hh i h
    rcases hn with hn | hn
    · simp [hn] at this
    · simp [has_iff.2 hn] at this
  unfold needs
  rw [this]
  simp
theorem needs4 {ops : List Oper} {r s : Rec} {i : Nat} (h : i ∈ touchOf ops r) (hn : i ∈ chgIds s.chg) : needs ops r s = true := by
  have : allB (fun id => !has (chgIds s.chg) id) (touchOf ops r) = false := by
    rw [Bool.eq_false_iff]
    intro hh
    have := allB_iff.1 hh i h
    simp [has_iff.2 hn] at this
  unfold needs
  rw [this]
  simp
theorem avs_ids {l : List AV} {x : AV} (hx : x ∈ l) {i : Nat} (hi : i ∈ avIds x) : i ∈ avsIds l := by
  induction l with
  | nil => cases hx
  | cons y l ih =>
    simp only [avsIds, List.mem_append]
    rcases List.mem_cons.1 hx with rfl | hx
    · exact .inl hi
    · exact .inr (ih hx)
theorem AV.lt_ids {x : AV} {N : Nat} (h : ∀ i ∈ avIds x, i < N) : x.lt N := by
  cases x <;> first | trivial | exact h _ (by simp [avIds])
theorem SV.lt_ids {x : SV} {N : Nat} (h : ∀ i ∈ svIds x, i < N) : x.lt N := by
  cases x with
  | a x => exact AV.lt_ids h
  | g t w x => exact AV.lt_ids h
  | tu l => exact fun y hy => AV.lt_ids fun i hi => h i (avs_ids hy hi)
  | u => trivial
  | zz => trivial
theorem AV.den_ids {x : AV} {ρ ρ' : Rho} {y : Value} (h : ∀ i ∈ avIds x, ρ'.b i = ρ.b i ∧ ρ'.o i = ρ.o i ∧ ρ'.s i = ρ.s i) (hd : x.den ρ y) : x.den ρ' y := by
  cases x with
  | k v => exact hd
  | v v => exact hd
  | p id off => obtain ⟨h1, h2, _⟩ := h id (by simp [avIds]); simp only [AV.den] at hd ⊢; rw [h1, h2]; exact hd
  | s id off len cap => obtain ⟨h1, h2, _⟩ := h id (by simp [avIds]); simp only [AV.den] at hd ⊢; rw [h1, h2]; exact hd
  | r id => obtain ⟨_, _, h3⟩ := h id (by simp [avIds]); simp only [AV.den] at hd ⊢; rw [h3]; exact hd
theorem dens_ids {ρ ρ' : Rho} : ∀ {l : List AV} {ys : List Value}, (∀ i ∈ avsIds l, ρ'.b i = ρ.b i ∧ ρ'.o i = ρ.o i ∧ ρ'.s i = ρ.s i) → dens ρ l ys → dens ρ' l ys
  | [], [], _, _ => trivial
  | x :: l, y :: ys, h, hd => ⟨AV.den_ids (fun i hi => h i (by simp [avsIds, hi])) hd.1, dens_ids (fun i hi => h i (by simp [avsIds, hi])) hd.2⟩
  | [], _ :: _, _, hd => hd.elim
  | _ :: _, [], _, hd => hd.elim
theorem SV.den_ids {x : SV} {ρ ρ' : Rho} {tm : Array Value} {y : Value} (h : ∀ i ∈ svIds x, ρ'.b i = ρ.b i ∧ ρ'.o i = ρ.o i ∧ ρ'.s i = ρ.s i) (hd : x.den ρ tm y) : x.den ρ' tm y := by
  cases x with
  | a x => exact AV.den_ids h hd
  | g t w x => exact fun e => AV.den_ids h (hd e)
  | tu l => obtain ⟨ys, e, hd⟩ := hd; exact ⟨ys, e, dens_ids h hd⟩
  | u => exact hd
  | zz => trivial
theorem shA_congr {f g : Nat → Nat} {x : AV} (h : ∀ i ∈ avIds x, f i = g i) : shA f x = shA g x := by
  cases x <;> simp only [shA] <;> first | rfl | rw [h _ (by simp [avIds])]
theorem shAs_congr {f g : Nat → Nat} : ∀ {l : List AV}, (∀ i ∈ avsIds l, f i = g i) → l.map (shA f) = l.map (shA g)
  | [], _ => rfl
  | x :: l, h => by rw [List.map_cons, List.map_cons, shA_congr fun i hi => h i (by simp [avsIds, hi]), shAs_congr fun i hi => h i (by simp [avsIds, hi])]
theorem shS_congr {f g : Nat → Nat} {x : SV} (h : ∀ i ∈ svIds x, f i = g i) : shS f x = shS g x := by
  cases x with
  | a x => simp only [shS]; rw [shA_congr h]
  | g t w x => simp only [shS]; rw [shA_congr h]
  | tu l => simp only [shS]; rw [shAs_congr h]
  | u => rfl
  | zz => rfl
theorem mem_chgIds {c : List (Nat × Option Blk)} {p : Nat × Option Blk} (h : p ∈ c) : p.1 ∈ chgIds c := by
  induction c with
  | nil => cases h
  | cons q c ih =>
    obtain ⟨i, b⟩ := q
    rcases List.mem_cons.1 h with rfl | h
    · simp [chgIds]
    · simp [chgIds, ih h]
theorem shC_congr {f g : Nat → Nat} {c : List (Nat × Option Blk)} (h : ∀ i ∈ chgIds c, f i = g i) : shC f c = shC g c := by
  unfold shC
  exact List.map_congr_left fun p hp => by rw [h p.1 (mem_chgIds hp)]
theorem guard_sh {f : Nat → Nat} {x : SV} {d : Nat} : guardIs (shS f x) d = guardIs x d := by cases x <;> rfl
/-- How many have not come up. -/
def cnt (L : Nat → Bool) : Nat → Nat
  | 0 => 0
  | k + 1 => cnt L k + (if L k then 0 else 1)
theorem cnt_zero {L : Nat → Bool} : ∀ {k : Nat}, cnt L k = 0 → ∀ i, i < k → L i = true
  | 0, _, i, h => by omega
  | k + 1, h, i, hi => by
    simp only [cnt] at h
    by_cases e : i = k
    · subst e
      cases hL : L i with
      | true => rfl
      | false => rw [hL] at h; simp at h
    · exact cnt_zero (Nat.eq_zero_of_add_eq_zero_right h) i (by omega)
theorem cnt_set {L L' : Nat → Bool} {j : Nat} (h : L j = false) (h' : L' j = true) (ho : ∀ i, i ≠ j → L' i = L i) : ∀ {k : Nat}, (j < k → cnt L' k + 1 = cnt L k) ∧ (k ≤ j → cnt L' k = cnt L k)
  | 0 => ⟨fun h => by omega, fun _ => rfl⟩
  | k + 1 => by
    obtain ⟨h1, h2⟩ := cnt_set h h' ho (k := k)
    refine ⟨fun hk => ?_, fun hk => ?_⟩
    · simp only [cnt]
      by_cases e : k = j
      · subst e
        rw [h, h', h2 (Nat.le_refl k)]
        simp
      · rw [ho k e, ← h1 (by omega)]
        omega
    · simp only [cnt]
      rw [ho k (by omega), h2 (by omega)]
theorem drawn_sound (hti : TIok P ti) (hC : ∀ f c, look C f = some c → Good P f c) (hm : P.follows .mixedOrders = true) {ops : List Oper} {nid : Nat} {env : List (Nat × SV)} {tbl : List (Nat × Option Blk)} {rs : List Rec} {st : St} (hr : recs ti C n ops ops nid env tbl = some (rs, st)) (hok : orderOk ops env rs = true)
    {a : Act} {w : World} (hA : Ag n base w0 env tbl nid a w) {id : Nat} {Q : Exit → Act → World → Prop} (hQ : ∀ a' w', Ag n base w0 st.env st.tbl st.nx a' w' → Q .normal a' w') : (Code.region id ⟨ops⟩ true).wp P Q a w := by
  have R := recs_ok hr
  simp only [orderOk, Bool.and_eq_true] at hok
  obtain ⟨hng, hrec, hpr⟩ := hok
  have hrec := allB_iff.1 hrec
  have hrecOk : ∀ (j : Nat) r, rs[j]? = some r → recOk ops (r, j) = true := fun j r h => hrec (r, j) (numbered_mem.2 ⟨Nat.zero_le _, by simpa using h⟩)
  -- what is known of each record
  have hback : ∀ (j : Nat) r, rs[j]? = some r → ∀ e ∈ r.o.after.toList, Region.binds .any e = true → e.on < j := fun j r h e he hb => by
    have := hrecOk j r h
    simp only [recOk, Bool.and_eq_true] at this
    have := allB_iff.1 this.1 e he
    simpa [hb] using this
  have hacc : ∀ (j : Nat) r, rs[j]? = some r → ∀ i ∈ accOf ops r, i < r.nid := fun j r h i hi => by
    have := hrecOk j r h
    simp only [recOk, Bool.and_eq_true] at this
    simpa using allB_iff.1 this.2.1 i hi
  have hown : ∀ (j : Nat) r, rs[j]? = some r → ∀ i ∈ svIds r.sv ++ chgIds r.chg, i < r.nid + 8 := fun j r h i hi => by
    have := hrecOk j r h
    simp only [recOk, Bool.and_eq_true] at this
    simpa using allB_iff.1 this.2.2.1 i hi
  have hpure : ∀ (j : Nat) r, rs[j]? = some r → isNid r.o.op = false → ∀ i ∈ svIds r.sv ++ chgIds r.chg, i < r.nid := fun j r h hn i hi => by
    have := hrecOk j r h
    simp only [recOk, Bool.and_eq_true] at this
    have := this.2.2.2
    rw [hn] at this
    simp only [Bool.false_or] at this
    simpa using allB_iff.1 this i hi
  have hops : ∀ (j : Nat) (o : Oper), ops[j]? = some o → ∃ r, rs[j]? = some r ∧ r.o = o := fun j o h => by
    have hlt := (List.getElem?_eq_some_iff.1 h).1
    rw [← R.flen] at hlt
    have hj := List.getElem?_eq_getElem hlt
    refine ⟨_, hj, ?_⟩
    have := R.fop j _ hj
    rw [h] at this
    exact (Option.some.inj this).symm
  have hdep : ∀ (i j : Nat) r s, rs[i]? = some r → rs[j]? = some s → i < j → needs ops r s = true → Dep ops i j := fun i j r s h1 h2 hij hn => by
    have := (pairs_spec hpr i j r s h1 h2 hij).2 hn
    simp only [Nat.zero_add] at this
    exact masks_spec (l := ops) (acc := []) (fun k => by simp) (fun i j h => by simp at h) i j this
  have hdst : ∀ (i j : Nat) r s d, rs[i]? = some r → rs[j]? = some s → r.o.dst = some d → s.o.dst = some d → i = j := fun i j r s d h1 h2 h3 h4 => by
    rcases Nat.lt_trichotomy i j with h | h | h
    · have := (pairs_spec hpr i j r s h1 h2 h).1
      simp [sameDst, h3, h4] at this
    · exact h
    · have := (pairs_spec hpr j i s r h2 h1 h).1
      simp [sameDst, h3, h4] at this
  obtain ⟨ρ0, hF0, hW0, hT0⟩ := hA
  have hlen : ops.length = rs.length := R.flen.symm
  generalize hNXe : nid + 8 * rs.length = NX
  have hNX : ∀ (j : Nat) r, rs[j]? = some r → r.nid + 8 ≤ NX := fun j r h => by
    have := R.fnid j r h
    have := (List.getElem?_eq_some_iff.1 h).1
    omega
  have key : ∀ (fuel : Nat) (listed : Array Bool) (a : Act) (w : World), listed.size = ops.length → Closed ops (fun i => listed.getD i false) → cnt (fun i => listed.getD i false) ops.length ≤ fuel →
      (∃ ρ, FAg n (FE (fun i => listed.getD i false) rs 0 (look env)) ρ NX a ∧ WAg base w0 (FT (fun i => listed.getD i false) rs 0 (tab tbl)) ρ w ∧ ∀ id b, FT (fun i => listed.getD i false) rs 0 (tab tbl) id = some b → id < NX) →
      wpAny P .any ⟨ops⟩ Q fuel listed a w := by
    -- all have come up
    have done : ∀ (listed : Array Bool) (a : Act) (w : World), (∀ i, i < ops.length → listed.getD i false = true) → (∃ ρ, FAg n (FE (fun i => listed.getD i false) rs 0 (look env)) ρ NX a ∧ WAg base w0 (FT (fun i => listed.getD i false) rs 0 (tab tbl)) ρ w ∧ ∀ id b, FT (fun i => listed.getD i false) rs 0 (tab tbl) id = some b → id < NX) → Q .normal a w := by
      intro listed a w hall ⟨ρ, hF, hW, hT⟩
      have hin : ∀ (i : Nat) (r : Rec), rs[i]? = some r → listed.getD (0 + i) false = true := fun i r h => by
        rw [Nat.zero_add]
        exact hall i (by rw [hlen]; exact (List.getElem?_eq_some_iff.1 h).1)
      have e1 : FE (fun i => listed.getD i false) rs 0 (look env) = look st.env := by
        rw [R.lastE]; funext t; exact FE_congr rfl fun i r h _ => hin i r h
      have e2 : FT (fun i => listed.getD i false) rs 0 (tab tbl) = tab st.tbl := by
        rw [R.lastT]; funext t; exact FT_congr rfl fun i r h _ => hin i r h
      rw [e1] at hF
      rw [e2] at hW hT
      have e3 : st.nx = NX := by rw [R.lastN]; exact hNXe
      exact hQ a w ⟨ρ, e3 ▸ hF, hW, e3 ▸ hT⟩
    -- where none is ready all have come up
    have stop : ∀ (listed : Array Bool), listed.size = ops.length → Region.ready .any ⟨ops⟩ listed = [] → ∀ i, i < ops.length → listed.getD i false = true := by
      intro listed hsz h0 i
      induction i using Nat.strongRecOn with
      | _ i ih =>
        intro hi
        cases hL : listed.getD i false with
        | true => rfl
        | false =>
          have hL' : listed.getD i true = false := getD_in (by omega) hL
          have ho : ops[i]? = some ops[i] := List.getElem?_eq_getElem hi
          obtain ⟨r, hr, hro⟩ := hops i _ ho
          have : i ∈ Region.ready .any ⟨ops⟩ listed := mem_ready.2 ⟨hL', ops[i], by simp, fun e he hb => by
            have hlt := hback i r hr e (by rw [hro]; exact Array.mem_toList_iff.2 he) hb
            exact ih e.on hlt (by omega)⟩
          rw [h0] at this
          cases this
    intro fuel
    induction fuel with
    | zero =>
      intro listed a w hsz hcl hf hinv
      have hall := cnt_zero (Nat.le_zero.1 hf)
      refine ⟨?_, done listed a w hall hinv⟩
      apply List.eq_nil_iff_forall_not_mem.2
      intro i hi
      obtain ⟨h1, o, h2, _⟩ := mem_ready.1 hi
      have hlt : i < ops.length := by
        have := (Array.getElem?_eq_some_iff.1 h2).1
        simpa using this
      have := hall i hlt

      rw [getD_both h1] at this
      cases this
    | succ fuel ih =>
      intro listed a w hsz hcl hf hinv
      refine ⟨fun h0 => done listed a w (stop listed hsz h0) hinv, fun j hj => ?_⟩
      obtain ⟨hun, o, ho, hall⟩ := mem_ready.1 hj
      have ho' : ops[j]? = some o := by simpa using ho
      have hjlt : j < ops.length := (List.getElem?_eq_some_iff.1 ho').1
      obtain ⟨r, hrj, rfl⟩ := hops j o ho'
      have hjf : listed.getD j false = false := getD_both hun
      obtain ⟨ρ, hF, hW, hT⟩ := hinv
      have hallL : ∀ e ∈ r.o.after.toList, Region.binds .any e = true → listed.getD e.on false = true := fun e he hb => hall e (Array.mem_toList_iff.1 he) hb
      -- before and behind
      have before : ∀ (i : Nat) s, rs[i]? = some s → i < j → needs ops s r = true → listed.getD i false = true := fun i s hs hij hn =>
        dep_listed hcl (hdep i j s r hs hrj hij hn) fun o' ho'' => by rw [ho'] at ho''; cases ho''; exact hallL
      have behind : ∀ (i : Nat) s, rs[i]? = some s → j < i → needs ops r s = true → listed.getD i false = false := fun i s hs hij hn => by
        cases hL : listed.getD i false with
        | false => rfl
        | true =>
          have := dep_listed hcl (hdep j i r s hrj hs hij hn) fun o' ho'' => hcl i o' ho'' hL

          rw [hjf] at this
          cases this
      have hE : ∀ t ∈ namesOf ops r.o, look r.env t = FE (fun i => listed.getD i false) rs 0 (look env) t := fun t ht => by
        rw [R.fenv j r hrj]
        refine FE_congr rfl fun i s hs hd => ?_
        rw [Nat.zero_add]
        rcases Nat.lt_trichotomy i j with h | h | h
        · rw [before i s hs h (needs1 hd ht)]; simpa using h
        · subst h; rw [hjf]; simp
        · rw [behind i s hs h (needs2 hd ht)]; simp; omega
      have hTa : ∀ i ∈ accOf ops r, tab r.tbl i = FT (fun i => listed.getD i false) rs 0 (tab tbl) i := fun x hx => by
        rw [R.ftbl j r hrj]
        refine FT_congr rfl fun i s hs hd => ?_
        rw [Nat.zero_add]
        have htouch : x ∈ touchOf ops r := List.mem_append.2 (.inl hx)
        rcases Nat.lt_trichotomy i j with h | h | h
        · rw [before i s hs h (needs3 htouch (.inr hd))]; simpa using h
        · subst h; rw [hjf]; simp
        · rw [behind i s hs h (needs4 htouch hd)]; simp; omega
      have hslot : ∀ t ∈ namesOf ops r.o, ∀ sv, look r.env t = some sv → ∀ i ∈ svIds sv, i ∈ accOf ops r := fun t ht sv hsv i hi =>
        mem_cat.2 ⟨t, ht, by simp only [slotIds, hsv]; exact hi⟩
      have hcore : core ti C ops r.nid (FE (fun i => listed.getD i false) rs 0 (look env)) (FT (fun i => listed.getD i false) rs 0 (tab tbl)) r.o = some (r.sv, r.chg) := by
        rw [← R.fcore j r hrj]
        exact (core_congr hE fun t ht sv hsv i hi => hTa i (hslot t ht sv hsv i hi)).symm
      have hnx := hNX j r hrj
      have hcore' := core_nid (m' := NX) (by omega) (fun t ht sv hsv i hi => by
        rw [← hE t ht] at hsv
        exact hacc j r hrj i (hslot t ht sv hsv i hi)) (fun hn => ⟨fun i hi => hpure j r hrj hn i (List.mem_append.2 (.inl hi)), fun p hp => hpure j r hrj hn p.1 (List.mem_append.2 (.inr (mem_chgIds hp)))⟩) hcore
      have hwp := core_sound (K := wpAny P .any ⟨ops⟩ Q fuel (listed.setIfInBounds j true)) (Q := Q) hti hC hF hW hT hcore' (fun y w' hfit => ?_)
      · unfold wpOp
        rw [ho]
        simp only []
        split
        · rename_i hw; rw [if_pos hw] at hwp; exact .inl hwp
        · rename_i hw; rw [if_neg hw] at hwp; exact hwp
      -- behind it
      have hL'j : (listed.setIfInBounds j true).getD j false = true := by simp [hsz, hjlt]
      have hL'o : ∀ i, i ≠ j → (listed.setIfInBounds j true).getD i false = listed.getD i false := fun i hi => by
        simp [Array.getElem?_setIfInBounds, Ne.symm hi]
      refine ih _ _ _ (by simpa using hsz) ?_ ?_ ?_
      · intro i o' ho'' hLi e he hb
        by_cases hej : e.on = j
        · simp only [hej]; exact hL'j
        · simp only []
          rw [hL'o _ hej]
          by_cases hij : i = j
          · subst hij
            rw [ho'] at ho''
            cases ho''
            exact hallL e he hb
          · simp only [] at hLi
            rw [hL'o i hij] at hLi
            exact hcl i o' ho'' hLi e he hb
      · have := (cnt_set (L := fun i => listed.getD i false) (L' := fun i => (listed.setIfInBounds j true).getD i false) hjf hL'j hL'o (k := ops.length)).1 hjlt
        omega
      · obtain ⟨ρ', hden, hWn, hlike, _, _⟩ := hfit
        let g : Nat → Nat := fun i => if r.nid ≤ i ∧ i < r.nid + 8 then i - r.nid + NX else i
        have gin : ∀ i, i < r.nid + 8 → shiftId r.nid NX i = g i := fun i hi => by
          simp only [shiftId, g]
          split
          · rw [if_pos ⟨by assumption, hi⟩]
          · rw [if_neg (fun h => by omega)]
        have gout : ∀ i, ¬ (r.nid ≤ i ∧ i < r.nid + 8) → g i = i := fun i hi => by simp only [g]; rw [if_neg hi]
        have ginj : ∀ i k, i < NX → k < NX → g i = g k → i = k := fun i k hi hk h => by
          simp only [g] at h
          split at h <;> split at h <;> omega
        have hsv := hown j r hrj
        have es : shS (shiftId r.nid NX) r.sv = shS g r.sv := shS_congr fun i hi => gin i (hsv i (List.mem_append.2 (.inl hi)))
        have ec : shC (shiftId r.nid NX) r.chg = shC g r.chg := shC_congr fun i hi => gin i (hsv i (List.mem_append.2 (.inr hi)))
        simp only [es, ec] at hden hWn
        have hnidj := R.fnid j r hrj
        -- nothing of the window is there yet
        have far : ∀ (i : Nat) s, rs[i]? = some s → listed.getD i false = true → ∀ x ∈ touchOf ops s, ¬ (r.nid ≤ x ∧ x < r.nid + 8) ∨ (i < j ∧ x ∉ svIds s.sv ++ chgIds s.chg) := fun i s hs hLi x hx => by
          rcases Nat.lt_trichotomy i j with h | h | h
          · by_cases hx' : x ∈ svIds s.sv ++ chgIds s.chg
            · left
              have := hown i s hs x hx'
              have := R.fnid i s hs
              omega
            · exact .inr ⟨h, hx'⟩
          · subst h; rw [hjf] at hLi; cases hLi
          · left
            intro hw
            have := behind i s hs h (needs3 hx (.inl (by simp [winB]; omega)))
            rw [this] at hLi
            cases hLi
        have hwin : ∀ x, r.nid ≤ x → x < r.nid + 8 → FT (fun i => listed.getD i false) rs 0 (tab tbl) x = none := fun x h1 h2 => by
          rw [FT_congr (L' := fun _ => false) (T' := tab tbl) rfl, FT_none fun _ _ => rfl]
          · cases hb : tab tbl x with
            | none => rfl
            | some b => have := hT0 x b hb; omega
          · intro i s hs hd
            rw [Nat.zero_add]
            cases hL : listed.getD i false with
            | false => rfl
            | true =>
              have hx : x ∈ svIds s.sv ++ chgIds s.chg := List.mem_append.2 (.inr hd)
              rcases far i s hs hL x (List.mem_append.2 (.inr hx)) with h | ⟨_, h⟩
              · exact absurd ⟨h1, h2⟩ h
              · exact absurd hx h
        have eT : FT (fun i => (listed.setIfInBounds j true).getD i false) rs 0 (tab tbl) = setT (FT (fun i => listed.getD i false) rs 0 (tab tbl)) r.chg := by
          funext x
          by_cases hx : x ∈ chgIds r.chg
          · refine FT_last hrj hx (by rw [Nat.zero_add]; exact hL'j) fun i s hs hij hLi hxs => ?_
            rw [Nat.zero_add, hL'o i (by omega)] at hLi
            have := behind i s hs hij (needs3 (List.mem_append.2 (.inr (List.mem_append.2 (.inr hxs)))) (.inr hx))
            rw [this] at hLi
            cases hLi
          · rw [setT_not_mem hx]
            refine FT_congr rfl fun i s hs hd => ?_
            rw [Nat.zero_add]
            refine hL'o i fun e => ?_
            subst e
            rw [hrj] at hs
            cases hs
            exact hx hd
        have eE : FE (fun i => (listed.setIfInBounds j true).getD i false) rs 0 (look env) = upE (FE (fun i => listed.getD i false) rs 0 (look env)) r := by
          funext t
          have other : r.o.dst ≠ some t → FE (fun i => (listed.setIfInBounds j true).getD i false) rs 0 (look env) t = FE (fun i => listed.getD i false) rs 0 (look env) t := fun hne => by
            refine FE_congr rfl fun i s hs hd => ?_
            rw [Nat.zero_add]
            refine hL'o i fun e => ?_
            subst e
            rw [hrj] at hs
            cases hs
            exact hne hd
          unfold upE
          cases hd : r.o.dst with
          | none => exact other (by rw [hd]; simp)
          | some d =>
            by_cases e : d = t
            · subst e
              simp only [if_true]
              exact FE_one hrj hd (by rw [Nat.zero_add]; exact hL'j) fun i s hs hd' => hdst i j s r d hs hrj hd' hd
            · simp only [e, if_false]
              exact other (by rw [hd]; simpa using e)
        rw [eT, eE]
        have hlt : ∀ x b, setT (FT (fun i => listed.getD i false) rs 0 (tab tbl)) r.chg x = some b → x < NX := fun x b hb => by
          by_cases hx : x ∈ chgIds r.chg
          · have := hsv x (List.mem_append.2 (.inr hx)); omega
          · rw [setT_not_mem hx] at hb; exact hT x b hb
        refine ⟨ρ'.via g, ⟨?_, fun t sv ht => ?_, by cases r.o.dst <;> exact hF.defers⟩, ?_, hlt⟩
        · cases r.o.dst <;> simp [Act.put, hF.size]
        · -- a slot that is another's
          have old : ∀ sv, FE (fun i => listed.getD i false) rs 0 (look env) t = some sv → (∀ d, r.o.dst = some d → d ≠ t ∧ guardIs sv d = false) → sv.lt NX ∧ sv.den (ρ'.via g) (a.put r.o.dst y).tmps ((a.put r.o.dst y).tmps.getD t undef) := fun sv hsv hd => by
            obtain ⟨h1, h2⟩ := hF.den t sv hsv
            have hids : ∀ x ∈ svIds sv, ¬ (r.nid ≤ x ∧ x < r.nid + 8) ∧ x < NX := fun x hx => by
              rcases FE_cases hsv with h | ⟨i, s, hs, hLi, rfl, _⟩
              · have hl := (hF0.den t sv h).1
                have : x < nid := by
                  cases sv with
                  | a z => cases z <;> simp [svIds, avIds] at hx <;> subst hx <;> exact hl
                  | g t w z => cases z <;> simp [svIds, avIds] at hx <;> subst hx <;> exact hl
                  | tu l =>
                    have : ∀ {l : List AV}, (∀ z ∈ l, z.lt nid) → ∀ x ∈ avsIds l, x < nid := by
                      intro l
                      induction l with
                      | nil => intro _ x hx; cases hx
                      | cons z l ih =>
                        intro hl x hx
                        simp only [avsIds, List.mem_append] at hx
                        rcases hx with hx | hx
                        · have := hl z (by simp)
                          cases z <;> simp [avIds] at hx <;> subst hx <;> exact this
                        · exact ih (fun z hz => hl z (by simp [hz])) x hx
                    exact this hl x hx
                  | u => cases hx
                  | zz => cases hx
                omega
              · rw [Nat.zero_add] at hLi
                have hx' : x ∈ svIds s.sv ++ chgIds s.chg := List.mem_append.2 (.inl hx)
                have := hown i s hs x hx'
                have := hNX i s hs
                rcases far i s hs hLi x (List.mem_append.2 (.inr hx')) with h | ⟨_, h⟩
                · exact ⟨h, by omega⟩
                · exact absurd hx' h
            refine ⟨h1, ?_⟩
            have h3 : sv.den (ρ'.via g) a.tmps (a.tmps.getD t undef) := SV.den_ids (fun x hx => by
              obtain ⟨hx1, hx2⟩ := hids x hx
              have := hlike x hx2
              simp only [Rho.via, gout x hx1]
              exact this) h2
            cases hdd : r.o.dst with
            | none => exact h3
            | some d =>
              obtain ⟨hne, hgd⟩ := hd d hdd
              rw [getD_put_other hne]
              cases sv with
              | g t' w' x =>
                simp only [guardIs] at hgd
                have hne' : d ≠ t' := fun e' => by subst e'; rw [beq_self] at hgd; cases hgd
                intro hh
                rw [getD_put_other hne'] at hh
                exact h3 hh
              | a x => exact h3
              | tu l => exact h3
              | u => exact h3
              | zz => trivial
          cases hdd : r.o.dst with
          | none =>
            simp only [upE, hdd] at ht
            have := old sv ht fun d hd => by rw [hdd] at hd; cases hd
            rw [hdd] at this
            exact this
          | some d =>
            obtain ⟨hdn, hgs, hgo⟩ := R.fput j r hrj d hdd
            simp only [upE, hdd] at ht
            by_cases e : d = t
            · subst e
              simp only [if_true, Option.some.injEq] at ht
              subst ht
              refine ⟨SV.lt_ids fun x hx => by have := hsv x (List.mem_append.2 (.inl hx)); omega, ?_⟩
              rw [getD_put_same (by rw [hF.size]; exact hdn)]
              have := hden d hdd (by rw [guard_sh]; exact hgs)
              rw [hdd] at this
              exact SV.den_via.1 this
            · simp only [e, if_false] at ht
              have := old sv ht fun d' hd' => by
                rw [hdd] at hd'
                cases hd'
                refine ⟨e, ?_⟩
                rcases FE_cases ht with h | ⟨i, s, hs, hLi, rfl, hds⟩
                · exact noG_spec hng t sv h d
                · rw [Nat.zero_add] at hLi
                  cases hg : guardIs s.sv d with
                  | false => rfl
                  | true =>
                    have hname : d ∈ namesOf ops s.o := List.mem_append.2 (.inr (g_of_core (R.fcore i s hs) hg))
                    rcases Nat.lt_trichotomy i j with h | h | h
                    · -- the text's own run would have seen it
                      have : look r.env t = some s.sv := by
                        rw [R.fenv j r hrj]
                        exact FE_one hs hds (by simpa using h) fun i' s' hs' hd' => hdst i' i s' s t hs' hs hd' hds
                      have := hgo t s.sv this
                      rw [hg] at this
                      cases this
                    · subst h; rw [hjf] at hLi; cases hLi
                    · have := behind i s hs h (needs1 hdd hname)
                      rw [this] at hLi
                      cases hLi
              rw [hdd] at this
              exact this
        · refine hWn.via (fun x b hb => ?_) (fun x z bx bz hx hz h => ginj x z (hlt x bx hx) (hlt z bz hz) h)
          refine setT_via (N := NX) ginj (fun i hi => by have := hsv i (List.mem_append.2 (.inr hi)); omega) (fun x b hx hb => ?_) x b (hlt x b hb) hb
          have : ¬ (r.nid ≤ x ∧ x < r.nid + 8) := fun h => by rw [hwin x h.1 h.2] at hb; cases hb
          rw [gout x this]
          exact hb
  refine wp_region_any hm (key ops.length (Array.replicate ops.length false) a _ (by simp) ?_ ?_ ?_)
  · intro j o ho hL
    simp only [getD_replicate_false] at hL
    cases hL
  · have : ∀ k, cnt (fun i => (Array.replicate ops.length false).getD i false) k ≤ k := by
      intro k
      induction k with
      | zero => exact Nat.le_refl 0
      | succ k ih => simp only [cnt]; split <;> omega
    exact this _
  · have e1 : FE (fun i => (Array.replicate ops.length false).getD i false) rs 0 (look env) = look env := FE_none fun i _ => getD_replicate_false _ _
    have e2 : FT (fun i => (Array.replicate ops.length false).getD i false) rs 0 (tab tbl) = tab tbl := FT_none fun i _ => getD_replicate_false _ _
    rw [e1, e2]
    refine ⟨ρ0, ⟨hF0.size, fun t sv ht => ?_, hF0.defers⟩, hW0.drewN 1, fun id b hb => by have := hT0 id b hb; omega⟩
    obtain ⟨h1, h2⟩ := hF0.den t sv ht
    exact ⟨SV.lt_mono (by omega) h1, h2⟩
end
end Go.Sx
