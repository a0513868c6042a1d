/-
  That one symbolic operation is what the model does: composite values, addresses, slices.
-/
import Derived.Test.YtdlcjmonnfjklaaSxJ
set_option linter.unusedSimpArgs false
set_option linter.unusedVariables false
namespace Go.Sx
open Go.RowKit (Below)
section
variable {P : Program} {ti : List (Nat × TI)} {C : List (Nat × Ctr)} {base : Nat} {w0 w : World} {T : Nat → Option Blk} {ρ : Rho} {nid : Nat}

theorem run_mapM_list {α β : Type} (f : α → Sem β) (g : α → β) (w : World) : ∀ (l : List α), (∀ x ∈ l, (f x).run P w = .ok (g x) w) → (l.mapM f).run P w = .ok (l.map g) w
  | [], _ => rfl
  | x :: l, h => by
    rw [List.mapM_cons, Sem.run_bind, h x (by simp), Result.andThen_ok, Sem.run_bind, run_mapM_list f g w l fun y hy => h y (by simp [hy])]
    rfl
theorem run_mapM_array {α β : Type} (f : α → Sem β) (g : α → β) (w : World) (a : Array α) (h : ∀ x ∈ a.toList, (f x).run P w = .ok (g x) w) : (a.mapM f).run P w = .ok (a.map g) w := by
  rw [Array.mapM_eq_mapM_toList, Sem.run_map, run_mapM_list f g w _ h]
  simp only [Result.andThen_ok]
  congr 1
  apply Array.ext'
  simp
theorem build_y (hti : TIok P ti) (hW : WAg base w0 T ρ w) (hT : ∀ id b, T id = some b → id < nid) {sr : Operand → Option SV} {ev : Operand → Value} (hk : Knows ρ nid sr ev) {o : Oper} {t : Nat} {parts : Array (Nat × Operand)} (ho : o.op = .build t parts)
    {i : TI} (hi : look ti t = some i) {ps : List (Nat × AV)} (hp : mapO (partAR (arOf sr)) parts.toList = some ps) {l : List Value}
    (h : (∃ fs ys, i.d = .st fs ∧ fillL (placeOf ti fs) i.zero ps = some l ∧ mapO (fun (f : Nat × Nat) => look ti f.2) fs = some ys) ∨
      ∃ n e ie, i.d = .arr n e ∧ look ti e = some ie ∧ fillL (fun j => some (j * ie.size, ie.size)) i.zero ps = some l) : Yields P base w0 T ρ nid w ev o (.a (.v (.agg ⟨l⟩)), []) := by
  have hpa := mapO_parts (arOf_ok hk) hp
  obtain ⟨z, hz1, hz2, hz3⟩ := run_zero (hti t i hi) w
  obtain ⟨d, hu1, hu2, hu3⟩ := run_und (hti t i hi) w
  have hzz : ceqs i.zero i.zero := ceqs.refl (hti t i hi).one
  have hparts : (parts.map fun (x : Nat × Operand) => (x.1, ev x.2)).toList = parts.toList.map fun p => (p.1, ev p.2) := by simp
  rcases h with ⟨fs, ys, hd, hf, hm⟩ | ⟨n, e, ie, hd, he, hf⟩
  · rw [hd] at hu3
    obtain ⟨fields, rfl, hfs⟩ := hu3
    have hz3 := hz3 (by rw [← hu2]; rfl)
    subst hz3
    obtain ⟨m, h1, h2⟩ := fill_ok hf hpa hzz
    refine ⟨.agg ⟨m⟩, w, .inl ?_, Fit.pure hW hT (v := .v (.agg ⟨l⟩)) (veq.agg h2) trivial 0⟩
    have hsz : ∀ f ∈ fields.toList, (sizeOf f.type).run P w = .ok ((match look ti f.type with | some fi => fi.size | none => 0)) w := fun f hf => by
      have hmem : (f.offset, f.type) ∈ fs := by rw [← hfs]; exact List.mem_map.2 ⟨f, hf, rfl⟩
      obtain ⟨k, hk⟩ := List.getElem?_of_mem hmem
      obtain ⟨y, _, hy⟩ := (mapO_spec hm).2 k _ hk
      rw [hy]
      exact run_size (hti _ _ hy) w
    have hmap := run_mapM_array (P := P) (fun (f : Field) => (do pure (f.offset, ← sizeOf f.type) : Sem (Nat × Nat))) (fun (f : Field) => ((f.offset, (match look ti f.type with | some fi => fi.size | none => 0)) : Nat × Nat)) w fields (fun f hf => by simp [hsz f hf])
    have hplace : (fun j => (fields.map (fun (f : Field) => ((f.offset, (match look ti f.type with | some fi => fi.size | none => 0)) : Nat × Nat)))[j]?) = placeOf ti fs := by
      funext j
      unfold placeOf
      rw [← hfs]
      simp only [Array.getElem?_map, List.getElem?_map, Array.getElem?_toList]
      cases hj : fields[j]? with
      | none => simp
      | some f =>
        have hmem : (f.offset, f.type) ∈ fs := by
          rw [← hfs]
          have := Array.mem_of_getElem? hj
          exact List.mem_map.2 ⟨f, Array.mem_toList_iff.2 this, rfl⟩
        obtain ⟨k, hk⟩ := List.getElem?_of_mem hmem
        obtain ⟨y, _, hy⟩ := (mapO_spec hm).2 k _ hk
        simp [hy]
    rw [← hplace] at h1
    simp only [execOp, ho, Instr.build]
    rw [Sem.run_bind, Sem.run_bind, hz1]
    simp only [Result.andThen_ok]
    rw [Sem.run_bind, hu1]
    simp only [Result.andThen_ok]
    rw [Sem.run_bind, hmap]
    simp only [Result.andThen_ok, Value.cells, hparts]
    rw [h1]
    rfl
  · rw [hd] at hu3
    have hu3 : d = .array n e := hu3
    subst hu3
    have hz3 := hz3 (by rw [← hu2]; rfl)
    subst hz3
    obtain ⟨m, h1, h2⟩ := fill_ok hf hpa hzz
    refine ⟨.agg ⟨m⟩, w, .inl ?_, Fit.pure hW hT (v := .v (.agg ⟨l⟩)) (veq.agg h2) trivial 0⟩
    simp only [execOp, ho, Instr.build]
    rw [Sem.run_bind, Sem.run_bind, hz1]
    simp only [Result.andThen_ok]
    rw [Sem.run_bind, hu1]
    simp only [Result.andThen_ok]
    rw [Sem.run_bind, run_size (hti e ie he)]
    simp only [Result.andThen_ok, Value.cells, hparts]
    rw [h1]
    rfl
theorem buildSlice_y (hti : TIok P ti) (hW : WAg base w0 T ρ w) (hT : ∀ id b, T id = some b → id < nid) {sr : Operand → Option SV} {ev : Operand → Value} (hk : Knows ρ nid sr ev) {o : Oper} {t len : Nat} {parts : Array (Nat × Operand)} (ho : o.op = .buildSlice t len parts)
    {i : TI} (hi : look ti t = some i) {ps : List (Nat × AV)} (hp : mapO (partAR (arOf sr)) parts.toList = some ps) {l : List Value}
    {e : Nat} {ie : TI} (hd : i.d = .sl e) (he : look ti e = some ie) (hle : len * ie.size ≤ 16777216) (hzl : ie.zero ≠ [] ∨ len * ie.size = 0)
    (hf : fillL (fun j => some (j * ie.size, ie.size)) ((List.range (len * ie.size)).map fun j => (⟨ie.zero⟩ : Array Value)[j % ie.zero.length]!) ps = some l) : Yields P base w0 T ρ nid w ev o (.a (.s nid 0 len len), [(nid, some (.c true e l))]) := by
  have hpa := mapO_parts (arOf_ok hk) hp
  obtain ⟨z, hz1, hz2, hz3⟩ := run_zero (hti e ie he) w
  obtain ⟨d, hu1, hu2, hu3⟩ := run_und (hti t i hi) w
  rw [hd] at hu3
  have hu3 : d = .slice e := hu3
  subst hu3
  have hone : ∀ c ∈ ((List.range (len * ie.size)).map fun j => (⟨ie.zero⟩ : Array Value)[j % ie.zero.length]!), okc c = true := fun c hc => by
    obtain ⟨j, hj, rfl⟩ := List.mem_map.1 hc
    have hj := List.mem_range.1 hj
    have hne : ie.zero ≠ [] := hzl.resolve_right (by omega)
    have hpos : 0 < ie.zero.length := List.length_pos_iff.2 hne
    have hlt : j % ie.zero.length < ie.zero.length := Nat.mod_lt _ hpos
    refine (hti e ie he).one _ ?_
    simp [getElem!_def, List.getElem?_eq_getElem hlt]
  obtain ⟨m, h1, h2⟩ := fill_ok hf hpa (ceqs.refl hone)
  have hparts : (parts.map fun (x : Nat × Operand) => (x.1, ev x.2)).toList = parts.toList.map fun p => (p.1, ev p.2) := by simp
  refine ⟨.slice (some ⟨w.heap.size, 0, none⟩) len len, _, .inl ?_, Fit.alloc hW hT e h2 (fun ρ' h1 h2 => by simp [AV.den, h1, h2]) (by show nid < nid + 8; omega)⟩
  simp only [execOp, ho, Instr.buildSlice]
  rw [Sem.run_bind, Sem.run_bind, hu1]
  simp only [Result.andThen_ok]
  rw [Sem.run_bind, run_size (hti e ie he)]
  simp only [Result.andThen_ok]
  rw [if_neg (by have : (2 : Nat) ^ 24 = 16777216 := by decide
                 omega)]
  by_cases h0 : len * ie.size = 0
  · have hcells : ((Array.range (len * ie.size)).map (fun j => (#[] : Array Value)[j % (#[] : Array Value).size]!)) = ⟨(List.range (len * ie.size)).map fun j => (⟨ie.zero⟩ : Array Value)[j % ie.zero.length]!⟩ := by
      apply Array.ext'
      simp [h0]
    rw [if_pos h0]
    rw [Sem.run_bind]
    simp only [Sem.run_pure, Result.andThen_ok]
    rw [hcells, hparts, h1]
    simp [newRow]
  · have hcells : ((Array.range (len * ie.size)).map (fun j => (⟨ie.zero⟩ : Array Value)[j % (⟨ie.zero⟩ : Array Value).size]!)) = ⟨(List.range (len * ie.size)).map fun j => (⟨ie.zero⟩ : Array Value)[j % ie.zero.length]!⟩ := by
      apply Array.ext'
      simp
    rw [if_neg h0]
    rw [Sem.run_bind, hz1]
    simp only [Result.andThen_ok]
    rw [Sem.run_bind]
    simp only [Sem.run_pure, Result.andThen_ok]
    rw [hz2, hcells, hparts, h1]
    simp [newRow]
theorem addr_y (hti : TIok P ti) (hW : WAg base w0 T ρ w) (hT : ∀ id b, T id = some b → id < nid) {sr : Operand → Option SV} {ev : Operand → Value} (hk : Knows ρ nid sr ev) {o : Oper} {t f : Nat} {x : Operand} (ho : o.op = .fieldAddr t x f)
    {i : TI} (hi : look ti t = some i) {id off : Nat} (hv : arOf sr x = some (.p id off)) {fs : List (Nat × Nat)} (hd : i.d = .st fs) {foff ft : Nat} (hf : fs[f]? = some (foff, ft)) {fi : TI} (hfi : look ti ft = some fi) (hne : fi.size ≠ 0) : Yields P base w0 T ρ nid w ev o (.a (.p id (off + foff)), []) := by
  obtain ⟨d, hu1, hu2, hu3⟩ := run_und (hti t i hi) w
  rw [hd] at hu3
  obtain ⟨fields, rfl, hfs⟩ := hu3
  have hx := arOf_ok hk x _ hv
  have hxv : ev x = .pointer (some ⟨ρ.b id, ρ.o id + off, none⟩) := hx.2
  rw [← hfs, List.getElem?_map] at hf
  cases hj : fields.toList[f]? with
  | none => rw [hj] at hf; cases hf
  | some fd =>
    rw [hj] at hf
    simp only [Option.map_some, Option.some.injEq, Prod.mk.injEq] at hf
    obtain ⟨rfl, rfl⟩ := hf
    have hj' : fields[f]? = some fd := by rw [← Array.getElem?_toList]; exact hj
    refine ⟨.pointer (some ⟨ρ.b id, ρ.o id + (off + fd.offset), none⟩), w, .inl ?_, Fit.pure hW hT (v := .p id (off + fd.offset)) rfl hx.1 0⟩
    simp only [execOp, ho, Instr.fieldAt]
    rw [Sem.run_bind, Sem.run_bind, hu1]
    simp only [Result.andThen_ok, hj', hxv, Instr.sureAddr, fieldPlace]
    simp [run_size (hti _ _ hfi), hne, Addr.add_lit, Nat.add_assoc]
theorem run_part {t : Nat} {i : TI} (hi : i.ok P t) {cs ds l : List Value} (hc : ceqs cs ds) {off : Nat} (hl : part cs off i.size = some l) {v : AV} (hv : asVal i l = some v) : ∃ y, (Go.part t ⟨ds⟩ off).run P w = .ok y w ∧ v.den ρ y ∧ v.lt nid := by
  obtain ⟨h1, h2, h3⟩ := part_eq hl
  have hm : ceqs l ((ds.drop off).take i.size) := h2 ▸ (hc.drop off).take i.size
  obtain ⟨hlt, hd⟩ := asVal_den (nid := nid) (ρ := ρ) hv hm
  have hcl := hc.length
  rcases hd with ⟨ha, hd⟩ | ⟨ha, c, hc1, hd⟩
  · refine ⟨_, ?_, hd, hlt⟩
    simp [Go.part, run_isAgg hi, ha, run_size hi, List.extract_eq_take_drop]
  · refine ⟨c, ?_, hd, hlt⟩
    have : ds[off]? = some c := by
      have := getElem?_part (ds := ds) (off := off) (n := i.size) (m := [c]) hc1.symm (j := 0) rfl
      simpa using this
    simp [Go.part, run_isAgg hi, ha, this]
theorem field_y (hti : TIok P ti) (hW : WAg base w0 T ρ w) (hT : ∀ id b, T id = some b → id < nid) {sr : Operand → Option SV} {ev : Operand → Value} (hk : Knows ρ nid sr ev) {o : Oper} {t f : Nat} {x : Operand} (ho : o.op = .field t x f)
    {i : TI} (hi : look ti t = some i) {u : AV} (hv : arOf sr x = some u) {cs : Array Value} (hp : payload u = some (.agg cs)) {fs : List (Nat × Nat)} (hd : i.d = .st fs) {foff ft : Nat} (hf : fs[f]? = some (foff, ft)) {fi : TI} (hfi : look ti ft = some fi)
    {l : List Value} (hl : part cs.toList foff fi.size = some l) {v : AV} (ha : asVal fi l = some v) : Yields P base w0 T ρ nid w ev o (.a v, []) := by
  obtain ⟨d, hu1, hu2, hu3⟩ := run_und (hti t i hi) w
  rw [hd] at hu3
  obtain ⟨fields, rfl, hfs⟩ := hu3
  obtain ⟨ds, hxv, hc⟩ := payload_den hp (arOf_ok hk x _ hv).2
  rw [← hfs, List.getElem?_map] at hf
  cases hj : fields.toList[f]? with
  | none => rw [hj] at hf; cases hf
  | some fd =>
    rw [hj] at hf
    simp only [Option.map_some, Option.some.injEq, Prod.mk.injEq] at hf
    obtain ⟨rfl, rfl⟩ := hf
    have hj' : fields[f]? = some fd := by rw [← Array.getElem?_toList]; exact hj
    obtain ⟨y, h1, h2, h3⟩ := run_part (w := w) (ρ := ρ) (nid := nid) (hti _ _ hfi) hc hl ha
    refine ⟨y, w, .inl ?_, Fit.pure hW hT h2 h3 0⟩
    simp only [execOp, ho, Instr.field]
    rw [Sem.run_bind, Sem.run_bind, hu1]
    simp only [Result.andThen_ok, hj', hxv, asAgg]
    simp [h1]
theorem index_y (hti : TIok P ti) (hW : WAg base w0 T ρ w) (hT : ∀ id b, T id = some b → id < nid) {sr : Operand → Option SV} {ev : Operand → Value} (hk : Knows ρ nid sr ev) {o : Oper} {t : Nat} {x ix : Operand} (ho : o.op = .index t x ix)
    {i : TI} (hi : look ti t = some i) {u j : AV} (hv : arOf sr x = some u) (hj : arOf sr ix = some j) {n : Int} (hn : intOfAV j = some n) {len e : Nat} (hd : i.d = .arr len e) {cs : Array Value} (hp : payload u = some (.agg cs)) (h0 : 0 ≤ n) (h1 : n < len) {ie : TI} (he : look ti e = some ie)
    {l : List Value} (hl : part cs.toList (n.toNat * ie.size) ie.size = some l) {v : AV} (ha : asVal ie l = some v) : Yields P base w0 T ρ nid w ev o (.a v, []) := by
  obtain ⟨d, hu1, hu2, hu3⟩ := run_und (hti t i hi) w
  rw [hd] at hu3
  have hu3 : d = .array len e := hu3
  subst hu3
  obtain ⟨ds, hxv, hc⟩ := payload_den hp (arOf_ok hk x _ hv).2
  obtain ⟨k, hkv⟩ := intOfAV_den hn (arOf_ok hk ix _ hj).2
  obtain ⟨y, h2, h3, h4⟩ := run_part (w := w) (ρ := ρ) (nid := nid) (hti _ _ he) hc hl ha
  refine ⟨y, w, .inl ?_, Fit.pure hW hT h3 h4 0⟩
  simp [execOp, ho, Instr.index, hkv, hxv, asIntOf, hu1, h0, h1, run_size (hti _ _ he), h2]
theorem nil_y (hW : WAg base w0 T ρ w) (hT : ∀ id b, T id = some b → id < nid) {sr : Operand → Option SV} {ev : Operand → Value} (hk : Knows ρ nid sr ev) {o : Oper} {x : Operand} (ho : o.op = .nilCheck x) {id off : Nat} (hv : arOf sr x = some (.p id off)) : Yields P base w0 T ρ nid w ev o (.a (.p id off), []) := by
  have hx := arOf_ok hk x _ hv
  have hxv : ev x = .pointer (some ⟨ρ.b id, ρ.o id + off, none⟩) := hx.2
  exact ⟨_, w, .inl (by simp only [execOp, ho, hxv]; rfl), Fit.pure hW hT (v := .p id off) rfl hx.1 0⟩
theorem extract_y (hW : WAg base w0 T ρ w) (hT : ∀ id b, T id = some b → id < nid) {sr : Operand → Option SV} {ev : Operand → Value} (hk : Knows ρ nid sr ev) {o : Oper} {x : Operand} {j : Nat} (ho : o.op = .extract x j) {l : List AV} (hv : sr x = some (.tu l)) {v : AV} (hj : l[j]? = some v) : Yields P base w0 T ρ nid w ev o (.a v, []) := by
  obtain ⟨hlt, ys, hy, hd⟩ := hk x _ hv trivial
  obtain ⟨y, h1, h2⟩ := dens_get hd j v hj
  refine ⟨y, w, .inl ?_, Fit.pure hW hT h2 (hlt v (List.mem_of_getElem? hj)) 0⟩
  simp [execOp, ho, hy, Instr.extract, h1]
theorem move_y (hW : WAg base w0 T ρ w) (hT : ∀ id b, T id = some b → id < nid) {sr : Operand → Option SV} {ev : Operand → Value} (hk : Knows ρ nid sr ev) {o : Oper} {x : Operand} (ho : o.op = .move x ∨ o.op = .assign x) {v : SV} (hv : sr x = some v) (hp : v.plain) : Yields P base w0 T ρ nid w ev o (v, []) := by
  obtain ⟨hlt, hd⟩ := hk x v hv hp
  refine ⟨ev x, w, .inl ?_, Fit.same hW hT hd hlt hp⟩
  rcases ho with ho | ho <;> simp [execOp, ho]
end
end Go.Sx
