/-
  The check that a table of types is a program's.
-/
import Derived.Test.YtdlcjmonnfjklaaSxZ
set_option linter.unusedSimpArgs false
set_option linter.unusedVariables false
namespace Go.Sx

def eqZ : Value → Value → Bool
  | .int k n, .int k' n' => decide (k = k') && (decide (n = n') && okc (.int k n))
  | .float k n, .float k' n' => decide (k = k') && Nat.beq n n'
  | .bool a, .bool b => a == b
  | .string ⟨⟨[]⟩⟩, .string ⟨⟨[]⟩⟩ => true
  | .slice none 0 0, .slice none 0 0 => true
  | .pointer none, .pointer none => true
  | .nilFunc, .nilFunc => true
  | .nilIface, .nilIface => true
  | _, _ => false
theorem eqZ_eq {a b : Value} (h : eqZ a b = true) : a = b ∧ okc a = true := by
  unfold eqZ at h
  split at h
  · simp only [Bool.and_eq_true, decide_eq_true_eq] at h; obtain ⟨rfl, rfl, h⟩ := h; exact ⟨rfl, h⟩
  · simp only [Bool.and_eq_true, decide_eq_true_eq] at h; obtain ⟨rfl, h⟩ := h; rw [Nat.eq_of_beq_eq_true h]; exact ⟨rfl, rfl⟩
  · rw [eq_of_beq h]; exact ⟨rfl, rfl⟩
  all_goals first | exact ⟨rfl, rfl⟩ | cases h
def eqZL : List Value → List Value → Bool
  | [], [] => true
  | a :: l, b :: m => eqZ a b && eqZL l m
  | _, _ => false
theorem eqZL_eq : ∀ {l m : List Value}, eqZL l m = true → l = m ∧ ∀ c ∈ l, okc c = true
  | [], [], _ => ⟨rfl, by simp⟩
  | a :: l, b :: m, h => by
    simp only [eqZL, Bool.and_eq_true] at h
    obtain ⟨h1, h2⟩ := eqZ_eq h.1
    obtain ⟨h3, h4⟩ := eqZL_eq h.2
    subst h1; subst h3
    refine ⟨rfl, fun c hc => ?_⟩
    rcases List.mem_cons.1 hc with rfl | hc
    · exact h2
    · exact h4 c hc
  | [], _ :: _, h => by simp [eqZL] at h
  | _ :: _, [], h => by simp [eqZL] at h
def eqFs : List (Nat × Nat) → List (Nat × Nat) → Bool
  | [], [] => true
  | (a, b) :: l, (c, d) :: m => Nat.beq a c && (Nat.beq b d && eqFs l m)
  | _, _ => false
theorem eqFs_eq : ∀ {l m : List (Nat × Nat)}, eqFs l m = true → l = m
  | [], [], _ => rfl
  | (a, b) :: l, (c, d) :: m, h => by
    simp only [eqFs, Bool.and_eq_true] at h
    rw [Nat.eq_of_beq_eq_true h.1, Nat.eq_of_beq_eq_true h.2.1, eqFs_eq h.2.2]
  | [], _ :: _, h => by simp [eqFs] at h
  | _ :: _, [], h => by simp [eqFs] at h
def okD : TD → TypeDesc → Bool
  | .arr n t, .array m u => Nat.beq n m && Nat.beq t u
  | .st fs, .struct fields => eqFs (fields.toList.map (fun f => (f.offset, f.type))) fs
  | .sl t, .slice u => Nat.beq t u
  | .ik k, .int k' => decide (k = k')
  | .fk k, .float k' => decide (k = k')
  | .bl, .bool => true
  | .str, .string => true
  | .ptr t, .pointer u => Nat.beq t u
  | .ot, _ => true
  | _, _ => false
theorem okD_ok {e : TD} {d : TypeDesc} (h : okD e d = true) : e.ok d := by
  unfold okD at h
  split at h
  · simp only [Bool.and_eq_true] at h; rw [Nat.eq_of_beq_eq_true h.1, Nat.eq_of_beq_eq_true h.2]; rfl
  · exact ⟨_, rfl, eqFs_eq h⟩
  · rw [Nat.eq_of_beq_eq_true h]; rfl
  · rw [of_decide_eq_true h]; rfl
  · rw [of_decide_eq_true h]; rfl
  · rfl
  · rfl
  · rw [Nat.eq_of_beq_eq_true h]; rfl
  · trivial
  · cases h
def okT (P : Program) (t : Nat) (i : TI) : Bool :=
  match P.info? t, P.underlying t with
  | some inf, some d => Nat.beq inf.size i.size && (Nat.beq inf.bytes i.bytes && ((aggD d == i.agg) && (okD i.d d && (match inf.zero, i.agg with
    | some (.agg ⟨l⟩), true => eqZL l i.zero
    | some z, false => (match i.zero with | [c] => eqZ z c | _ => false)
    | _, _ => false))))
  | _, _ => false
theorem okT_ok {P : Program} {t : Nat} {i : TI} (h : okT P t i = true) : i.ok P t := by
  unfold okT at h
  split at h
  · rename_i inf d h1 h2
    simp only [Bool.and_eq_true] at h
    obtain ⟨h3, h4, h5, h6, h7⟩ := h
    split at h7
    · rename_i l hz ha
      obtain ⟨h8, h9⟩ := eqZL_eq h7
      subst h8
      exact ⟨⟨inf, h1, Nat.eq_of_beq_eq_true h3, Nat.eq_of_beq_eq_true h4, _, hz, rfl, fun _ => rfl⟩, ⟨d, h2, eq_of_beq h5, okD_ok h6⟩, h9⟩
    · rename_i z hz ha
      split at h7
      · rename_i c hc
        obtain ⟨rfl, h9⟩ := eqZ_eq h7
        refine ⟨⟨inf, h1, Nat.eq_of_beq_eq_true h3, Nat.eq_of_beq_eq_true h4, _, hz, ?_, fun e => by rw [ha] at e; cases e⟩, ⟨d, h2, eq_of_beq h5, okD_ok h6⟩, fun c' hc' => ?_⟩
        · rw [hc]; cases z <;> first | rfl | cases h9
        · rw [hc] at hc'; simp at hc'; rw [hc']; exact h9
      · cases h7
    · cases h7
  · cases h
theorem TIok_of {P : Program} : ∀ {ti : List (Nat × TI)}, allB (fun (p : Nat × TI) => okT P p.1 p.2) ti = true → TIok P ti
  | ti, h => fun t i hl => by
    have : ∀ {l : List (Nat × TI)}, look l t = some i → (t, i) ∈ l := by
      intro l
      induction l with
      | nil => intro h; cases h
      | cons p l ih =>
        obtain ⟨j, x⟩ := p
        intro h
        simp only [look] at h
        split at h
        · rename_i e
          have := Nat.eq_of_beq_eq_true e
          cases h
          simp [this]
        · simp [ih h]
    exact okT_ok (allB_iff.1 h (t, i) (this hl))
end Go.Sx
