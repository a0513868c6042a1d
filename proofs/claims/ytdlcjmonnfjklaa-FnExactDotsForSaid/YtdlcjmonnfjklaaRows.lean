/-
  No cell of these rows narrows 'for every input' (looked for: loops, veiled, ifaces, maps, wideKeys, modest, calm, conditions, laid).
  DERIVED. THE GIVEN ROWS OF THIS SEAT. 3 by the template 'for every input the law returns true; each argument reads behind the call as it read before'; 0 by the template 'total and deterministic' (their statements: YtdlcjmonnfjklaaTotals.lean).
  GIVEN WITH THE SEED: the statements are not yours to turn. If you find one false, say at which input.
  Laid BY PROGRAM, IN A SANDBOX (cutbox-rows.mjs): the forced cells as the released guide's own fill.sh prints them over the translation 8e01b264a8821c71… (all of the seat's roots in one cut). By AI agents, Wed Nov 11 2026. No macro, syntax, notation, axiom, sorry.
-/
import Derived.Test.YtdlcjmonnfjklaaChecked
import GoSem.Claim
import GoSem.ClaimJoined
import GoSem.ClaimMapViews
import Derived.JoinedTies
import Derived.KernelRfl
namespace Go.Proofs.Ytdlcjmonnfjklaa
/- THE CELL 'sum', in the pinned program and in every row, IS THE sha256 OF THE DUMP (.gsa) THAT YtdlcjmonnfjklaaProg.lean LOADS. Nothing in Lean hashes anything: it is a label: what it is worth is what the hold of that sum in a sandbox is worth. -/
noncomputable def Try.pinned : Pinned := { name := "ytdlcjmonnfjklaa", sum := "8e01b264a8821c712abcc7ecb758ec5f5eabdbfa68da30c73c05d519e6a8fbf8", checked := Try.checked }
namespace Rows
def none {H : Type} : Left H := { results := [], args := [] }

/-- 'laws.FnExactDotsFor': WHATEVER THE INPUT: true; the input reads as it did. -/
def fnExactDotsForSpec : ChangeSpec := { name := "fnExactDotsFor", fn := fun _ => fun
  | [d1, d2] => { results := [.lit (.bool true)], args := [d1, d2] }
  | _ => none }
def fnExactDotsForRow : OpenClaim := { program := "ytdlcjmonnfjklaa", sum := "8e01b264a8821c712abcc7ecb758ec5f5eabdbfa68da30c73c05d519e6a8fbf8", func := "loop.example/g01320/laws.FnExactDotsFor", spec := "fnExactDotsFor", apart := false }
def FnExactDotsForSaid : Prop := fnExactDotsForRow.holds Try.pinned (OpenSpec.ofChange fnExactDotsForSpec)

/-- ITS FALSE NEIGHBOUR: 'it returns false'. Refute it at one input. -/
def fnExactDotsForWrong : ChangeSpec := { name := "fnExactDotsFor", fn := fun _ => fun
  | [d1, d2] => { results := [.lit (.bool false)], args := [d1, d2] }
  | _ => none }
def FnExactDotsForWrongFalsely : Prop := fnExactDotsForRow.holds Try.pinned (OpenSpec.ofChange fnExactDotsForWrong)

/-- 'laws.FnExactOffBy': WHATEVER THE INPUT: true; the input reads as it did. -/
def fnExactOffBySpec : ChangeSpec := { name := "fnExactOffBy", fn := fun _ => fun
  | [d1, d2, d3] => { results := [.lit (.bool true)], args := [d1, d2, d3] }
  | _ => none }
def fnExactOffByRow : OpenClaim := { program := "ytdlcjmonnfjklaa", sum := "8e01b264a8821c712abcc7ecb758ec5f5eabdbfa68da30c73c05d519e6a8fbf8", func := "loop.example/g01320/laws.FnExactOffBy", spec := "fnExactOffBy", inPlace := ["math.Float64bits", "math.Float64frombits"], apart := false }
def FnExactOffBySaid : Prop := fnExactOffByRow.holds Try.pinned (OpenSpec.ofChange fnExactOffBySpec)

/-- ITS FALSE NEIGHBOUR: 'it returns false'. Refute it at one input. -/
def fnExactOffByWrong : ChangeSpec := { name := "fnExactOffBy", fn := fun _ => fun
  | [d1, d2, d3] => { results := [.lit (.bool false)], args := [d1, d2, d3] }
  | _ => none }
def FnExactOffByWrongFalsely : Prop := fnExactOffByRow.holds Try.pinned (OpenSpec.ofChange fnExactOffByWrong)

/-- 'laws.FnExactPlatesColour': WHATEVER THE INPUT: true; the input reads as it did. -/
def fnExactPlatesColourSpec : ChangeSpec := { name := "fnExactPlatesColour", fn := fun _ => fun
  | [d1, d2, d3, d4, d5, d6] => { results := [.lit (.bool true)], args := [d1, d2, d3, d4, d5, d6] }
  | _ => none }
def fnExactPlatesColourRow : OpenClaim := { program := "ytdlcjmonnfjklaa", sum := "8e01b264a8821c712abcc7ecb758ec5f5eabdbfa68da30c73c05d519e6a8fbf8", func := "loop.example/g01320/laws.FnExactPlatesColour", spec := "fnExactPlatesColour", apart := false }
def FnExactPlatesColourSaid : Prop := fnExactPlatesColourRow.holds Try.pinned (OpenSpec.ofChange fnExactPlatesColourSpec)

/-- ITS FALSE NEIGHBOUR: 'it returns false'. Refute it at one input. -/
def fnExactPlatesColourWrong : ChangeSpec := { name := "fnExactPlatesColour", fn := fun _ => fun
  | [d1, d2, d3, d4, d5, d6] => { results := [.lit (.bool false)], args := [d1, d2, d3, d4, d5, d6] }
  | _ => none }
def FnExactPlatesColourWrongFalsely : Prop := fnExactPlatesColourRow.holds Try.pinned (OpenSpec.ofChange fnExactPlatesColourWrong)

/- THE SECOND FORM. 'bulk': how many values and letters a reading holds, each counted each time it is reached (what is shared counts as often as it is met; a slice's spare places count too). A statement '..UptoSaid' is the law's where the arguments, and the package variables that the reading takes, are together of bulk at most 1048576: NARROWER than '..Said'. Prove '..Said' where nothing that the law and all that it calls make is longer than what came in: it says more and counts as full. Else prove '..UptoSaid'. A law counts once. -/
mutual
def uptoBulk {H : Type} : DataW H → Nat
  | .lit (.string bytes) => bytes.length + 1
  | .lit _ => 1
  | .nil => 1
  | .ptr d => uptoBulk d + 1
  | .slice elems spare => uptoBulkAll elems + uptoBulkAll spare + 1
  | .agg parts => uptoBulkAll parts + 1
  | .iface _ d => uptoBulk d + 1
  | .map entries => uptoBulkEntries entries + 1
  | .held _ => 1
def uptoBulkAll {H : Type} : List (DataW H) → Nat
  | [] => 0
  | d :: r => uptoBulk d + uptoBulkAll r
def uptoBulkEntries {H : Type} : List (Lit × DataW H) → Nat
  | [] => 0
  | x :: r => uptoBulkEntry x + uptoBulkEntries r
def uptoBulkEntry {H : Type} : Lit × DataW H → Nat
  | (.string bytes, d) => bytes.length + uptoBulk d + 1
  | (_, d) => uptoBulk d + 1
 end
def uptoSmall : (H : Type) → List (DataW H) → Bool := fun _ ds => decide (uptoBulkAll ds ≤ 1048576)
def OpenSpec.upto (s : _root_.Go.ChangeSpec) : _root_.Go.OpenSpec := { _root_.Go.OpenSpec.ofChange s with cond := some uptoSmall }

/-- 'laws.FnExactDotsFor', WHERE WHAT IT READS IS OF BULK AT MOST 1048576: true; the input reads as it did. -/
def fnExactDotsForUptoRow : OpenClaim := { program := "ytdlcjmonnfjklaa", sum := "8e01b264a8821c712abcc7ecb758ec5f5eabdbfa68da30c73c05d519e6a8fbf8", func := "loop.example/g01320/laws.FnExactDotsFor", spec := "fnExactDotsFor", apart := false, narrowed := true }
def FnExactDotsForUptoSaid : Prop := fnExactDotsForUptoRow.holds Try.pinned (OpenSpec.upto fnExactDotsForSpec)

/-- 'laws.FnExactOffBy', WHERE WHAT IT READS IS OF BULK AT MOST 1048576: true; the input reads as it did. -/
def fnExactOffByUptoRow : OpenClaim := { program := "ytdlcjmonnfjklaa", sum := "8e01b264a8821c712abcc7ecb758ec5f5eabdbfa68da30c73c05d519e6a8fbf8", func := "loop.example/g01320/laws.FnExactOffBy", spec := "fnExactOffBy", inPlace := ["math.Float64bits", "math.Float64frombits"], apart := false, narrowed := true }
def FnExactOffByUptoSaid : Prop := fnExactOffByUptoRow.holds Try.pinned (OpenSpec.upto fnExactOffBySpec)

/-- 'laws.FnExactPlatesColour', WHERE WHAT IT READS IS OF BULK AT MOST 1048576: true; the input reads as it did. -/
def fnExactPlatesColourUptoRow : OpenClaim := { program := "ytdlcjmonnfjklaa", sum := "8e01b264a8821c712abcc7ecb758ec5f5eabdbfa68da30c73c05d519e6a8fbf8", func := "loop.example/g01320/laws.FnExactPlatesColour", spec := "fnExactPlatesColour", apart := false, narrowed := true }
def FnExactPlatesColourUptoSaid : Prop := fnExactPlatesColourUptoRow.holds Try.pinned (OpenSpec.upto fnExactPlatesColourSpec)

end Rows
end Go.Proofs.Ytdlcjmonnfjklaa
