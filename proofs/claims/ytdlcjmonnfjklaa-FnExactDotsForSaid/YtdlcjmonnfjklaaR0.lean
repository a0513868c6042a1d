/-
  PROVED HERE: the type table of the translation is right, for every input; no conditions.
-/
import Derived.Test.YtdlcjmonnfjklaaSxP
import Derived.Test.YtdlcjmonnfjklaaSxT
import Derived.KernelRfl
set_option linter.unusedSimpArgs false
set_option linter.unusedVariables false
namespace Go.Proofs.Ytdlcjmonnfjklaa
open Go.Sx
theorem Try.tiok : TIok Try.prog Try.ti := TIok_of (by kernel_rfl)
theorem Try.mixed : Try.prog.follows .mixedOrders = true := by kernel_rfl
end Go.Proofs.Ytdlcjmonnfjklaa
