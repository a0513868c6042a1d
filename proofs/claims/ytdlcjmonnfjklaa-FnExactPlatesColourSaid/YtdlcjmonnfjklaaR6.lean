/-
  PROVED HERE: runs of the plate test, widths 7 and 8, for every input; no conditions.
-/
import Derived.Test.YtdlcjmonnfjklaaR2
set_option linter.unusedSimpArgs false
set_option linter.unusedVariables false
namespace Go.Proofs.Ytdlcjmonnfjklaa
open Go.Sx
theorem r60_7_1 (f : Nat → Nat) (caps : Nat → Nat) : runC Try.ti [(41, c41), (62, c42)] 100000 352308953119 [] Try.f60 [.v] caps [plV 7 1 f] = treeI 7 1 f (ups 0 64) := by kernel_rfl
theorem r60_7_2 (f : Nat → Nat) (caps : Nat → Nat) : runC Try.ti [(41, c41), (62, c42)] 100000 352308953119 [] Try.f60 [.v] caps [plV 7 2 f] = treeI 7 2 f (ups 0 64) := by kernel_rfl
theorem r60_7_3 (f : Nat → Nat) (caps : Nat → Nat) : runC Try.ti [(41, c41), (62, c42)] 100000 352308953119 [] Try.f60 [.v] caps [plV 7 3 f] = treeI 7 3 f (ups 0 64) := by kernel_rfl
theorem r60_7_4 (f : Nat → Nat) (caps : Nat → Nat) : runC Try.ti [(41, c41), (62, c42)] 100000 352308953119 [] Try.f60 [.v] caps [plV 7 4 f] = treeI 7 4 f (ups 0 64) := by kernel_rfl
theorem r60_7_5 (f : Nat → Nat) (caps : Nat → Nat) : runC Try.ti [(41, c41), (62, c42)] 100000 352308953119 [] Try.f60 [.v] caps [plV 7 5 f] = treeI 7 5 f (ups 0 64) := by kernel_rfl
theorem r60_7_6 (f : Nat → Nat) (caps : Nat → Nat) : runC Try.ti [(41, c41), (62, c42)] 100000 352308953119 [] Try.f60 [.v] caps [plV 7 6 f] = treeI 7 6 f (ups 0 64) := by kernel_rfl
theorem r60_7_7 (f : Nat → Nat) (caps : Nat → Nat) : runC Try.ti [(41, c41), (62, c42)] 100000 352308953119 [] Try.f60 [.v] caps [plV 7 7 f] = treeI 7 7 f (ups 0 64) := by kernel_rfl
theorem r60_7_8 (f : Nat → Nat) (caps : Nat → Nat) : runC Try.ti [(41, c41), (62, c42)] 100000 352308953119 [] Try.f60 [.v] caps [plV 7 8 f] = treeI 7 8 f (ups 0 64) := by kernel_rfl
theorem r60_8_1 (f : Nat → Nat) (caps : Nat → Nat) : runC Try.ti [(41, c41), (62, c42)] 100000 352308953119 [] Try.f60 [.v] caps [plV 8 1 f] = treeI 8 1 f (ups 0 64) := by kernel_rfl
theorem r60_8_2 (f : Nat → Nat) (caps : Nat → Nat) : runC Try.ti [(41, c41), (62, c42)] 100000 352308953119 [] Try.f60 [.v] caps [plV 8 2 f] = treeI 8 2 f (ups 0 64) := by kernel_rfl
theorem r60_8_3 (f : Nat → Nat) (caps : Nat → Nat) : runC Try.ti [(41, c41), (62, c42)] 100000 352308953119 [] Try.f60 [.v] caps [plV 8 3 f] = treeI 8 3 f (ups 0 64) := by kernel_rfl
theorem r60_8_4 (f : Nat → Nat) (caps : Nat → Nat) : runC Try.ti [(41, c41), (62, c42)] 100000 352308953119 [] Try.f60 [.v] caps [plV 8 4 f] = treeI 8 4 f (ups 0 64) := by kernel_rfl
theorem r60_8_5 (f : Nat → Nat) (caps : Nat → Nat) : runC Try.ti [(41, c41), (62, c42)] 100000 352308953119 [] Try.f60 [.v] caps [plV 8 5 f] = treeI 8 5 f (ups 0 64) := by kernel_rfl
theorem r60_8_6 (f : Nat → Nat) (caps : Nat → Nat) : runC Try.ti [(41, c41), (62, c42)] 100000 352308953119 [] Try.f60 [.v] caps [plV 8 6 f] = treeI 8 6 f (ups 0 64) := by kernel_rfl
theorem r60_8_7 (f : Nat → Nat) (caps : Nat → Nat) : runC Try.ti [(41, c41), (62, c42)] 100000 352308953119 [] Try.f60 [.v] caps [plV 8 7 f] = treeI 8 7 f (ups 0 64) := by kernel_rfl
theorem r60_8_8 (f : Nat → Nat) (caps : Nat → Nat) : runC Try.ti [(41, c41), (62, c42)] 100000 352308953119 [] Try.f60 [.v] caps [plV 8 8 f] = treeI 8 8 f (ups 0 64) := by kernel_rfl
end Go.Proofs.Ytdlcjmonnfjklaa
