/-
  PROVED HERE: runs of the plate test, widths 1 and 2, for every input; no conditions.
-/
import Derived.Test.YtdlcjmonnfjklaaR2
set_option linter.unusedSimpArgs false
set_option linter.unusedVariables false
namespace Go.Proofs.Ytdlcjmonnfjklaa
open Go.Sx
theorem r60_1_1 (f : Nat → Nat) (caps : Nat → Nat) : runC Try.ti [(41, c41), (62, c42)] 100000 352308953119 [] Try.f60 [.v] caps [plV 1 1 f] = treeI 1 1 f (ups 0 64) := by kernel_rfl
theorem r60_1_2 (f : Nat → Nat) (caps : Nat → Nat) : runC Try.ti [(41, c41), (62, c42)] 100000 352308953119 [] Try.f60 [.v] caps [plV 1 2 f] = treeI 1 2 f (ups 0 64) := by kernel_rfl
theorem r60_1_3 (f : Nat → Nat) (caps : Nat → Nat) : runC Try.ti [(41, c41), (62, c42)] 100000 352308953119 [] Try.f60 [.v] caps [plV 1 3 f] = treeI 1 3 f (ups 0 64) := by kernel_rfl
theorem r60_1_4 (f : Nat → Nat) (caps : Nat → Nat) : runC Try.ti [(41, c41), (62, c42)] 100000 352308953119 [] Try.f60 [.v] caps [plV 1 4 f] = treeI 1 4 f (ups 0 64) := by kernel_rfl
theorem r60_1_5 (f : Nat → Nat) (caps : Nat → Nat) : runC Try.ti [(41, c41), (62, c42)] 100000 352308953119 [] Try.f60 [.v] caps [plV 1 5 f] = treeI 1 5 f (ups 0 64) := by kernel_rfl
theorem r60_1_6 (f : Nat → Nat) (caps : Nat → Nat) : runC Try.ti [(41, c41), (62, c42)] 100000 352308953119 [] Try.f60 [.v] caps [plV 1 6 f] = treeI 1 6 f (ups 0 64) := by kernel_rfl
theorem r60_1_7 (f : Nat → Nat) (caps : Nat → Nat) : runC Try.ti [(41, c41), (62, c42)] 100000 352308953119 [] Try.f60 [.v] caps [plV 1 7 f] = treeI 1 7 f (ups 0 64) := by kernel_rfl
theorem r60_1_8 (f : Nat → Nat) (caps : Nat → Nat) : runC Try.ti [(41, c41), (62, c42)] 100000 352308953119 [] Try.f60 [.v] caps [plV 1 8 f] = treeI 1 8 f (ups 0 64) := by kernel_rfl
theorem r60_2_1 (f : Nat → Nat) (caps : Nat → Nat) : runC Try.ti [(41, c41), (62, c42)] 100000 352308953119 [] Try.f60 [.v] caps [plV 2 1 f] = treeI 2 1 f (ups 0 64) := by kernel_rfl
theorem r60_2_2 (f : Nat → Nat) (caps : Nat → Nat) : runC Try.ti [(41, c41), (62, c42)] 100000 352308953119 [] Try.f60 [.v] caps [plV 2 2 f] = treeI 2 2 f (ups 0 64) := by kernel_rfl
theorem r60_2_3 (f : Nat → Nat) (caps : Nat → Nat) : runC Try.ti [(41, c41), (62, c42)] 100000 352308953119 [] Try.f60 [.v] caps [plV 2 3 f] = treeI 2 3 f (ups 0 64) := by kernel_rfl
theorem r60_2_4 (f : Nat → Nat) (caps : Nat → Nat) : runC Try.ti [(41, c41), (62, c42)] 100000 352308953119 [] Try.f60 [.v] caps [plV 2 4 f] = treeI 2 4 f (ups 0 64) := by kernel_rfl
theorem r60_2_5 (f : Nat → Nat) (caps : Nat → Nat) : runC Try.ti [(41, c41), (62, c42)] 100000 352308953119 [] Try.f60 [.v] caps [plV 2 5 f] = treeI 2 5 f (ups 0 64) := by kernel_rfl
theorem r60_2_6 (f : Nat → Nat) (caps : Nat → Nat) : runC Try.ti [(41, c41), (62, c42)] 100000 352308953119 [] Try.f60 [.v] caps [plV 2 6 f] = treeI 2 6 f (ups 0 64) := by kernel_rfl
theorem r60_2_7 (f : Nat → Nat) (caps : Nat → Nat) : runC Try.ti [(41, c41), (62, c42)] 100000 352308953119 [] Try.f60 [.v] caps [plV 2 7 f] = treeI 2 7 f (ups 0 64) := by kernel_rfl
theorem r60_2_8 (f : Nat → Nat) (caps : Nat → Nat) : runC Try.ti [(41, c41), (62, c42)] 100000 352308953119 [] Try.f60 [.v] caps [plV 2 8 f] = treeI 2 8 f (ups 0 64) := by kernel_rfl
end Go.Proofs.Ytdlcjmonnfjklaa
