/-
  PROVED HERE: runs of the plate test, widths 3 and 4, for every input; no conditions.
-/
import Derived.Test.YtdlcjmonnfjklaaR2
set_option linter.unusedSimpArgs false
set_option linter.unusedVariables false
namespace Go.Proofs.Ytdlcjmonnfjklaa
open Go.Sx
theorem r60_3_1 (f : Nat → Nat) (caps : Nat → Nat) : runC Try.ti [(41, c41), (62, c42)] 100000 352308953119 [] Try.f60 [.v] caps [plV 3 1 f] = treeI 3 1 f (ups 0 64) := by kernel_rfl
theorem r60_3_2 (f : Nat → Nat) (caps : Nat → Nat) : runC Try.ti [(41, c41), (62, c42)] 100000 352308953119 [] Try.f60 [.v] caps [plV 3 2 f] = treeI 3 2 f (ups 0 64) := by kernel_rfl
theorem r60_3_3 (f : Nat → Nat) (caps : Nat → Nat) : runC Try.ti [(41, c41), (62, c42)] 100000 352308953119 [] Try.f60 [.v] caps [plV 3 3 f] = treeI 3 3 f (ups 0 64) := by kernel_rfl
theorem r60_3_4 (f : Nat → Nat) (caps : Nat → Nat) : runC Try.ti [(41, c41), (62, c42)] 100000 352308953119 [] Try.f60 [.v] caps [plV 3 4 f] = treeI 3 4 f (ups 0 64) := by kernel_rfl
theorem r60_3_5 (f : Nat → Nat) (caps : Nat → Nat) : runC Try.ti [(41, c41), (62, c42)] 100000 352308953119 [] Try.f60 [.v] caps [plV 3 5 f] = treeI 3 5 f (ups 0 64) := by kernel_rfl
theorem r60_3_6 (f : Nat → Nat) (caps : Nat → Nat) : runC Try.ti [(41, c41), (62, c42)] 100000 352308953119 [] Try.f60 [.v] caps [plV 3 6 f] = treeI 3 6 f (ups 0 64) := by kernel_rfl
theorem r60_3_7 (f : Nat → Nat) (caps : Nat → Nat) : runC Try.ti [(41, c41), (62, c42)] 100000 352308953119 [] Try.f60 [.v] caps [plV 3 7 f] = treeI 3 7 f (ups 0 64) := by kernel_rfl
theorem r60_3_8 (f : Nat → Nat) (caps : Nat → Nat) : runC Try.ti [(41, c41), (62, c42)] 100000 352308953119 [] Try.f60 [.v] caps [plV 3 8 f] = treeI 3 8 f (ups 0 64) := by kernel_rfl
theorem r60_4_1 (f : Nat → Nat) (caps : Nat → Nat) : runC Try.ti [(41, c41), (62, c42)] 100000 352308953119 [] Try.f60 [.v] caps [plV 4 1 f] = treeI 4 1 f (ups 0 64) := by kernel_rfl
theorem r60_4_2 (f : Nat → Nat) (caps : Nat → Nat) : runC Try.ti [(41, c41), (62, c42)] 100000 352308953119 [] Try.f60 [.v] caps [plV 4 2 f] = treeI 4 2 f (ups 0 64) := by kernel_rfl
theorem r60_4_3 (f : Nat → Nat) (caps : Nat → Nat) : runC Try.ti [(41, c41), (62, c42)] 100000 352308953119 [] Try.f60 [.v] caps [plV 4 3 f] = treeI 4 3 f (ups 0 64) := by kernel_rfl
theorem r60_4_4 (f : Nat → Nat) (caps : Nat → Nat) : runC Try.ti [(41, c41), (62, c42)] 100000 352308953119 [] Try.f60 [.v] caps [plV 4 4 f] = treeI 4 4 f (ups 0 64) := by kernel_rfl
theorem r60_4_5 (f : Nat → Nat) (caps : Nat → Nat) : runC Try.ti [(41, c41), (62, c42)] 100000 352308953119 [] Try.f60 [.v] caps [plV 4 5 f] = treeI 4 5 f (ups 0 64) := by kernel_rfl
theorem r60_4_6 (f : Nat → Nat) (caps : Nat → Nat) : runC Try.ti [(41, c41), (62, c42)] 100000 352308953119 [] Try.f60 [.v] caps [plV 4 6 f] = treeI 4 6 f (ups 0 64) := by kernel_rfl
theorem r60_4_7 (f : Nat → Nat) (caps : Nat → Nat) : runC Try.ti [(41, c41), (62, c42)] 100000 352308953119 [] Try.f60 [.v] caps [plV 4 7 f] = treeI 4 7 f (ups 0 64) := by kernel_rfl
theorem r60_4_8 (f : Nat → Nat) (caps : Nat → Nat) : runC Try.ti [(41, c41), (62, c42)] 100000 352308953119 [] Try.f60 [.v] caps [plV 4 8 f] = treeI 4 8 f (ups 0 64) := by kernel_rfl
end Go.Proofs.Ytdlcjmonnfjklaa
