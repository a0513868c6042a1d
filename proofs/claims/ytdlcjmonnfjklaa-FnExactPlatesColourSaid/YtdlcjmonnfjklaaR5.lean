/-
  PROVED HERE: runs of the plate test, widths 5 and 6, for every input; no conditions.
-/
import Derived.Test.YtdlcjmonnfjklaaR2
set_option linter.unusedSimpArgs false
set_option linter.unusedVariables false
namespace Go.Proofs.Ytdlcjmonnfjklaa
open Go.Sx
theorem r60_5_1 (f : Nat → Nat) (caps : Nat → Nat) : runC Try.ti [(41, c41), (62, c42)] 100000 352308953119 [] Try.f60 [.v] caps [plV 5 1 f] = treeI 5 1 f (ups 0 64) := by kernel_rfl
theorem r60_5_2 (f : Nat → Nat) (caps : Nat → Nat) : runC Try.ti [(41, c41), (62, c42)] 100000 352308953119 [] Try.f60 [.v] caps [plV 5 2 f] = treeI 5 2 f (ups 0 64) := by kernel_rfl
theorem r60_5_3 (f : Nat → Nat) (caps : Nat → Nat) : runC Try.ti [(41, c41), (62, c42)] 100000 352308953119 [] Try.f60 [.v] caps [plV 5 3 f] = treeI 5 3 f (ups 0 64) := by kernel_rfl
theorem r60_5_4 (f : Nat → Nat) (caps : Nat → Nat) : runC Try.ti [(41, c41), (62, c42)] 100000 352308953119 [] Try.f60 [.v] caps [plV 5 4 f] = treeI 5 4 f (ups 0 64) := by kernel_rfl
theorem r60_5_5 (f : Nat → Nat) (caps : Nat → Nat) : runC Try.ti [(41, c41), (62, c42)] 100000 352308953119 [] Try.f60 [.v] caps [plV 5 5 f] = treeI 5 5 f (ups 0 64) := by kernel_rfl
theorem r60_5_6 (f : Nat → Nat) (caps : Nat → Nat) : runC Try.ti [(41, c41), (62, c42)] 100000 352308953119 [] Try.f60 [.v] caps [plV 5 6 f] = treeI 5 6 f (ups 0 64) := by kernel_rfl
theorem r60_5_7 (f : Nat → Nat) (caps : Nat → Nat) : runC Try.ti [(41, c41), (62, c42)] 100000 352308953119 [] Try.f60 [.v] caps [plV 5 7 f] = treeI 5 7 f (ups 0 64) := by kernel_rfl
theorem r60_5_8 (f : Nat → Nat) (caps : Nat → Nat) : runC Try.ti [(41, c41), (62, c42)] 100000 352308953119 [] Try.f60 [.v] caps [plV 5 8 f] = treeI 5 8 f (ups 0 64) := by kernel_rfl
theorem r60_6_1 (f : Nat → Nat) (caps : Nat → Nat) : runC Try.ti [(41, c41), (62, c42)] 100000 352308953119 [] Try.f60 [.v] caps [plV 6 1 f] = treeI 6 1 f (ups 0 64) := by kernel_rfl
theorem r60_6_2 (f : Nat → Nat) (caps : Nat → Nat) : runC Try.ti [(41, c41), (62, c42)] 100000 352308953119 [] Try.f60 [.v] caps [plV 6 2 f] = treeI 6 2 f (ups 0 64) := by kernel_rfl
theorem r60_6_3 (f : Nat → Nat) (caps : Nat → Nat) : runC Try.ti [(41, c41), (62, c42)] 100000 352308953119 [] Try.f60 [.v] caps [plV 6 3 f] = treeI 6 3 f (ups 0 64) := by kernel_rfl
theorem r60_6_4 (f : Nat → Nat) (caps : Nat → Nat) : runC Try.ti [(41, c41), (62, c42)] 100000 352308953119 [] Try.f60 [.v] caps [plV 6 4 f] = treeI 6 4 f (ups 0 64) := by kernel_rfl
theorem r60_6_5 (f : Nat → Nat) (caps : Nat → Nat) : runC Try.ti [(41, c41), (62, c42)] 100000 352308953119 [] Try.f60 [.v] caps [plV 6 5 f] = treeI 6 5 f (ups 0 64) := by kernel_rfl
theorem r60_6_6 (f : Nat → Nat) (caps : Nat → Nat) : runC Try.ti [(41, c41), (62, c42)] 100000 352308953119 [] Try.f60 [.v] caps [plV 6 6 f] = treeI 6 6 f (ups 0 64) := by kernel_rfl
theorem r60_6_7 (f : Nat → Nat) (caps : Nat → Nat) : runC Try.ti [(41, c41), (62, c42)] 100000 352308953119 [] Try.f60 [.v] caps [plV 6 7 f] = treeI 6 7 f (ups 0 64) := by kernel_rfl
theorem r60_6_8 (f : Nat → Nat) (caps : Nat → Nat) : runC Try.ti [(41, c41), (62, c42)] 100000 352308953119 [] Try.f60 [.v] caps [plV 6 8 f] = treeI 6 8 f (ups 0 64) := by kernel_rfl
end Go.Proofs.Ytdlcjmonnfjklaa
