/-
  A run in pieces: piece 2.
-/
import Derived.Test.YtnhnhiieomhgfaaGreatDoorWalS1
namespace Go.Proofs.YtnhnhiieomhgfaaGreatDoor.Wal
open Go.AX
noncomputable section

set_option maxRecDepth 1000000 in
theorem piece2 : pieceS P hkC 895 [7, 8, 9, 13, 27, 32, 33, 35, 39, 43, 48, 52, 61, 124, 134, 137, 150, 152, 164, 168, 295, 298, 299, 304, 305, 306] st1 = some st2 := by kernel_rfl

end
end Go.Proofs.YtnhnhiieomhgfaaGreatDoor.Wal
