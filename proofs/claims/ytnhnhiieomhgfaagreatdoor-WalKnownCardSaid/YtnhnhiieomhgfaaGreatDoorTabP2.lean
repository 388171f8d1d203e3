/-
  A run in pieces: piece 2.
-/
import Derived.Test.YtnhnhiieomhgfaaGreatDoorTabS
namespace Go.Proofs.YtnhnhiieomhgfaaGreatDoor.Tab
open Go.AX
noncomputable section

set_option maxRecDepth 1000000 in
theorem piece2 : pieceS P noHook 22000 [0, 3, 7, 11, 15, 19, 23, 27, 31, 35, 39, 43, 47, 51, 55, 59, 63, 67, 71, 75, 79, 83, 87, 91, 95, 99, 103, 107, 111, 115, 119, 123, 127, 131, 135, 139, 143, 147, 151, 155, 159, 163, 167, 171, 175, 179, 183, 187, 191, 195, 199, 203, 207, 211, 215, 219, 223, 227, 231, 235, 239, 243, 247, 251, 255, 259, 263, 267, 271, 275, 279, 283, 287, 291, 295, 299, 303, 307, 311, 315, 319, 323, 327, 331, 335, 339, 343, 345, 346, 347, 348] st1 = some st2 := by kernel_rfl

end
end Go.Proofs.YtnhnhiieomhgfaaGreatDoor.Tab
