/-
  A run in pieces: piece 3.
-/
import Derived.Test.YtnhnhiieomhgfaaGreatDoorTabS
namespace Go.Proofs.YtnhnhiieomhgfaaGreatDoor.Tab
open Go.AX
noncomputable section

set_option maxRecDepth 1000000 in
theorem piece3 : pieceS P noHook 22000 [0, 3, 7, 11, 15, 19, 23, 27, 31, 35, 39, 43, 47, 51, 55, 59, 63, 67, 71, 75, 79, 83, 87, 91, 95, 99, 103, 107, 111, 115, 119, 123, 127, 131, 135, 139, 143, 147, 151, 155, 159, 163, 167, 171, 175, 179, 183, 187, 191, 195, 199, 203, 207, 211, 215, 219, 223, 227, 231, 235, 239, 243, 247, 251, 255, 259, 263, 267, 271, 275, 279, 283, 287, 291, 295, 299, 303, 307, 311, 315, 319, 323, 327, 331, 335, 339, 343, 347, 351, 355, 359, 363, 367, 371, 375, 379, 383, 387, 391, 395, 399, 403, 407, 411, 415, 419, 423, 427, 431, 435, 439, 443, 447, 451, 455, 459, 463, 467, 471, 475, 479, 483, 487, 491, 495, 499, 503, 507, 511, 515, 517, 518, 519, 520] st2 = some st3 := by kernel_rfl

end
end Go.Proofs.YtnhnhiieomhgfaaGreatDoor.Tab
