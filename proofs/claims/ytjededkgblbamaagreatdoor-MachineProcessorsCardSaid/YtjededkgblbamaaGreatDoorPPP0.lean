/- Chapter 31: the design of the processor, as it is made. -/
import Derived.Test.YtjededkgblbamaaGreatDoorPFF
import Derived.Test.YtjededkgblbamaaGreatDoorPPWordP
set_option linter.unusedVariables false
set_option maxRecDepth 100000
namespace Go.Proofs.YtjededkgblbamaaGreatDoor.Ev.F
open Go.Proofs.YtjededkgblbamaaGreatDoor.Ev
noncomputable section
def pName : ByteArray := (⟨#[112, 114, 111, 99, 101, 115, 115, 111, 114]⟩ : ByteArray)
def pR : List machine_signal := [⟨4, 8⟩, ⟨5, 8⟩, ⟨6, 8⟩, ⟨7, 8⟩]
def pM : List machine_signal := [⟨8, 8⟩, ⟨9, 8⟩, ⟨10, 8⟩, ⟨11, 8⟩, ⟨12, 8⟩, ⟨13, 8⟩, ⟨14, 8⟩, ⟨15, 8⟩]
def pEls (M : Nat → Int) : List api_Element := [⟨(⟨#[112, 99]⟩ : ByteArray), 0, 4, 0, 0⟩, ⟨(⟨#[104, 97, 108, 116, 101, 100]⟩ : ByteArray), 0, 1, 0, 0⟩, ⟨(⟨#[118, 97, 108, 105, 100]⟩ : ByteArray), 0, 1, 0, 0⟩, ⟨(⟨#[99, 111, 100, 101]⟩ : ByteArray), 0, 16, 0, 0⟩, ⟨(⟨#[114, 48]⟩ : ByteArray), 0, 8, 0, 0⟩, ⟨(⟨#[114, 49]⟩ : ByteArray), 0, 8, 0, 0⟩, ⟨(⟨#[114, 50]⟩ : ByteArray), 0, 8, 0, 0⟩, ⟨(⟨#[114, 51]⟩ : ByteArray), 0, 8, 0, 0⟩, ⟨(⟨#[109, 48]⟩ : ByteArray), 0, 8, M 0, 0⟩, ⟨(⟨#[109, 49]⟩ : ByteArray), 0, 8, M 1, 0⟩, ⟨(⟨#[109, 50]⟩ : ByteArray), 0, 8, M 2, 0⟩, ⟨(⟨#[109, 51]⟩ : ByteArray), 0, 8, M 3, 0⟩, ⟨(⟨#[109, 52]⟩ : ByteArray), 0, 8, M 4, 0⟩, ⟨(⟨#[109, 53]⟩ : ByteArray), 0, 8, M 5, 0⟩, ⟨(⟨#[109, 54]⟩ : ByteArray), 0, 8, M 6, 0⟩, ⟨(⟨#[109, 55]⟩ : ByteArray), 0, 8, M 7, 0⟩]
def pNodes0 : List api_Node := [⟨1, 4, [], 0⟩, ⟨1, 1, [], 1⟩, ⟨1, 1, [], 2⟩, ⟨1, 16, [], 3⟩, ⟨1, 8, [], 4⟩, ⟨1, 8, [], 5⟩, ⟨1, 8, [], 6⟩, ⟨1, 8, [], 7⟩, ⟨1, 8, [], 8⟩, ⟨1, 8, [], 9⟩, ⟨1, 8, [], 10⟩, ⟨1, 8, [], 11⟩, ⟨1, 8, [], 12⟩, ⟨1, 8, [], 13⟩, ⟨1, 8, [], 14⟩, ⟨1, 8, [], 15⟩, ⟨0, 1, [], 1⟩]
def pNodes1 (W : Nat → Int) : List api_Node := [⟨1, 4, [], 0⟩, ⟨1, 1, [], 1⟩, ⟨1, 1, [], 2⟩, ⟨1, 16, [], 3⟩, ⟨1, 8, [], 4⟩, ⟨1, 8, [], 5⟩, ⟨1, 8, [], 6⟩, ⟨1, 8, [], 7⟩, ⟨1, 8, [], 8⟩, ⟨1, 8, [], 9⟩, ⟨1, 8, [], 10⟩, ⟨1, 8, [], 11⟩, ⟨1, 8, [], 12⟩, ⟨1, 8, [], 13⟩, ⟨1, 8, [], 14⟩, ⟨1, 8, [], 15⟩, ⟨0, 1, [], 1⟩, ⟨0, 16, [], W 0⟩, ⟨0, 16, [], W 1⟩, ⟨0, 16, [], W 2⟩, ⟨0, 16, [], W 3⟩, ⟨0, 16, [], W 4⟩, ⟨0, 16, [], W 5⟩, ⟨0, 16, [], W 6⟩, ⟨0, 16, [], W 7⟩, ⟨0, 16, [], W 8⟩, ⟨0, 16, [], W 9⟩, ⟨0, 16, [], W 10⟩, ⟨0, 16, [], W 11⟩, ⟨0, 16, [], W 12⟩, ⟨0, 16, [], W 13⟩, ⟨0, 16, [], W 14⟩, ⟨0, 16, [], W 15⟩, ⟨2, 1, [2], 0⟩, ⟨2, 1, [1], 0⟩, ⟨3, 1, [33, 34], 0⟩, ⟨14, 1, [0], 0⟩, ⟨12, 16, [36, 18, 17], 0⟩, ⟨12, 16, [36, 20, 19], 0⟩, ⟨12, 16, [36, 22, 21], 0⟩, ⟨12, 16, [36, 24, 23], 0⟩, ⟨12, 16, [36, 26, 25], 0⟩, ⟨12, 16, [36, 28, 27], 0⟩, ⟨12, 16, [36, 30, 29], 0⟩, ⟨12, 16, [36, 32, 31], 0⟩, ⟨14, 1, [0], 1⟩, ⟨12, 16, [45, 38, 37], 0⟩, ⟨12, 16, [45, 40, 39], 0⟩, ⟨12, 16, [45, 42, 41], 0⟩, ⟨12, 16, [45, 44, 43], 0⟩, ⟨14, 1, [0], 2⟩, ⟨12, 16, [50, 47, 46], 0⟩, ⟨12, 16, [50, 49, 48], 0⟩, ⟨14, 1, [0], 3⟩, ⟨12, 16, [53, 52, 51], 0⟩]
def pNodes (W : Nat → Int) : List api_Node := [⟨1, 4, [], 0⟩, ⟨1, 1, [], 1⟩, ⟨1, 1, [], 2⟩, ⟨1, 16, [], 3⟩, ⟨1, 8, [], 4⟩, ⟨1, 8, [], 5⟩, ⟨1, 8, [], 6⟩, ⟨1, 8, [], 7⟩, ⟨1, 8, [], 8⟩, ⟨1, 8, [], 9⟩,
  ⟨1, 8, [], 10⟩, ⟨1, 8, [], 11⟩, ⟨1, 8, [], 12⟩, ⟨1, 8, [], 13⟩, ⟨1, 8, [], 14⟩, ⟨1, 8, [], 15⟩, ⟨0, 1, [], 1⟩, ⟨0, 16, [], W 0⟩, ⟨0, 16, [], W 1⟩, ⟨0, 16, [], W 2⟩,
  ⟨0, 16, [], W 3⟩, ⟨0, 16, [], W 4⟩, ⟨0, 16, [], W 5⟩, ⟨0, 16, [], W 6⟩, ⟨0, 16, [], W 7⟩, ⟨0, 16, [], W 8⟩, ⟨0, 16, [], W 9⟩, ⟨0, 16, [], W 10⟩, ⟨0, 16, [], W 11⟩, ⟨0, 16, [], W 12⟩,
  ⟨0, 16, [], W 13⟩, ⟨0, 16, [], W 14⟩, ⟨0, 16, [], W 15⟩, ⟨2, 1, [2], 0⟩, ⟨2, 1, [1], 0⟩, ⟨3, 1, [33, 34], 0⟩, ⟨14, 1, [0], 0⟩, ⟨12, 16, [36, 18, 17], 0⟩, ⟨12, 16, [36, 20, 19], 0⟩, ⟨12, 16, [36, 22, 21], 0⟩,
  ⟨12, 16, [36, 24, 23], 0⟩, ⟨12, 16, [36, 26, 25], 0⟩, ⟨12, 16, [36, 28, 27], 0⟩, ⟨12, 16, [36, 30, 29], 0⟩, ⟨12, 16, [36, 32, 31], 0⟩, ⟨14, 1, [0], 1⟩, ⟨12, 16, [45, 38, 37], 0⟩, ⟨12, 16, [45, 40, 39], 0⟩, ⟨12, 16, [45, 42, 41], 0⟩, ⟨12, 16, [45, 44, 43], 0⟩,
  ⟨14, 1, [0], 2⟩, ⟨12, 16, [50, 47, 46], 0⟩, ⟨12, 16, [50, 49, 48], 0⟩, ⟨14, 1, [0], 3⟩, ⟨12, 16, [53, 52, 51], 0⟩, ⟨14, 4, [3], 12⟩, ⟨14, 8, [3], 0⟩, ⟨14, 2, [3], 10⟩, ⟨14, 2, [3], 8⟩, ⟨14, 1, [57], 0⟩,
  ⟨12, 8, [59, 5, 4], 0⟩, ⟨12, 8, [59, 7, 6], 0⟩, ⟨14, 1, [57], 1⟩, ⟨12, 8, [62, 61, 60], 0⟩, ⟨14, 1, [58], 0⟩, ⟨12, 8, [64, 5, 4], 0⟩, ⟨12, 8, [64, 7, 6], 0⟩, ⟨14, 1, [58], 1⟩, ⟨12, 8, [67, 66, 65], 0⟩, ⟨14, 3, [68], 0⟩,
  ⟨6, 8, [63, 68], 0⟩, ⟨7, 8, [63, 68], 0⟩, ⟨3, 8, [63, 68], 0⟩, ⟨14, 1, [69], 0⟩, ⟨12, 8, [73, 9, 8], 0⟩, ⟨12, 8, [73, 11, 10], 0⟩, ⟨12, 8, [73, 13, 12], 0⟩, ⟨12, 8, [73, 15, 14], 0⟩, ⟨14, 1, [69], 1⟩, ⟨12, 8, [78, 75, 74], 0⟩,
  ⟨12, 8, [78, 77, 76], 0⟩, ⟨14, 1, [69], 2⟩, ⟨12, 8, [81, 80, 79], 0⟩, ⟨0, 1, [], 0⟩, ⟨0, 4, [], 1⟩, ⟨9, 1, [55, 84], 0⟩, ⟨12, 8, [85, 56, 63], 0⟩, ⟨4, 1, [83, 85], 0⟩, ⟨0, 4, [], 2⟩, ⟨9, 1, [55, 88], 0⟩,
  ⟨12, 8, [89, 68, 86], 0⟩, ⟨4, 1, [87, 89], 0⟩, ⟨0, 4, [], 3⟩, ⟨9, 1, [55, 92], 0⟩, ⟨12, 8, [93, 70, 90], 0⟩, ⟨4, 1, [91, 93], 0⟩, ⟨0, 4, [], 4⟩, ⟨9, 1, [55, 96], 0⟩, ⟨12, 8, [97, 71, 94], 0⟩, ⟨4, 1, [95, 97], 0⟩,
  ⟨0, 4, [], 5⟩, ⟨9, 1, [55, 100], 0⟩, ⟨12, 8, [101, 72, 98], 0⟩, ⟨4, 1, [99, 101], 0⟩, ⟨0, 4, [], 6⟩, ⟨9, 1, [55, 104], 0⟩, ⟨12, 8, [105, 82, 102], 0⟩, ⟨4, 1, [103, 105], 0⟩, ⟨0, 4, [], 0⟩, ⟨9, 1, [55, 108], 0⟩,
  ⟨0, 4, [], 8⟩, ⟨9, 1, [55, 110], 0⟩, ⟨0, 4, [], 9⟩, ⟨9, 1, [55, 112], 0⟩, ⟨0, 8, [], 0⟩, ⟨9, 1, [63, 114], 0⟩, ⟨3, 1, [113, 115], 0⟩, ⟨4, 1, [111, 116], 0⟩, ⟨0, 4, [], 1⟩, ⟨6, 4, [0, 118], 0⟩,
  ⟨14, 4, [56], 0⟩, ⟨12, 4, [117, 120, 119], 0⟩, ⟨2, 1, [109], 0⟩, ⟨0, 1, [], 0⟩, ⟨0, 2, [], 0⟩, ⟨9, 1, [57, 124], 0⟩, ⟨3, 1, [107, 125], 0⟩, ⟨0, 2, [], 1⟩, ⟨9, 1, [57, 127], 0⟩, ⟨3, 1, [107, 128], 0⟩,
  ⟨0, 2, [], 2⟩, ⟨9, 1, [57, 130], 0⟩, ⟨3, 1, [107, 131], 0⟩, ⟨0, 2, [], 3⟩, ⟨9, 1, [57, 133], 0⟩, ⟨3, 1, [107, 134], 0⟩, ⟨0, 4, [], 7⟩, ⟨9, 1, [55, 136], 0⟩, ⟨0, 3, [], 0⟩, ⟨9, 1, [69, 138], 0⟩,
  ⟨3, 1, [137, 139], 0⟩, ⟨0, 3, [], 1⟩, ⟨9, 1, [69, 141], 0⟩, ⟨3, 1, [137, 142], 0⟩, ⟨0, 3, [], 2⟩, ⟨9, 1, [69, 144], 0⟩, ⟨3, 1, [137, 145], 0⟩, ⟨0, 3, [], 3⟩, ⟨9, 1, [69, 147], 0⟩, ⟨3, 1, [137, 148], 0⟩,
  ⟨0, 3, [], 4⟩, ⟨9, 1, [69, 150], 0⟩, ⟨3, 1, [137, 151], 0⟩, ⟨0, 3, [], 5⟩, ⟨9, 1, [69, 153], 0⟩, ⟨3, 1, [137, 154], 0⟩, ⟨0, 3, [], 6⟩, ⟨9, 1, [69, 156], 0⟩, ⟨3, 1, [137, 157], 0⟩, ⟨0, 3, [], 7⟩,
  ⟨9, 1, [69, 159], 0⟩, ⟨3, 1, [137, 160], 0⟩]
def pRule0 : api_Rule := ⟨(⟨#[102, 101, 116, 99, 104]⟩ : ByteArray), 35, [⟨3, 16, 54⟩, ⟨2, 16, 16⟩]⟩
def pRule1 : api_Rule := ⟨(⟨#[101, 120, 101, 99, 117, 116, 101]⟩ : ByteArray), 2, [⟨0, 122, 121⟩, ⟨1, 109, 16⟩, ⟨2, 16, 123⟩, ⟨4, 126, 106⟩, ⟨5, 129, 106⟩, ⟨6, 132, 106⟩, ⟨7, 135, 106⟩, ⟨8, 140, 63⟩, ⟨9, 143, 63⟩, ⟨10, 146, 63⟩, ⟨11, 149, 63⟩, ⟨12, 152, 63⟩, ⟨13, 155, 63⟩, ⟨14, 158, 63⟩, ⟨15, 161, 63⟩]⟩
/-- a word as it is made -/
def wE (c : api_MachineCode) : Int := bits .or .i64 (bits .or .i64 (bits .or .i64 (shl .i64 c.Op 12) (shl .i64 c.A 10)) (shl .i64 c.B 8)) c.N
def wd (l : List api_MachineCode) (i : Nat) : Int := match l[i]? with | some c => wE c | none => 0
theorem newp (M : Nat → Int) : runF_z40 100 (.start [M 0, M 1, M 2, M 3, M 4, M 5, M 6, M 7]) = some ((((), (0, (4, (1, (1, (2, (1, (3, (16, ((), ((), (16, (1, ()))))))))))))), ()), ((pName, ((), ((), ((), ((), ((), ((), ()))))))), (pR, (pM, (pEls M, (pNodes0, ())))))) := by kernel_rfl
theorem execp (W M : Nat → Int) : runF_z60 200 (.start 0 4 1 1 2 1 3 16 pR pM 16 1 pName (pEls M) (pNodes1 W) [pRule0]) = some ((), ((pName, ((), ((), ((), ((), ((), ((), ()))))))), (pEls M, (pNodes W, ([pRule0, pRule1], ()))))) := by kernel_rfl
theorem fetch0 (M : Nat → Int) : runF_z49 200 (.start 0 4 1 1 2 1 3 16 pR pM 16 1 [] pName (pEls M) pNodes0) = some ((), ((pName, ((), ((), ((), ((), ((), ((), ()))))))), (pEls M, (pNodes1 (wd []), ([pRule0], ()))))) := by kernel_rfl
theorem fetch1 (M : Nat → Int) (a0 : api_MachineCode) : runF_z49 200 (.start 0 4 1 1 2 1 3 16 pR pM 16 1 [a0] pName (pEls M) pNodes0) = some ((), ((pName, ((), ((), ((), ((), ((), ((), ()))))))), (pEls M, (pNodes1 (wd [a0]), ([pRule0], ()))))) := by kernel_rfl
theorem fetch2 (M : Nat → Int) (a0 a1 : api_MachineCode) : runF_z49 200 (.start 0 4 1 1 2 1 3 16 pR pM 16 1 [a0, a1] pName (pEls M) pNodes0) = some ((), ((pName, ((), ((), ((), ((), ((), ((), ()))))))), (pEls M, (pNodes1 (wd [a0, a1]), ([pRule0], ()))))) := by kernel_rfl
theorem fetch3 (M : Nat → Int) (a0 a1 a2 : api_MachineCode) : runF_z49 200 (.start 0 4 1 1 2 1 3 16 pR pM 16 1 [a0, a1, a2] pName (pEls M) pNodes0) = some ((), ((pName, ((), ((), ((), ((), ((), ((), ()))))))), (pEls M, (pNodes1 (wd [a0, a1, a2]), ([pRule0], ()))))) := by kernel_rfl
theorem fetch4 (M : Nat → Int) (a0 a1 a2 a3 : api_MachineCode) : runF_z49 200 (.start 0 4 1 1 2 1 3 16 pR pM 16 1 [a0, a1, a2, a3] pName (pEls M) pNodes0) = some ((), ((pName, ((), ((), ((), ((), ((), ((), ()))))))), (pEls M, (pNodes1 (wd [a0, a1, a2, a3]), ([pRule0], ()))))) := by kernel_rfl
theorem fetch5 (M : Nat → Int) (a0 a1 a2 a3 a4 : api_MachineCode) : runF_z49 200 (.start 0 4 1 1 2 1 3 16 pR pM 16 1 [a0, a1, a2, a3, a4] pName (pEls M) pNodes0) = some ((), ((pName, ((), ((), ((), ((), ((), ((), ()))))))), (pEls M, (pNodes1 (wd [a0, a1, a2, a3, a4]), ([pRule0], ()))))) := by kernel_rfl
theorem fetch6 (M : Nat → Int) (a0 a1 a2 a3 a4 a5 : api_MachineCode) : runF_z49 200 (.start 0 4 1 1 2 1 3 16 pR pM 16 1 [a0, a1, a2, a3, a4, a5] pName (pEls M) pNodes0) = some ((), ((pName, ((), ((), ((), ((), ((), ((), ()))))))), (pEls M, (pNodes1 (wd [a0, a1, a2, a3, a4, a5]), ([pRule0], ()))))) := by kernel_rfl
theorem fetch7 (M : Nat → Int) (a0 a1 a2 a3 a4 a5 a6 : api_MachineCode) : runF_z49 200 (.start 0 4 1 1 2 1 3 16 pR pM 16 1 [a0, a1, a2, a3, a4, a5, a6] pName (pEls M) pNodes0) = some ((), ((pName, ((), ((), ((), ((), ((), ((), ()))))))), (pEls M, (pNodes1 (wd [a0, a1, a2, a3, a4, a5, a6]), ([pRule0], ()))))) := by kernel_rfl
theorem fetch8 (M : Nat → Int) (a0 a1 a2 a3 a4 a5 a6 a7 : api_MachineCode) : runF_z49 200 (.start 0 4 1 1 2 1 3 16 pR pM 16 1 [a0, a1, a2, a3, a4, a5, a6, a7] pName (pEls M) pNodes0) = some ((), ((pName, ((), ((), ((), ((), ((), ((), ()))))))), (pEls M, (pNodes1 (wd [a0, a1, a2, a3, a4, a5, a6, a7]), ([pRule0], ()))))) := by kernel_rfl
theorem fetch9 (M : Nat → Int) (a0 a1 a2 a3 a4 a5 a6 a7 a8 : api_MachineCode) : runF_z49 200 (.start 0 4 1 1 2 1 3 16 pR pM 16 1 [a0, a1, a2, a3, a4, a5, a6, a7, a8] pName (pEls M) pNodes0) = some ((), ((pName, ((), ((), ((), ((), ((), ((), ()))))))), (pEls M, (pNodes1 (wd [a0, a1, a2, a3, a4, a5, a6, a7, a8]), ([pRule0], ()))))) := by kernel_rfl
theorem fetch10 (M : Nat → Int) (a0 a1 a2 a3 a4 a5 a6 a7 a8 a9 : api_MachineCode) : runF_z49 200 (.start 0 4 1 1 2 1 3 16 pR pM 16 1 [a0, a1, a2, a3, a4, a5, a6, a7, a8, a9] pName (pEls M) pNodes0) = some ((), ((pName, ((), ((), ((), ((), ((), ((), ()))))))), (pEls M, (pNodes1 (wd [a0, a1, a2, a3, a4, a5, a6, a7, a8, a9]), ([pRule0], ()))))) := by kernel_rfl
theorem fetch11 (M : Nat → Int) (a0 a1 a2 a3 a4 a5 a6 a7 a8 a9 a10 : api_MachineCode) : runF_z49 200 (.start 0 4 1 1 2 1 3 16 pR pM 16 1 [a0, a1, a2, a3, a4, a5, a6, a7, a8, a9, a10] pName (pEls M) pNodes0) = some ((), ((pName, ((), ((), ((), ((), ((), ((), ()))))))), (pEls M, (pNodes1 (wd [a0, a1, a2, a3, a4, a5, a6, a7, a8, a9, a10]), ([pRule0], ()))))) := by kernel_rfl
theorem fetch12 (M : Nat → Int) (a0 a1 a2 a3 a4 a5 a6 a7 a8 a9 a10 a11 : api_MachineCode) : runF_z49 200 (.start 0 4 1 1 2 1 3 16 pR pM 16 1 [a0, a1, a2, a3, a4, a5, a6, a7, a8, a9, a10, a11] pName (pEls M) pNodes0) = some ((), ((pName, ((), ((), ((), ((), ((), ((), ()))))))), (pEls M, (pNodes1 (wd [a0, a1, a2, a3, a4, a5, a6, a7, a8, a9, a10, a11]), ([pRule0], ()))))) := by kernel_rfl
theorem fetch13 (M : Nat → Int) (a0 a1 a2 a3 a4 a5 a6 a7 a8 a9 a10 a11 a12 : api_MachineCode) : runF_z49 200 (.start 0 4 1 1 2 1 3 16 pR pM 16 1 [a0, a1, a2, a3, a4, a5, a6, a7, a8, a9, a10, a11, a12] pName (pEls M) pNodes0) = some ((), ((pName, ((), ((), ((), ((), ((), ((), ()))))))), (pEls M, (pNodes1 (wd [a0, a1, a2, a3, a4, a5, a6, a7, a8, a9, a10, a11, a12]), ([pRule0], ()))))) := by kernel_rfl
theorem fetch14 (M : Nat → Int) (a0 a1 a2 a3 a4 a5 a6 a7 a8 a9 a10 a11 a12 a13 : api_MachineCode) : runF_z49 200 (.start 0 4 1 1 2 1 3 16 pR pM 16 1 [a0, a1, a2, a3, a4, a5, a6, a7, a8, a9, a10, a11, a12, a13] pName (pEls M) pNodes0) = some ((), ((pName, ((), ((), ((), ((), ((), ((), ()))))))), (pEls M, (pNodes1 (wd [a0, a1, a2, a3, a4, a5, a6, a7, a8, a9, a10, a11, a12, a13]), ([pRule0], ()))))) := by kernel_rfl
theorem fetch15 (M : Nat → Int) (a0 a1 a2 a3 a4 a5 a6 a7 a8 a9 a10 a11 a12 a13 a14 : api_MachineCode) : runF_z49 200 (.start 0 4 1 1 2 1 3 16 pR pM 16 1 [a0, a1, a2, a3, a4, a5, a6, a7, a8, a9, a10, a11, a12, a13, a14] pName (pEls M) pNodes0) = some ((), ((pName, ((), ((), ((), ((), ((), ((), ()))))))), (pEls M, (pNodes1 (wd [a0, a1, a2, a3, a4, a5, a6, a7, a8, a9, a10, a11, a12, a13, a14]), ([pRule0], ()))))) := by kernel_rfl
theorem fetch16 (M : Nat → Int) (a0 a1 a2 a3 a4 a5 a6 a7 a8 a9 a10 a11 a12 a13 a14 a15 : api_MachineCode) : runF_z49 200 (.start 0 4 1 1 2 1 3 16 pR pM 16 1 [a0, a1, a2, a3, a4, a5, a6, a7, a8, a9, a10, a11, a12, a13, a14, a15] pName (pEls M) pNodes0) = some ((), ((pName, ((), ((), ((), ((), ((), ((), ()))))))), (pEls M, (pNodes1 (wd [a0, a1, a2, a3, a4, a5, a6, a7, a8, a9, a10, a11, a12, a13, a14, a15]), ([pRule0], ()))))) := by kernel_rfl
theorem fetchp (M : Nat → Int) : ∀ (l : List api_MachineCode), l.length ≤ 16 → runF_z49 200 (.start 0 4 1 1 2 1 3 16 pR pM 16 1 l pName (pEls M) pNodes0) = some ((), ((pName, ((), ((), ((), ((), ((), ((), ()))))))), (pEls M, (pNodes1 (wd l), ([pRule0], ())))))
 | [], _ => fetch0 M
 | [a0], _ => fetch1 M a0
 | [a0, a1], _ => fetch2 M a0 a1
 | [a0, a1, a2], _ => fetch3 M a0 a1 a2
 | [a0, a1, a2, a3], _ => fetch4 M a0 a1 a2 a3
 | [a0, a1, a2, a3, a4], _ => fetch5 M a0 a1 a2 a3 a4
 | [a0, a1, a2, a3, a4, a5], _ => fetch6 M a0 a1 a2 a3 a4 a5
 | [a0, a1, a2, a3, a4, a5, a6], _ => fetch7 M a0 a1 a2 a3 a4 a5 a6
 | [a0, a1, a2, a3, a4, a5, a6, a7], _ => fetch8 M a0 a1 a2 a3 a4 a5 a6 a7
 | [a0, a1, a2, a3, a4, a5, a6, a7, a8], _ => fetch9 M a0 a1 a2 a3 a4 a5 a6 a7 a8
 | [a0, a1, a2, a3, a4, a5, a6, a7, a8, a9], _ => fetch10 M a0 a1 a2 a3 a4 a5 a6 a7 a8 a9
 | [a0, a1, a2, a3, a4, a5, a6, a7, a8, a9, a10], _ => fetch11 M a0 a1 a2 a3 a4 a5 a6 a7 a8 a9 a10
 | [a0, a1, a2, a3, a4, a5, a6, a7, a8, a9, a10, a11], _ => fetch12 M a0 a1 a2 a3 a4 a5 a6 a7 a8 a9 a10 a11
 | [a0, a1, a2, a3, a4, a5, a6, a7, a8, a9, a10, a11, a12], _ => fetch13 M a0 a1 a2 a3 a4 a5 a6 a7 a8 a9 a10 a11 a12
 | [a0, a1, a2, a3, a4, a5, a6, a7, a8, a9, a10, a11, a12, a13], _ => fetch14 M a0 a1 a2 a3 a4 a5 a6 a7 a8 a9 a10 a11 a12 a13
 | [a0, a1, a2, a3, a4, a5, a6, a7, a8, a9, a10, a11, a12, a13, a14], _ => fetch15 M a0 a1 a2 a3 a4 a5 a6 a7 a8 a9 a10 a11 a12 a13 a14
 | [a0, a1, a2, a3, a4, a5, a6, a7, a8, a9, a10, a11, a12, a13, a14, a15], _ => fetch16 M a0 a1 a2 a3 a4 a5 a6 a7 a8 a9 a10 a11 a12 a13 a14 a15
 | _ :: _ :: _ :: _ :: _ :: _ :: _ :: _ :: _ :: _ :: _ :: _ :: _ :: _ :: _ :: _ :: _ :: l, h => by simp at h
end
end Go.Proofs.YtjededkgblbamaaGreatDoor.Ev.F
