/- Chapter 31: the design of two caches, as it is made. -/
import Derived.Test.YtjededkgblbamaaGreatDoorCFF
import Derived.Test.YtjededkgblbamaaGreatDoorCEvPure
set_option linter.unusedVariables false
set_option maxRecDepth 100000
namespace Go.Proofs.YtjededkgblbamaaGreatDoor.Ev.F
open Go.Proofs.YtjededkgblbamaaGreatDoor.Ev
noncomputable section
def cName : ByteArray := (⟨#[99, 97, 99, 104, 101, 115]⟩ : ByteArray)
def cEls (w : Int) : List api_Element := [⟨(⟨#[109, 101, 109, 111, 114, 121]⟩ : ByteArray), 0, w, 0, 0⟩, ⟨(⟨#[107, 105, 110, 100, 48]⟩ : ByteArray), 0, 2, 0, 0⟩, ⟨(⟨#[108, 105, 110, 101, 48]⟩ : ByteArray), 0, w, 0, 0⟩, ⟨(⟨#[107, 105, 110, 100, 49]⟩ : ByteArray), 0, 2, 0, 0⟩, ⟨(⟨#[108, 105, 110, 101, 49]⟩ : ByteArray), 0, w, 0, 0⟩]
def cNodes (w : Int) : List api_Node := [⟨1, w, [], 0⟩, ⟨1, 2, [], 1⟩, ⟨1, w, [], 2⟩, ⟨1, 2, [], 3⟩, ⟨1, w, [], 4⟩, ⟨0, 1, [], 1⟩, ⟨0, 2, [], 0⟩, ⟨9, 1, [1, 6], 0⟩, ⟨0, 2, [], 2⟩, ⟨9, 1, [1, 8], 0⟩, ⟨0, 2, [], 2⟩, ⟨9, 1, [3, 10], 0⟩, ⟨2, 1, [11], 0⟩, ⟨3, 1, [7, 12], 0⟩, ⟨0, 2, [], 1⟩, ⟨2, 1, [9], 0⟩, ⟨0, 2, [], 0⟩, ⟨9, 1, [3, 16], 0⟩, ⟨3, 1, [15, 17], 0⟩, ⟨0, 2, [], 2⟩, ⟨0, w, [], 1⟩, ⟨6, w, [2, 20], 0⟩, ⟨0, 2, [], 1⟩, ⟨9, 1, [1, 22], 0⟩, ⟨0, 2, [], 0⟩, ⟨0, 2, [], 1⟩, ⟨0, 2, [], 1⟩, ⟨9, 1, [1, 26], 0⟩, ⟨0, 2, [], 1⟩, ⟨9, 1, [3, 28], 0⟩, ⟨3, 1, [27, 29], 0⟩, ⟨0, 2, [], 0⟩, ⟨0, 2, [], 2⟩, ⟨0, 2, [], 0⟩, ⟨9, 1, [3, 33], 0⟩, ⟨0, 2, [], 2⟩, ⟨9, 1, [3, 35], 0⟩, ⟨0, 2, [], 2⟩, ⟨9, 1, [1, 37], 0⟩, ⟨2, 1, [38], 0⟩, ⟨3, 1, [34, 39], 0⟩, ⟨0, 2, [], 1⟩, ⟨2, 1, [36], 0⟩, ⟨0, 2, [], 0⟩, ⟨9, 1, [1, 43], 0⟩, ⟨3, 1, [42, 44], 0⟩, ⟨0, 2, [], 2⟩, ⟨0, w, [], 1⟩, ⟨6, w, [4, 47], 0⟩, ⟨0, 2, [], 1⟩, ⟨9, 1, [3, 49], 0⟩, ⟨0, 2, [], 0⟩, ⟨0, 2, [], 1⟩, ⟨0, 2, [], 1⟩, ⟨9, 1, [3, 53], 0⟩, ⟨0, 2, [], 1⟩, ⟨9, 1, [1, 55], 0⟩, ⟨3, 1, [54, 56], 0⟩, ⟨0, 2, [], 0⟩, ⟨0, 2, [], 2⟩]
def cRules : List api_Rule := [⟨(⟨#[114, 101, 97, 100, 48]⟩ : ByteArray), 13, [⟨1, 5, 14⟩, ⟨2, 5, 0⟩]⟩, ⟨(⟨#[111, 119, 110, 48]⟩ : ByteArray), 18, [⟨1, 5, 19⟩, ⟨2, 7, 0⟩]⟩, ⟨(⟨#[119, 114, 105, 116, 101, 48]⟩ : ByteArray), 9, [⟨2, 5, 21⟩]⟩, ⟨(⟨#[100, 114, 111, 112, 48]⟩ : ByteArray), 23, [⟨1, 5, 24⟩]⟩, ⟨(⟨#[98, 97, 99, 107, 48]⟩ : ByteArray), 9, [⟨1, 5, 25⟩, ⟨0, 5, 2⟩]⟩, ⟨(⟨#[121, 105, 101, 108, 100, 48]⟩ : ByteArray), 30, [⟨1, 5, 31⟩, ⟨3, 5, 32⟩]⟩, ⟨(⟨#[114, 101, 97, 100, 49]⟩ : ByteArray), 40, [⟨3, 5, 41⟩, ⟨4, 5, 0⟩]⟩, ⟨(⟨#[111, 119, 110, 49]⟩ : ByteArray), 45, [⟨3, 5, 46⟩, ⟨4, 34, 0⟩]⟩, ⟨(⟨#[119, 114, 105, 116, 101, 49]⟩ : ByteArray), 36, [⟨4, 5, 48⟩]⟩, ⟨(⟨#[100, 114, 111, 112, 49]⟩ : ByteArray), 50, [⟨3, 5, 51⟩]⟩, ⟨(⟨#[98, 97, 99, 107, 49]⟩ : ByteArray), 36, [⟨3, 5, 52⟩, ⟨0, 5, 4⟩]⟩, ⟨(⟨#[121, 105, 101, 108, 100, 49]⟩ : ByteArray), 57, [⟨3, 5, 58⟩, ⟨1, 5, 59⟩]⟩]
def cDes (w : Int) : R_machine_CachesOf := (((cName, ((), (cEls w, (cNodes w, (cRules, ((), ((), ()))))))), ((0 : Int), ())), ())
theorem caches1 : runF_machine_CachesOf 100 (.start 1) = some (cDes 1) := by kernel_rfl
theorem design1 : runF_ratchetbase_IsDesign 300 (.start cName [] (cEls 1) (cNodes 1) cRules [] []) = some ((true, ()), ()) := by kernel_rfl
theorem resets1 : runF_ratchetbase_Resets 300 (.start cName [] (cEls 1) (cNodes 1) cRules [] []) = some (((), ()), ([0, 0, 0, 0, 0], ())) := by kernel_rfl
theorem caches2 : runF_machine_CachesOf 100 (.start 2) = some (cDes 2) := by kernel_rfl
theorem design2 : runF_ratchetbase_IsDesign 300 (.start cName [] (cEls 2) (cNodes 2) cRules [] []) = some ((true, ()), ()) := by kernel_rfl
theorem resets2 : runF_ratchetbase_Resets 300 (.start cName [] (cEls 2) (cNodes 2) cRules [] []) = some (((), ()), ([0, 0, 0, 0, 0], ())) := by kernel_rfl
theorem caches3 : runF_machine_CachesOf 100 (.start 3) = some (cDes 3) := by kernel_rfl
theorem design3 : runF_ratchetbase_IsDesign 300 (.start cName [] (cEls 3) (cNodes 3) cRules [] []) = some ((true, ()), ()) := by kernel_rfl
theorem resets3 : runF_ratchetbase_Resets 300 (.start cName [] (cEls 3) (cNodes 3) cRules [] []) = some (((), ()), ([0, 0, 0, 0, 0], ())) := by kernel_rfl

end
end Go.Proofs.YtjededkgblbamaaGreatDoor.Ev.F
