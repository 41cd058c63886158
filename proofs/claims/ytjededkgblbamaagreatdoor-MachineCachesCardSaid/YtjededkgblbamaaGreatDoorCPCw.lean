/- Chapter 31: the design of two caches: its registers and the names of its rules. -/
import Derived.Test.YtjededkgblbamaaGreatDoorCPC0
set_option linter.unusedVariables false
set_option maxRecDepth 100000
namespace Go.Proofs.YtjededkgblbamaaGreatDoor.Ev.F
open Go.Proofs.YtjededkgblbamaaGreatDoor.Ev
def cNames : List ByteArray := [(⟨#[109, 101, 109, 111, 114, 121]⟩ : ByteArray), (⟨#[107, 105, 110, 100, 48]⟩ : ByteArray), (⟨#[108, 105, 110, 101, 48]⟩ : ByteArray), (⟨#[107, 105, 110, 100, 49]⟩ : ByteArray), (⟨#[108, 105, 110, 101, 49]⟩ : ByteArray)]
theorem same0 : runF_ratchetbase_SameDesign 300 (.start (⟨#[]⟩ : ByteArray) [] [] [] [] [] [] (⟨#[]⟩ : ByteArray) [] [] [] [] [] []) = some ((true, ()), ()) := by kernel_rfl
theorem wa1_0 (s : List Int) (rule c : Int) : run_ratchetlaw31_MachineCaches (.p32756 1 s rule c cNames 0 cName (cEls 1) (cNodes 1) cRules) = run_ratchetlaw31_MachineCaches (.p1048211 1 s rule c cNames 0 1 cName (cEls 1) (cNodes 1) cRules) := by
  rw [run_ratchetlaw31_MachineCaches.eq_4]
  kernel_rfl
theorem wb1_0 (s : List Int) (rule c : Int) : run_ratchetlaw31_MachineCaches (.p1048211 1 s rule c cNames 0 1 cName (cEls 1) (cNodes 1) cRules) = run_ratchetlaw31_MachineCaches (.p32756 1 s rule c cNames 1 cName (cEls 1) (cNodes 1) cRules) := by
  rw [run_ratchetlaw31_MachineCaches.eq_5]
  kernel_rfl
theorem wa1_1 (s : List Int) (rule c : Int) : run_ratchetlaw31_MachineCaches (.p32756 1 s rule c cNames 1 cName (cEls 1) (cNodes 1) cRules) = run_ratchetlaw31_MachineCaches (.p1048211 1 s rule c cNames 1 2 cName (cEls 1) (cNodes 1) cRules) := by
  rw [run_ratchetlaw31_MachineCaches.eq_4]
  kernel_rfl
theorem wb1_1 (s : List Int) (rule c : Int) : run_ratchetlaw31_MachineCaches (.p1048211 1 s rule c cNames 1 2 cName (cEls 1) (cNodes 1) cRules) = run_ratchetlaw31_MachineCaches (.p32756 1 s rule c cNames 2 cName (cEls 1) (cNodes 1) cRules) := by
  rw [run_ratchetlaw31_MachineCaches.eq_5]
  kernel_rfl
theorem wa1_2 (s : List Int) (rule c : Int) : run_ratchetlaw31_MachineCaches (.p32756 1 s rule c cNames 2 cName (cEls 1) (cNodes 1) cRules) = run_ratchetlaw31_MachineCaches (.p1048211 1 s rule c cNames 2 1 cName (cEls 1) (cNodes 1) cRules) := by
  rw [run_ratchetlaw31_MachineCaches.eq_4]
  kernel_rfl
theorem wb1_2 (s : List Int) (rule c : Int) : run_ratchetlaw31_MachineCaches (.p1048211 1 s rule c cNames 2 1 cName (cEls 1) (cNodes 1) cRules) = run_ratchetlaw31_MachineCaches (.p32756 1 s rule c cNames 3 cName (cEls 1) (cNodes 1) cRules) := by
  rw [run_ratchetlaw31_MachineCaches.eq_5]
  kernel_rfl
theorem wa1_3 (s : List Int) (rule c : Int) : run_ratchetlaw31_MachineCaches (.p32756 1 s rule c cNames 3 cName (cEls 1) (cNodes 1) cRules) = run_ratchetlaw31_MachineCaches (.p1048211 1 s rule c cNames 3 2 cName (cEls 1) (cNodes 1) cRules) := by
  rw [run_ratchetlaw31_MachineCaches.eq_4]
  kernel_rfl
theorem wb1_3 (s : List Int) (rule c : Int) : run_ratchetlaw31_MachineCaches (.p1048211 1 s rule c cNames 3 2 cName (cEls 1) (cNodes 1) cRules) = run_ratchetlaw31_MachineCaches (.p32756 1 s rule c cNames 4 cName (cEls 1) (cNodes 1) cRules) := by
  rw [run_ratchetlaw31_MachineCaches.eq_5]
  kernel_rfl
theorem wa1_4 (s : List Int) (rule c : Int) : run_ratchetlaw31_MachineCaches (.p32756 1 s rule c cNames 4 cName (cEls 1) (cNodes 1) cRules) = run_ratchetlaw31_MachineCaches (.p1048211 1 s rule c cNames 4 1 cName (cEls 1) (cNodes 1) cRules) := by
  rw [run_ratchetlaw31_MachineCaches.eq_4]
  kernel_rfl
theorem wb1_4 (s : List Int) (rule c : Int) : run_ratchetlaw31_MachineCaches (.p1048211 1 s rule c cNames 4 1 cName (cEls 1) (cNodes 1) cRules) = run_ratchetlaw31_MachineCaches (.p32756 1 s rule c cNames 5 cName (cEls 1) (cNodes 1) cRules) := by
  rw [run_ratchetlaw31_MachineCaches.eq_5]
  kernel_rfl
theorem wa1_5 (s : List Int) (rule c : Int) : run_ratchetlaw31_MachineCaches (.p32756 1 s rule c cNames 5 cName (cEls 1) (cNodes 1) cRules) = run_ratchetlaw31_MachineCaches (.p65524 1 s rule c 0 cName (cEls 1) (cNodes 1) cRules) := by
  rw [run_ratchetlaw31_MachineCaches.eq_4]
  kernel_rfl
theorem wc1_0 (s : List Int) (rule c : Int) : run_ratchetlaw31_MachineCaches (.p65524 1 s rule c 0 cName (cEls 1) (cNodes 1) cRules) = run_ratchetlaw31_MachineCaches (.p65524 1 s rule c 1 cName (cEls 1) (cNodes 1) cRules) := by
  rw [run_ratchetlaw31_MachineCaches.eq_6]
  kernel_rfl
theorem wc1_1 (s : List Int) (rule c : Int) : run_ratchetlaw31_MachineCaches (.p65524 1 s rule c 1 cName (cEls 1) (cNodes 1) cRules) = run_ratchetlaw31_MachineCaches (.p65524 1 s rule c 2 cName (cEls 1) (cNodes 1) cRules) := by
  rw [run_ratchetlaw31_MachineCaches.eq_6]
  kernel_rfl
theorem wc1_2 (s : List Int) (rule c : Int) : run_ratchetlaw31_MachineCaches (.p65524 1 s rule c 2 cName (cEls 1) (cNodes 1) cRules) = run_ratchetlaw31_MachineCaches (.p65524 1 s rule c 3 cName (cEls 1) (cNodes 1) cRules) := by
  rw [run_ratchetlaw31_MachineCaches.eq_6]
  kernel_rfl
theorem wc1_3 (s : List Int) (rule c : Int) : run_ratchetlaw31_MachineCaches (.p65524 1 s rule c 3 cName (cEls 1) (cNodes 1) cRules) = run_ratchetlaw31_MachineCaches (.p65524 1 s rule c 4 cName (cEls 1) (cNodes 1) cRules) := by
  rw [run_ratchetlaw31_MachineCaches.eq_6]
  kernel_rfl
theorem wc1_4 (s : List Int) (rule c : Int) : run_ratchetlaw31_MachineCaches (.p65524 1 s rule c 4 cName (cEls 1) (cNodes 1) cRules) = run_ratchetlaw31_MachineCaches (.p65524 1 s rule c 5 cName (cEls 1) (cNodes 1) cRules) := by
  rw [run_ratchetlaw31_MachineCaches.eq_6]
  kernel_rfl
theorem wc1_5 (s : List Int) (rule c : Int) : run_ratchetlaw31_MachineCaches (.p65524 1 s rule c 5 cName (cEls 1) (cNodes 1) cRules) = run_ratchetlaw31_MachineCaches (.p65524 1 s rule c 6 cName (cEls 1) (cNodes 1) cRules) := by
  rw [run_ratchetlaw31_MachineCaches.eq_6]
  kernel_rfl
theorem wc1_6 (s : List Int) (rule c : Int) : run_ratchetlaw31_MachineCaches (.p65524 1 s rule c 6 cName (cEls 1) (cNodes 1) cRules) = run_ratchetlaw31_MachineCaches (.p65524 1 s rule c 7 cName (cEls 1) (cNodes 1) cRules) := by
  rw [run_ratchetlaw31_MachineCaches.eq_6]
  kernel_rfl
theorem wc1_7 (s : List Int) (rule c : Int) : run_ratchetlaw31_MachineCaches (.p65524 1 s rule c 7 cName (cEls 1) (cNodes 1) cRules) = run_ratchetlaw31_MachineCaches (.p65524 1 s rule c 8 cName (cEls 1) (cNodes 1) cRules) := by
  rw [run_ratchetlaw31_MachineCaches.eq_6]
  kernel_rfl
theorem wc1_8 (s : List Int) (rule c : Int) : run_ratchetlaw31_MachineCaches (.p65524 1 s rule c 8 cName (cEls 1) (cNodes 1) cRules) = run_ratchetlaw31_MachineCaches (.p65524 1 s rule c 9 cName (cEls 1) (cNodes 1) cRules) := by
  rw [run_ratchetlaw31_MachineCaches.eq_6]
  kernel_rfl
theorem wc1_9 (s : List Int) (rule c : Int) : run_ratchetlaw31_MachineCaches (.p65524 1 s rule c 9 cName (cEls 1) (cNodes 1) cRules) = run_ratchetlaw31_MachineCaches (.p65524 1 s rule c 10 cName (cEls 1) (cNodes 1) cRules) := by
  rw [run_ratchetlaw31_MachineCaches.eq_6]
  kernel_rfl
theorem wc1_10 (s : List Int) (rule c : Int) : run_ratchetlaw31_MachineCaches (.p65524 1 s rule c 10 cName (cEls 1) (cNodes 1) cRules) = run_ratchetlaw31_MachineCaches (.p65524 1 s rule c 11 cName (cEls 1) (cNodes 1) cRules) := by
  rw [run_ratchetlaw31_MachineCaches.eq_6]
  kernel_rfl
theorem wc1_11 (s : List Int) (rule c : Int) : run_ratchetlaw31_MachineCaches (.p65524 1 s rule c 11 cName (cEls 1) (cNodes 1) cRules) = run_ratchetlaw31_MachineCaches (.p65524 1 s rule c 12 cName (cEls 1) (cNodes 1) cRules) := by
  rw [run_ratchetlaw31_MachineCaches.eq_6]
  kernel_rfl
theorem walk1 (s : List Int) (rule c : Int) : run_ratchetlaw31_MachineCaches (.p2047 1 s rule c cNames cName (cEls 1) (cNodes 1) cRules) = run_ratchetlaw31_MachineCaches (.p65524 1 s rule c 12 cName (cEls 1) (cNodes 1) cRules) := by
  rw [run_ratchetlaw31_MachineCaches.eq_3, wa1_0, wb1_0, wa1_1, wb1_1, wa1_2, wb1_2, wa1_3, wb1_3, wa1_4, wb1_4, wa1_5, wc1_0, wc1_1, wc1_2, wc1_3, wc1_4, wc1_5, wc1_6, wc1_7, wc1_8, wc1_9, wc1_10, wc1_11]
theorem wa2_0 (s : List Int) (rule c : Int) : run_ratchetlaw31_MachineCaches (.p32756 2 s rule c cNames 0 cName (cEls 2) (cNodes 2) cRules) = run_ratchetlaw31_MachineCaches (.p1048211 2 s rule c cNames 0 2 cName (cEls 2) (cNodes 2) cRules) := by
  rw [run_ratchetlaw31_MachineCaches.eq_4]
  kernel_rfl
theorem wb2_0 (s : List Int) (rule c : Int) : run_ratchetlaw31_MachineCaches (.p1048211 2 s rule c cNames 0 2 cName (cEls 2) (cNodes 2) cRules) = run_ratchetlaw31_MachineCaches (.p32756 2 s rule c cNames 1 cName (cEls 2) (cNodes 2) cRules) := by
  rw [run_ratchetlaw31_MachineCaches.eq_5]
  kernel_rfl
theorem wa2_1 (s : List Int) (rule c : Int) : run_ratchetlaw31_MachineCaches (.p32756 2 s rule c cNames 1 cName (cEls 2) (cNodes 2) cRules) = run_ratchetlaw31_MachineCaches (.p1048211 2 s rule c cNames 1 2 cName (cEls 2) (cNodes 2) cRules) := by
  rw [run_ratchetlaw31_MachineCaches.eq_4]
  kernel_rfl
theorem wb2_1 (s : List Int) (rule c : Int) : run_ratchetlaw31_MachineCaches (.p1048211 2 s rule c cNames 1 2 cName (cEls 2) (cNodes 2) cRules) = run_ratchetlaw31_MachineCaches (.p32756 2 s rule c cNames 2 cName (cEls 2) (cNodes 2) cRules) := by
  rw [run_ratchetlaw31_MachineCaches.eq_5]
  kernel_rfl
theorem wa2_2 (s : List Int) (rule c : Int) : run_ratchetlaw31_MachineCaches (.p32756 2 s rule c cNames 2 cName (cEls 2) (cNodes 2) cRules) = run_ratchetlaw31_MachineCaches (.p1048211 2 s rule c cNames 2 2 cName (cEls 2) (cNodes 2) cRules) := by
  rw [run_ratchetlaw31_MachineCaches.eq_4]
  kernel_rfl
theorem wb2_2 (s : List Int) (rule c : Int) : run_ratchetlaw31_MachineCaches (.p1048211 2 s rule c cNames 2 2 cName (cEls 2) (cNodes 2) cRules) = run_ratchetlaw31_MachineCaches (.p32756 2 s rule c cNames 3 cName (cEls 2) (cNodes 2) cRules) := by
  rw [run_ratchetlaw31_MachineCaches.eq_5]
  kernel_rfl
theorem wa2_3 (s : List Int) (rule c : Int) : run_ratchetlaw31_MachineCaches (.p32756 2 s rule c cNames 3 cName (cEls 2) (cNodes 2) cRules) = run_ratchetlaw31_MachineCaches (.p1048211 2 s rule c cNames 3 2 cName (cEls 2) (cNodes 2) cRules) := by
  rw [run_ratchetlaw31_MachineCaches.eq_4]
  kernel_rfl
theorem wb2_3 (s : List Int) (rule c : Int) : run_ratchetlaw31_MachineCaches (.p1048211 2 s rule c cNames 3 2 cName (cEls 2) (cNodes 2) cRules) = run_ratchetlaw31_MachineCaches (.p32756 2 s rule c cNames 4 cName (cEls 2) (cNodes 2) cRules) := by
  rw [run_ratchetlaw31_MachineCaches.eq_5]
  kernel_rfl
theorem wa2_4 (s : List Int) (rule c : Int) : run_ratchetlaw31_MachineCaches (.p32756 2 s rule c cNames 4 cName (cEls 2) (cNodes 2) cRules) = run_ratchetlaw31_MachineCaches (.p1048211 2 s rule c cNames 4 2 cName (cEls 2) (cNodes 2) cRules) := by
  rw [run_ratchetlaw31_MachineCaches.eq_4]
  kernel_rfl
theorem wb2_4 (s : List Int) (rule c : Int) : run_ratchetlaw31_MachineCaches (.p1048211 2 s rule c cNames 4 2 cName (cEls 2) (cNodes 2) cRules) = run_ratchetlaw31_MachineCaches (.p32756 2 s rule c cNames 5 cName (cEls 2) (cNodes 2) cRules) := by
  rw [run_ratchetlaw31_MachineCaches.eq_5]
  kernel_rfl
theorem wa2_5 (s : List Int) (rule c : Int) : run_ratchetlaw31_MachineCaches (.p32756 2 s rule c cNames 5 cName (cEls 2) (cNodes 2) cRules) = run_ratchetlaw31_MachineCaches (.p65524 2 s rule c 0 cName (cEls 2) (cNodes 2) cRules) := by
  rw [run_ratchetlaw31_MachineCaches.eq_4]
  kernel_rfl
theorem wc2_0 (s : List Int) (rule c : Int) : run_ratchetlaw31_MachineCaches (.p65524 2 s rule c 0 cName (cEls 2) (cNodes 2) cRules) = run_ratchetlaw31_MachineCaches (.p65524 2 s rule c 1 cName (cEls 2) (cNodes 2) cRules) := by
  rw [run_ratchetlaw31_MachineCaches.eq_6]
  kernel_rfl
theorem wc2_1 (s : List Int) (rule c : Int) : run_ratchetlaw31_MachineCaches (.p65524 2 s rule c 1 cName (cEls 2) (cNodes 2) cRules) = run_ratchetlaw31_MachineCaches (.p65524 2 s rule c 2 cName (cEls 2) (cNodes 2) cRules) := by
  rw [run_ratchetlaw31_MachineCaches.eq_6]
  kernel_rfl
theorem wc2_2 (s : List Int) (rule c : Int) : run_ratchetlaw31_MachineCaches (.p65524 2 s rule c 2 cName (cEls 2) (cNodes 2) cRules) = run_ratchetlaw31_MachineCaches (.p65524 2 s rule c 3 cName (cEls 2) (cNodes 2) cRules) := by
  rw [run_ratchetlaw31_MachineCaches.eq_6]
  kernel_rfl
theorem wc2_3 (s : List Int) (rule c : Int) : run_ratchetlaw31_MachineCaches (.p65524 2 s rule c 3 cName (cEls 2) (cNodes 2) cRules) = run_ratchetlaw31_MachineCaches (.p65524 2 s rule c 4 cName (cEls 2) (cNodes 2) cRules) := by
  rw [run_ratchetlaw31_MachineCaches.eq_6]
  kernel_rfl
theorem wc2_4 (s : List Int) (rule c : Int) : run_ratchetlaw31_MachineCaches (.p65524 2 s rule c 4 cName (cEls 2) (cNodes 2) cRules) = run_ratchetlaw31_MachineCaches (.p65524 2 s rule c 5 cName (cEls 2) (cNodes 2) cRules) := by
  rw [run_ratchetlaw31_MachineCaches.eq_6]
  kernel_rfl
theorem wc2_5 (s : List Int) (rule c : Int) : run_ratchetlaw31_MachineCaches (.p65524 2 s rule c 5 cName (cEls 2) (cNodes 2) cRules) = run_ratchetlaw31_MachineCaches (.p65524 2 s rule c 6 cName (cEls 2) (cNodes 2) cRules) := by
  rw [run_ratchetlaw31_MachineCaches.eq_6]
  kernel_rfl
theorem wc2_6 (s : List Int) (rule c : Int) : run_ratchetlaw31_MachineCaches (.p65524 2 s rule c 6 cName (cEls 2) (cNodes 2) cRules) = run_ratchetlaw31_MachineCaches (.p65524 2 s rule c 7 cName (cEls 2) (cNodes 2) cRules) := by
  rw [run_ratchetlaw31_MachineCaches.eq_6]
  kernel_rfl
theorem wc2_7 (s : List Int) (rule c : Int) : run_ratchetlaw31_MachineCaches (.p65524 2 s rule c 7 cName (cEls 2) (cNodes 2) cRules) = run_ratchetlaw31_MachineCaches (.p65524 2 s rule c 8 cName (cEls 2) (cNodes 2) cRules) := by
  rw [run_ratchetlaw31_MachineCaches.eq_6]
  kernel_rfl
theorem wc2_8 (s : List Int) (rule c : Int) : run_ratchetlaw31_MachineCaches (.p65524 2 s rule c 8 cName (cEls 2) (cNodes 2) cRules) = run_ratchetlaw31_MachineCaches (.p65524 2 s rule c 9 cName (cEls 2) (cNodes 2) cRules) := by
  rw [run_ratchetlaw31_MachineCaches.eq_6]
  kernel_rfl
theorem wc2_9 (s : List Int) (rule c : Int) : run_ratchetlaw31_MachineCaches (.p65524 2 s rule c 9 cName (cEls 2) (cNodes 2) cRules) = run_ratchetlaw31_MachineCaches (.p65524 2 s rule c 10 cName (cEls 2) (cNodes 2) cRules) := by
  rw [run_ratchetlaw31_MachineCaches.eq_6]
  kernel_rfl
theorem wc2_10 (s : List Int) (rule c : Int) : run_ratchetlaw31_MachineCaches (.p65524 2 s rule c 10 cName (cEls 2) (cNodes 2) cRules) = run_ratchetlaw31_MachineCaches (.p65524 2 s rule c 11 cName (cEls 2) (cNodes 2) cRules) := by
  rw [run_ratchetlaw31_MachineCaches.eq_6]
  kernel_rfl
theorem wc2_11 (s : List Int) (rule c : Int) : run_ratchetlaw31_MachineCaches (.p65524 2 s rule c 11 cName (cEls 2) (cNodes 2) cRules) = run_ratchetlaw31_MachineCaches (.p65524 2 s rule c 12 cName (cEls 2) (cNodes 2) cRules) := by
  rw [run_ratchetlaw31_MachineCaches.eq_6]
  kernel_rfl
theorem walk2 (s : List Int) (rule c : Int) : run_ratchetlaw31_MachineCaches (.p2047 2 s rule c cNames cName (cEls 2) (cNodes 2) cRules) = run_ratchetlaw31_MachineCaches (.p65524 2 s rule c 12 cName (cEls 2) (cNodes 2) cRules) := by
  rw [run_ratchetlaw31_MachineCaches.eq_3, wa2_0, wb2_0, wa2_1, wb2_1, wa2_2, wb2_2, wa2_3, wb2_3, wa2_4, wb2_4, wa2_5, wc2_0, wc2_1, wc2_2, wc2_3, wc2_4, wc2_5, wc2_6, wc2_7, wc2_8, wc2_9, wc2_10, wc2_11]
theorem wa3_0 (s : List Int) (rule c : Int) : run_ratchetlaw31_MachineCaches (.p32756 3 s rule c cNames 0 cName (cEls 3) (cNodes 3) cRules) = run_ratchetlaw31_MachineCaches (.p1048211 3 s rule c cNames 0 3 cName (cEls 3) (cNodes 3) cRules) := by
  rw [run_ratchetlaw31_MachineCaches.eq_4]
  kernel_rfl
theorem wb3_0 (s : List Int) (rule c : Int) : run_ratchetlaw31_MachineCaches (.p1048211 3 s rule c cNames 0 3 cName (cEls 3) (cNodes 3) cRules) = run_ratchetlaw31_MachineCaches (.p32756 3 s rule c cNames 1 cName (cEls 3) (cNodes 3) cRules) := by
  rw [run_ratchetlaw31_MachineCaches.eq_5]
  kernel_rfl
theorem wa3_1 (s : List Int) (rule c : Int) : run_ratchetlaw31_MachineCaches (.p32756 3 s rule c cNames 1 cName (cEls 3) (cNodes 3) cRules) = run_ratchetlaw31_MachineCaches (.p1048211 3 s rule c cNames 1 2 cName (cEls 3) (cNodes 3) cRules) := by
  rw [run_ratchetlaw31_MachineCaches.eq_4]
  kernel_rfl
theorem wb3_1 (s : List Int) (rule c : Int) : run_ratchetlaw31_MachineCaches (.p1048211 3 s rule c cNames 1 2 cName (cEls 3) (cNodes 3) cRules) = run_ratchetlaw31_MachineCaches (.p32756 3 s rule c cNames 2 cName (cEls 3) (cNodes 3) cRules) := by
  rw [run_ratchetlaw31_MachineCaches.eq_5]
  kernel_rfl
theorem wa3_2 (s : List Int) (rule c : Int) : run_ratchetlaw31_MachineCaches (.p32756 3 s rule c cNames 2 cName (cEls 3) (cNodes 3) cRules) = run_ratchetlaw31_MachineCaches (.p1048211 3 s rule c cNames 2 3 cName (cEls 3) (cNodes 3) cRules) := by
  rw [run_ratchetlaw31_MachineCaches.eq_4]
  kernel_rfl
theorem wb3_2 (s : List Int) (rule c : Int) : run_ratchetlaw31_MachineCaches (.p1048211 3 s rule c cNames 2 3 cName (cEls 3) (cNodes 3) cRules) = run_ratchetlaw31_MachineCaches (.p32756 3 s rule c cNames 3 cName (cEls 3) (cNodes 3) cRules) := by
  rw [run_ratchetlaw31_MachineCaches.eq_5]
  kernel_rfl
theorem wa3_3 (s : List Int) (rule c : Int) : run_ratchetlaw31_MachineCaches (.p32756 3 s rule c cNames 3 cName (cEls 3) (cNodes 3) cRules) = run_ratchetlaw31_MachineCaches (.p1048211 3 s rule c cNames 3 2 cName (cEls 3) (cNodes 3) cRules) := by
  rw [run_ratchetlaw31_MachineCaches.eq_4]
  kernel_rfl
theorem wb3_3 (s : List Int) (rule c : Int) : run_ratchetlaw31_MachineCaches (.p1048211 3 s rule c cNames 3 2 cName (cEls 3) (cNodes 3) cRules) = run_ratchetlaw31_MachineCaches (.p32756 3 s rule c cNames 4 cName (cEls 3) (cNodes 3) cRules) := by
  rw [run_ratchetlaw31_MachineCaches.eq_5]
  kernel_rfl
theorem wa3_4 (s : List Int) (rule c : Int) : run_ratchetlaw31_MachineCaches (.p32756 3 s rule c cNames 4 cName (cEls 3) (cNodes 3) cRules) = run_ratchetlaw31_MachineCaches (.p1048211 3 s rule c cNames 4 3 cName (cEls 3) (cNodes 3) cRules) := by
  rw [run_ratchetlaw31_MachineCaches.eq_4]
  kernel_rfl
theorem wb3_4 (s : List Int) (rule c : Int) : run_ratchetlaw31_MachineCaches (.p1048211 3 s rule c cNames 4 3 cName (cEls 3) (cNodes 3) cRules) = run_ratchetlaw31_MachineCaches (.p32756 3 s rule c cNames 5 cName (cEls 3) (cNodes 3) cRules) := by
  rw [run_ratchetlaw31_MachineCaches.eq_5]
  kernel_rfl
theorem wa3_5 (s : List Int) (rule c : Int) : run_ratchetlaw31_MachineCaches (.p32756 3 s rule c cNames 5 cName (cEls 3) (cNodes 3) cRules) = run_ratchetlaw31_MachineCaches (.p65524 3 s rule c 0 cName (cEls 3) (cNodes 3) cRules) := by
  rw [run_ratchetlaw31_MachineCaches.eq_4]
  kernel_rfl
theorem wc3_0 (s : List Int) (rule c : Int) : run_ratchetlaw31_MachineCaches (.p65524 3 s rule c 0 cName (cEls 3) (cNodes 3) cRules) = run_ratchetlaw31_MachineCaches (.p65524 3 s rule c 1 cName (cEls 3) (cNodes 3) cRules) := by
  rw [run_ratchetlaw31_MachineCaches.eq_6]
  kernel_rfl
theorem wc3_1 (s : List Int) (rule c : Int) : run_ratchetlaw31_MachineCaches (.p65524 3 s rule c 1 cName (cEls 3) (cNodes 3) cRules) = run_ratchetlaw31_MachineCaches (.p65524 3 s rule c 2 cName (cEls 3) (cNodes 3) cRules) := by
  rw [run_ratchetlaw31_MachineCaches.eq_6]
  kernel_rfl
theorem wc3_2 (s : List Int) (rule c : Int) : run_ratchetlaw31_MachineCaches (.p65524 3 s rule c 2 cName (cEls 3) (cNodes 3) cRules) = run_ratchetlaw31_MachineCaches (.p65524 3 s rule c 3 cName (cEls 3) (cNodes 3) cRules) := by
  rw [run_ratchetlaw31_MachineCaches.eq_6]
  kernel_rfl
theorem wc3_3 (s : List Int) (rule c : Int) : run_ratchetlaw31_MachineCaches (.p65524 3 s rule c 3 cName (cEls 3) (cNodes 3) cRules) = run_ratchetlaw31_MachineCaches (.p65524 3 s rule c 4 cName (cEls 3) (cNodes 3) cRules) := by
  rw [run_ratchetlaw31_MachineCaches.eq_6]
  kernel_rfl
theorem wc3_4 (s : List Int) (rule c : Int) : run_ratchetlaw31_MachineCaches (.p65524 3 s rule c 4 cName (cEls 3) (cNodes 3) cRules) = run_ratchetlaw31_MachineCaches (.p65524 3 s rule c 5 cName (cEls 3) (cNodes 3) cRules) := by
  rw [run_ratchetlaw31_MachineCaches.eq_6]
  kernel_rfl
theorem wc3_5 (s : List Int) (rule c : Int) : run_ratchetlaw31_MachineCaches (.p65524 3 s rule c 5 cName (cEls 3) (cNodes 3) cRules) = run_ratchetlaw31_MachineCaches (.p65524 3 s rule c 6 cName (cEls 3) (cNodes 3) cRules) := by
  rw [run_ratchetlaw31_MachineCaches.eq_6]
  kernel_rfl
theorem wc3_6 (s : List Int) (rule c : Int) : run_ratchetlaw31_MachineCaches (.p65524 3 s rule c 6 cName (cEls 3) (cNodes 3) cRules) = run_ratchetlaw31_MachineCaches (.p65524 3 s rule c 7 cName (cEls 3) (cNodes 3) cRules) := by
  rw [run_ratchetlaw31_MachineCaches.eq_6]
  kernel_rfl
theorem wc3_7 (s : List Int) (rule c : Int) : run_ratchetlaw31_MachineCaches (.p65524 3 s rule c 7 cName (cEls 3) (cNodes 3) cRules) = run_ratchetlaw31_MachineCaches (.p65524 3 s rule c 8 cName (cEls 3) (cNodes 3) cRules) := by
  rw [run_ratchetlaw31_MachineCaches.eq_6]
  kernel_rfl
theorem wc3_8 (s : List Int) (rule c : Int) : run_ratchetlaw31_MachineCaches (.p65524 3 s rule c 8 cName (cEls 3) (cNodes 3) cRules) = run_ratchetlaw31_MachineCaches (.p65524 3 s rule c 9 cName (cEls 3) (cNodes 3) cRules) := by
  rw [run_ratchetlaw31_MachineCaches.eq_6]
  kernel_rfl
theorem wc3_9 (s : List Int) (rule c : Int) : run_ratchetlaw31_MachineCaches (.p65524 3 s rule c 9 cName (cEls 3) (cNodes 3) cRules) = run_ratchetlaw31_MachineCaches (.p65524 3 s rule c 10 cName (cEls 3) (cNodes 3) cRules) := by
  rw [run_ratchetlaw31_MachineCaches.eq_6]
  kernel_rfl
theorem wc3_10 (s : List Int) (rule c : Int) : run_ratchetlaw31_MachineCaches (.p65524 3 s rule c 10 cName (cEls 3) (cNodes 3) cRules) = run_ratchetlaw31_MachineCaches (.p65524 3 s rule c 11 cName (cEls 3) (cNodes 3) cRules) := by
  rw [run_ratchetlaw31_MachineCaches.eq_6]
  kernel_rfl
theorem wc3_11 (s : List Int) (rule c : Int) : run_ratchetlaw31_MachineCaches (.p65524 3 s rule c 11 cName (cEls 3) (cNodes 3) cRules) = run_ratchetlaw31_MachineCaches (.p65524 3 s rule c 12 cName (cEls 3) (cNodes 3) cRules) := by
  rw [run_ratchetlaw31_MachineCaches.eq_6]
  kernel_rfl
theorem walk3 (s : List Int) (rule c : Int) : run_ratchetlaw31_MachineCaches (.p2047 3 s rule c cNames cName (cEls 3) (cNodes 3) cRules) = run_ratchetlaw31_MachineCaches (.p65524 3 s rule c 12 cName (cEls 3) (cNodes 3) cRules) := by
  rw [run_ratchetlaw31_MachineCaches.eq_3, wa3_0, wb3_0, wa3_1, wb3_1, wa3_2, wb3_2, wa3_3, wb3_3, wa3_4, wb3_4, wa3_5, wc3_0, wc3_1, wc3_2, wc3_3, wc3_4, wc3_5, wc3_6, wc3_7, wc3_8, wc3_9, wc3_10, wc3_11]
end Go.Proofs.YtjededkgblbamaaGreatDoor.Ev.F
