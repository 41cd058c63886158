/- Chapter 31: the design of two caches: each rule, in any state. -/
import Derived.Test.YtjededkgblbamaaGreatDoorCPC1w1
import Derived.Test.YtjededkgblbamaaGreatDoorCPC1w2
import Derived.Test.YtjededkgblbamaaGreatDoorCPC1w3
set_option linter.unusedVariables false
set_option maxRecDepth 100000
namespace Go.Proofs.YtjededkgblbamaaGreatDoor.Ev.F
open Go.Proofs.YtjededkgblbamaaGreatDoor.Ev

theorem four {P : Int → Prop} (h0 : P 0) (h1 : P 1) (h2 : P 2) (h3 : P 3) {k : Int} (l : 0 ≤ k) (u : k ≤ 3) : P k := by
  have : k = 0 ∨ k = 1 ∨ k = 2 ∨ k = 3 := by omega
  rcases this with rfl | rfl | rfl | rfl <;> assumption
theorem sixteen {P : Int → Int → Prop} (h : P 0 0 ∧ P 0 1 ∧ P 0 2 ∧ P 0 3 ∧ P 1 0 ∧ P 1 1 ∧ P 1 2 ∧ P 1 3 ∧ P 2 0 ∧ P 2 1 ∧ P 2 2 ∧ P 2 3 ∧ P 3 0 ∧ P 3 1 ∧ P 3 2 ∧ P 3 3) {k0 k1 : Int} (l0 : 0 ≤ k0) (u0 : k0 ≤ 3) (l1 : 0 ≤ k1) (u1 : k1 ≤ 3) : P k0 k1 := by
  obtain ⟨a0, a1, a2, a3, b0, b1, b2, b3, c0, c1, c2, c3, d0, d1, d2, d3⟩ := h
  exact four (P := fun k => P k k1) (four a0 a1 a2 a3 l1 u1) (four b0 b1 b2 b3 l1 u1) (four c0 c1 c2 c3 l1 u1) (four d0 d1 d2 d3 l1 u1) l0 u0
theorem cStep1 (m l0 l1 : Int) {k0 k1 r : Int} (a0 : 0 ≤ k0) (b0 : k0 ≤ 3) (a1 : 0 ≤ k1) (b1 : k1 ≤ 3) (hr0 : 0 ≤ r) (hr1 : r ≤ 11) : cSt 1 2 k0 k1 r m l0 l1 := by
  have : r = 0 ∨ r = 1 ∨ r = 2 ∨ r = 3 ∨ r = 4 ∨ r = 5 ∨ r = 6 ∨ r = 7 ∨ r = 8 ∨ r = 9 ∨ r = 10 ∨ r = 11 := by omega
  rcases this with rfl | rfl | rfl | rfl | rfl | rfl | rfl | rfl | rfl | rfl | rfl | rfl
  · exact sixteen (P := fun k0 k1 => cSt 1 2 k0 k1 0 m l0 l1) (cSt1_0 m l0 l1) a0 b0 a1 b1
  · exact sixteen (P := fun k0 k1 => cSt 1 2 k0 k1 1 m l0 l1) (cSt1_1 m l0 l1) a0 b0 a1 b1
  · exact sixteen (P := fun k0 k1 => cSt 1 2 k0 k1 2 m l0 l1) (cSt1_2 m l0 l1) a0 b0 a1 b1
  · exact sixteen (P := fun k0 k1 => cSt 1 2 k0 k1 3 m l0 l1) (cSt1_3 m l0 l1) a0 b0 a1 b1
  · exact sixteen (P := fun k0 k1 => cSt 1 2 k0 k1 4 m l0 l1) (cSt1_4 m l0 l1) a0 b0 a1 b1
  · exact sixteen (P := fun k0 k1 => cSt 1 2 k0 k1 5 m l0 l1) (cSt1_5 m l0 l1) a0 b0 a1 b1
  · exact sixteen (P := fun k0 k1 => cSt 1 2 k0 k1 6 m l0 l1) (cSt1_6 m l0 l1) a0 b0 a1 b1
  · exact sixteen (P := fun k0 k1 => cSt 1 2 k0 k1 7 m l0 l1) (cSt1_7 m l0 l1) a0 b0 a1 b1
  · exact sixteen (P := fun k0 k1 => cSt 1 2 k0 k1 8 m l0 l1) (cSt1_8 m l0 l1) a0 b0 a1 b1
  · exact sixteen (P := fun k0 k1 => cSt 1 2 k0 k1 9 m l0 l1) (cSt1_9 m l0 l1) a0 b0 a1 b1
  · exact sixteen (P := fun k0 k1 => cSt 1 2 k0 k1 10 m l0 l1) (cSt1_10 m l0 l1) a0 b0 a1 b1
  · exact sixteen (P := fun k0 k1 => cSt 1 2 k0 k1 11 m l0 l1) (cSt1_11 m l0 l1) a0 b0 a1 b1
theorem cStep2 (m l0 l1 : Int) {k0 k1 r : Int} (a0 : 0 ≤ k0) (b0 : k0 ≤ 3) (a1 : 0 ≤ k1) (b1 : k1 ≤ 3) (hr0 : 0 ≤ r) (hr1 : r ≤ 11) : cSt 2 4 k0 k1 r m l0 l1 := by
  have : r = 0 ∨ r = 1 ∨ r = 2 ∨ r = 3 ∨ r = 4 ∨ r = 5 ∨ r = 6 ∨ r = 7 ∨ r = 8 ∨ r = 9 ∨ r = 10 ∨ r = 11 := by omega
  rcases this with rfl | rfl | rfl | rfl | rfl | rfl | rfl | rfl | rfl | rfl | rfl | rfl
  · exact sixteen (P := fun k0 k1 => cSt 2 4 k0 k1 0 m l0 l1) (cSt2_0 m l0 l1) a0 b0 a1 b1
  · exact sixteen (P := fun k0 k1 => cSt 2 4 k0 k1 1 m l0 l1) (cSt2_1 m l0 l1) a0 b0 a1 b1
  · exact sixteen (P := fun k0 k1 => cSt 2 4 k0 k1 2 m l0 l1) (cSt2_2 m l0 l1) a0 b0 a1 b1
  · exact sixteen (P := fun k0 k1 => cSt 2 4 k0 k1 3 m l0 l1) (cSt2_3 m l0 l1) a0 b0 a1 b1
  · exact sixteen (P := fun k0 k1 => cSt 2 4 k0 k1 4 m l0 l1) (cSt2_4 m l0 l1) a0 b0 a1 b1
  · exact sixteen (P := fun k0 k1 => cSt 2 4 k0 k1 5 m l0 l1) (cSt2_5 m l0 l1) a0 b0 a1 b1
  · exact sixteen (P := fun k0 k1 => cSt 2 4 k0 k1 6 m l0 l1) (cSt2_6 m l0 l1) a0 b0 a1 b1
  · exact sixteen (P := fun k0 k1 => cSt 2 4 k0 k1 7 m l0 l1) (cSt2_7 m l0 l1) a0 b0 a1 b1
  · exact sixteen (P := fun k0 k1 => cSt 2 4 k0 k1 8 m l0 l1) (cSt2_8 m l0 l1) a0 b0 a1 b1
  · exact sixteen (P := fun k0 k1 => cSt 2 4 k0 k1 9 m l0 l1) (cSt2_9 m l0 l1) a0 b0 a1 b1
  · exact sixteen (P := fun k0 k1 => cSt 2 4 k0 k1 10 m l0 l1) (cSt2_10 m l0 l1) a0 b0 a1 b1
  · exact sixteen (P := fun k0 k1 => cSt 2 4 k0 k1 11 m l0 l1) (cSt2_11 m l0 l1) a0 b0 a1 b1
theorem cStep3 (m l0 l1 : Int) {k0 k1 r : Int} (a0 : 0 ≤ k0) (b0 : k0 ≤ 3) (a1 : 0 ≤ k1) (b1 : k1 ≤ 3) (hr0 : 0 ≤ r) (hr1 : r ≤ 11) : cSt 3 8 k0 k1 r m l0 l1 := by
  have : r = 0 ∨ r = 1 ∨ r = 2 ∨ r = 3 ∨ r = 4 ∨ r = 5 ∨ r = 6 ∨ r = 7 ∨ r = 8 ∨ r = 9 ∨ r = 10 ∨ r = 11 := by omega
  rcases this with rfl | rfl | rfl | rfl | rfl | rfl | rfl | rfl | rfl | rfl | rfl | rfl
  · exact sixteen (P := fun k0 k1 => cSt 3 8 k0 k1 0 m l0 l1) (cSt3_0 m l0 l1) a0 b0 a1 b1
  · exact sixteen (P := fun k0 k1 => cSt 3 8 k0 k1 1 m l0 l1) (cSt3_1 m l0 l1) a0 b0 a1 b1
  · exact sixteen (P := fun k0 k1 => cSt 3 8 k0 k1 2 m l0 l1) (cSt3_2 m l0 l1) a0 b0 a1 b1
  · exact sixteen (P := fun k0 k1 => cSt 3 8 k0 k1 3 m l0 l1) (cSt3_3 m l0 l1) a0 b0 a1 b1
  · exact sixteen (P := fun k0 k1 => cSt 3 8 k0 k1 4 m l0 l1) (cSt3_4 m l0 l1) a0 b0 a1 b1
  · exact sixteen (P := fun k0 k1 => cSt 3 8 k0 k1 5 m l0 l1) (cSt3_5 m l0 l1) a0 b0 a1 b1
  · exact sixteen (P := fun k0 k1 => cSt 3 8 k0 k1 6 m l0 l1) (cSt3_6 m l0 l1) a0 b0 a1 b1
  · exact sixteen (P := fun k0 k1 => cSt 3 8 k0 k1 7 m l0 l1) (cSt3_7 m l0 l1) a0 b0 a1 b1
  · exact sixteen (P := fun k0 k1 => cSt 3 8 k0 k1 8 m l0 l1) (cSt3_8 m l0 l1) a0 b0 a1 b1
  · exact sixteen (P := fun k0 k1 => cSt 3 8 k0 k1 9 m l0 l1) (cSt3_9 m l0 l1) a0 b0 a1 b1
  · exact sixteen (P := fun k0 k1 => cSt 3 8 k0 k1 10 m l0 l1) (cSt3_10 m l0 l1) a0 b0 a1 b1
  · exact sixteen (P := fun k0 k1 => cSt 3 8 k0 k1 11 m l0 l1) (cSt3_11 m l0 l1) a0 b0 a1 b1
end Go.Proofs.YtjededkgblbamaaGreatDoor.Ev.F
