/- A part of the proof. -/
import Derived.Test.YtjededkgblbamaaGreatDoorIF3
import Derived.Test.YtjededkgblbamaaGreatDoorIEvPure
set_option linter.unusedVariables false
set_option linter.unusedSimpArgs false
set_option linter.unnecessarySimpa false
namespace Go.Proofs.YtjededkgblbamaaGreatDoor.Ev.F
open Go.Proofs.YtjededkgblbamaaGreatDoor.Ev
theorem ui4 {i n : Nat} (h : i < n) (hn : n ≤ 1000000) : IntKind.wrap .i64 ((i : Int) + 1) = ((i + 1 : Nat) : Int) := by
  rw [wrap_i64 (by omega) (by omega)]; rfl
def uh7 (n lo hi : Int) : Bool := decide (lo ≤ n) && decide (n ≤ hi)
theorem uq7 {n lo hi : Int} : uh7 n lo hi = true ↔ lo ≤ n ∧ n ≤ hi := by simp [uh7]
theorem x22 (n lo hi : Int) : us5 (.start n lo hi) = some ((uh7 n lo hi, ()), ()) := by
  by_cases h : lo ≤ n <;> simp [us5, uh7, h]
theorem vl1 (n lo hi : Int) : uf8 (.start n lo hi) = some ((uh7 n lo hi, ()), ()) := by
  by_cases h : lo ≤ n <;> simp [uf8, uh7, h]
def uL4 : List Int → List Int → Bool
 | [], _ => true
 | x :: l, w :: ws => uh7 x 0 (pw w - 1) && uL4 l ws
 | _ :: _, [] => false
theorem x38 {w : Int} (h0 : 0 ≤ w) (h1 : w ≤ 32) : IntKind.wrap .i64 (shl .i64 1 w - 1) = pw w - 1 := by
  have := x33 h1
  have := wf6 w
  rw [wU1 (by omega), wrap_i64 (by omega) (by omega)]
theorem u78 {α : Type} {l : List α} {i : Nat} (h : i < l.length) : l.drop i = l[i] :: l.drop (i + 1) := List.drop_eq_getElem_cons h
theorem xN7 {n w : Int} (h0 : 0 ≤ w) (h1 : w ≤ 32) : uw1 (.start n w) = some ((uh7 n 0 (pw w - 1), ()), ()) := by
  rw [uw1, uk0]
  simp only [show decide ((0 : Int) ≤ w) = true by simpa using h0, if_true, ua4, x38 h0 h1, vl1]
theorem wa3 {s ws : List Int} (hl : s.length = ws.length) (hn : s.length ≤ 1000) (hw : ∀ w ∈ ws, 0 ≤ w ∧ w ≤ 32) : ∀ (k i : Nat), i + k = s.length →
    uk9 (.p116 ws s (i : Int)) = some ((uL4 (s.drop i) (ws.drop i), ()), ())
 | 0, i, h => by
   rw [uk9]
   rw [List.drop_of_length_le (show s.length ≤ i by omega)]
   simp [uL4, show ¬ i < s.length by omega]
 | k + 1, i, h => by
   have hi : i < s.length := by omega
   have hi2 : i < ws.length := by omega
   have hwi := hw ws[i] (List.getElem_mem hi2)
   rw [uk9]
   simp only [show (decide ((i : Int) < (List.length s : Int))) = true by simpa using hi, if_true, uh8, List.getElem?_eq_getElem hi, List.getElem?_eq_getElem hi2, ua4]
   rw [xN7 hwi.1 hwi.2, ui4 hi (by omega), wa3 hl hn hw k (i + 1) (by omega), u78 hi, u78 hi2]
   simp only [ua4, uL4]
   by_cases h0 : uh7 s[i] 0 (pw ws[i] - 1) = true <;> simp [h0]
theorem x43 {s ws : List Int} (hl : s.length = ws.length) (hn : s.length ≤ 1000) (hw : ∀ w ∈ ws, 0 ≤ w ∧ w ≤ 32) : uk9 (.start ws s) = some ((uL4 s ws, ()), ()) := by
  rw [uk9]
  have := wa3 hl hn hw s.length 0 (by omega)
  simp only [Int.natCast_zero, List.drop_zero] at this
  simp [hl, this]
end Go.Proofs.YtjededkgblbamaaGreatDoor.Ev.F
