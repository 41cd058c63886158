/- Chapter 31: values of some widths: the program's and the reference's check. -/
import Derived.Test.YtjededkgblbamaaGreatDoorPF2
import Derived.Test.YtjededkgblbamaaGreatDoorPEvPure
set_option linter.unusedVariables false
set_option linter.unusedSimpArgs false
set_option linter.unnecessarySimpa false
namespace Go.Proofs.YtjededkgblbamaaGreatDoor.Ev.F
open Go.Proofs.YtjededkgblbamaaGreatDoor.Ev

theorem vwrap_succ {i n : Nat} (h : i < n) (hn : n ≤ 1000000) : IntKind.wrap .i64 ((i : Int) + 1) = ((i + 1 : Nat) : Int) := by
  rw [wrap_i64 (by omega) (by omega)]; rfl
def vwithin (n lo hi : Int) : Bool := decide (lo ≤ n) && decide (n ≤ hi)
theorem vwithin_iff {n lo hi : Int} : vwithin n lo hi = true ↔ lo ≤ n ∧ n ≤ hi := by simp [vwithin]
theorem pvwithin (n lo hi : Int) : run_z2 (.start n lo hi) = some ((vwithin n lo hi, ()), ()) := by
  by_cases h : lo ≤ n <;> simp [run_z2, vwithin, h]
theorem rvwithin (n lo hi : Int) : run_z12 (.start n lo hi) = some ((vwithin n lo hi, ()), ()) := by
  by_cases h : lo ≤ n <;> simp [run_z12, vwithin, h]
theorem pvunless (b : Bool) (e : Int) : run_z3 (.start b e) = some ((if b = true then 0 else e, ()), ()) := by
  cases b <;> simp [run_z3]

/-- do numbers fit widths -/
def allfit : List Int → List Int → Bool
 | [], _ => true
 | x :: l, w :: ws => vwithin x 0 (pw w - 1) && allfit l ws
 | _ :: _, [] => false

theorem wmask {w : Int} (h0 : 0 ≤ w) (h1 : w ≤ 32) : IntKind.wrap .i64 (shl .i64 1 w - 1) = pw w - 1 := by
  have := pw_32 h1
  have := pw_pos w
  rw [shl_one (by omega), wrap_i64 (by omega) (by omega)]

theorem pvals1 {i n w : Int} {ws : List Int} (h : idx ws i = some w) (h0 : 0 ≤ w) (h1 : w ≤ 32) : run_z4 (.start i n ws) = some ((if vwithin n 0 (pw w - 1) = true then 0 else 2, ()), ()) := by
  rw [run_z4]
  simp only [h, some_bind', show decide ((0 : Int) ≤ w) = true by simpa using h0, if_true, wmask h0 h1, pvwithin, pvunless]

theorem drop_at {α : Type} {l : List α} {i : Nat} (h : i < l.length) : l.drop i = l[i] :: l.drop (i + 1) := List.drop_eq_getElem_cons h

theorem peach_at {s ws : List Int} (hl : s.length = ws.length) (hn : s.length ≤ 1000) (hw : ∀ w ∈ ws, 0 ≤ w ∧ w ≤ 32) : ∀ (k i : Nat), i + k = s.length →
    ∃ j, run_z5 (.p52 s (List.length s : Int) (i : Int) ws) = some ((j, (if allfit (s.drop i) (ws.drop i) = true then 0 else 2, ())), ((ws, ()), ()))
 | 0, i, h => by
   rw [run_z5]
   rw [List.drop_of_length_le (show s.length ≤ i by omega)]
   exact ⟨0, by simp [allfit, show ¬ i < s.length by omega]⟩
 | k + 1, i, h => by
   have hi : i < s.length := by omega
   have hi2 : i < ws.length := by omega
   have hwi := hw ws[i] (List.getElem_mem hi2)
   obtain ⟨j, hj⟩ := peach_at hl hn hw k (i + 1) (by omega)
   rw [run_z5]
   simp only [show (decide ((i : Int) < (List.length s : Int))) = true by simpa using hi, if_true, idx_nat, List.getElem?_eq_getElem hi, some_bind']
   rw [pvals1 (w := ws[i]) (by rw [idx_nat, List.getElem?_eq_getElem hi2]) hwi.1 hwi.2, vwrap_succ hi (by omega), drop_at hi, drop_at hi2]
   simp only [some_bind', allfit]
   by_cases h0 : vwithin s[i] 0 (pw ws[i] - 1) = true
   · refine ⟨j, ?_⟩
     simp only [h0, if_true, Bool.true_and, bne_self_eq_false, Bool.false_eq_true, if_false]
     exact hj
   · exact ⟨i, by simp [h0]⟩
theorem pvals {s ws : List Int} (hn : s.length ≤ 1000) (hw : ∀ w ∈ ws, 0 ≤ w ∧ w ≤ 32) : run_z6 (.start s ws) = some ((if s.length = ws.length then (if allfit s ws = true then 0 else 2) else 10, ()), ()) := by
  rw [run_z6]
  by_cases hl : s.length = ws.length
  · obtain ⟨j, hj⟩ := peach_at hl hn hw s.length 0 (by omega)
    rw [run_z5]
    simp only [Int.natCast_zero, List.drop_zero] at hj
    simp only [hl] at hj
    simp [hl, hj, some_bind']
  · have : ((List.length s : Int) != (List.length ws : Int)) = true := by simp; omega
    simp only [this, if_true, if_neg hl]

theorem rfits {n w : Int} (h0 : 0 ≤ w) (h1 : w ≤ 32) : run_z13 (.start n w) = some ((vwithin n 0 (pw w - 1), ()), ()) := by
  rw [run_z13, run_z11]
  simp only [show decide ((0 : Int) ≤ w) = true by simpa using h0, if_true, some_bind', wmask h0 h1, rvwithin]
theorem rvals_at {s ws : List Int} (hl : s.length = ws.length) (hn : s.length ≤ 1000) (hw : ∀ w ∈ ws, 0 ≤ w ∧ w ≤ 32) : ∀ (k i : Nat), i + k = s.length →
    run_z14 (.p116 ws s (i : Int)) = some ((allfit (s.drop i) (ws.drop i), ()), ())
 | 0, i, h => by
   rw [run_z14]
   rw [List.drop_of_length_le (show s.length ≤ i by omega)]
   simp [allfit, show ¬ i < s.length by omega]
 | k + 1, i, h => by
   have hi : i < s.length := by omega
   have hi2 : i < ws.length := by omega
   have hwi := hw ws[i] (List.getElem_mem hi2)
   rw [run_z14]
   simp only [show (decide ((i : Int) < (List.length s : Int))) = true by simpa using hi, if_true, idx_nat, List.getElem?_eq_getElem hi, List.getElem?_eq_getElem hi2, some_bind']
   rw [rfits hwi.1 hwi.2, vwrap_succ hi (by omega), rvals_at hl hn hw k (i + 1) (by omega), drop_at hi, drop_at hi2]
   simp only [some_bind', allfit]
   by_cases h0 : vwithin s[i] 0 (pw ws[i] - 1) = true <;> simp [h0]
theorem rvals {s ws : List Int} (hl : s.length = ws.length) (hn : s.length ≤ 1000) (hw : ∀ w ∈ ws, 0 ≤ w ∧ w ≤ 32) : run_z14 (.start ws s) = some ((allfit s ws, ()), ()) := by
  rw [run_z14]
  have := rvals_at hl hn hw s.length 0 (by omega)
  simp only [Int.natCast_zero, List.drop_zero] at this
  simp [hl, this]
end Go.Proofs.YtjededkgblbamaaGreatDoor.Ev.F
