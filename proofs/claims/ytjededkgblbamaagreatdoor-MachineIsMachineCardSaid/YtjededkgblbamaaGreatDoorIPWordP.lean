/- A part of the proof. -/
import Derived.Test.YtjededkgblbamaaGreatDoorIPMach
set_option linter.unusedVariables false
set_option linter.unusedSimpArgs false
set_option linter.unnecessarySimpa false
namespace Go.Proofs.YtjededkgblbamaaGreatDoor.Ev.F
open Go.Proofs.YtjededkgblbamaaGreatDoor.Ev
theorem xX1 {a b : Nat} (ha : a < 2 ^ 62) (hb : b < 2 ^ 62) : bits .or .i64 (a : Int) (b : Int) = ((a ||| b : Nat) : Int) := by
  rw [u80]
  unfold vc7
  show IntKind.wrap .i64 (((BitVec.ofInt 64 (a : Int) ||| BitVec.ofInt 64 (b : Int)).toNat : Nat) : Int) = _
  rw [BitVec.toNat_or, BitVec.ofInt_natCast, BitVec.ofInt_natCast, BitVec.toNat_ofNat, BitVec.toNat_ofNat, Nat.mod_eq_of_lt (by omega), Nat.mod_eq_of_lt (by omega)]
  have := Nat.or_lt_two_pow ha hb
  exact wrap_i64 (by omega) (by omega)
theorem vQ7 {v b k : Nat} (hb : b < 2 ^ k) (hk : k ≤ 16) (hv : v < 65536) : bits .or .i64 ((v * 2 ^ k : Nat) : Int) (b : Int) = ((v * 2 ^ k + b : Nat) : Int) := by
  have h1 : 2 ^ k ≤ 2 ^ 16 := Nat.pow_le_pow_right (by decide) hk
  have h2 : v * 2 ^ k ≤ v * 2 ^ 16 := Nat.mul_le_mul_left _ h1
  rw [xX1 (by omega) (by omega), Nat.mul_comm v, ← Nat.two_pow_add_eq_or_of_lt hb]
theorem vO9 {v k : Nat} (hv : v < 65536) (hk : k ≤ 16) : shl .i64 (v : Int) (k : Int) = ((v * 2 ^ k : Nat) : Int) := by
  have h1 : 2 ^ k ≤ 2 ^ 16 := Nat.pow_le_pow_right (by decide) hk
  have h2 : v * 2 ^ k ≤ v * 2 ^ 16 := Nat.mul_le_mul_left _ h1
  have e : pw (k : Int) = ((2 ^ k : Nat) : Int) := by simp [pw]
  have h3 : (v : Int) * pw (k : Int) = ((v * 2 ^ k : Nat) : Int) := by rw [e, ← Int.natCast_mul]
  rw [xx9 (by omega) (by rw [h3]; omega) (by rw [h3]; omega), h3]
theorem uQ5 {op a b n : Int} (h : uB7 op a b n = 0) : uc4 op 0 9 = true ∧ uc4 a 0 3 = true ∧ uc4 b 0 3 = true ∧ uc4 n 0 255 = true ∧ uc4 n 0 (vk1 op) = true ∧ uO9 op a b n = false := by
  unfold uB7 at h
  split at h
  · rename_i h1
    split at h
    · rename_i h2
      simp only [Bool.and_eq_true] at h2
      split at h
      · cases h
      · rename_i h3
        refine ⟨h1, h2.1, h2.2.1, ?_, h2.2.2, by simpa using h3⟩
        have h4 := h2.2.2
        rw [uk4] at h4 ⊢
        unfold vk1 at h4
        split at h4 <;> omega
    · cases h
  · cases h
theorem xD9 {op a b n : Int} (h : uB7 op a b n = 0) : uA7 (.start op a b n) = some ((uz6 op a b n, ()), ()) := by
  obtain ⟨h1, h2, h3, h4, _, _⟩ := uQ5 h
  rw [uk4] at h1 h2 h3 h4
  obtain ⟨o, rfl⟩ := Int.eq_ofNat_of_zero_le h1.1
  obtain ⟨a, rfl⟩ := Int.eq_ofNat_of_zero_le h2.1
  obtain ⟨b, rfl⟩ := Int.eq_ofNat_of_zero_le h3.1
  obtain ⟨n, rfl⟩ := Int.eq_ofNat_of_zero_le h4.1
  rw [uA7, if_pos (show decide ((0 : Int) ≤ 12) = true from rfl), if_pos (show decide ((0 : Int) ≤ 10) = true from rfl), if_pos (show decide ((0 : Int) ≤ 8) = true from rfl)]
  have e1 : shl .i64 (o : Int) (12 : Int) = (((o * 4) * 2 ^ 10 : Nat) : Int) := by rw [show (12 : Int) = ((12 : Nat) : Int) from rfl, vO9 (by omega) (by omega)]; omega
  have e2 : shl .i64 (a : Int) (10 : Int) = ((a * 2 ^ 10 : Nat) : Int) := by rw [show (10 : Int) = ((10 : Nat) : Int) from rfl, vO9 (by omega) (by omega)]
  have e3 : shl .i64 (b : Int) (8 : Int) = ((b * 2 ^ 8 : Nat) : Int) := by rw [show (8 : Int) = ((8 : Nat) : Int) from rfl, vO9 (by omega) (by omega)]
  rw [e1, e2, e3, show ((o * 4) * 2 ^ 10 : Nat) = (o * 2 ^ 12 : Nat) by omega, vQ7 (k := 12) (by omega) (by omega) (by omega)]
  rw [show (o * 2 ^ 12 + a * 2 ^ 10 : Nat) = ((o * 4 + a) * 2 ^ 10 : Nat) by omega, vQ7 (k := 10) (by omega) (by omega) (by omega)]
  rw [show ((o * 4 + a) * 2 ^ 10 + b * 2 ^ 8 : Nat) = ((o * 16 + a * 4 + b) * 2 ^ 8 : Nat) by omega, vQ7 (k := 8) (by omega) (by omega) (by omega)]
  have e : (((o * 16 + a * 4 + b) * 2 ^ 8 + n : Nat) : Int) = uz6 (o : Int) (a : Int) (b : Int) (n : Int) := by unfold uz6; omega
  rw [e]
def isB (x : Int) : Bool := uc4 x 0 255
def ut6 (l : List Int) (n : Int) : Int := if (l.length : Int) = n then (if l.all isB = true then 0 else 2) else 10
theorem w80 (l : List Int) (hl : l.length ≤ 1000) : ∀ (k i : Nat), i + k = l.length → ∃ r : Int, ut0 (.p52 l (List.length l : Int) (i : Int)) = some ((r, ()), ()) ∧ (decide (r ≥ 0) = !(l.drop i).all isB)
 | 0, i, h => by
   refine ⟨-1, ?_, ?_⟩
   · rw [ut0]
     simp [show ¬ i < l.length by omega]
   · rw [List.drop_of_length_le (by omega)]; rfl
 | k + 1, i, h => by
   have hi : i < l.length := by omega
   rw [ut0]
   simp only [show (decide ((i : Int) < (List.length l : Int))) = true by simpa using hi, if_true, uh8, List.getElem?_eq_getElem hi, ua4, vq4, uQ7, uO5]
   rw [uo3 hi, List.all_cons]
   cases hb : uc4 l[i] 0 255 with
   | false =>
     refine ⟨(i : Int), ?_, ?_⟩
     · simp
     · simp [isB, hb]
   | true =>
     obtain ⟨r, h1, h2⟩ := w80 l hl k (i + 1) (by omega)
     refine ⟨r, ?_, ?_⟩
     · rw [ur0 hi (by omega), h1]; simp
     · rw [h2]; simp [isB, hb]
theorem xW3 (l : List Int) (n : Int) (hl : l.length ≤ 1000) : uX6 (.start l n) = some ((ut6 l n, ()), ()) := by
  simp only [uX6, vj1]
  obtain ⟨r, h1, h2⟩ := w80 l hl l.length 0 (by omega)
  rw [ut0]
  simp only [show (0 : Int) = ((0 : Nat) : Int) from rfl] at h1 h2 ⊢
  simp only [h1, ua4, h2, vP9, List.drop_zero]
  unfold ut6
  by_cases hn : (l.length : Int) = n
  · cases ha : l.all isB <;> simp [hn, vY0, uR9, ua4]
  · simp [hn, vY0, uR9, ua4]
theorem vt1 (l : List Int) (hl : l.length ≤ 1000) : ∀ (k i : Nat), i + k = l.length → ut8 (.p116 l (i : Int)) = some ((if (l.drop i).all isB = true then 0 else 2, ()), ())
 | 0, i, h => by
   rw [ut8, List.drop_of_length_le (by omega)]
   simp [show ¬ i < l.length by omega]
 | k + 1, i, h => by
   have hi : i < l.length := by omega
   rw [ut8]
   simp only [show (decide ((i : Int) < (List.length l : Int))) = true by simpa using hi, if_true, uh8, List.getElem?_eq_getElem hi, ua4, vi2]
   rw [ur0 hi (by omega), vt1 l hl k (i + 1) (by omega), uo3 hi, List.all_cons]
   cases hb : uc4 l[i] 0 255 <;> simp [isB, hb]
theorem xS6 (l : List Int) (n : Int) (hl : l.length ≤ 1000) : ut8 (.start l n) = some ((ut6 l n, ()), ()) := by
  rw [ut8]
  unfold ut6
  by_cases hn : (l.length : Int) = n
  · simp only [hn, bne_self_eq_false, Bool.false_eq_true, if_false, if_true]
    have := vt1 l hl l.length 0 (by omega)
    rw [List.drop_zero] at this
    exact this
  · simp [hn]
theorem x51 {l : List Int} (h : l.length ≤ 1000) : uy9 (.start l) = some (((), ()), (l, ())) := by
  simp only [uy9]
  rw [if_pos (uy0 (by simp; omega))]
  rfl
theorem x36 {l : List Int} (h : l.length ≤ 1000) : uh0 (.start l) = some (((), ()), (l, ())) := by
  simp only [uh0]
  rw [if_pos (uy0 (by simp; omega))]
  rfl
theorem v86 (a b : List Int) (hab : a.length = b.length) (hl : a.length ≤ 1000) : ∀ (k i : Nat), i + k = a.length → ud9 (.p116 a b (i : Int)) = some ((decide (a.drop i = b.drop i), ()), ())
 | 0, i, h => by
   rw [ud9, List.drop_of_length_le (by omega), List.drop_of_length_le (by omega)]
   simp [show ¬ i < a.length by omega]
 | k + 1, i, h => by
   have hi : i < a.length := by omega
   have hj : i < b.length := by omega
   rw [ud9]
   simp only [show (decide ((i : Int) < (List.length a : Int))) = true by simpa using hi, if_true, uh8, List.getElem?_eq_getElem hi, List.getElem?_eq_getElem hj, ua4]
   rw [ur0 hi (by omega), v86 a b hab hl k (i + 1) (by omega), uo3 hi, uo3 hj]
   by_cases he : a[i] = b[i]
   · simp only [he, bne_self_eq_false, Bool.false_eq_true, if_false, List.cons.injEq, true_and]
   · have h2 : (a[i] != b[i]) = true := by simp [he]
     rw [if_pos h2]
     simp only [List.cons.injEq, he, false_and, decide_false]
theorem xU5 (a b : List Int) (hl : a.length ≤ 1000) : ud9 (.start a b) = some ((decide (a = b), ()), ()) := by
  rw [ud9]
  by_cases hab : a.length = b.length
  · simp only [hab, bne_self_eq_false, Bool.false_eq_true, if_false]
    have := v86 a b hab hl a.length 0 (by omega)
    simpa using this
  · have : a ≠ b := fun e => hab (by rw [e])
    have h2 : ((List.length a : Int) != (List.length b : Int)) = true := by simp; omega
    rw [if_pos h2]
    simp [this]
theorem xS4 (pc h : Int) (R M : List Int) (h1 : R.length ≤ 1000) (h2 : M.length ≤ 1000) : uv5 (.start pc h R M pc h R M) = some ((true, ()), ()) := by
  simp [uv5, xU5 R R h1, xU5 M M h2, ua4]
theorem pmem (M : List Int) (h : M.length ≤ 1000) : u11 (.start M) = some ((ut6 M 8, ()), ()) := by
  simp only [u11, xW3 M 8 h, ua4]
theorem rmem (M : List Int) (h : M.length ≤ 1000) : uW4 (.start M) = some ((ut6 M 8, ()), ()) := by
  simp only [uW4, xS6 M 8 h, ua4]
def x52 (n : Int) : Int := if uc4 n 0 2000 = true then 0 else 2
end Go.Proofs.YtjededkgblbamaaGreatDoor.Ev.F
