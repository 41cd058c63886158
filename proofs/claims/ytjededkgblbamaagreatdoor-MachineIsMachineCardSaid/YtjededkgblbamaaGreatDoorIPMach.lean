/- A part of the proof. -/
import Derived.Test.YtjededkgblbamaaGreatDoorIF3
import Derived.Test.YtjededkgblbamaaGreatDoorIEvPure
set_option linter.unusedVariables false
set_option linter.unusedSimpArgs false
set_option linter.unnecessarySimpa false
namespace Go.Proofs.YtjededkgblbamaaGreatDoor.Ev.F
open Go.Proofs.YtjededkgblbamaaGreatDoor.Ev
theorem uy0 {a b c : Nat} (h : (a + b) * c ≤ 140737488355328) : fits a b c = true := Nat.ble_eq_true_of_le h
theorem ur0 {i n : Nat} (h : i < n) (hn : n ≤ 1000000) : IntKind.wrap .i64 ((i : Int) + 1) = ((i + 1 : Nat) : Int) := by
  rw [wrap_i64 (by omega) (by omega)]; rfl
theorem uo3 {α : Type} {l : List α} {i : Nat} (h : i < l.length) : l.drop i = l[i] :: l.drop (i + 1) := List.drop_eq_getElem_cons h
def uc4 (n lo hi : Int) : Bool := decide (lo ≤ n) && decide (n ≤ hi)
theorem uk4 {n lo hi : Int} : uc4 n lo hi = true ↔ lo ≤ n ∧ n ≤ hi := by simp [uc4]
theorem uO5 (n lo hi : Int) : us5 (.start n lo hi) = some ((uc4 n lo hi, ()), ()) := by
  by_cases h : lo ≤ n <;> simp [us5, uc4, h]
theorem vi2 (n lo hi : Int) : uf8 (.start n lo hi) = some ((uc4 n lo hi, ()), ()) := by
  by_cases h : lo ≤ n <;> simp [uf8, uc4, h]
def uR9 : List Int → Int
 | [] => 0
 | e :: l => if e = 0 then uR9 l else e
theorem vu1 (l : List Int) (hl : l.length ≤ 1000) : ∀ (k i : Nat), i + k = l.length → ui8 (.p52 l (List.length l : Int) (i : Int)) = some ((uR9 (l.drop i), ()), ())
 | 0, i, h => by
   rw [ui8]
   rw [List.drop_of_length_le (by omega)]
   simp [uR9, show ¬ i < l.length by omega]
 | k + 1, i, h => by
   have hi : i < l.length := by omega
   rw [ui8]
   simp only [show (decide ((i : Int) < (List.length l : Int))) = true by simpa using hi, if_true, uh8, List.getElem?_eq_getElem hi, ua4]
   rw [ur0 hi (by omega), vu1 l hl k (i + 1) (by omega), uo3 hi]
   simp only [uR9]
   by_cases h0 : l[i] = 0 <;> simp [h0]
theorem vY0 (l : List Int) (hl : l.length ≤ 1000) : ui8 (.start l) = some ((uR9 l, ()), ()) := by
  rw [ui8]
  exact vu1 l hl l.length 0 (by omega)
theorem vP9 (b : Bool) (e : Int) : uo6 (.start b e) = some ((if b = true then 0 else e, ()), ()) := by
  cases b <;> simp [uo6]
def useA (op : Int) : Bool := decide (1 ≤ op ∧ op ≤ 7 ∨ op = 9)
def useB (op : Int) : Bool := decide (2 ≤ op ∧ op ≤ 7)
def useN (op : Int) : Bool := decide (op = 1 ∨ 8 ≤ op)
def jmp (op : Int) : Bool := decide (op = 8 ∨ op = 9)
def uO9 (op a b n : Int) : Bool := (!useA op && a != 0) || ((!useB op && b != 0) || (!useN op && n != 0))
def vk1 (op : Int) : Int := if jmp op = true then 15 else 255
def uB7 (op a b n : Int) : Int :=
  if uc4 op 0 9 = true then (if (uc4 a 0 3 && (uc4 b 0 3 && uc4 n 0 (vk1 op))) = true then (if uO9 op a b n = true then 3 else 0) else 2) else 15
theorem ux9 {op : Int} (h : uc4 op 0 9 = true) : op = 0 ∨ op = 1 ∨ op = 2 ∨ op = 3 ∨ op = 4 ∨ op = 5 ∨ op = 6 ∨ op = 7 ∨ op = 8 ∨ op = 9 := by
  rw [uk4] at h; omega
theorem xE1 (op n : Int) : uH6 (.start op n) = some ((uc4 n 0 (vk1 op), ()), ()) := by
  unfold vk1 jmp
  by_cases h8 : op = 8
  · subst h8; simp [uH6, uO2, u34, uO5]
  · by_cases h9 : op = 9
    · subst h9; simp [uH6, uO2, u34, uO5]
    · simp [uH6, uO2, uQ7, uO5, h8, h9]
theorem xP9 (s : Bool) (op a b n : Int) : ug3 (.p31 s op a b n) = some ((if (uc4 a 0 3 && (uc4 b 0 3 && uc4 n 0 (vk1 op))) = true then (if s = true then 3 else 0) else 2, ()), ()) := by
  rw [ug3]
  simp only [va1, uO5, ua4, xE1, vP9]
  cases uc4 a 0 3 <;> cases uc4 b 0 3 <;> cases uc4 n 0 (vk1 op) <;> cases s <;> simp [ua4, vY0, uR9, vP9]
theorem x37 (i op a b n : Int) : ug3 (.start i op a b n) = some ((uB7 op a b n, ()), ()) := by
  rw [ug3]
  simp only [uO5, ua4, xP9]
  unfold uB7
  cases h : uc4 op 0 9 with
  | false => simp
  | true =>
    simp only [Bool.not_true, Bool.false_eq_true, if_false, if_true]
    rcases ux9 h with rfl | rfl | rfl | rfl | rfl | rfl | rfl | rfl | rfl | rfl
    all_goals
      simp only [show ∀ k : Int, idx wH6 k = idx wH6 k from fun _ => rfl, idx, wH6, ua4]
      simp [uO9, useA, useB, useN]
      try (by_cases ha : a = 0 <;> by_cases hb : b = 0 <;> by_cases hn : n = 0 <;> simp [ha, hb, hn])
def hasB (s : ByteArray) (k : Int) (i : Nat) : Bool := (s.data.toList.drop i).any fun c => (c.toNat : Int) == k
theorem v00 (s : ByteArray) (k : Int) (hs : s.size ≤ 1000) : ∀ (m i : Nat), i + m = s.size → ui7 (.p116 k s (i : Int)) = some ((hasB s k i, ()), ())
 | 0, i, h => by
   rw [ui7]
   have hl : s.data.toList.length = s.size := by rw [Array.length_toList]; rfl
   unfold hasB
   rw [List.drop_of_length_le (by omega)]
   simp [show ¬ i < s.size by omega]
 | m + 1, i, h => by
   have hi : i < s.size := by omega
   have hl : i < s.data.toList.length := by rw [Array.length_toList]; exact hi
   rw [ui7]
   have h1 : sidx s (i : Int) = some ((s.data.toList[i].toNat : Nat) : Int) := by
     unfold sidx
     rw [if_pos (by omega), Int.toNat_natCast, List.getElem?_eq_getElem hl]
     rfl
   simp only [show (decide ((i : Int) < (s.size : Int))) = true by simpa using hi, if_true, h1, ua4]
   rw [ur0 hi (by omega), v00 s k hs m (i + 1) (by omega)]
   unfold hasB
   rw [uo3 hl, List.any_cons]
   cases h0 : (((s.data.toList[i].toNat : Nat) : Int) == k) <;> simp [h0]
def ux7 (op : Int) : ByteArray := (idx ([(⟨#[]⟩ : ByteArray), (⟨#[97, 110]⟩ : ByteArray), (⟨#[97, 98]⟩ : ByteArray), (⟨#[97, 98]⟩ : ByteArray), (⟨#[97, 98]⟩ : ByteArray), (⟨#[97, 98]⟩ : ByteArray), (⟨#[97, 98]⟩ : ByteArray), (⟨#[97, 98]⟩ : ByteArray), (⟨#[112]⟩ : ByteArray), (⟨#[97, 112]⟩ : ByteArray)] : List ByteArray) op).getD ⟨#[]⟩
theorem xV5 {op : Int} (h : uc4 op 0 9 = true) : v19 (.start op) = some ((ux7 op, ()), ()) := by
  rcases ux9 h with rfl | rfl | rfl | rfl | rfl | rfl | rfl | rfl | rfl | rfl <;> rfl
theorem vt8 {op : Int} (h : uc4 op 0 9 = true) : (ux7 op).size ≤ 2 := by
  rcases ux9 h with rfl | rfl | rfl | rfl | rfl | rfl | rfl | rfl | rfl | rfl <;> decide
theorem xX0 {op : Int} (h : uc4 op 0 9 = true) (k : Int) : ui7 (.start op k) = some ((hasB (ux7 op) k 0, ()), ()) := by
  rw [ui7]
  have h2 := vt8 h
  simp only [xV5 h, ua4]
  exact v00 (ux7 op) k (by omega) (ux7 op).size 0 (by omega)
theorem x25 {op : Int} (h : uc4 op 0 9 = true) : hasB (ux7 op) 97 0 = useA op := by
  rcases ux9 h with rfl | rfl | rfl | rfl | rfl | rfl | rfl | rfl | rfl | rfl <;> decide
theorem x39 {op : Int} (h : uc4 op 0 9 = true) : hasB (ux7 op) 98 0 = useB op := by
  rcases ux9 h with rfl | rfl | rfl | rfl | rfl | rfl | rfl | rfl | rfl | rfl <;> decide
theorem x30 {op : Int} (h : uc4 op 0 9 = true) : hasB (ux7 op) 110 0 = (useN op && !jmp op) := by
  rcases ux9 h with rfl | rfl | rfl | rfl | rfl | rfl | rfl | rfl | rfl | rfl <;> decide
theorem xZ8 {op : Int} (h : uc4 op 0 9 = true) : hasB (ux7 op) 112 0 = jmp op := by
  rcases ux9 h with rfl | rfl | rfl | rfl | rfl | rfl | rfl | rfl | rfl | rfl <;> decide
theorem xQ0 {op : Int} (h : jmp op = true) (h1 : uc4 op 0 9 = true) : useN op = true := by
  unfold jmp at h; unfold useN
  have := of_decide_eq_true h
  rw [uk4] at h1
  exact decide_eq_true (by omega)
theorem xJ7 {op : Int} (h : uc4 op 0 9 = true) (a b n : Int) : ut7 (.p63 op a b n) = some ((if uO9 op a b n = true then 3 else 0, ()), ()) := by
  rw [ut7]
  simp only [xX0 h, ua4, x25 h, x39 h, x30 h, xZ8 h]
  unfold uO9
  cases hj : jmp op with
  | true =>
    rw [xQ0 hj h]
    cases useA op <;> cases useB op <;> by_cases ha : a = 0 <;> by_cases hb : b = 0 <;> by_cases hn : n = 0 <;> simp [ha, hb, hn]
  | false => cases useA op <;> cases useB op <;> cases useN op <;> by_cases ha : a = 0 <;> by_cases hb : b = 0 <;> by_cases hn : n = 0 <;> simp [ha, hb, hn]
theorem x46 (op a b n : Int) : ut7 (.start op a b n) = some ((uB7 op a b n, ()), ()) := by
  rw [ut7]
  unfold uB7
  simp only [vi2, ua4]
  cases h : uc4 op 0 9 with
  | false => simp
  | true =>
    have h31 : ∀ m, ut7 (.p31 m op a b n) = some ((if (uc4 a 0 3 && (uc4 b 0 3 && uc4 n 0 m)) = true then (if uO9 op a b n = true then 3 else 0) else 2, ()), ()) := by
      intro m
      rw [ut7]
      simp only [vi2, ua4, xJ7 h]
      cases uc4 a 0 3 <;> cases uc4 b 0 3 <;> cases uc4 n 0 m <;> simp
    simp only [Bool.not_true, Bool.false_eq_true, if_false, if_true, xX0 h, ua4, xZ8 h, h31]
    unfold vk1
    cases jmp op <;> simp
def uz0 : List ua3 → Int → Int × Int
 | [], _ => (0, 0)
 | c :: l, i => if uB7 c.Op c.A c.B c.N = 0 then uz0 l (i + 1) else (i, uB7 c.Op c.A c.B c.N)
def uS9 (l : List ua3) : Int × Int := if l.length > 16 then (0, 8) else uz0 l 0
theorem x06 (l : List ua3) (hl : l.length ≤ 1000) : ∀ (k i : Nat), i + k = l.length → us9 (.p52 l (List.length l : Int) (i : Int)) = some (((uz0 (l.drop i) i).1, ((uz0 (l.drop i) i).2, ())), ())
 | 0, i, h => by
   rw [us9, List.drop_of_length_le (by omega)]
   simp [uz0, show ¬ i < l.length by omega]
 | k + 1, i, h => by
   have hi : i < l.length := by omega
   rw [us9]
   simp only [show (decide ((i : Int) < (List.length l : Int))) = true by simpa using hi, if_true, uh8, List.getElem?_eq_getElem hi, ua4, x37]
   rw [ur0 hi (by omega), x06 l hl k (i + 1) (by omega), uo3 hi]
   simp only [uz0]
   by_cases h0 : uB7 l[i].Op l[i].A l[i].B l[i].N = 0 <;> simp [h0]
theorem x24 (l : List ua3) : u01 (.start l) = some (((uS9 l).1, ((uS9 l).2, ())), ()) := by
  simp only [u01]
  unfold uS9
  by_cases h : l.length > 16
  · have h2 : (List.length l : Int) > 16 := by omega
    simp only [h2, h, decide_true, if_true]
  · have h2 : ¬ ((List.length l : Int) > 16) := by omega
    simp only [h2, h, decide_false, Bool.false_eq_true, if_false]
    rw [us9, show (0 : Int) = ((0 : Nat) : Int) from rfl, x06 l (by omega) l.length 0 (by omega)]
    rfl
theorem v30 (l : List ua3) (hl : l.length ≤ 1000) : ∀ (k i : Nat), i + k = l.length → uA4 (.p116 l (i : Int)) = some (((uz0 (l.drop i) i).1, ((uz0 (l.drop i) i).2, ())), ())
 | 0, i, h => by
   rw [uA4, List.drop_of_length_le (by omega)]
   simp [uz0, show ¬ i < l.length by omega]
 | k + 1, i, h => by
   have hi : i < l.length := by omega
   rw [uA4]
   simp only [show (decide ((i : Int) < (List.length l : Int))) = true by simpa using hi, if_true, uh8, List.getElem?_eq_getElem hi, ua4, x46]
   rw [ur0 hi (by omega), v30 l hl k (i + 1) (by omega), uo3 hi]
   simp only [uz0]
   by_cases h0 : uB7 l[i].Op l[i].A l[i].B l[i].N = 0 <;> simp [h0]
theorem x35 (l : List ua3) : uA4 (.start l) = some (((uS9 l).1, ((uS9 l).2, ())), ()) := by
  rw [uA4]
  unfold uS9
  by_cases h : l.length > 16
  · have h2 : (List.length l : Int) > 16 := by omega
    simp only [h2, h, decide_true, if_true]
  · have h2 : ¬ ((List.length l : Int) > 16) := by omega
    simp only [h2, h, decide_false, Bool.false_eq_true, if_false]
    rw [show (0 : Int) = ((0 : Nat) : Int) from rfl, v30 l (by omega) l.length 0 (by omega)]
    rfl
theorem xS5 {l : List ua3} (h : l.length ≤ 1000) : vB0 (.start l) = some (((), ()), (l, ())) := by
  simp only [vB0]
  rw [if_pos (uy0 (by simp; omega))]
  rfl
def uz6 (op a b n : Int) : Int := op * 4096 + a * 1024 + b * 256 + n
end Go.Proofs.YtjededkgblbamaaGreatDoor.Ev.F
