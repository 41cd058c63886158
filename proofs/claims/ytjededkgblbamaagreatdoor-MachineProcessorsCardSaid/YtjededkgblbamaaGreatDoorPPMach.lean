/- Chapter 31: the checks of programs, memories and states; steps: the program's and the reference's. -/
import Derived.Test.YtjededkgblbamaaGreatDoorPF2
import Derived.Test.YtjededkgblbamaaGreatDoorPEvPure
set_option linter.unusedVariables false
set_option linter.unusedSimpArgs false
set_option linter.unnecessarySimpa false
namespace Go.Proofs.YtjededkgblbamaaGreatDoor.Ev.F
open Go.Proofs.YtjededkgblbamaaGreatDoor.Ev

theorem fits_ok {a b c : Nat} (h : (a + b) * c ≤ 140737488355328) : fits a b c = true := Nat.ble_eq_true_of_le h
theorem wrap_succ {i n : Nat} (h : i < n) (hn : n ≤ 1000000) : IntKind.wrap .i64 ((i : Int) + 1) = ((i + 1 : Nat) : Int) := by
  rw [wrap_i64 (by omega) (by omega)]; rfl
theorem drop_cons {α : Type} {l : List α} {i : Nat} (h : i < l.length) : l.drop i = l[i] :: l.drop (i + 1) := List.drop_eq_getElem_cons h

def within (n lo hi : Int) : Bool := decide (lo ≤ n) && decide (n ≤ hi)
theorem within_iff {n lo hi : Int} : within n lo hi = true ↔ lo ≤ n ∧ n ≤ hi := by simp [within]
theorem pwithin (n lo hi : Int) : run_z2 (.start n lo hi) = some ((within n lo hi, ()), ()) := by
  by_cases h : lo ≤ n <;> simp [run_z2, within, h]
theorem rwithin (n lo hi : Int) : run_z12 (.start n lo hi) = some ((within n lo hi, ()), ()) := by
  by_cases h : lo ≤ n <;> simp [run_z12, within, h]

/-- the first error -/
def firstE : List Int → Int
 | [] => 0
 | e :: l => if e = 0 then firstE l else e
theorem pfirst_at (l : List Int) (hl : l.length ≤ 1000) : ∀ (k i : Nat), i + k = l.length → run_z25 (.p52 l (List.length l : Int) (i : Int)) = some ((firstE (l.drop i), ()), ())
 | 0, i, h => by
   rw [run_z25]
   rw [List.drop_of_length_le (by omega)]
   simp [firstE, show ¬ i < l.length by omega]
 | k + 1, i, h => by
   have hi : i < l.length := by omega
   rw [run_z25]
   simp only [show (decide ((i : Int) < (List.length l : Int))) = true by simpa using hi, if_true, idx_nat, List.getElem?_eq_getElem hi, some_bind']
   rw [wrap_succ hi (by omega), pfirst_at l hl k (i + 1) (by omega), drop_cons hi]
   simp only [firstE]
   by_cases h0 : l[i] = 0 <;> simp [h0]
theorem pfirst (l : List Int) (hl : l.length ≤ 1000) : run_z25 (.start l) = some ((firstE l, ()), ()) := by
  rw [run_z25]
  exact pfirst_at l hl l.length 0 (by omega)
theorem punless (b : Bool) (e : Int) : run_z3 (.start b e) = some ((if b = true then 0 else e, ()), ()) := by
  cases b <;> simp [run_z3]

/-! ### instructions -/
def useA (op : Int) : Bool := decide (1 ≤ op ∧ op ≤ 7 ∨ op = 9)
def useB (op : Int) : Bool := decide (2 ≤ op ∧ op ≤ 7)
def useN (op : Int) : Bool := decide (op = 1 ∨ 8 ≤ op)
def jmp (op : Int) : Bool := decide (op = 8 ∨ op = 9)
def strange (op a b n : Int) : Bool := (!useA op && a != 0) || ((!useB op && b != 0) || (!useN op && n != 0))
def mostN (op : Int) : Int := if jmp op = true then 15 else 255
def codeE (op a b n : Int) : Int :=
  if within op 0 9 = true then (if (within a 0 3 && (within b 0 3 && within n 0 (mostN op))) = true then (if strange op a b n = true then 3 else 0) else 2) else 15

theorem op_cases {op : Int} (h : within op 0 9 = true) : op = 0 ∨ op = 1 ∨ op = 2 ∨ op = 3 ∨ op = 4 ∨ op = 5 ∨ op = 6 ∨ op = 7 ∨ op = 8 ∨ op = 9 := by
  rw [within_iff] at h; omega

theorem pnumber (op n : Int) : run_z24 (.start op n) = some ((within n 0 (mostN op), ()), ()) := by
  unfold mostN jmp
  by_cases h8 : op = 8
  · subst h8; simp [run_z24, run_z21, run_z22, pwithin]
  · by_cases h9 : op = 9
    · subst h9; simp [run_z24, run_z21, run_z22, pwithin]
    · simp [run_z24, run_z21, run_z23, pwithin, h8, h9]
theorem pcode31 (s : Bool) (op a b n : Int) : run_z26 (.p31 s op a b n) = some ((if (within a 0 3 && (within b 0 3 && within n 0 (mostN op))) = true then (if s = true then 3 else 0) else 2, ()), ()) := by
  rw [run_z26]
  simp only [run_z20, pwithin, some_bind', pnumber, punless]
  cases within a 0 3 <;> cases within b 0 3 <;> cases within n 0 (mostN op) <;> cases s <;> simp [some_bind', pfirst, firstE, punless]
theorem pcode (i op a b n : Int) : run_z26 (.start i op a b n) = some ((codeE op a b n, ()), ()) := by
  rw [run_z26]
  simp only [pwithin, some_bind', pcode31]
  unfold codeE
  cases h : within op 0 9 with
  | false => simp
  | true =>
    simp only [Bool.not_true, Bool.false_eq_true, if_false, if_true]
    rcases op_cases h with rfl | rfl | rfl | rfl | rfl | rfl | rfl | rfl | rfl | rfl
    all_goals
      simp only [show ∀ k : Int, idx glob0 k = idx glob0 k from fun _ => rfl, idx, glob0, some_bind']
      simp [strange, useA, useB, useN]
      try (by_cases ha : a = 0 <;> by_cases hb : b = 0 <;> by_cases hn : n = 0 <;> simp [ha, hb, hn])

/-- does a byte stand in a string -/
def hasB (s : ByteArray) (k : Int) (i : Nat) : Bool := (s.data.toList.drop i).any fun c => (c.toNat : Int) == k
theorem ruses_at (s : ByteArray) (k : Int) (hs : s.size ≤ 1000) : ∀ (m i : Nat), i + m = s.size → run_z63 (.p116 k s (i : Int)) = some ((hasB s k i, ()), ())
 | 0, i, h => by
   rw [run_z63]
   have hl : s.data.toList.length = s.size := by rw [Array.length_toList]; rfl
   unfold hasB
   rw [List.drop_of_length_le (by omega)]
   simp [show ¬ i < s.size by omega]
 | m + 1, i, h => by
   have hi : i < s.size := by omega
   have hl : i < s.data.toList.length := by rw [Array.length_toList]; exact hi
   rw [run_z63]
   have h1 : sidx s (i : Int) = some ((s.data.toList[i].toNat : Nat) : Int) := by
     unfold sidx
     rw [if_pos (by omega), Int.toNat_natCast, List.getElem?_eq_getElem hl]
     rfl
   simp only [show (decide ((i : Int) < (s.size : Int))) = true by simpa using hi, if_true, h1, some_bind']
   rw [wrap_succ hi (by omega), ruses_at s k hs m (i + 1) (by omega)]
   unfold hasB
   rw [drop_cons hl, List.any_cons]
   cases h0 : (((s.data.toList[i].toNat : Nat) : Int) == k) <;> simp [h0]
def shapeOf (op : Int) : ByteArray := (idx ([(⟨#[]⟩ : ByteArray), (⟨#[97, 110]⟩ : ByteArray), (⟨#[97, 98]⟩ : ByteArray), (⟨#[97, 98]⟩ : ByteArray), (⟨#[97, 98]⟩ : ByteArray), (⟨#[97, 98]⟩ : ByteArray), (⟨#[97, 98]⟩ : ByteArray), (⟨#[97, 98]⟩ : ByteArray), (⟨#[112]⟩ : ByteArray), (⟨#[97, 112]⟩ : ByteArray)] : List ByteArray) op).getD ⟨#[]⟩
theorem rshape {op : Int} (h : within op 0 9 = true) : run_z62 (.start op) = some ((shapeOf op, ()), ()) := by
  rcases op_cases h with rfl | rfl | rfl | rfl | rfl | rfl | rfl | rfl | rfl | rfl <;> rfl
theorem shapeOf_size {op : Int} (h : within op 0 9 = true) : (shapeOf op).size ≤ 2 := by
  rcases op_cases h with rfl | rfl | rfl | rfl | rfl | rfl | rfl | rfl | rfl | rfl <;> decide
theorem ruses {op : Int} (h : within op 0 9 = true) (k : Int) : run_z63 (.start op k) = some ((hasB (shapeOf op) k 0, ()), ()) := by
  rw [run_z63]
  have h2 := shapeOf_size h
  simp only [rshape h, some_bind']
  exact ruses_at (shapeOf op) k (by omega) (shapeOf op).size 0 (by omega)
theorem has_a {op : Int} (h : within op 0 9 = true) : hasB (shapeOf op) 97 0 = useA op := by
  rcases op_cases h with rfl | rfl | rfl | rfl | rfl | rfl | rfl | rfl | rfl | rfl <;> decide
theorem has_b {op : Int} (h : within op 0 9 = true) : hasB (shapeOf op) 98 0 = useB op := by
  rcases op_cases h with rfl | rfl | rfl | rfl | rfl | rfl | rfl | rfl | rfl | rfl <;> decide
theorem has_n {op : Int} (h : within op 0 9 = true) : hasB (shapeOf op) 110 0 = (useN op && !jmp op) := by
  rcases op_cases h with rfl | rfl | rfl | rfl | rfl | rfl | rfl | rfl | rfl | rfl <;> decide
theorem has_p {op : Int} (h : within op 0 9 = true) : hasB (shapeOf op) 112 0 = jmp op := by
  rcases op_cases h with rfl | rfl | rfl | rfl | rfl | rfl | rfl | rfl | rfl | rfl <;> decide
theorem jmp_use {op : Int} (h : jmp op = true) (h1 : within op 0 9 = true) : useN op = true := by
  unfold jmp at h; unfold useN
  have := of_decide_eq_true h
  rw [within_iff] at h1
  exact decide_eq_true (by omega)
theorem rcode63 {op : Int} (h : within op 0 9 = true) (a b n : Int) : run_z64 (.p63 op a b n) = some ((if strange op a b n = true then 3 else 0, ()), ()) := by
  rw [run_z64]
  simp only [ruses h, some_bind', has_a h, has_b h, has_n h, has_p h]
  unfold strange
  cases hj : jmp op with
  | true =>
    rw [jmp_use hj h]
    cases useA op <;> cases useB op <;> by_cases ha : a = 0 <;> by_cases hb : b = 0 <;> by_cases hn : n = 0 <;> simp [ha, hb, hn]
  | false => cases useA op <;> cases useB op <;> cases useN op <;> by_cases ha : a = 0 <;> by_cases hb : b = 0 <;> by_cases hn : n = 0 <;> simp [ha, hb, hn]
theorem rcode (op a b n : Int) : run_z64 (.start op a b n) = some ((codeE op a b n, ()), ()) := by
  rw [run_z64]
  unfold codeE
  simp only [rwithin, some_bind']
  cases h : within op 0 9 with
  | false => simp
  | true =>
    have h31 : ∀ m, run_z64 (.p31 m op a b n) = some ((if (within a 0 3 && (within b 0 3 && within n 0 m)) = true then (if strange op a b n = true then 3 else 0) else 2, ()), ()) := by
      intro m
      rw [run_z64]
      simp only [rwithin, some_bind', rcode63 h]
      cases within a 0 3 <;> cases within b 0 3 <;> cases within n 0 m <;> simp
    simp only [Bool.not_true, Bool.false_eq_true, if_false, if_true, ruses h, some_bind', has_p h, h31]
    unfold mostN
    cases jmp op <;> simp

/-! ### programs -/
def codesE : List api_MachineCode → Int → Int × Int
 | [], _ => (0, 0)
 | c :: l, i => if codeE c.Op c.A c.B c.N = 0 then codesE l (i + 1) else (i, codeE c.Op c.A c.B c.N)
def progE (l : List api_MachineCode) : Int × Int := if l.length > 16 then (0, 8) else codesE l 0
theorem peach (l : List api_MachineCode) (hl : l.length ≤ 1000) : ∀ (k i : Nat), i + k = l.length → run_z27 (.p52 l (List.length l : Int) (i : Int)) = some (((codesE (l.drop i) i).1, ((codesE (l.drop i) i).2, ())), ())
 | 0, i, h => by
   rw [run_z27, List.drop_of_length_le (by omega)]
   simp [codesE, show ¬ i < l.length by omega]
 | k + 1, i, h => by
   have hi : i < l.length := by omega
   rw [run_z27]
   simp only [show (decide ((i : Int) < (List.length l : Int))) = true by simpa using hi, if_true, idx_nat, List.getElem?_eq_getElem hi, some_bind', pcode]
   rw [wrap_succ hi (by omega), peach l hl k (i + 1) (by omega), drop_cons hi]
   simp only [codesE]
   by_cases h0 : codeE l[i].Op l[i].A l[i].B l[i].N = 0 <;> simp [h0]
theorem pprog (l : List api_MachineCode) : run_z28 (.start l) = some (((progE l).1, ((progE l).2, ())), ()) := by
  simp only [run_z28]
  unfold progE
  by_cases h : l.length > 16
  · have h2 : (List.length l : Int) > 16 := by omega
    simp only [h2, h, decide_true, if_true]
  · have h2 : ¬ ((List.length l : Int) > 16) := by omega
    simp only [h2, h, decide_false, Bool.false_eq_true, if_false]
    rw [run_z27, show (0 : Int) = ((0 : Nat) : Int) from rfl, peach l (by omega) l.length 0 (by omega)]
    rfl
theorem rprog_at (l : List api_MachineCode) (hl : l.length ≤ 1000) : ∀ (k i : Nat), i + k = l.length → run_z65 (.p116 l (i : Int)) = some (((codesE (l.drop i) i).1, ((codesE (l.drop i) i).2, ())), ())
 | 0, i, h => by
   rw [run_z65, List.drop_of_length_le (by omega)]
   simp [codesE, show ¬ i < l.length by omega]
 | k + 1, i, h => by
   have hi : i < l.length := by omega
   rw [run_z65]
   simp only [show (decide ((i : Int) < (List.length l : Int))) = true by simpa using hi, if_true, idx_nat, List.getElem?_eq_getElem hi, some_bind', rcode]
   rw [wrap_succ hi (by omega), rprog_at l hl k (i + 1) (by omega), drop_cons hi]
   simp only [codesE]
   by_cases h0 : codeE l[i].Op l[i].A l[i].B l[i].N = 0 <;> simp [h0]
theorem rprog (l : List api_MachineCode) : run_z65 (.start l) = some (((progE l).1, ((progE l).2, ())), ()) := by
  rw [run_z65]
  unfold progE
  by_cases h : l.length > 16
  · have h2 : (List.length l : Int) > 16 := by omega
    simp only [h2, h, decide_true, if_true]
  · have h2 : ¬ ((List.length l : Int) > 16) := by omega
    simp only [h2, h, decide_false, Bool.false_eq_true, if_false]
    rw [show (0 : Int) = ((0 : Nat) : Int) from rfl, rprog_at l (by omega) l.length 0 (by omega)]
    rfl
theorem rcopyP {l : List api_MachineCode} (h : l.length ≤ 1000) : run_z19 (.start l) = some (((), ()), (l, ())) := by
  simp only [run_z19]
  rw [if_pos (fits_ok (by simp; omega))]
  rfl

/-! ### words -/
def wordE (op a b n : Int) : Int := op * 4096 + a * 1024 + b * 256 + n
end Go.Proofs.YtjededkgblbamaaGreatDoor.Ev.F
