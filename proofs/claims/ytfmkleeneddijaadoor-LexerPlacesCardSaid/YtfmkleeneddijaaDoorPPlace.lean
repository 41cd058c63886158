/- Places of offsets, offsets with places. -/
import Derived.Test.YtfmkleeneddijaaDoorPLex
set_option linter.unusedVariables false
set_option linter.unusedSimpArgs false
set_option linter.unnecessarySimpa false
namespace Go.Proofs.YtfmkleeneddijaaDoor.Ev.F
open Go.Proofs.YtfmkleeneddijaaDoor.Ev

/-- the place of an offset -/
def pl (s : ByteArray) : Nat → Int × Int
 | 0 => (1, 1)
 | i + 1 => if bt s i = 10 then ((pl s i).1 + 1, 1) else ((pl s i).1, (pl s i).2 + 1)
theorem pl_succ (s : ByteArray) (i : Nat) : pl s (i + 1) = if bt s i = 10 then ((pl s i).1 + 1, 1) else ((pl s i).1, (pl s i).2 + 1) := rfl
theorem pl_bound (s : ByteArray) : ∀ i, 1 ≤ (pl s i).1 ∧ (pl s i).1 ≤ i + 1 ∧ 1 ≤ (pl s i).2 ∧ (pl s i).2 ≤ i + 1
 | 0 => by simp [pl]
 | i + 1 => by
   have := pl_bound s i
   rw [pl_succ]
   split <;> simp <;> omega
/-- places ascend -/
theorem pl_lt (s : ByteArray) (i : Nat) : ∀ k, (pl s i).1 < (pl s (i + k + 1)).1 ∨ ((pl s i).1 = (pl s (i + k + 1)).1 ∧ (pl s i).2 < (pl s (i + k + 1)).2)
 | 0 => by
   show _ < (pl s (i + 1)).1 ∨ (_ = (pl s (i + 1)).1 ∧ _ < (pl s (i + 1)).2)
   rw [pl_succ]
   split <;> simp <;> omega
 | k + 1 => by
   have ih := pl_lt s i k
   have b := pl_bound s (i + k + 1)
   show _ < (pl s (i + k + 1 + 1)).1 ∨ (_ = (pl s (i + k + 1 + 1)).1 ∧ _ < (pl s (i + k + 1 + 1)).2)
   rw [show pl s (i + k + 1 + 1) = if bt s (i + k + 1) = 10 then ((pl s (i + k + 1)).1 + 1, 1) else ((pl s (i + k + 1)).1, (pl s (i + k + 1)).2 + 1) from rfl]
   split <;> simp <;> omega
theorem pl_inj {s : ByteArray} {i j : Nat} (h : pl s i = pl s j) : i = j := by
  rcases Nat.lt_trichotomy i j with h1 | h1 | h1
  · obtain ⟨k, rfl⟩ : ∃ k, j = i + k + 1 := ⟨j - i - 1, by omega⟩
    have := pl_lt s i k
    rw [h] at this; omega
  · exact h1
  · obtain ⟨k, rfl⟩ : ∃ k, i = j + k + 1 := ⟨i - j - 1, by omega⟩
    have := pl_lt s j k
    rw [h] at this; omega

theorem Place_from {s : ByteArray} {n : Nat} (hn : n ≤ s.size) (hs : s.size ≤ 60000) : ∀ (k i : Nat), i + k = n →
    run_ratchetref05_Place (.p116 s (n : Int) (i : Int) 0 0 (pl s i).1 (pl s i).2) = some ((((pl s n).1, ((pl s n).2, ())), ()), ())
 | 0, i, h => by
   obtain rfl : i = n := by omega
   rw [run_ratchetref05_Place, if_neg (by simp)]
 | k + 1, i, h => by
   have ih := Place_from hn hs k (i + 1) (by omega)
   have b := pl_bound s i
   rw [run_ratchetref05_Place, if_pos (by simp; omega), sidx_nat (by omega)]
   simp only [some_bind']
   rw [wrap_i64 (x := (i : Int) + 1) (by omega) (by omega), wrap_i64 (by omega) (by omega), wrap_i64 (by omega) (by omega)]
   rw [show pl s (i + 1) = if bt s i = 10 then ((pl s i).1 + 1, 1) else ((pl s i).1, (pl s i).2 + 1) from rfl] at ih
   by_cases h10 : bt s i = 10
   · rw [if_pos h10] at ih
     rw [if_pos (by simpa using h10)]
     exact ih
   · rw [if_neg h10] at ih
     rw [if_neg (by simpa using h10)]
     exact ih
theorem Place_eq {s : ByteArray} {n : Nat} (hn : n ≤ s.size) (hs : s.size ≤ 60000) : run_ratchetref05_Place (.start s (n : Int)) = some ((((pl s n).1, ((pl s n).2, ())), ()), ()) := by
  rw [run_ratchetref05_Place]
  exact Place_from hn hs n 0 (by omega)

/-- what the reference finds -/
theorem Offset_from {s : ByteArray} (hs : s.size ≤ 60000) (p0 p1 : Int) : ∀ (k i : Nat), s.size + 1 = i + k → (∀ j, j < i → pl s j ≠ (p0, p1)) →
    (run_ratchetref05_Offset (.p52 s (i : Int) p0 p1) = some ((-1, ()), ()) ∧ ∀ j, j ≤ s.size → pl s j ≠ (p0, p1)) ∨
    ∃ j, j ≤ s.size ∧ pl s j = (p0, p1) ∧ run_ratchetref05_Offset (.p52 s (i : Int) p0 p1) = some (((j : Int), ()), ())
 | 0, i, h, hlt => by
   refine .inl ⟨?_, fun j hj => hlt j (by omega)⟩
   rw [run_ratchetref05_Offset, if_neg (by simp; omega)]
 | k + 1, i, h, hlt => by
   rw [run_ratchetref05_Offset, if_pos (by simp; omega), Place_eq (by omega) hs]
   simp only [some_bind']
   by_cases hp : pl s i = (p0, p1)
   · refine .inr ⟨i, by omega, hp, ?_⟩
     rw [hp, if_pos (by simp)]
   · have hb : ((pl s i).1 == p0 && ((pl s i).2 == p1 && true)) = false := by
       rw [Bool.eq_false_iff]
       intro h
       simp at h
       exact hp (by rw [← h.1, ← h.2])
     rw [if_neg (by rw [hb]; decide), wrap_i64 (by omega) (by omega)]
     exact Offset_from hs p0 p1 k (i + 1) (by omega) (fun j hj => by
       rcases Nat.lt_or_ge j i with h1 | h1
       · exact hlt j h1
       · obtain rfl : j = i := by omega
         exact hp)
theorem Offset_eq {s : ByteArray} (hs : s.size ≤ 60000) (p0 p1 : Int) :
    (run_ratchetref05_Offset (.start s p0 p1) = some ((-1, ()), ()) ∧ ∀ j, j ≤ s.size → pl s j ≠ (p0, p1)) ∨
    ∃ j, j ≤ s.size ∧ pl s j = (p0, p1) ∧ run_ratchetref05_Offset (.start s p0 p1) = some (((j : Int), ()), ()) := by
  rw [run_ratchetref05_Offset]
  exact Offset_from hs p0 p1 (s.size + 1) 0 (by omega) (fun j hj => by omega)

/-! ### the program's place -/
theorem toList_ext (s : ByteArray) (i j : Nat) : (s.extract i j).data.toList = (s.data.toList.take j).drop i := by
  rw [ByteArray.data_extract, Array.toList_extract, List.extract_eq_take_drop]
  apply List.ext_getElem?
  intro n
  simp only [List.getElem?_take, List.getElem?_drop]
  by_cases hn : n < j - i
  · rw [if_pos hn, if_pos (by omega)]
  · rw [if_neg hn, if_neg (by omega)]
theorem get_bt {s : ByteArray} {i : Nat} (h : i < s.size) (c : UInt8) : s.data.toList[i]? = some c ↔ bt s i = c.toNat := by
  have h' : i < s.data.toList.length := by rw [sizeL]; exact h
  unfold bt
  rw [List.getD, List.getElem?_eq_getElem h']
  simp only [Option.getD_some, Option.some.injEq]
  constructor
  · intro h; rw [h]
  · intro h; exact UInt8.toNat_inj.1 (by omega)
theorem count_eq {s : ByteArray} : ∀ n, n ≤ s.size → 1 + ((Go.Lib.countByte ((s.extract 0 n).data.toList) 10 : Nat) : Int) = (pl s n).1
 | 0, h => by
   rw [toList_ext]
   simp [Go.Lib.countByte, pl]
 | n + 1, h => by
   have ih := count_eq (s := s) n (by omega)
   rw [toList_ext] at ih ⊢
   simp only [List.drop_zero] at ih ⊢
   have hl : n < s.data.toList.length := by rw [sizeL]; omega
   unfold Go.Lib.countByte at ih ⊢
   rw [List.take_add_one, List.count_append]
   rw [show pl s (n + 1) = if bt s n = 10 then ((pl s n).1 + 1, 1) else ((pl s n).1, (pl s n).2 + 1) from rfl]
   by_cases h10 : bt s n = 10
   · rw [if_pos h10, (get_bt (by omega) 10).2 h10]
     simp; omega
   · rw [if_neg h10]
     have : s.data.toList[n]? ≠ some 10 := fun e => h10 ((get_bt (by omega) 10).1 e)
     rw [List.getElem?_eq_getElem hl] at this ⊢
     have h2 : s.data.toList[n] ≠ 10 := fun e => this (by rw [e])
     simp only [Option.toList_some, List.count_singleton]
     rw [if_neg (by simpa using h2)]
     simpa using ih
theorem at_bt {s : ByteArray} {j : Nat} (h : j < s.size) : ((s.data[j]!).toNat : Int) = bt s j := by
  unfold bt
  have h' : j < s.data.size := h
  rw [getElem!_pos s.data j h', List.getD, List.getElem?_eq_getElem (by rw [sizeL]; exact h)]
  simp
/-- a column is what lies behind the last line feed -/
theorem col_eq {s : ByteArray} : ∀ (n : Nat) (a : Int), n ≤ s.size → (a = -1 ∧ (∀ j, j < n → bt s j ≠ 10)) ∨ (∃ i : Nat, i < n ∧ a = i ∧ bt s i = 10 ∧ ∀ j, i < j → j < n → bt s j ≠ 10) → (n : Int) - a = (pl s n).2
 | 0, a, h, ha => by
   rcases ha with ⟨rfl, _⟩ | ⟨i, hi, _⟩
   · simp [pl]
   · omega
 | n + 1, a, h, ha => by
   rw [show pl s (n + 1) = if bt s n = 10 then ((pl s n).1 + 1, 1) else ((pl s n).1, (pl s n).2 + 1) from rfl]
   by_cases h10 : bt s n = 10
   · rw [if_pos h10]
     rcases ha with ⟨rfl, hn⟩ | ⟨i, hi, rfl, h1, h2⟩
     · exact absurd h10 (hn n (by omega))
     · have : i = n := by
         rcases Nat.lt_or_ge i n with h3 | h3
         · exact absurd h10 (h2 n h3 (by omega))
         · omega
       subst this
       simp; omega
   · rw [if_neg h10]
     have := col_eq (s := s) n a (by omega) (by
       rcases ha with ⟨rfl, hn⟩ | ⟨i, hi, rfl, h1, h2⟩
       · exact .inl ⟨rfl, fun j hj => hn j (by omega)⟩
       · refine .inr ⟨i, ?_, rfl, h1, fun j h3 h4 => h2 j h3 (by omega)⟩
         rcases Nat.lt_or_ge i n with h3 | h3
         · exact h3
         · obtain rfl : i = n := by omega
           exact absurd h1 h10)
     simp only
     omega
theorem PlaceOf_eq {s : ByteArray} (hs : s.size ≤ 60000) {n : Nat} (hn : n ≤ s.size) : run_lexer_PlaceOf (.start s (n : Int)) = some ((((pl s n).1, ((pl s n).2, ())), ((0 : Int), ())), ()) := by
  have b := pl_bound s n
  rw [run_lexer_PlaceOf]
  simp only [run_lexer_textErr]
  rw [if_neg (by simp; omega)]
  simp only [some_bind', run_lexer_within]
  rw [if_neg (by decide), if_pos (by simp)]
  simp only [some_bind']
  rw [if_neg (by simp; omega), show (0 : Int) = ((0 : Nat) : Int) from rfl, span_nat (Nat.zero_le _) hn]
  simp only [some_bind', oneRun, byteRun]
  have hsz : (s.extract 0 n).size = n := by rw [size_ext s (Nat.zero_le _) hn]; rfl
  have hlt : Nat.blt (s.extract 0 n).size 4611686018427387904 = true := by rw [hsz]; exact Nat.ble_eq_true_of_le (by omega)
  rw [hlt]
  simp only [cond_true, some_bind']
  have hc := count_eq (s := s) n hn
  have hcol : (n : Int) - Go.Lib.lastIndexByte (s.extract 0 n) 10 = (pl s n).2 := by
    refine col_eq n _ hn ?_
    have e : ∀ j, j < n → (((s.extract 0 n).data[j]!).toNat : Int) = bt s j := fun j hj => by
      rw [at_bt (by omega), bt_ext s hn (by omega), Nat.zero_add]
    rcases Go.Lib.lastIndexByte_spec (s.extract 0 n) 10 with ⟨h1, h2⟩ | ⟨i, h1, h2, h3, h4⟩
    · exact .inl ⟨h1, fun j hj => by rw [← e j hj]; exact h2 j (by omega)⟩
    · rw [hsz] at h1 h4
      exact .inr ⟨i, h1, h2, by rw [← e i h1]; exact h3, fun j h5 h6 => by rw [← e j h6]; exact h4 j h5 h6⟩
  rw [wrap_i64 (by omega) (by omega), wrap_i64 (by omega) (by omega), hc, hcol]
theorem PlaceOf_out {s : ByteArray} (hs : s.size ≤ 60000) {a : Int} (h : ¬ (0 ≤ a ∧ a ≤ s.size)) : run_lexer_PlaceOf (.start s a) = some ((((0 : Int), ((0 : Int), ())), ((2 : Int), ())), ()) := by
  rw [run_lexer_PlaceOf]
  simp only [run_lexer_textErr]
  rw [if_neg (by simp; omega)]
  simp only [some_bind', run_lexer_within]
  rw [if_neg (by decide)]
  by_cases h0 : 0 ≤ a
  · rw [if_pos (by simpa using h0)]
    simp only [some_bind']
    rw [if_pos (by simp; omega)]
  · rw [if_neg (by simpa using h0)]
    simp [some_bind']

/-! ### the program's offset, line by line -/
theorem wrap64_id {x : Int} (h0 : -9223372036854775808 ≤ x) (h1 : x < 9223372036854775808) : Go.RowKit.wrap64 x = x := by unfold Go.RowKit.wrap64; omega
/-- within a line -/
theorem pl_line {s : ByteArray} {b : Nat} (h2 : (pl s b).2 = 1) : ∀ k, (∀ j, b ≤ j → j < b + k → bt s j ≠ 10) → pl s (b + k) = ((pl s b).1, (k : Int) + 1)
 | 0, h => by rw [Nat.add_zero]; exact Prod.ext rfl (by rw [h2]; rfl)
 | k + 1, h => by
   have ih := pl_line h2 k fun j h3 h4 => h j h3 (by omega)
   show pl s (b + k + 1) = _
   rw [show pl s (b + k + 1) = if bt s (b + k) = 10 then ((pl s (b + k)).1 + 1, 1) else ((pl s (b + k)).1, (pl s (b + k)).2 + 1) from rfl, if_neg (h (b + k) (by omega) (by omega)), ih]
   simp
theorem suffix_ten {l : List UInt8} : Go.Lib.hasSuffix l [10] = true ↔ l.getLast? = some 10 := by
  unfold Go.Lib.hasSuffix
  rw [List.isSuffixOf_iff_suffix]
  constructor
  · rintro ⟨t, rfl⟩; simp
  · intro h
    obtain ⟨t, rfl⟩ := List.getLast?_eq_some_iff.1 h
    exact ⟨t, rfl⟩
theorem offGo_spec {s : ByteArray} (hs : s.size ≤ 60000) (p0 p1 : Int) : ∀ (k b : Nat), b ≤ s.size → s.size < b + k → (pl s b).2 = 1 →
    (offGo p0 p1 k (s.extract b s.size) (b : Int) (pl s b).1 = none ∧ ∀ j, b ≤ j → j ≤ s.size → pl s j ≠ (p0, p1)) ∨
    ∃ j : Nat, b ≤ j ∧ j ≤ s.size ∧ pl s j = (p0, p1) ∧ offGo p0 p1 k (s.extract b s.size) (b : Int) (pl s b).1 = some (j : Int)
 | 0, b, h1, h2, _ => by omega
 | k + 1, b, h1, h2, hc => by
   have hb := pl_bound s b
   have hsz : (s.extract b s.size).size = s.size - b := size_ext s h1 (Nat.le_refl _)
   have hbt : ∀ j, j < s.size - b → bt (s.extract b s.size) j = bt s (b + j) := fun j hj => bt_ext s (Nat.le_refl _) (by omega)
   unfold offGo
   rcases Int.lt_or_le (Go.Lib.indexByte (s.extract b s.size).data.toList 10) 0 with hneg | hpos
   · -- the last line
     have hm1 : Go.Lib.indexByte (s.extract b s.size).data.toList 10 = -1 := by
       have := Go.Lib.indexByte_ge (s.extract b s.size).data.toList 10; omega
     have hno : ∀ j, b ≤ j → j < s.size → bt s j ≠ 10 := by
       intro j h3 h4 h5
       refine Go.Lib.indexByte_none hm1 (j - b) ((get_bt (by omega) 10).2 ?_)
       rw [hbt _ (by omega), show b + (j - b) = j by omega]
       exact h5
     have hpart : offPart (s.extract b s.size) = s.extract b s.size := by unfold offPart; rw [if_pos hneg]
     have hsf : Go.Lib.hasSuffix (s.extract b s.size).data.toList [10] = false := by
       rw [Bool.eq_false_iff]
       intro h
       rw [suffix_ten, List.getLast?_eq_getElem?, sizeL, hsz] at h
       rcases Nat.eq_zero_or_pos (s.size - b) with h0 | h0
       · have : (s.extract b s.size).data.toList.length = 0 := by rw [sizeL, hsz]; exact h0
         rw [List.length_eq_zero_iff.1 this] at h
         cases h
       · exact Go.Lib.indexByte_none hm1 _ h
     have hlast : offLast (s.extract b s.size) = ((s.size - b : Nat) : Int) + 1 := by unfold offLast; rw [hsf, hsz]; rfl
     rw [hpart, if_pos hneg]
     have hline : ∀ j, b ≤ j → j ≤ s.size → pl s j = ((pl s b).1, ((j - b : Nat) : Int) + 1) := by
       intro j h3 h4
       have := pl_line hc (j - b) (fun i h5 h6 => hno i h5 (by omega))
       rwa [show b + (j - b) = j by omega] at this
     by_cases hh : offHit p0 p1 (pl s b).1 (s.extract b s.size) = true
     · rw [if_pos hh]
       unfold offHit at hh
       rw [hlast] at hh
       simp only [Bool.and_eq_true, beq_iff_eq, decide_eq_true_eq] at hh
       obtain ⟨h3, h4, h5⟩ := hh
       refine .inr ⟨b + (p1 - 1).toNat, by omega, by omega, ?_, ?_⟩
       · rw [hline _ (by omega) (by omega), h3]
         congr 1; omega
       · rw [wrap64_id (x := (b : Int) + p1) (by omega) (by omega), wrap64_id (by omega) (by omega)]
         congr 1; omega
     · rw [if_neg hh]
       refine .inl ⟨rfl, fun j h3 h4 h5 => hh ?_⟩
       rw [hline j h3 h4] at h5
       obtain ⟨e1, e2⟩ := Prod.mk.inj h5
       unfold offHit
       rw [hlast]
       simp only [Bool.and_eq_true, beq_iff_eq, decide_eq_true_eq]
       omega
   · -- a line with its line feed
     obtain ⟨o, ho⟩ := Int.eq_ofNat_of_zero_le hpos
     have ho' : Go.Lib.indexByte (s.extract b s.size).data.toList 10 = (o : Int) := ho
     obtain ⟨h3, h4⟩ := Go.Lib.indexByte_some ho'
     have hol : o < s.size - b := by
       have := (List.getElem?_eq_some_iff.1 h3).1
       rw [sizeL, hsz] at this; exact this
     have h10 : bt s (b + o) = 10 := by rw [← hbt o hol]; exact (get_bt (by omega) 10).1 h3
     have hno : ∀ j, b ≤ j → j < b + o → bt s j ≠ 10 := by
       intro j h5 h6 h7
       refine h4 (j - b) (by omega) ((get_bt (by omega) 10).2 ?_)
       rw [hbt _ (by omega), show b + (j - b) = j by omega]
       exact h7
     have hpart : offPart (s.extract b s.size) = s.extract b (b + o + 1) := by
       unfold offPart
       rw [if_neg (by omega), ho', show ((o : Int) + 1).toNat = o + 1 by omega]
       refine ext_bt ?_ fun i hi => ?_
       · rw [size_ext _ (by omega) (by omega), size_ext s (by omega) (by omega)]; omega
       · rw [size_ext _ (by omega) (by omega)] at hi
         rw [bt_ext _ (by omega) (by omega), hbt _ (by omega), bt_ext s (by omega) (by omega)]
         congr 1; omega
     have hps : (s.extract b (b + o + 1)).size = o + 1 := by rw [size_ext s (by omega) (by omega)]; omega
     have hsf : Go.Lib.hasSuffix (s.extract b (b + o + 1)).data.toList [10] = true := by
       rw [suffix_ten, List.getLast?_eq_getElem?, sizeL, hps]
       refine (get_bt (by omega) 10).2 ?_
       rw [bt_ext s (by omega) (by omega)]
       exact h10
     have hlast : offLast (s.extract b (b + o + 1)) = (o : Int) + 1 := by unfold offLast; rw [hsf, hps]; rfl
     have hline : ∀ j, b ≤ j → j ≤ b + o → pl s j = ((pl s b).1, ((j - b : Nat) : Int) + 1) := by
       intro j h5 h6
       have := pl_line hc (j - b) (fun i h7 h8 => hno i h7 (by omega))
       rwa [show b + (j - b) = j by omega] at this
     have hnext : pl s (b + o + 1) = ((pl s b).1 + 1, 1) := by
       rw [show pl s (b + o + 1) = if bt s (b + o) = 10 then ((pl s (b + o)).1 + 1, 1) else ((pl s (b + o)).1, (pl s (b + o)).2 + 1) from rfl, if_pos h10, hline (b + o) (by omega) (by omega)]
     rw [hpart]
     by_cases hh : offHit p0 p1 (pl s b).1 (s.extract b (b + o + 1)) = true
     · rw [if_pos hh]
       unfold offHit at hh
       rw [hlast] at hh
       simp only [Bool.and_eq_true, beq_iff_eq, decide_eq_true_eq] at hh
       obtain ⟨h5, h6, h7⟩ := hh
       refine .inr ⟨b + (p1 - 1).toNat, by omega, by omega, ?_, ?_⟩
       · rw [hline _ (by omega) (by omega), h5]
         congr 1; omega
       · rw [wrap64_id (x := (b : Int) + p1) (by omega) (by omega), wrap64_id (by omega) (by omega)]
         congr 1; omega
     · rw [if_neg hh, if_neg (by omega), ho', hps]
       have hrest : (s.extract b s.size).extract ((o : Int) + 1).toNat (s.extract b s.size).size = s.extract (b + o + 1) s.size := by
         rw [show ((o : Int) + 1).toNat = o + 1 by omega, hsz]
         refine ext_bt ?_ fun i hi => ?_
         · rw [size_ext _ (by omega) (by omega), size_ext s (by omega) (by omega)]; omega
         · rw [size_ext _ (by omega) (by omega)] at hi
           rw [bt_ext _ (by omega) (by omega), hbt _ (by omega), bt_ext s (by omega) (by omega)]
           congr 1; omega
       have hskip : ∀ j, b ≤ j → j ≤ b + o → pl s j ≠ (p0, p1) := by
         intro j h5 h6 h7
         refine hh ?_
         rw [hline j h5 h6] at h7
         obtain ⟨e1, e2⟩ := Prod.mk.inj h7
         unfold offHit
         rw [hlast]
         simp only [Bool.and_eq_true, beq_iff_eq, decide_eq_true_eq]
         omega
       have ih := offGo_spec hs p0 p1 k (b + o + 1) (by omega) (by omega) (by rw [hnext])
       rw [hnext] at ih
       rw [hrest, wrap64_id (by omega) (by omega), wrap64_id (by omega) (by omega), show ((b : Int) + ((o + 1 : Nat) : Int)) = ((b + o + 1 : Nat) : Int) by omega]
       rcases ih with ⟨h5, h6⟩ | ⟨j, h5, h6, h7, h8⟩
       · refine .inl ⟨h5, fun j h7 h8 => ?_⟩
         rcases Nat.lt_or_ge (b + o) j with h9 | h9
         · exact h6 j (by omega) h8
         · exact hskip j h7 h9
       · exact .inr ⟨j, by omega, h6, h7, h8⟩
theorem ext_self (s : ByteArray) : s.extract 0 s.size = s := by
  refine ext_bt (by rw [size_ext s (Nat.zero_le _) (Nat.le_refl _)]; rfl) fun i hi => ?_
  rw [size_ext s (Nat.zero_le _) (Nat.le_refl _)] at hi
  rw [bt_ext s (Nat.le_refl _) (by omega), Nat.zero_add]
theorem offRun_spec {s : ByteArray} (hs : s.size ≤ 60000) (p0 p1 : Int) :
    (offRun (s, (p0, p1, ()), ()) () = some ((0, 6, ()), ()) ∧ ∀ j, j ≤ s.size → pl s j ≠ (p0, p1)) ∨
    ∃ j : Nat, j ≤ s.size ∧ pl s j = (p0, p1) ∧ offRun (s, (p0, p1, ()), ()) () = some (((j : Int), 0, ()), ()) := by
  have h := offGo_spec hs p0 p1 (s.size + 1) 0 (Nat.zero_le _) (by omega) rfl
  have e : (pl s 0).1 = 1 := rfl
  rw [ext_self, e] at h
  unfold offRun
  have hb : Nat.ble s.size 60000 = true := Nat.ble_eq_true_of_le hs
  simp only [hb, cond_true]
  rcases h with ⟨h1, h2⟩ | ⟨j, _, h1, h2, h3⟩
  · refine .inl ⟨?_, fun j hj => h2 j (Nat.zero_le _) hj⟩
    have h1 : offGo p0 p1 (s.size + 1) s 0 1 = none := h1
    rw [h1]; rfl
  · refine .inr ⟨j, h1, h2, ?_⟩
    have h3 : offGo p0 p1 (s.size + 1) s 0 1 = some (j : Int) := h3
    rw [h3]; rfl

theorem Within_eq (n lo hi : Int) : run_ratchetbase_Within (.start n lo hi) = some ((decide (lo ≤ n) && decide (n ≤ hi), ()), ()) := by
  rw [run_ratchetbase_Within]
  by_cases h : lo ≤ n <;> simp [h]
/-- what is asked last -/
theorem places_last {s : ByteArray} (hs : s.size ≤ 60000) {n : Nat} (hn : n ≤ s.size) : run_ratchetlaw05_LexerPlaces (.p511 s (n : Int) (pl s n).1 (pl s n).2) = some ((true, ()), ()) := by
  have b := pl_bound s n
  rw [run_ratchetlaw05_LexerPlaces]
  rcases offRun_spec hs (pl s n).1 (pl s n).2 with ⟨_, h⟩ | ⟨j, h1, h2, h3⟩
  · exact absurd rfl (h n hn)
  · obtain rfl : j = n := pl_inj h2
    rw [h3]
    simp only [some_bind']
    rw [if_neg (by decide), if_neg (by simp), run_ratchetlaw05_LexerPlaces]
    by_cases he : j = s.size
    · rw [if_pos (by simp [he])]
    · rw [if_neg (by simp; omega), wrap_i64 (by omega) (by omega), show ((j : Int) + 1) = ((j + 1 : Nat) : Int) by omega, PlaceOf_eq hs (by omega)]
      simp only [some_bind']
      rw [if_pos (by decide), wrap_i64 (by omega) (by omega), wrap_i64 (by omega) (by omega), pl_succ]
      by_cases h10 : bt s j = 10
      · simp only [if_pos h10]
        rw [if_neg (by simp; omega), if_pos (by simp)]
        simp
      · simp only [if_neg h10]
        rw [if_pos (by simp), if_pos (by simp)]
theorem places_mid {s : ByteArray} (hs : s.size ≤ 60000) (a : Int) : ∃ e p0 p1, run_lexer_PlaceOf (.start s a) = some (((p0, (p1, ())), (e, ())), ()) ∧ run_ratchetlaw05_LexerPlaces (.p127 s a e p0 p1) = some ((true, ()), ()) := by
  by_cases h : 0 ≤ a ∧ a ≤ s.size
  · obtain ⟨n, rfl⟩ := Int.eq_ofNat_of_zero_le h.1
    have hn : n ≤ s.size := by omega
    refine ⟨_, _, _, PlaceOf_eq hs hn, ?_⟩
    rw [run_ratchetlaw05_LexerPlaces, Within_eq]
    simp only [some_bind']
    rw [if_neg (by simp; omega), if_neg (by decide), Place_eq hn hs]
    simp only [some_bind']
    rw [if_neg (by simp)]
    exact places_last hs hn
  · refine ⟨_, _, _, PlaceOf_out hs h, ?_⟩
    rw [run_ratchetlaw05_LexerPlaces, Within_eq]
    simp only [some_bind']
    rw [if_pos (by simp; omega), if_pos (by decide)]
    rfl
theorem places_true (s : ByteArray) (a p0 p1 : Int) : run_ratchetlaw05_LexerPlaces (.start s a p0 p1) = some ((true, ()), ()) := by
  rw [run_ratchetlaw05_LexerPlaces]
  simp only [some_bind', Bool.not_true, Bool.false_eq_true, if_false]
  split
  · rfl
  · rename_i hs
    have hs : s.size ≤ 60000 := by simp at hs; omega
    obtain ⟨e, q0, q1, h1, h2⟩ := places_mid hs a
    rw [h1]
    simp only [some_bind']
    rcases offRun_spec hs p0 p1 with ⟨h3, h4⟩ | ⟨j, h3, h4, h5⟩
    · rcases Offset_eq hs p0 p1 with ⟨h6, _⟩ | ⟨i, h6, h7, _⟩
      · rw [h3, h6]
        simp only [some_bind']
        rw [if_pos (by decide), if_neg (by decide), if_neg (by decide), if_neg (by decide)]
        exact h2
      · exact absurd h7 (h4 i h6)
    · rcases Offset_eq hs p0 p1 with ⟨_, h6⟩ | ⟨i, h6, h7, h8⟩
      · exact absurd h4 (h6 j h3)
      · obtain rfl : i = j := pl_inj (h7.trans h4.symm)
        rw [h5, h8]
        simp only [some_bind']
        rw [if_neg (by simp), if_pos (by simp), if_neg (by decide), if_neg (by simp)]
        exact h2
end Go.Proofs.YtfmkleeneddijaaDoor.Ev.F
