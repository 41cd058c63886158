/- Strings cut at a byte: strings.Split and the reference's Cut. -/
import Derived.Test.YtjededkgblbamaaGreatDoorTPTxt1
set_option linter.unusedVariables false
set_option linter.unusedSimpArgs false
set_option linter.unnecessarySimpa false
namespace Go.Proofs.YtjededkgblbamaaGreatDoor.Ev.F
open Go.Proofs.YtjededkgblbamaaGreatDoor.Ev

def glue {α : Type} (p : List α) : List (List α) → List (List α)
 | [] => [p]
 | x :: r => (p ++ x) :: r
def cutL (c : UInt8) : List UInt8 → List (List UInt8)
 | [] => [[]]
 | b :: l => if b = c then [] :: cutL c l else glue [b] (cutL c l)
theorem cutL_ne (c : UInt8) : ∀ l, cutL c l ≠ []
 | [] => by simp [cutL]
 | b :: l => by
   unfold cutL
   split
   · simp
   · cases cutL c l <;> simp [glue]
theorem glue_glue {α : Type} (p q : List α) (l : List (List α)) (h : l ≠ []) : glue p (glue q l) = glue (p ++ q) l := by
  cases l with
  | nil => exact absurd rfl h
  | cons x r => simp [glue]
theorem glue_nil {α : Type} (l : List (List α)) (h : l ≠ []) : glue [] l = l := by
  cases l with
  | nil => exact absurd rfl h
  | cons x r => rfl
theorem cutL_len (c : UInt8) : ∀ l, ∀ x ∈ cutL c l, x.length ≤ l.length
 | [], x, h => by simp [cutL] at h; simp [h]
 | b :: l, x, h => by
   have ih := cutL_len c l
   unfold cutL at h
   split at h
   · rcases List.mem_cons.1 h with rfl | h
     · simp
     · have := ih x h; simp; omega
   · cases hc : cutL c l with
     | nil => exact absurd hc (cutL_ne c l)
     | cons y r =>
       rw [hc] at h ih
       rcases List.mem_cons.1 h with rfl | h
       · have := ih y (List.mem_cons_self ..); simp; omega
       · have := ih x (List.mem_cons_of_mem _ h); simp; omega
theorem cutL_count (c : UInt8) : ∀ l, (cutL c l).length ≤ l.length + 1
 | [] => by simp [cutL]
 | b :: l => by
   have ih := cutL_count c l
   unfold cutL
   split
   · simp; omega
   · cases hc : cutL c l with
     | nil => simp [glue]
     | cons y r => rw [hc] at ih; simp [glue] at ih ⊢; omega
def toB (l : List UInt8) : ByteArray := ⟨l.toArray⟩
theorem toB_data (l : List UInt8) : (toB l).data.toList = l := rfl
theorem toB_of (s : ByteArray) : toB s.data.toList = s := byte_ext rfl
theorem toB_size (l : List UInt8) : (toB l).size = l.length := rfl
def cuts (c : UInt8) (s : ByteArray) : List ByteArray := (cutL c s.data.toList).map toB
theorem cuts_ne (c : UInt8) (s : ByteArray) : cuts c s ≠ [] := by
  unfold cuts
  intro h
  exact cutL_ne c _ (List.map_eq_nil_iff.1 h)
theorem cuts_size {c : UInt8} {s x : ByteArray} (h : x ∈ cuts c s) : x.size ≤ s.size := by
  unfold cuts at h
  obtain ⟨l, hl, rfl⟩ := List.mem_map.1 h
  have := cutL_len c _ l hl
  rw [sizeL] at this
  exact this
theorem cuts_count (c : UInt8) (s : ByteArray) : (cuts c s).length ≤ s.size + 1 := by
  unfold cuts
  rw [List.length_map]
  have := cutL_count c s.data.toList
  rw [sizeL] at this
  exact this
theorem splitK_cut (c : UInt8) : ∀ l : List UInt8, Lib.splitK [c] 0 (Lib.count l [c]) l = cutL c l
 | [] => by rw [Lib.count_one]; rfl
 | b :: l => by
   have ih := splitK_cut c l
   by_cases h : b = c
   · subst h
     have hi : Lib.index (b :: l) [b] = 0 := by rw [Lib.index_one]; simp [Lib.indexByte]
     rw [Lib.count_cons_eq, Nat.add_comm, Lib.splitK, hi, cutL, if_pos rfl]
     simp
     exact ih
   · rw [Lib.count_cons_ne b c l h, cutL, if_neg h, ← ih]
     have hi : Lib.index (b :: l) [c] = if Lib.index l [c] == -1 then -1 else Lib.index l [c] + 1 := by
       rw [Lib.index_one, Lib.index_one, Lib.indexByte, if_neg (by simpa using h)]
     cases hk : Lib.count l [c] with
     | zero => rfl
     | succ k =>
       rw [Lib.splitK, Lib.splitK, hi]
       have hge := Lib.index_ge l [c]
       by_cases hm : Lib.index l [c] = -1
       · rw [hm]; rfl
       · have e1 : (Lib.index l [c] == -1) = false := by simpa using hm
         have e2 : (Lib.index l [c] + 1 == -1) = false := by simp; omega
         simp only [e1, Bool.false_eq_true, if_false, e2]
         have e3 : (Lib.index l [c] + 1).toNat = (Lib.index l [c]).toNat + 1 := by omega
         rw [e3]
         simp [glue]
theorem split_eq (s : ByteArray) (c : UInt8) (hs : s.size ≤ 60010) : splitRun (s, ⟨#[c]⟩, ()) () = some ((cuts c s, ()), ()) := by
  unfold splitRun
  have hb : Nat.blt s.size 4294967281 = true := Nat.ble_eq_true_of_le (by omega)
  simp only [hb, cond_true]
  congr 3
  have h1 := Lib.splitB_data ⟨#[c]⟩ 0 (Lib.countB s ⟨#[c]⟩) s
  have h2 : Lib.countB s ⟨#[c]⟩ = Lib.count s.data.toList [c] := rfl
  rw [h2] at h1 ⊢
  have h3 : (⟨#[c]⟩ : ByteArray).data.toList = [c] := rfl
  rw [h3, splitK_cut] at h1
  unfold cuts
  rw [← h1, List.map_map]
  have : (toB ∘ fun x : ByteArray => x.data.toList) = id := by funext x; exact toB_of x
  rw [this, List.map_id]
theorem ext_data (s : ByteArray) (i j : Nat) : (s.extract i j).data.toList = (s.data.toList.take j).drop i := by
  rw [ByteArray.data_extract, Array.toList_extract, List.extract_eq_take_drop]
  apply List.ext_getElem?
  intro n
  simp only [List.getElem?_take, List.getElem?_drop]
  by_cases hn : n < j - i
  · rw [if_pos hn, if_pos (by omega)]
  · rw [if_neg hn, if_neg (by omega)]
theorem cut_at (s : ByteArray) (c : UInt8) (hs : s.size ≤ 60010) : ∀ (k i f : Nat) (B : List ByteArray), i + k = s.size → f ≤ i → B.length ≤ f →
    run_ratchetbase_Cut (.p244 s (c.toNat : Int) (f : Int) (i : Int) B) = some (((), ()), (B ++ (glue ((s.data.toList.take i).drop f) (cutL c (s.data.toList.drop i))).map toB, ()))
 | 0, i, f, B, h, hf, hB => by
   rw [run_ratchetbase_Cut, if_neg (by simp; omega), span_nat (by omega) (by omega)]
   simp only [some_bind']
   have hz : s.data.toList.drop i = [] := List.drop_of_length_le (by rw [sizeL]; omega)
   rw [if_pos (fits_ok (by simp; omega)), hz]
   have : s.extract f s.size = toB ((s.data.toList.take i).drop f) := byte_ext (by rw [ext_data, toB_data, show i = s.size by omega])
   rw [this]
   simp [cutL, glue]
 | k + 1, i, f, B, h, hf, hB => by
   have hi : i < s.size := by omega
   obtain ⟨b, h1, h2, h3⟩ := drop_bt hi
   rw [run_ratchetbase_Cut, if_pos (by simp; omega), sidx_nat hi, h3, h2, cutL]
   simp only [some_bind']
   have ht : s.data.toList.take (i + 1) = s.data.toList.take i ++ [b] := by
     rw [List.take_add_one, h1]; rfl
   have hl : (s.data.toList.take i).length = i := by rw [List.length_take, sizeL]; omega
   by_cases hb : b = c
   · subst hb
     rw [if_pos (by simp), span_nat hf (by omega)]
     simp only [some_bind']
     rw [if_pos (fits_ok (by simp; omega)), wrap_succ hi (by omega), cut_at s b hs k (i + 1) (i + 1) _ (by omega) (by omega) (by simp; omega), if_pos trivial]
     have : s.extract f i = toB ((s.data.toList.take i).drop f) := byte_ext (by rw [ext_data, toB_data])
     have hz : (s.data.toList.take (i + 1)).drop (i + 1) = [] := List.drop_of_length_le (by rw [List.length_take]; omega)
     rw [this, hz, glue_nil _ (cutL_ne b _)]
     simp [glue]
   · have hne : ¬ ((b.toNat : Int) == (c.toNat : Int)) = true := by
       simp only [beq_iff_eq]
       intro e
       exact hb (UInt8.toNat_inj.1 (by omega))
     rw [if_neg hne, wrap_succ hi (by omega), cut_at s c hs k (i + 1) f B (by omega) (by omega) hB, if_neg hb, glue_glue _ _ _ (cutL_ne c _), ht, List.drop_append_of_le_length (by omega)]
theorem rcut_eq (s : ByteArray) (c : UInt8) (hs : s.size ≤ 60010) : run_ratchetbase_Cut (.start s (c.toNat : Int)) = some (((), ()), (cuts c s, ())) := by
  rw [run_ratchetbase_Cut]
  have := cut_at s c hs s.size 0 0 [] (by omega) (by omega) (by simp)
  rw [List.take_zero, List.drop_nil, List.drop_zero, glue_nil _ (cutL_ne c _)] at this
  exact this
end Go.Proofs.YtjededkgblbamaaGreatDoor.Ev.F
