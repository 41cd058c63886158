/- ParseBits and the reference agree. -/
import Derived.Test.YtcgkjbglijganaaGreatDoorPStr3
set_option linter.unusedVariables false
set_option linter.unusedSimpArgs false
set_option linter.unnecessarySimpa false
namespace Go.Proofs.YtcgkjbglijganaaGreatDoor.Ev.F
open Go.Proofs.YtcgkjbglijganaaGreatDoor.Ev

def fI : List Int → Int → Int → Int
 | [], _, _ => -1
 | c :: l, v, i => if v = c then i else fI l v (i + 1)
theorem sIdx_loop (l : List Int) (v : Int) (hl : l.length ≤ 1000) : ∀ (k i : Nat), i + k = l.length → run_slices_Index_byte_byte (.p52 l v (l.length : Int) (i : Int)) = some ((fI (l.drop i) v (i : Int), ()), ())
 | 0, i, h => by
   rw [run_slices_Index_byte_byte, if_neg (by simp; omega), List.drop_eq_nil_of_le (by omega)]
   rfl
 | k + 1, i, h => by
   have hi : i < l.length := by omega
   rw [run_slices_Index_byte_byte, if_pos (by simp; omega), idx_nat, List.getElem?_eq_getElem hi, List.drop_eq_getElem_cons hi]
   simp only [some_bind', fI]
   by_cases hv : v = l[i]
   · rw [if_pos (by simpa using hv), if_pos hv]
   · rw [if_neg (by simpa using hv), if_neg hv, wrap_i64 (x := (i : Int) + 1) (by omega) (by omega), show ((i : Int) + 1) = ((i + 1 : Nat) : Int) by omega]
     exact sIdx_loop l v hl k (i + 1) (by omega)
def byR (c : Int) : Int := if c = 98 then 2 else if c = 100 then 10 else if c = 104 then 16 else 0
theorem letters_tab : ∀ c : Nat, c < 256 → (fI glob0 c 0 = if c = 0 then 0 else if byR c = 0 then -1 else byR c) := by decide +kernel
theorem byR_cases (c : Int) : byR c = 0 ∨ ∃ b : Nat, (b = 2 ∨ b = 10 ∨ b = 16) ∧ byR c = (b : Int) := by
  unfold byR
  split
  · exact .inr ⟨2, .inl rfl, rfl⟩
  · split
    · exact .inr ⟨10, .inr (.inl rfl), rfl⟩
    · split
      · exact .inr ⟨16, .inr (.inr rfl), rfl⟩
      · exact .inl rfl
theorem numV_39 (b : Int) : ∀ (l : List Int) (last n c : Int), (39 : Int) ∈ l → numV b l last n c = none
 | ch :: l, last, n, c, h => by
   unfold numV
   by_cases h95 : ch = 95
   · rw [if_pos h95]
     have : (39 : Int) ∈ l := by
       rcases List.mem_cons.1 h with h | h
       · rw [h95] at h; exact absurd h (by decide)
       · exact h
     split
     · rfl
     · exact numV_39 b l 95 n c this
   · rw [if_neg h95]
     by_cases h39 : ch = 39
     · subst h39
       rw [if_pos (.inl (by decide))]
     · have : (39 : Int) ∈ l := by
         rcases List.mem_cons.1 h with h | h
         · exact absurd h.symm h39
         · exact h
       split
       · rfl
       · exact numV_39 b l ch _ _ this
theorem numV_cnt (b : Int) : ∀ (l : List Int) (last n c : Int) {n' k z : Int}, numV b l last n c = some (n', k, z) → c ≤ k ∧ (z ≠ 95 → last = 95 → c + 1 ≤ k)
 | [], last, n, c, n', k, z, h => by
   simp only [numV, Option.some.injEq, Prod.mk.injEq] at h
   obtain ⟨rfl, rfl, rfl⟩ := h
   exact ⟨Int.le_refl _, fun h1 h2 => absurd h2 h1⟩
 | ch :: l, last, n, c, n', k, z, h => by
   unfold numV at h
   split at h
   · split at h
     · cases h
     · obtain ⟨h1, h2⟩ := numV_cnt b l 95 n c h
       exact ⟨h1, fun hz hl => h2 hz rfl⟩
   · split at h
     · cases h
     · obtain ⟨h1, _⟩ := numV_cnt b l ch _ (c + 1) h
       exact ⟨by omega, fun _ _ => h1⟩
/-- what comes of a width and what stands behind the letter -/
def valR (w : Int) (r : Int × (Bool × Unit)) : (Int × (Int × Unit)) × (Int × Unit) := if r.2.1 = true then okR w r.1 (chk w r.1) else bad7
theorem p255_eq {b : Nat} (hb : b = 2 ∨ b = 10 ∨ b = 16) {rest : ByteArray} (h1 : 1 ≤ rest.size) (hs : rest.size ≤ 60000) (w : Int) : run_bits_ParseBits (.p255 rest w (b : Int) 0 0) = some (valR w (numR' (numV (b : Int) (strBytes (rest.extract 1 rest.size)) 95 0 0)), ()) := by
  have hz : (rest.extract 1 rest.size).size ≤ 60000 := by rw [size_ext _ h1 (Nat.le_refl _)]; omega
  rw [run_bits_ParseBits, show (1 : Int) = ((1 : Nat) : Int) from rfl, span_nat h1 (Nat.le_refl _)]
  simp only [some_bind']
  rw [number_eq hb hz]
  simp only [some_bind', unless_eq, CheckBits_eq, first2_eq, run_bits_isWidth, bwithin_eq]
  generalize numR' (numV (b : Int) (strBytes (rest.extract 1 rest.size)) 95 0 0) = r
  obtain ⟨n, ok, u⟩ := r
  unfold valR
  simp only
  cases ok with
  | false => rfl
  | true =>
    by_cases hw : 1 ≤ w ∧ w ≤ 16
    · rw [and_true' hw]
      simp only [if_true, ne_eq, not_true_eq_false, if_false]
      unfold okR
      by_cases he : chk w n = 0
      · rw [if_neg (by simpa using he), if_neg (by simpa using he)]
      · rw [if_pos (by simpa using he), if_pos he]
    · have hc : chk w n = 25 := by unfold chk; rw [if_neg hw]
      rw [and_false' hw, hc]
      rfl
theorem same_chk {w x y : Int} (h : Same x y) : okR w x (chk w x) = okR w y (chk w y) := by
  rcases h with ⟨rfl, _⟩ | ⟨rfl, h⟩
  · rfl
  · have hc : ∀ z : Int, 1048576 ≤ z → chk w z ≠ 0 ∧ chk w z = chk w 1048576 := by
      intro z hz
      unfold chk
      by_cases hw : 1 ≤ w ∧ w ≤ 16
      · have hp := pw_16 hw.2
        rw [if_pos hw, if_neg (by omega), if_pos hw, if_neg (by omega)]
        exact ⟨by decide, rfl⟩
      · rw [if_neg hw, if_neg hw]
        exact ⟨by decide, rfl⟩
    unfold okR
    rw [if_pos (hc y h).1, if_pos (hc 1048576 (by decide)).1, (hc y h).2]
/-- the two ways to read digits -/
theorem val_eq {b : Nat} (hb : b = 2 ∨ b = 10 ∨ b = 16) (l : List Int) (hl : l ≠ []) (w : Int) : valR w (numR' (numV (b : Int) l 95 0 0)) = parR w (numR (b : Int) l false 0 0) := by
  have h := num_rel (b := (b : Int)) (by omega) (by omega) l 95 false 0 0 0 rfl (.inl ⟨rfl, by decide⟩) (by decide) (by decide)
  cases hv : numV (b : Int) l 95 0 0 with
  | none =>
    rw [hv] at h
    simp only at h
    rw [h]
    rfl
  | some r =>
    obtain ⟨n, k, z⟩ := r
    rw [hv] at h
    simp only at h
    by_cases hz : z = 95
    · rw [h.1 ⟨hz, hl⟩, hz]
      rfl
    · obtain ⟨n2, h1, h2⟩ := h.2 (.inl hz)
      have hk := (numV_cnt _ _ _ _ _ hv).2 hz rfl
      rw [h1]
      have hz' : (z != 95) = true := by simpa using hz
      unfold valR numR' parR
      simp only [hz', Bool.true_and]
      by_cases h20 : 20 < k
      · rw [if_pos h20, and_false' (by omega), if_neg (by decide)]
      · rw [if_neg h20, and_true' (by omega), if_pos rfl]
        exact same_chk h2
theorem p63_eq {rest : ByteArray} (h1 : 1 ≤ rest.size) (hs : rest.size ≤ 60000) (w : Int) : run_bits_ParseBits (.p63 rest w 0 0) = if byR (bt rest 0) = 0 then some (bad7, ()) else run_bits_ParseBits (.p255 rest w (byR (bt rest 0)) 0 0) := by
  have hg : glob0.length = 17 := rfl
  have hcut : cut glob0 (0, glob0.length) = glob0 := rfl
  have z0 : ((0 : Nat) : Int) = 0 := rfl
  have h0 := bt_0 rest 0
  have h256 := bt_lt rest 0
  obtain ⟨c, hc⟩ := Int.eq_ofNat_of_zero_le h0
  have hc : bt rest 0 = (c : Int) := hc
  have hsi : sidx rest (0 : Int) = some (bt rest 0) := by rw [← z0]; exact sidx_nat h1
  have hix : run_slices_Index_byte_byte (.start glob0 (c : Int)) = some ((fI glob0 (c : Int) 0, ()), ()) := by
    rw [run_slices_Index_byte_byte]
    exact sIdx_loop glob0 (c : Int) (by decide) glob0.length 0 (by omega)
  have hsp : span (List.length glob0) (0 : Int) (List.length glob0 : Int) = some (0, glob0.length) := by rw [← z0]; exact span_nat (Nat.zero_le _) (Nat.le_refl _)
  conv => lhs; rw [run_bits_ParseBits]
  rw [hsp, hsi]
  simp only [some_bind', hcut, hc, hix]
  rw [letters_tab c (by omega)]
  by_cases hc0 : c = 0
  · subst hc0
    rw [if_pos (by decide), if_pos (by decide)]
  · rw [if_neg (by simp only [beq_iff_eq]; omega), if_neg hc0]
    by_cases hb : byR (c : Int) = 0
    · rw [if_pos hb, if_pos (by decide), if_pos hb]
    · rw [if_neg hb, if_neg hb]
      have : ¬ byR (c : Int) < 0 := by
        unfold byR
        split
        · decide
        · split
          · decide
          · split <;> decide
      rw [if_neg (by simpa using this)]
end Go.Proofs.YtcgkjbglijganaaGreatDoor.Ev.F
