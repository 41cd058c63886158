/- ParseBits and the reference agree. -/
import Derived.Test.YtcgkjbglijganaaGreatDoorPStr2
set_option linter.unusedVariables false
set_option linter.unusedSimpArgs false
set_option linter.unnecessarySimpa false
namespace Go.Proofs.YtcgkjbglijganaaGreatDoor.Ev.F
open Go.Proofs.YtcgkjbglijganaaGreatDoor.Ev

/-! ### cut at quotes -/
def cutS (s : ByteArray) : Nat → Nat → Nat → List ByteArray
 | 0, f, i => [s.extract f s.size]
 | k + 1, f, i => if bt s i = 39 then s.extract f i :: cutS s k (i + 1) (i + 1) else cutS s k f (i + 1)
theorem cut_eq {s : ByteArray} (hs : s.size ≤ 60000) : ∀ (k f i : Nat) (B : List ByteArray), i + k = s.size → f ≤ i → B.length ≤ i → run_ratchetbase_Cut (.p244 s 39 (f : Int) (i : Int) B) = some (((), ()), (B ++ cutS s k f i, ())) := by
  intro k
  induction k with
  | zero =>
    intro f i B h hf hB
    rw [run_ratchetbase_Cut, if_neg (by simp; omega), span_nat (by omega) (Nat.le_refl _)]
    simp only [some_bind']
    rw [if_pos (fits_one 16 (by simp; omega))]
    rfl
  | succ k ih =>
    intro f i B h hf hB
    have hi : i < s.size := by omega
    rw [run_ratchetbase_Cut, if_pos (by simp; omega), sidx_nat hi]
    simp only [some_bind', cutS]
    rw [wrap_i64 (x := (i : Int) + 1) (by omega) (by omega), show ((i : Int) + 1) = ((i + 1 : Nat) : Int) by omega]
    by_cases hb : bt s i = 39
    · rw [if_pos (by simpa using hb), if_pos hb, span_nat hf (by omega)]
      simp only [some_bind']
      rw [if_pos (fits_one 16 (by simp; omega)), ih (i + 1) (i + 1) _ (by omega) (Nat.le_refl _) (by simp; omega), List.append_assoc]
      rfl
    · rw [if_neg (by simpa using hb), if_neg hb]
      exact ih f (i + 1) B (by omega) (by omega) (by omega)
theorem cutS_pos (s : ByteArray) : ∀ (k f i : Nat), 1 ≤ (cutS s k f i).length
 | 0, f, i => by simp [cutS]
 | k + 1, f, i => by
   unfold cutS
   split
   · simp
   · exact cutS_pos s k f (i + 1)
theorem idx_step {s : ByteArray} {i : Nat} (hi : i < s.size) : Lib.indexByte (s.data.toList.drop i) 39 = if bt s i = 39 then 0 else if Lib.indexByte (s.data.toList.drop (i + 1)) 39 = -1 then -1 else Lib.indexByte (s.data.toList.drop (i + 1)) 39 + 1 := by
  obtain ⟨c, h1, h2, h3⟩ := drop_bt hi
  rw [h3, h2]
  simp only [Lib.indexByte]
  by_cases hc : c = 39
  · subst hc
    rw [if_pos (by decide), if_pos (by decide)]
  · have hc' : ¬ (c.toNat : Int) = 39 := fun h => hc (UInt8.toNat_inj.1 (by show c.toNat = 39; omega))
    have e : (c == 39) = false := beq_eq_false_iff_ne.2 hc
    rw [e, if_neg (by decide), if_neg hc']
    by_cases hn : Lib.indexByte (s.data.toList.drop (i + 1)) 39 = -1
    · rw [hn]; rfl
    · have e2 : (Lib.indexByte (s.data.toList.drop (i + 1)) 39 == -1) = false := beq_eq_false_iff_ne.2 hn
      rw [e2, if_neg (by decide), if_neg hn]
theorem cutS_succ (s : ByteArray) (k f i : Nat) : cutS s (k + 1) f i = if bt s i = 39 then s.extract f i :: cutS s k (i + 1) (i + 1) else cutS s k f (i + 1) := rfl
theorem cutS_none {s : ByteArray} : ∀ (k f i : Nat), i + k = s.size → Lib.indexByte (s.data.toList.drop i) 39 < 0 → cutS s k f i = [s.extract f s.size]
 | 0, f, i, h, hn => rfl
 | k + 1, f, i, h, hn => by
   have hge := Lib.indexByte_ge (s.data.toList.drop (i + 1)) 39
   rw [idx_step (s := s) (i := i) (by omega)] at hn
   unfold cutS
   split at hn
   · omega
   · rename_i hb
     rw [if_neg hb]
     refine cutS_none k f (i + 1) (by omega) ?_
     split at hn <;> omega
theorem cutS_some {s : ByteArray} : ∀ (k f i o : Nat), i + k = s.size → Lib.indexByte (s.data.toList.drop i) 39 = (o : Int) → ∃ k', i + o + 1 + k' = s.size ∧ cutS s k f i = s.extract f (i + o) :: cutS s k' (i + o + 1) (i + o + 1)
 | 0, f, i, o, h, hn => by
   rw [List.drop_eq_nil_of_le (by rw [sizeL]; omega)] at hn
   simp [Lib.indexByte] at hn
 | k + 1, f, i, o, h, hn => by
   have hge := Lib.indexByte_ge (s.data.toList.drop (i + 1)) 39
   rw [idx_step (s := s) (i := i) (by omega)] at hn
   rw [cutS_succ]
   split at hn
   · rename_i hb
     obtain rfl : o = 0 := by omega
     rw [if_pos hb]
     exact ⟨k, by omega, rfl⟩
   · rename_i hb
     rw [if_neg hb]
     split at hn
     · omega
     · obtain ⟨k', h1, h2⟩ := cutS_some (s := s) k f (i + 1) (o - 1) (by omega) (by omega)
       refine ⟨k', by omega, ?_⟩
       rw [h2, show i + 1 + (o - 1) = i + o by omega]

/-! ### widths -/
theorem dd_first : ∀ (u : Nat), ∃ c r, Lib.decDigits u = c :: r ∧ 48 ≤ c.toNat ∧ c.toNat ≤ 57 := by
  intro u
  induction u using Nat.strongRecOn with
  | ind u ih =>
    rw [Lib.decDigits]
    by_cases h : u < 10
    · rw [dif_pos h]
      refine ⟨_, _, rfl, ?_⟩
      rw [UInt8.toNat_ofNat']
      omega
    · rw [dif_neg h]
      obtain ⟨c, r, h1, h2, h3⟩ := ih (u / 10) (by omega)
      exact ⟨c, r ++ [UInt8.ofNat (48 + u % 10)], by rw [h1]; rfl, h2, h3⟩
theorem natOk_of {s : ByteArray} (h1 : (atoiN s).2 = false) (h2 : deci (natN s) = s) (h3 : s.size ≤ 2) (h4 : 0 ≤ natN s) : natOk s = true := by
  obtain ⟨u, hu⟩ := Int.eq_ofNat_of_zero_le h4
  obtain ⟨c, r, g1, g2, g3⟩ := dd_first u
  have hd : s.data.toList = c :: r := by
    rw [← h2, deci_data, hu]
    show Lib.itoa (u : Int) = _
    rw [Lib.itoa_nonneg, g1]
  have hb : bt s 0 = (c.toNat : Int) := bt_get (by rw [hd]; rfl)
  unfold natOk
  rw [h1, h2, seq_self, hb]
  have : isDig (c.toNat : Int) = true := by unfold isDig; simp; omega
  rw [this]
  simp
  omega
theorem Number2_eq {s : ByteArray} (hs : s.size ≤ 60000) : ∃ (x : Int) (ok : Bool), run_ratchetbase_Number (.start s 2) = some ((x, (ok, ())), ()) ∧ (ok = true → 0 ≤ x → natOk s = true ∧ s.size ≤ 2 ∧ x = natN s) ∧ (natOk s = true → s.size ≤ 2 → ok = true ∧ x = natN s) := by
  have z0 : ((0 : Nat) : Int) = 0 := rfl
  have z1 : ((1 : Nat) : Int) = 1 := rfl
  have no : ∀ (hn : natOk s = true → ¬ s.size ≤ 2), run_ratchetbase_Number (.start s 2) = some ((0, (false, ())), ()) → ∃ (x : Int) (ok : Bool), run_ratchetbase_Number (.start s 2) = some ((x, (ok, ())), ()) ∧ (ok = true → 0 ≤ x → natOk s = true ∧ s.size ≤ 2 ∧ x = natN s) ∧ (natOk s = true → s.size ≤ 2 → ok = true ∧ x = natN s) :=
    fun hn h => ⟨0, false, h, fun h => by (cases h), fun h1 h2 => absurd h2 (hn h1)⟩
  by_cases h0 : s.size = 0
  · have hn : natOk s = false := by
      cases hk : natOk s with
      | false => rfl
      | true =>
        have := (natOk_dig hk).2.1
        unfold bt at this
        rw [List.getD, List.getElem?_eq_none (by rw [sizeL]; omega)] at this
        exact absurd this (by decide)
    refine no (fun h => by rw [hn] at h; cases h) ?_
    rw [run_ratchetbase_Number, if_neg (by rw [h0]; decide), run_ratchetbase_Number, if_pos (by rw [h0]; decide)]
  have hpos : 0 < s.size := by omega
  obtain ⟨c, h1, h2, h3⟩ := drop_bt hpos
  rw [List.drop_zero] at h3
  have hst : run_ratchetbase_Number (.start s 2) = run_ratchetbase_Number (.p15 s 2 (if c.toNat = 45 then 1 else 0)) := by
    conv => lhs; rw [run_ratchetbase_Number]
    rw [if_pos (by simp; omega), ← z0, sidx_nat hpos]
    simp only [some_bind', h2]
    by_cases hm : c.toNat = 45
    · rw [if_pos (by simp; omega), if_pos hm]
    · rw [if_neg (by simp; omega), if_neg hm]
  have hp : ∀ (a : Nat), a ≤ s.size → run_ratchetbase_Number (.p15 s 2 (a : Int)) = if s.size = a then some ((0, (false, ())), ()) else if 2 < s.size - a then some ((0, (false, ())), ()) else (if bt s a = 48 ∧ 1 < s.size then some ((0, (false, ())), ()) else run_ratchetbase_Number (.p1012 s (a : Int) 0 (a : Int))) := by
    intro a ha
    conv => lhs; rw [run_ratchetbase_Number]
    by_cases e1 : s.size = a
    · rw [if_pos (by simp; omega), if_pos e1]
    · rw [if_neg (by simp; omega), if_neg e1, wrap_i64 (x := (s.size : Int) - (a : Int)) (by omega) (by omega)]
      by_cases e2 : 2 < s.size - a
      · rw [if_pos (by simp; omega), if_pos e2]
      · rw [if_neg (by simp; omega), if_neg e2, sidx_nat (by omega)]
        simp only [some_bind']
        by_cases e3 : bt s a = 48
        · rw [if_pos (by simpa using e3)]
          by_cases e4 : 1 < s.size
          · rw [if_pos (by simp; omega), if_pos ⟨e3, e4⟩]
          · rw [if_neg (by simp; omega), if_neg (fun h => e4 h.2), run_ratchetbase_Number]
        · rw [if_neg (by simpa using e3), if_neg (fun h => e3 h.1), run_ratchetbase_Number]
  by_cases hm : c.toNat = 45
  · have hn : natOk s = false := by
      cases hk : natOk s with
      | false => rfl
      | true =>
        have := (natOk_dig hk).2.1
        rw [h2, hm] at this
        exact absurd this (by decide)
    have hn' : natOk s = true → ¬ s.size ≤ 2 := fun h => by rw [hn] at h; cases h
    have h15 := hp 1 (by omega)
    rw [if_pos hm] at hst
    rw [z1] at h15
    rw [h15] at hst
    by_cases e1 : s.size = 1
    · rw [if_pos e1] at hst; exact no hn' hst
    · rw [if_neg e1] at hst
      by_cases e2 : 2 < s.size - 1
      · rw [if_pos e2] at hst; exact no hn' hst
      · rw [if_neg e2] at hst
        by_cases e3 : bt s 1 = 48 ∧ 1 < s.size
        · rw [if_pos e3] at hst; exact no hn' hst
        · rw [if_neg e3] at hst
          have hl := num_loop (s := s) (by omega) 1 (s.size - 1) 1 0 (by omega) (by decide)
          rw [z0, z1] at hl
          rw [hl] at hst
          obtain ⟨c1, g1, g2, g3⟩ := drop_bt (s := s) (i := 1) (by omega)
          rw [g3] at hst
          simp only [Lib.decFrom] at hst
          cases hd : Lib.digitVal c1 with
          | none => rw [hd] at hst; exact no hn' hst
          | some d =>
            obtain ⟨d0, d1, d2⟩ := digitVal_iff.1 hd
            rw [hd] at hst
            simp only at hst
            cases hf : Lib.decFrom (0 * 10 + d) (s.data.toList.drop (1 + 1)) with
            | none => rw [hf] at hst; exact no hn' hst
            | some m =>
              have hge := decFrom_ge _ _ _ hf
              rw [hf] at hst
              refine ⟨-(m : Int), true, hst, fun _ hx => ?_, fun h => by rw [hn] at h; cases h⟩
              have : ¬ (c1.toNat = 48) := fun h => e3 ⟨by rw [g2, h]; rfl, by omega⟩
              omega
  · rw [if_neg hm] at hst
    have h15 := hp 0 (by omega)
    rw [z0] at h15
    rw [h15, if_neg h0, Nat.sub_zero] at hst
    by_cases e2 : 2 < s.size
    · rw [if_pos e2] at hst; exact no (fun _ => by omega) hst
    · rw [if_neg e2] at hst
      by_cases hz : bt s 0 = 48 ∧ 1 < s.size
      · rw [if_pos hz] at hst
        refine no (fun hk => ?_) hst
        have k1 := (natOk_dig hk).1
        have k2 := congrArg (fun b : ByteArray => b.data.toList) k1
        simp only [deci_data] at k2
        have k3 : Lib.itoa (natN s) = Lib.decDigits (natN s).toNat := by
          unfold Lib.itoa
          rw [if_neg (by have := natN_ge hk; omega)]
        rw [k3, h3] at k2
        have hc48 : c = 48 := UInt8.toNat_inj.1 (by
          have := hz.1
          rw [h2] at this
          show c.toNat = 48
          omega)
        have k4 := (dd_dig _ _ _ k2 hc48).2
        have k5 := congrArg List.length k4
        rw [List.length_drop, sizeL] at k5
        simp at k5
        omega
      · rw [if_neg hz] at hst
        have hl := num_loop (s := s) (by omega) 0 s.size 0 0 (by omega) (by decide)
        rw [z0] at hl
        rw [hl, List.drop_zero] at hst
        cases hf : Lib.decFrom 0 s.data.toList with
        | none =>
          rw [hf] at hst
          refine no (fun hk => ?_) hst
          have hdig := (natOk_dig hk).2.1
          have hc45 : (c == 45) = false := beq_eq_false_iff_ne.2 fun h => hm (by rw [h]; rfl)
          have hc43 : (c == 43) = false := beq_eq_false_iff_ne.2 fun h => by
            rw [h2, h] at hdig
            exact absurd hdig (by decide)
          have hat : Lib.atoi s.data.toList = none := by
            rw [h3]
            simp only [Lib.atoi, hc45, hc43, Bool.false_eq_true, if_false]
            rw [← h3]
            unfold Lib.decNat
            rw [if_neg (by rw [h3]; exact Bool.false_ne_true), hf]
            rfl
          have hN : atoiN s = (0, true) := by rw [atoiN_short (by omega), hat]
          have := natOk_ge hk
          rw [hN] at this
          cases this
        | some m =>
          rw [hf] at hst
          have hst : run_ratchetbase_Number (.start s 2) = some (((m : Int), (true, ())), ()) := hst
          have hne : s.data.toList ≠ [] := by rw [h3]; exact List.cons_ne_nil _ _
          have hcan : s.data.toList = [48] ∨ ∀ r, s.data.toList ≠ 48 :: r := by
            by_cases h48 : c.toNat = 48
            · refine .inl ?_
              have : ¬ 1 < s.size := fun h => hz ⟨by rw [h2, h48]; rfl, h⟩
              rw [h3, UInt8.toNat_inj.1 (show c.toNat = (48 : UInt8).toNat from h48), List.drop_eq_nil_of_le (by rw [sizeL]; omega)]
            · refine .inr fun r hr => h48 ?_
              rw [h3] at hr
              have : c = 48 := by injection hr
              rw [this]; rfl
          have hdd := dd_val _ _ m rfl hf hne hcan
          have hdig : isDig (bt s 0) = true := by
            rw [h3] at hf
            simp only [Lib.decFrom] at hf
            cases hd : Lib.digitVal c with
            | none => rw [hd] at hf; cases hf
            | some d =>
              obtain ⟨d0, d1, d2⟩ := digitVal_iff.1 hd
              rw [h2]
              unfold isDig
              simp
              omega
          have hc45 : (c == 45) = false := beq_eq_false_iff_ne.2 fun h => hm (by rw [h]; rfl)
          have hc43 : (c == 43) = false := beq_eq_false_iff_ne.2 fun h => by
            rw [h2, h] at hdig
            exact absurd hdig (by decide)
          have hat : Lib.atoi s.data.toList = some (m : Int) := by
            rw [h3]
            simp only [Lib.atoi, hc45, hc43, Bool.false_eq_true, if_false]
            rw [← h3]
            unfold Lib.decNat
            rw [if_neg (by rw [h3]; exact Bool.false_ne_true), hf]
            rfl
          have hN : atoiN s = ((m : Int), false) := by rw [atoiN_short (by omega), hat]
          have hnn : natN s = (m : Int) := by unfold natN; rw [hN]
          have hdc : deci (natN s) = s := byte_ext (by rw [hnn, deci_data, Lib.itoa_nonneg]; exact hdd)
          have hk := natOk_of (s := s) (by rw [hN]) hdc (by omega) (by rw [hnn]; omega)
          exact ⟨(m : Int), true, hst, fun _ _ => ⟨hk, by omega, hnn.symm⟩, fun _ _ => ⟨rfl, hnn.symm⟩⟩
end Go.Proofs.YtcgkjbglijganaaGreatDoor.Ev.F
