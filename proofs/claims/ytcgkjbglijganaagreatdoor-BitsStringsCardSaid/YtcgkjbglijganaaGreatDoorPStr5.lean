/- Strings of bits: read by both. -/
import Derived.Test.YtcgkjbglijganaaGreatDoorPStr4
set_option linter.unusedVariables false
set_option linter.unusedSimpArgs false
set_option linter.unnecessarySimpa false
namespace Go.Proofs.YtcgkjbglijganaaGreatDoor.Ev.F
open Go.Proofs.YtcgkjbglijganaaGreatDoor.Ev

theorem refP {rest front : ByteArray} (h2 : 2 ≤ rest.size) (hs : rest.size ≤ 60000) (hf : front.size ≤ 60000) : run_ratchetref01_Parse (.p63 7 0 0 [front, rest]) =
    some (if natOk front = true ∧ front.size ≤ 2 then (if byR (bt rest 0) = 0 then bad7 else parR (natN front) (numR (byR (bt rest 0)) (strBytes (rest.extract 1 rest.size)) false 0 0)) else bad7, ()) := by
  have e0 : idx [front, rest] (0 : Int) = some front := rfl
  have e1 : idx [front, rest] (1 : Int) = some rest := rfl
  have hl : (([front, rest] : List ByteArray).length : Int) = 2 := rfl
  have hsi : sidx rest (0 : Int) = some (bt rest 0) := by rw [show (0 : Int) = ((0 : Nat) : Int) from rfl]; exact sidx_nat (by omega)
  obtain ⟨x, ok, n1, n2, n3⟩ := Number2_eq hf
  have hstep : run_ratchetref01_Parse (.p63 7 0 0 [front, rest]) = run_ratchetref01_Parse (.p511 7 x ok (byR (bt rest 0)) 0 0 [front, rest]) := by
    conv => lhs; rw [run_ratchetref01_Parse]
    rw [hl, if_pos (by decide), e0]
    simp only [some_bind', n1]
    rw [if_pos (by decide), e1]
    simp only [some_bind', hsi]
    unfold byR
    by_cases a1 : bt rest 0 = 98
    · rw [if_pos (by simpa using a1), if_pos a1]
    · rw [if_neg (by simpa using a1), if_neg a1]
      by_cases a2 : bt rest 0 = 100
      · rw [if_pos (by simpa using a2), if_pos a2]
      · rw [if_neg (by simpa using a2), if_neg a2]
        by_cases a3 : bt rest 0 = 104
        · rw [if_pos (by simpa using a3), if_pos a3]
        · rw [if_neg (by simpa using a3), if_neg a3]
  rw [hstep, run_ratchetref01_Parse]
  cases ok with
  | false =>
    have hn : ¬ (natOk front = true ∧ front.size ≤ 2) := fun h => by have := (n3 h.1 h.2).1; cases this
    rw [if_pos (by decide), if_neg hn]
  | true =>
    rw [if_neg (by decide)]
    by_cases hx : x < 0
    · have hn : ¬ (natOk front = true ∧ front.size ≤ 2) := fun h => by
        have h1 := (n3 h.1 h.2).2
        have h2 := natN_ge h.1
        omega
      rw [if_pos (by simpa using hx), if_neg hn]
    · obtain ⟨k1, k2, k3⟩ := n2 rfl (by omega)
      rw [if_neg (by simpa using hx), if_pos (show natOk front = true ∧ front.size ≤ 2 from ⟨k1, k2⟩), ← k3]
      by_cases hb : byR (bt rest 0) = 0
      · rw [if_pos (by simpa using hb), if_pos hb]
      · rw [if_neg (by simpa using hb), if_neg hb, run_ratchetref01_Parse, hl, if_pos (by decide), e1]
        simp only [some_bind']
        rw [show (1 : Int) = ((1 : Nat) : Int) from rfl, span_nat (by omega) (Nat.le_refl _)]
        simp only [some_bind']
        rcases byR_cases (bt rest 0) with h0 | ⟨b, hbb, hbe⟩
        · exact absurd h0 hb
        · rw [hbe]
          have hz := size_ext rest (i := 1) (j := rest.size) (by omega) (Nat.le_refl _)
          have := parse_loop (b := b) (by omega) (t := rest.extract 1 rest.size) (by omega) x (rest.extract 1 rest.size).size 0 false 0 0 (by omega) (fun h => by omega) (fun _ => rfl) (by decide) (by decide) (by decide) (by decide)
          rw [List.drop_zero] at this
          exact this
theorem progP {front rest : ByteArray} (hf : front.size ≤ 60000) (hs : rest.size ≤ 60000) (F : Option R_bits_ParseBits) (hF : F = (atoiRun (front, ()) () >>= fun t2 =>
      if (!!t2.1.2.1) = true then some ((((0 : Int), ((0 : Int), ())), ((7 : Int), ())), ())
      else itoaRun (t2.1.1, ()) () >>= fun t3 =>
        if (!(seq t3.1.1 front)) = true then some ((((0 : Int), ((0 : Int), ())), ((7 : Int), ())), ())
        else run_bits_within (.start (front.size : Int) (1 : Int) (2 : Int)) >>= fun t4 =>
          if (!t4.1.1) = true then some ((((0 : Int), ((0 : Int), ())), ((7 : Int), ())), ())
          else if (decide (t2.1.1 < (0 : Int))) = true then some ((((0 : Int), ((0 : Int), ())), ((7 : Int), ())), ())
            else if (seq rest (⟨#[]⟩ : ByteArray)) = true then some ((((0 : Int), ((0 : Int), ())), ((7 : Int), ())), ())
              else run_bits_ParseBits (.p63 rest t2.1.1 (0 : Int) (0 : Int)))) :
    F = if natOk front = true ∧ front.size ≤ 2 then (if rest.size = 0 then some (bad7, ()) else run_bits_ParseBits (.p63 rest (natN front) 0 0)) else some (bad7, ()) := by
  have hat : atoiRun (front, ()) () = some (((natN front), ((atoiN front).2, ())), ()) := by
    unfold atoiRun
    have hb : Nat.ble front.size 281474976710656 = true := Nat.ble_eq_true_of_le (by omega)
    simp only [hb, cond_true]
    rfl
  rw [hF, hat]
  simp only [some_bind', Bool.not_not]
  by_cases he : (atoiN front).2 = true
  · rw [if_pos he, if_neg (fun h => by have := natOk_ge h.1; rw [he] at this; cases this)]
  · have he' : (atoiN front).2 = false := by simpa using he
    have hi : itoaRun (natN front, ()) () = some ((deci (natN front), ()), ()) := by
      unfold itoaRun
      simp only
      rw [if_pos (natN_bounds he')]
      rfl
    rw [if_neg he, hi]
    simp only [some_bind']
    by_cases hq : deci (natN front) = front
    · rw [hq, seq_self, if_neg (by decide), bwithin_eq]
      simp only [some_bind']
      have hpos : 0 < front.size := by have := deci_pos (natN front); rw [hq] at this; exact this
      by_cases h2 : front.size ≤ 2
      · rw [and_true' (show (1 : Int) ≤ (front.size : Int) ∧ (front.size : Int) ≤ 2 by omega), if_neg (by decide)]
        by_cases hn : natN front < 0
        · rw [if_pos (by simpa using hn), if_neg (fun h => by have := natN_ge h.1; omega)]
        · have hk := natOk_of he' hq h2 (by omega)
          rw [if_neg (by simpa using hn), if_pos (show natOk front = true ∧ front.size ≤ 2 from ⟨hk, h2⟩)]
          by_cases hr : rest.size = 0
          · have : rest = ⟨#[]⟩ := ext_bt hr (fun i hi => by omega)
            rw [if_pos (seq_iff.2 this), if_pos hr]
          · rw [if_neg (fun h => hr (by rw [seq_iff.1 h]; rfl)), if_neg hr]
      · rw [and_false' (by omega), if_pos (by decide), if_neg (fun h => h2 h.2)]
    · have hs' : seq (deci (natN front)) front = false := by
        cases h : seq (deci (natN front)) front with
        | false => rfl
        | true => exact absurd (seq_iff.1 h) hq
      rw [hs', if_pos (by decide), if_neg (fun h => hq (natOk_dig h.1).1)]
theorem parse_both {s : ByteArray} (hs : s.size ≤ 1000) : ∃ X, run_bits_ParseBits (.start s) = some (X, ()) ∧ run_ratchetref01_Parse (.start s) = some (X, ()) := by
  have z0 : ((0 : Nat) : Int) = 0 := rfl
  have hC : run_ratchetbase_Cut (.start s 39) = some (((), ()), (cutS s s.size 0 0, ())) := by
    rw [run_ratchetbase_Cut]
    exact cut_eq (by omega) s.size 0 0 [] (by omega) (Nat.le_refl _) (Nat.zero_le _)
  have hge := Lib.indexByte_ge s.data.toList 39
  rw [run_bits_ParseBits, run_ratchetref01_Parse, if_neg (by simp; omega), if_neg (by simp; omega), hC]
  simp only [run_strings_Cut, run_internal_stringslite_Cut, oneRun, some_bind']
  have e39 : (⟨#[39]⟩ : ByteArray).data.toList = [39] := rfl
  by_cases hn : Lib.indexByte s.data.toList 39 < 0
  · have hcs := cutS_none (s := s) s.size 0 0 (by omega) (by rw [List.drop_zero]; exact hn)
    have hat : ∃ r, atoiRun (s, ()) () = some r := by
      unfold atoiRun
      have hb : Nat.ble s.size 281474976710656 = true := Nat.ble_eq_true_of_le (by omega)
      simp only [hb, cond_true]
      exact ⟨_, rfl⟩
    obtain ⟨r, hr⟩ := hat
    refine ⟨bad7, ?_, ?_⟩
    · rw [if_neg (by simp only [ge_iff_le, decide_eq_true_eq]; omega)]
      simp only [some_bind', hr]
      rw [if_pos (by decide)]
    · have hL1 : (([s.extract 0 s.size] : List ByteArray).length : Int) = 1 := rfl
      rw [hcs, hL1, if_pos (by decide)]
  · obtain ⟨o, ho⟩ := Int.eq_ofNat_of_zero_le (show 0 ≤ Lib.indexByte s.data.toList 39 by omega)
    have ho : Lib.indexByte s.data.toList 39 = (o : Int) := ho
    have hlt : o < s.size := by
      have := (List.getElem?_eq_some_iff.1 (Lib.indexByte_some ho).1).1
      rw [sizeL] at this; exact this
    obtain ⟨k', hk1, hk2⟩ := cutS_some (s := s) s.size 0 0 o (by omega) (by rw [List.drop_zero]; exact ho)
    have h1s : ((⟨#[39]⟩ : ByteArray).size : Int) = 1 := rfl
    have hfr : (s.extract 0 o).size ≤ 60000 := by rw [size_ext s (Nat.zero_le _) (by omega)]; omega
    have hre : (s.extract (o + 1) s.size).size = s.size - (o + 1) := size_ext s (by omega) (Nat.le_refl _)
    rw [ho, if_pos (by simp), h1s, ← z0, span_nat (Nat.zero_le _) (by omega)]
    simp only [some_bind']
    rw [wrap_i64 (x := (o : Int) + 1) (by omega) (by omega), show ((o : Int) + 1) = ((o + 1 : Nat) : Int) by omega, span_nat (by omega) (Nat.le_refl _)]
    simp only [some_bind', Bool.not_true, Bool.false_eq_true, if_false]
    rw [z0, hk2]
    simp only [Nat.zero_add] at hk1 hk2 ⊢
    have hP := progP (front := s.extract 0 o) (rest := s.extract (o + 1) s.size) hfr (by omega) _ rfl
    rw [hP]
    have hg2 := Lib.indexByte_ge (s.data.toList.drop (o + 1)) 39
    by_cases hq : Lib.indexByte (s.data.toList.drop (o + 1)) 39 < 0
    · -- one quote
      have hL2 : (([s.extract 0 o, s.extract (o + 1) s.size] : List ByteArray).length : Int) = 2 := rfl
      rw [cutS_none (s := s) k' (o + 1) (o + 1) hk1 hq, hL2, if_neg (show ¬ ((2 : Int) != 2) = true by decide), if_pos (show (decide ((0 : Int) ≤ 1) && decide ((1 : Int) < 2)) = true by decide)]
      have e1 : idx [s.extract 0 o, s.extract (o + 1) s.size] (1 : Int) = some (s.extract (o + 1) s.size) := rfl
      rw [e1]
      simp only [some_bind']
      by_cases h2 : 2 ≤ (s.extract (o + 1) s.size).size
      · rw [if_neg (show ¬ (decide (((s.extract (o + 1) s.size).size : Int) < 2)) = true by simp only [decide_eq_true_eq]; omega), refP h2 (by omega) hfr]
        refine ⟨_, ?_, rfl⟩
        by_cases hG : natOk (s.extract 0 o) = true ∧ (s.extract 0 o).size ≤ 2
        · rw [if_pos hG, if_pos hG, if_neg (by omega), p63_eq (by omega) (by omega)]
          by_cases hb : byR (bt (s.extract (o + 1) s.size) 0) = 0
          · rw [if_pos hb, if_pos hb]
          · rw [if_neg hb, if_neg hb]
            rcases byR_cases (bt (s.extract (o + 1) s.size) 0) with h0 | ⟨b, hbb, hbe⟩
            · exact absurd h0 hb
            · rw [hbe, p255_eq hbb (by omega) (by omega), val_eq hbb]
              intro h
              have := congrArg List.length h
              rw [strBytes_size, size_ext _ (by omega) (Nat.le_refl _)] at this
              simp at this
              omega
        · rw [if_neg hG, if_neg hG]
      · rw [if_pos (show (decide (((s.extract (o + 1) s.size).size : Int) < 2)) = true by simp only [decide_eq_true_eq]; omega)]
        refine ⟨bad7, ?_, rfl⟩
        by_cases hG : natOk (s.extract 0 o) = true ∧ (s.extract 0 o).size ≤ 2
        · rw [if_pos hG]
          by_cases hr : (s.extract (o + 1) s.size).size = 0
          · rw [if_pos hr]
          · rw [if_neg hr, p63_eq (by omega) (by omega)]
            by_cases hb : byR (bt (s.extract (o + 1) s.size) 0) = 0
            · rw [if_pos hb]
            · rw [if_neg hb]
              rcases byR_cases (bt (s.extract (o + 1) s.size) 0) with h0 | ⟨b, hbb, hbe⟩
              · exact absurd h0 hb
              · rw [hbe, p255_eq hbb (by omega) (by omega)]
                have hnil : strBytes ((s.extract (o + 1) s.size).extract 1 (s.extract (o + 1) s.size).size) = [] := by
                  apply List.eq_nil_of_length_eq_zero
                  rw [strBytes_size, size_ext _ (by omega) (Nat.le_refl _)]
                  omega
                rw [hnil]
                rfl
        · rw [if_neg hG]
    · -- more quotes
      obtain ⟨o2, ho2⟩ := Int.eq_ofNat_of_zero_le (show 0 ≤ Lib.indexByte (s.data.toList.drop (o + 1)) 39 by omega)
      have ho2 : Lib.indexByte (s.data.toList.drop (o + 1)) 39 = (o2 : Int) := ho2
      obtain ⟨k2, hk3, hk4⟩ := cutS_some (s := s) k' (o + 1) (o + 1) o2 hk1 ho2
      have hp := cutS_pos s k2 (o + 1 + o2 + 1) (o + 1 + o2 + 1)
      have hL3 : ((s.extract 0 o :: s.extract (o + 1) (o + 1 + o2) :: cutS s k2 (o + 1 + o2 + 1) (o + 1 + o2 + 1)).length : Int) = ((cutS s k2 (o + 1 + o2 + 1) (o + 1 + o2 + 1)).length : Int) + 2 := by simp; omega
      rw [hk4, hL3, if_pos (show (((cutS s k2 (o + 1 + o2 + 1) (o + 1 + o2 + 1)).length : Int) + 2 != 2) = true by rw [bne_iff_ne]; omega)]
      refine ⟨bad7, ?_, rfl⟩
      have hget := (Lib.indexByte_some ho2).1
      by_cases hG : natOk (s.extract 0 o) = true ∧ (s.extract 0 o).size ≤ 2
      · rw [if_pos hG]
        by_cases hr : (s.extract (o + 1) s.size).size = 0
        · rw [if_pos hr]
        · rw [if_neg hr, p63_eq (by omega) (by omega)]
          by_cases hb : byR (bt (s.extract (o + 1) s.size) 0) = 0
          · rw [if_pos hb]
          · rw [if_neg hb]
            rcases byR_cases (bt (s.extract (o + 1) s.size) 0) with h0 | ⟨b, hbb, hbe⟩
            · exact absurd h0 hb
            · rw [hbe, p255_eq hbb (by omega) (by omega), numV_39]
              · rfl
              · have hd : (s.extract (o + 1) s.size).data.toList = s.data.toList.drop (o + 1) := ext_drop s (o + 1)
                have h00 : o2 ≠ 0 := by
                  rintro rfl
                  apply hb
                  have : bt (s.extract (o + 1) s.size) 0 = 39 := by
                    rw [bt_get (c := 39) (by rw [hd]; exact hget)]
                    rfl
                  rw [this]
                  decide
                unfold strBytes
                rw [ext_drop, hd]
                refine List.mem_map.2 ⟨39, ?_, rfl⟩
                refine List.mem_of_getElem? (i := o2 - 1) ?_
                rw [List.getElem?_drop, show 1 + (o2 - 1) = o2 by omega]
                exact hget
      · rw [if_neg hG]
end Go.Proofs.YtcgkjbglijganaaGreatDoor.Ev.F
