/- Words of a line: numbers, registers, names. -/
import Derived.Test.YtjededkgblbamaaGreatDoorTPTxt0
set_option linter.unusedVariables false
set_option linter.unusedSimpArgs false
set_option linter.unnecessarySimpa false
namespace Go.Proofs.YtjededkgblbamaaGreatDoor.Ev.F
open Go.Proofs.YtjededkgblbamaaGreatDoor.Ev

/-- is it a number of at most three digits -/
noncomputable def ok3 (s : ByteArray) : Bool := natOk s && decide (s.size ≤ 3)
theorem ok3_nat {s : ByteArray} (h : ok3 s = true) : natOk s = true := by unfold ok3 at h; simp at h; exact h.1
theorem ok3_no {s : ByteArray} (h : natOk s = false) : ok3 s = false := by unfold ok3; rw [h]; rfl
theorem itoa_dig {n : Int} (h : 0 ≤ n) : isDig (bt (deci n) 0) = true := by
  obtain ⟨u, rfl⟩ := Int.eq_ofNat_of_zero_le h
  have hd : ∀ u : Nat, ∃ c r, Lib.decDigits u = c :: r ∧ 48 ≤ c.toNat ∧ c.toNat ≤ 57 := by
    intro u
    induction u using Nat.strongRecOn with
    | ind u ih =>
      rw [Lib.decDigits]
      split
      · refine ⟨_, _, rfl, ?_, ?_⟩ <;> (rw [UInt8.toNat_ofNat']; omega)
      · obtain ⟨c, r, e, h1, h2⟩ := ih (u / 10) (by omega)
        rw [e]
        exact ⟨c, _, rfl, h1, h2⟩
  obtain ⟨c, r, e, h1, h2⟩ := hd u
  have : bt (deci (u : Int)) 0 = (c.toNat : Int) := bt_get (by
    rw [deci_data]
    show (Lib.itoa ((u : Nat) : Int))[0]? = _
    rw [Lib.itoa_nonneg, e]; rfl)
  show isDig (bt (deci (u : Int)) 0) = true
  rw [this]
  unfold isDig
  simp
  omega
theorem natural_eq (s : ByteArray) (hs : s.size ≤ 60010) : ∃ x, run_machine_natural (.start s) = some ((x, (ok3 s, ())), ()) ∧ (ok3 s = true → x = natN s) := by
  rw [run_machine_natural]
  unfold atoiRun
  have hb : Nat.ble s.size 281474976710656 = true := Nat.ble_eq_true_of_le (by omega)
  simp only [hb, cond_true, some_bind']
  cases he : (atoiN s).2 with
  | true =>
    have : ok3 s = false := ok3_no (by unfold natOk; rw [he]; rfl)
    rw [this]
    exact ⟨_, rfl, fun h => by cases h⟩
  | false =>
    simp only [Bool.not_false, if_true]
    by_cases h0 : 0 ≤ (atoiN s).1
    · rw [if_pos (by simpa using h0)]
      by_cases h3 : s.size ≤ 3
      · rw [if_pos (by simp; omega)]
        unfold itoaRun
        simp only
        rw [if_pos (show -9223372036854775808 ≤ (atoiN s).1 ∧ (atoiN s).1 ≤ 9223372036854775807 from natN_bounds he)]
        simp only [some_bind']
        have hq : seq (⟨(Lib.itoa (atoiN s).1).toArray⟩ : ByteArray) s = ok3 s := by
          show seq (deci (natN s)) s = ok3 s
          unfold ok3 natOk
          rw [he]
          cases hq : seq (deci (natN s)) s with
          | false => simp
          | true =>
            have := itoa_dig (n := natN s) h0
            rw [seq_iff.1 hq] at this
            simp [this, h3]
            omega
        rw [hq]
        exact ⟨_, rfl, fun _ => rfl⟩
      · rw [if_neg (by simp; omega)]
        have : ok3 s = false := by unfold ok3; simp [h3]
        rw [this]
        exact ⟨_, rfl, fun h => by cases h⟩
    · rw [if_neg (by simpa using h0)]
      have : ok3 s = false := ok3_no (by
        cases hk : natOk s with
        | false => rfl
        | true => exact absurd (natN_ge hk) h0)
      rw [this]
      exact ⟨_, rfl, fun h => by cases h⟩
theorem rnum3 (s : ByteArray) (hs : s.size ≤ 60010) : ∃ x ok, run_ratchetbase_Number (.start s 3) = some ((x, (ok, ())), ()) ∧ (ok && decide (0 ≤ x)) = ok3 s ∧ (ok3 s = true → x = natN s) := by
  have no : natOk s = false → ∀ r, r = some (((0 : Int), (false, ())), ()) → ∃ x ok, r = some ((x, (ok, ())), ()) ∧ (ok && decide (0 ≤ x)) = ok3 s ∧ (ok3 s = true → x = natN s) := by
    rintro hn r rfl
    rw [ok3_no hn]
    exact ⟨0, false, rfl, rfl, fun h => by cases h⟩
  by_cases h0 : s.size = 0
  · have hn : natOk s = false := natOk_false_dig (by
      unfold bt
      rw [List.getD, List.getElem?_eq_none (by rw [sizeL]; omega)]
      rfl)
    rw [run_ratchetbase_Number, if_neg (by rw [h0]; decide), run_ratchetbase_Number, if_pos (by rw [h0]; decide)]
    exact no hn _ rfl
  have hpos : 0 < s.size := by omega
  obtain ⟨c, h1, h2, h3⟩ := drop_bt hpos
  rw [List.drop_zero] at h3
  rw [run_ratchetbase_Number, if_pos (by simp; omega), show (0 : Int) = ((0 : Nat) : Int) from rfl, sidx_nat hpos]
  simp only [some_bind', h2]
  have z0 : ((0 : Nat) : Int) = 0 := rfl
  have z1 : ((1 : Nat) : Int) = 1 := rfl
  by_cases hm : c.toNat = 45
  · have hn : natOk s = false := natOk_false_dig (by rw [h2, hm]; rfl)
    rw [if_pos (by simp; omega)]
    rw [run_ratchetbase_Number]
    by_cases hs1 : s.size = 1
    · rw [if_pos (by simp; omega)]
      exact no hn _ rfl
    · rw [if_neg (by simp; omega), wrap_i64 (x := (s.size : Int) - 1) (by omega) (by omega)]
      by_cases hs10 : 4 < s.size
      · rw [if_pos (by simp; omega)]
        exact no hn _ rfl
      · obtain ⟨c1, g1, g2, g3⟩ := drop_bt (s := s) (i := 1) (by omega)
        rw [if_neg (by simp; omega), ← z1, sidx_nat (by omega)]
        simp only [some_bind', g2]
        by_cases hz : c1.toNat = 48
        · rw [if_pos (by simp; omega), if_pos (by simp; omega)]
          exact no hn _ rfl
        · rw [if_neg (by simp; omega), run_ratchetbase_Number]
          have := num_loop (s := s) (by omega) 1 (s.size - 1) 1 0 (by omega) (by decide)
          rw [z0] at this
          rw [z1, ← z1] at this ⊢
          rw [z0]
          rw [this, g3]
          simp only [Lib.decFrom]
          cases hd : Lib.digitVal c1 with
          | none => exact no hn _ rfl
          | some d =>
            obtain ⟨d0, d1, d2⟩ := digitVal_iff.1 hd
            cases hf : Lib.decFrom (0 * 10 + d) (s.data.toList.drop (1 + 1)) with
            | none => exact no hn _ (by simp only [hf])
            | some m =>
              have := decFrom_ge _ _ _ hf
              refine ⟨-(m : Int), true, ?_, ?_, fun h => by rw [ok3_no hn] at h; cases h⟩
              · simp only [hf, if_true]
              · rw [ok3_no hn]
                simp
                omega
  · rw [if_neg (by simp; omega), run_ratchetbase_Number, if_neg (show ¬ ((s.size : Int) == ((0 : Nat) : Int)) = true by simp only [beq_iff_eq]; omega), wrap_i64 (x := (s.size : Int) - ((0 : Nat) : Int)) (by omega) (by omega)]
    by_cases hs9 : 3 < s.size
    · rw [if_pos (by simp; omega)]
      have : ok3 s = false := by unfold ok3; simp; omega
      rw [this]
      exact ⟨0, false, rfl, rfl, fun h => by cases h⟩
    · rw [if_neg (by simp; omega), ← z0, sidx_nat hpos]
      simp only [some_bind', h2]
      by_cases hz : c.toNat = 48 ∧ 1 < s.size
      · have hn : natOk s = false := by
          cases hk : natOk s with
          | false => rfl
          | true =>
            have k1 := (natOk_dig hk).1
            have k2 := congrArg (fun b : ByteArray => b.data.toList) k1
            simp only [deci_data] at k2
            have k3 : Lib.itoa (natN s) = Lib.decDigits (natN s).toNat := by
              unfold Lib.itoa
              rw [if_neg (by have := natN_ge hk; omega)]
            rw [k3, h3] at k2
            have k4 := (dd_dig _ _ _ k2 (UInt8.toNat_inj.1 hz.1)).2
            have k5 := congrArg List.length k4
            rw [List.length_drop, sizeL] at k5
            simp at k5
            omega
        rw [if_pos (by simp; omega), if_pos (by simp; omega)]
        exact no hn _ rfl
      · have step : (if (((c.toNat : Int)) == (48 : Int)) = true then (if (decide ((s.size : Int) > (1 : Int))) = true then some (((0 : Int), (false, ())), ()) else run_ratchetbase_Number (.p31 s ((0 : Nat) : Int))) else run_ratchetbase_Number (.p31 s ((0 : Nat) : Int))) = run_ratchetbase_Number (.p31 s ((0 : Nat) : Int)) := by
          by_cases h48 : c.toNat = 48
          · rw [if_pos (by simp; omega), if_neg (by simp; omega)]
          · rw [if_neg (by simp; omega)]
        have hl := num_loop (s := s) (by omega) 0 s.size 0 0 (by omega) (by decide)
        rw [z0] at hl step ⊢
        rw [step, run_ratchetbase_Number, hl, List.drop_zero]
        have hat : ∀ m, Lib.decFrom 0 s.data.toList = some m → natOk s = true ∧ natN s = (m : Int) := by
          intro m hf
          have hne : s.data.toList ≠ [] := by rw [h3]; exact List.cons_ne_nil _ _
          have hcan : s.data.toList = [48] ∨ ∀ r, s.data.toList ≠ 48 :: r := by
            by_cases h48 : c.toNat = 48
            · refine .inl ?_
              rw [h3, UInt8.toNat_inj.1 (show c.toNat = (48 : UInt8).toNat from h48), List.drop_eq_nil_of_le (by rw [sizeL]; omega)]
            · refine .inr fun r hr => h48 ?_
              rw [h3] at hr
              have : c = 48 := by injection hr
              rw [this]; rfl
          have hdd := dd_val _ _ m rfl hf hne hcan
          have hdig : isDig (bt s 0) = true := by
            rw [h3] at hf
            simp only [Lib.decFrom] at hf
            cases hd : Lib.digitVal c with
            | none => rw [hd] at hf; cases hf
            | some d =>
              obtain ⟨d0, d1, d2⟩ := digitVal_iff.1 hd
              rw [h2]
              unfold isDig
              simp
              omega
          have hc45 : (c == 45) = false := beq_eq_false_iff_ne.2 fun h => hm (by rw [h]; rfl)
          have hc43 : (c == 43) = false := beq_eq_false_iff_ne.2 fun h => by
            rw [h2, h] at hdig
            exact absurd hdig (by decide)
          have hat : Lib.atoi s.data.toList = some (m : Int) := by
            rw [h3]
            simp only [Lib.atoi, hc45, hc43, Bool.false_eq_true, if_false]
            rw [← h3]
            unfold Lib.decNat
            rw [if_neg (by rw [h3]; exact Bool.false_ne_true), hf]
            rfl
          have hN : atoiN s = ((m : Int), false) := by rw [atoiN_short (by omega), hat]
          have hnn : natN s = (m : Int) := by unfold natN; rw [hN]
          refine ⟨?_, hnn⟩
          unfold natOk
          rw [hN, hnn, hdig]
          have hdc : deci (m : Int) = s := byte_ext (by
            rw [deci_data]
            unfold Lib.itoa
            rw [if_neg (by omega), Int.toNat_natCast]
            exact hdd)
          rw [hdc, seq_self]
          simp
          omega
        cases hf : Lib.decFrom 0 s.data.toList with
        | some m =>
          obtain ⟨a1, a2⟩ := hat m hf
          simp only []
          rw [if_neg (show ¬ (0 : Int) = 1 by decide)]
          have : ok3 s = true := by unfold ok3; rw [a1]; simp; omega
          rw [this]
          exact ⟨(m : Int), true, rfl, by simp, fun _ => a2.symm⟩
        | none =>
          have hn : natOk s = false := by
            by_cases hdig : isDig (bt s 0) = true
            · have hc45 : (c == 45) = false := beq_eq_false_iff_ne.2 fun h => hm (by rw [h]; rfl)
              have hc43 : (c == 43) = false := beq_eq_false_iff_ne.2 fun h => by
                rw [h2, h] at hdig
                exact absurd hdig (by decide)
              have hat : Lib.atoi s.data.toList = none := by
                rw [h3]
                simp only [Lib.atoi, hc45, hc43, Bool.false_eq_true, if_false]
                rw [← h3]
                unfold Lib.decNat
                rw [if_neg (by rw [h3]; exact Bool.false_ne_true), hf]
                rfl
              have hN : atoiN s = (0, true) := by rw [atoiN_short (by omega), hat]
              unfold natOk
              rw [hN]
              rfl
            · exact natOk_false_dig (by simpa using hdig)
          exact no hn _ rfl

/-! ### registers -/
noncomputable def regOk (s : ByteArray) : Bool := decide (s.size = 2) && (bt s 0 == 114 && (decide (48 ≤ bt s 1) && decide (bt s 1 ≤ 51)))
noncomputable def regN (s : ByteArray) : Int := bt s 1 - 48
theorem rreg (s : ByteArray) : ∃ x, run_ratchetref31_register (.start s) = some ((x, (regOk s, ())), ()) ∧ (regOk s = true → x = regN s) := by
  rw [run_ratchetref31_register]
  unfold regOk
  by_cases h2 : s.size = 2
  · rw [if_neg (by simp; omega), show (0 : Int) = ((0 : Nat) : Int) from rfl, show (1 : Int) = ((1 : Nat) : Int) from rfl, sidx_nat (by omega), sidx_nat (by omega)]
    simp only [some_bind']
    by_cases ha : bt s 0 = 114
    · rw [if_neg (by simp [ha])]
      by_cases hb : 48 ≤ bt s 1
      · rw [if_neg (by simp; omega)]
        by_cases hc : bt s 1 ≤ 51
        · rw [if_neg (by simp; omega), wrap_u8' (by omega) (by omega), wrap_i64 (by omega) (by omega)]
          exact ⟨_, by simp [h2, ha, hb, hc]; rfl, fun _ => rfl⟩
        · rw [if_pos (by simp; omega)]
          exact ⟨0, by simp [hc], fun h => by simp [hc] at h⟩
      · rw [if_pos (by simp; omega)]
        exact ⟨0, by simp [hb], fun h => by simp [hb] at h⟩
    · rw [if_pos (by simp [ha])]
      exact ⟨0, by simp [ha], fun h => by simp [ha] at h⟩
  · rw [if_pos (by simp; omega)]
    exact ⟨0, by simp [h2], fun h => by simp [h2] at h⟩

theorem dec1 : ∀ k : Nat, k < 4 → Lib.decDigits k = [UInt8.ofNat (48 + k)] := by
  intro k hk
  rw [Lib.decDigits, dif_pos (by omega)]
theorem ok3_one : ∀ k : Nat, k < 4 → ok3 ⟨#[UInt8.ofNat (48 + k)]⟩ = true ∧ natN ⟨#[UInt8.ofNat (48 + k)]⟩ = (k : Int) := by
  have h : ∀ k : Nat, k < 4 → (ok3 ⟨#[UInt8.ofNat (48 + k)]⟩ && decide (natN ⟨#[UInt8.ofNat (48 + k)]⟩ = (k : Int))) = true := by decide +kernel
  intro k hk
  have := h k hk
  rw [Bool.and_eq_true, decide_eq_true_eq] at this
  exact this
theorem one_of {s : ByteArray} (h : s.size = 1) {k : Nat} (hk : k < 256) (hb : bt s 0 = (k : Int)) : s = ⟨#[UInt8.ofNat k]⟩ := by
  refine ext_bt (by rw [h]; rfl) fun i hi => ?_
  have : i = 0 := by omega
  subst this
  rw [hb]
  show (k : Int) = ((UInt8.ofNat k).toNat : Int)
  rw [UInt8.toNat_ofNat', Nat.mod_eq_of_lt hk]
theorem cutPrefix_eq (s : ByteArray) (c : UInt8) : run_strings_CutPrefix (.start s ⟨#[c]⟩) = some (if 0 < s.size ∧ bt s 0 = (c.toNat : Int) then ((s.extract 1 s.size, (true, ())), ()) else ((s, (false, ())), ())) := by
  simp only [run_strings_CutPrefix, run_internal_stringslite_CutPrefix, run_internal_stringslite_HasPrefix]
  have e1 : (⟨#[c]⟩ : ByteArray).size = 1 := rfl
  rw [e1]
  by_cases h : 0 < s.size
  · rw [if_pos (by simp; omega), show (0 : Int) = ((0 : Nat) : Int) from rfl, span_nat (by omega) (by omega)]
    simp only [some_bind']
    have hq : seq (s.extract 0 1) ⟨#[c]⟩ = decide (bt s 0 = (c.toNat : Int)) := by
      have hb := bt_ext s (i := 0) (j := 1) (k := 0) (by omega) (by omega)
      have hc : bt ⟨#[c]⟩ 0 = (c.toNat : Int) := rfl
      rw [Nat.zero_add] at hb
      by_cases he : bt s 0 = (c.toNat : Int)
      · rw [decide_eq_true he, seq_iff]
        refine ext_bt (by rw [size_ext s (by omega) (by omega)]; rfl) fun i hi => ?_
        rw [size_ext s (by omega) (by omega)] at hi
        have : i = 0 := by omega
        subst this
        rw [hb, he, hc]
      · rw [decide_eq_false he]
        cases hs : seq (s.extract 0 1) ⟨#[c]⟩ with
        | false => rfl
        | true =>
          rw [seq_iff.1 hs, hc] at hb
          exact absurd hb.symm he
    rw [hq]
    by_cases he : bt s 0 = (c.toNat : Int)
    · rw [if_neg (by simp [he]), show ((1 : Nat) : Int) = ((1 : Nat) : Int) from rfl, span_nat (by omega) (by omega)]
      simp only [some_bind']
      rw [if_pos ⟨h, he⟩]
    · rw [if_pos (by simp [he]), if_neg (by rintro ⟨_, h2⟩; exact he h2)]
      rfl
  · rw [if_neg (by simp; omega)]
    simp only [some_bind']
    rw [if_pos (by decide), if_neg (by rintro ⟨h2, _⟩; exact h h2)]
    rfl
theorem preg (s : ByteArray) (hs : s.size ≤ 60010) : ∃ x, run_machine_registerOf (.start s) = some ((x, (regOk s, ())), ()) ∧ (regOk s = true → x = regN s) := by
  rw [run_machine_registerOf]
  have hc := cutPrefix_eq s 114
  rw [hc]
  by_cases h : 0 < s.size ∧ bt s 0 = ((114 : UInt8).toNat : Int)
  · have h114 : bt s 0 = 114 := h.2
    have hsz : (s.extract 1 s.size).size = s.size - 1 := size_ext s (by omega) (by omega)
    obtain ⟨x, h1, h2⟩ := natural_eq (s.extract 1 s.size) (by omega)
    rw [if_pos h]
    simp only [some_bind', h1, if_true]
    cases hk : ok3 (s.extract 1 s.size) with
    | false =>
      have : regOk s = false := by
        cases hr : regOk s with
        | false => rfl
        | true =>
          unfold regOk at hr
          simp at hr
          obtain ⟨r1, r2, r3, r4⟩ := hr
          obtain ⟨k, hkk⟩ := Int.eq_ofNat_of_zero_le (show 0 ≤ bt s 1 - 48 by omega)
          have hb := bt_ext s (i := 1) (j := s.size) (k := 0) (by omega) (by omega)
          have := one_of (s := s.extract 1 s.size) (by omega) (k := 48 + k) (by omega) (by rw [hb, show 1 + 0 = 1 from rfl]; omega)
          rw [this, (ok3_one k (by omega)).1] at hk
          cases hk
      rw [this]
      exact ⟨x, rfl, fun h => by cases h⟩
    | true =>
      have hx := h2 hk
      have hn := ok3_nat hk
      have hge := natN_ge hn
      have hdc := (natOk_dig hn).1
      simp only [if_true, run_machine_isRegister, pwithin, some_bind']
      have key : within x 0 3 = regOk s := by
        cases hw : within x 0 3 with
        | true =>
          rw [within_iff] at hw
          obtain ⟨k, hkk⟩ := Int.eq_ofNat_of_zero_le hw.1
          have hd : (s.extract 1 s.size).data.toList = [UInt8.ofNat (48 + k)] := by
            rw [← hdc, deci_data, ← hx, hkk]
            show Lib.itoa ((k : Nat) : Int) = _
            rw [Lib.itoa_nonneg, dec1 k (by omega)]
          have hl : (s.extract 1 s.size).size = 1 := by rw [← sizeL, hd]; rfl
          have hb := bt_ext s (i := 1) (j := s.size) (k := 0) (by omega) (by omega)
          have hb2 : bt (s.extract 1 s.size) 0 = ((48 + k : Nat) : Int) := by
            rw [bt_get (c := UInt8.ofNat (48 + k)) (by rw [hd]; rfl), UInt8.toNat_ofNat', Nat.mod_eq_of_lt (by omega)]
          have hb3 : bt s 1 = ((48 + k : Nat) : Int) := by rw [← hb2, hb]
          unfold regOk
          rw [hb3, h114]
          simp
          omega
        | false =>
          cases hr : regOk s with
          | false => rfl
          | true =>
            unfold regOk at hr
            simp at hr
            obtain ⟨r1, r2, r3, r4⟩ := hr
            obtain ⟨k, hkk⟩ := Int.eq_ofNat_of_zero_le (show 0 ≤ bt s 1 - 48 by omega)
            have hb := bt_ext s (i := 1) (j := s.size) (k := 0) (by omega) (by omega)
            have := one_of (s := s.extract 1 s.size) (by omega) (k := 48 + k) (by omega) (by rw [hb, show 1 + 0 = 1 from rfl]; omega)
            have hxk : x = (k : Int) := by rw [hx, this]; exact (ok3_one k (by omega)).2
            have : within x 0 3 = true := within_iff.2 (by omega)
            rw [this] at hw
            cases hw
      rw [key]
      refine ⟨x, rfl, fun hr => ?_⟩
      unfold regOk at hr
      simp at hr
      obtain ⟨r1, r2, r3, r4⟩ := hr
      obtain ⟨k, hkk⟩ := Int.eq_ofNat_of_zero_le (show 0 ≤ bt s 1 - 48 by omega)
      have hb := bt_ext s (i := 1) (j := s.size) (k := 0) (by omega) (by omega)
      have := one_of (s := s.extract 1 s.size) (by omega) (k := 48 + k) (by omega) (by rw [hb, show 1 + 0 = 1 from rfl]; omega)
      have hxk : x = (k : Int) := by rw [hx, this]; exact (ok3_one k (by omega)).2
      unfold regN
      omega
  · obtain ⟨x, h1, h2⟩ := natural_eq s hs
    rw [if_neg h]
    simp only [some_bind', h1, Bool.false_eq_true, if_false]
    have : regOk s = false := by
      cases hr : regOk s with
      | false => rfl
      | true =>
        unfold regOk at hr
        simp at hr
        exact absurd ⟨by omega, hr.2.1⟩ h
    rw [this]
    exact ⟨x, rfl, fun h => by cases h⟩

/-! ### names -/
def letter (c : Int) : Bool := (decide (97 ≤ c) && decide (c ≤ 122)) || (decide (65 ≤ c) && decide (c ≤ 90))
def nmC : Nat → List Int → Bool
 | _, [] => true
 | i, c :: l => (letter c || (decide (i ≠ 0) && (c == 95 || isDig c))) && nmC (i + 1) l
def nameOk (s : ByteArray) : Bool := nmC 0 (strBytes s) && within (s.size : Int) 1 16
theorem strB_len (s : ByteArray) : (strBytes s).length = s.size := by unfold strBytes; rw [List.length_map]; exact sizeL s
theorem strB_drop {s : ByteArray} {i : Nat} (h : i < s.size) : (strBytes s).drop i = bt s i :: (strBytes s).drop (i + 1) := by
  obtain ⟨c, h1, h2, h3⟩ := drop_bt h
  unfold strBytes
  rw [← List.map_drop, h3, List.map_cons, List.map_drop, h2]
theorem nm_step (c : Int) (i : Nat) (b : Bool) : (letter c || (decide (i ≠ 0) && (c == 95 || isDig c))) = b → (b = true ↔ letter c = true ∨ (i ≠ 0 ∧ (c = 95 ∨ (48 ≤ c ∧ c ≤ 57)))) := by
  rintro rfl
  simp [isDig]
theorem pname_tail {s : ByteArray} {c n : Int} {l : List Int} {i : Nat} (r : Option R_machine_isName) (hr : run_machine_isName (.p52 s l n (IntKind.wrap .i64 ((i : Int) + 1))) = r) :
    run_machine_isName (.p3379 s (i : Int) c (letter c) l n (i : Int)) = if (letter c || (decide (i ≠ 0) && (c == 95 || isDig c))) = true then r else some ((false, ()), ()) := by
  rw [run_machine_isName]
  cases hl : letter c with
  | true => simp [hr]
  | false =>
    simp only [Bool.not_false, if_true, Bool.false_or]
    by_cases hi : i = 0
    · subst hi; simp
    · rw [if_neg (by simpa using hi)]
      by_cases h95 : c = 95
      · rw [if_neg (by simp [h95]), hr, if_pos (by simp [hi, h95])]
      · rw [if_pos (by simpa using h95)]
        by_cases h48 : c < 48
        · rw [if_pos (by simpa using h48), if_neg (by simp [isDig]; omega)]
        · rw [if_neg (by simpa using h48)]
          by_cases h57 : c > 57
          · rw [if_pos (by simpa using h57), if_neg (by simp [isDig]; omega)]
          · rw [if_neg (by simpa using h57), hr, if_pos (by simp [isDig, hi]; omega)]
theorem rname_tail {s : ByteArray} {c : Int} {i : Nat} (r : Option R_ratchetbase_IsName) (hr : run_ratchetbase_IsName (.p116 s (IntKind.wrap .i64 ((i : Int) + 1))) = r) :
    run_ratchetbase_IsName (.p3731 s (i : Int) c (letter c)) = if (letter c || (decide (i ≠ 0) && (c == 95 || isDig c))) = true then r else some ((false, ()), ()) := by
  rw [run_ratchetbase_IsName]
  cases hl : letter c with
  | true => simp [hr]
  | false =>
    simp only [Bool.not_false, if_true, Bool.false_or]
    by_cases hi : i = 0
    · subst hi; simp
    · rw [if_neg (by simpa using hi)]
      by_cases h95 : c = 95
      · rw [if_neg (by simp [h95]), hr, if_pos (by simp [hi, h95])]
      · rw [if_pos (by simpa using h95)]
        by_cases h48 : c < 48
        · rw [if_pos (by simpa using h48), if_neg (by simp [isDig]; omega)]
        · rw [if_neg (by simpa using h48)]
          by_cases h57 : c > 57
          · rw [if_pos (by simpa using h57), if_neg (by simp [isDig]; omega)]
          · rw [if_neg (by simpa using h57), hr, if_pos (by simp [isDig, hi]; omega)]
theorem pname_at {s : ByteArray} (hs : s.size ≤ 60010) : ∀ (k i : Nat), i + k = s.size → run_machine_isName (.p52 s (strBytes s) ((strBytes s).length : Int) (i : Int)) = some ((nmC i ((strBytes s).drop i) && within (s.size : Int) 1 16, ()), ())
 | 0, i, h => by
   rw [run_machine_isName, if_neg (by rw [strB_len]; simp; omega), List.drop_of_length_le (by rw [strB_len]; omega)]
   simp [pwithin, some_bind', nmC]
 | k + 1, i, h => by
   have hi : i < s.size := by omega
   have hd := strB_drop hi
   have hg : (strBytes s)[i]? = some (bt s i) := by
     have := congrArg (fun l => l[0]?) hd
     simpa [List.getElem?_drop] using this
   have ih := pname_at hs k (i + 1) (by omega)
   rw [run_machine_isName, if_pos (by rw [strB_len]; simp; omega), idx_nat, hg]
   simp only [some_bind']
   have hw : IntKind.wrap .i64 ((i : Int) + 1) = ((i + 1 : Nat) : Int) := wrap_succ hi (by omega)
   have ht := pname_tail (c := bt s i) (some ((nmC (i + 1) ((strBytes s).drop (i + 1)) && within (s.size : Int) 1 16, ()), ())) (by rw [hw]; exact ih)
   rw [hd, nmC]
   have e : ∀ b, b = letter (bt s i) → run_machine_isName (.p3379 s (i : Int) (bt s i) b (strBytes s) ((strBytes s).length : Int) (i : Int)) = some (((letter (bt s i) || (decide (i ≠ 0) && (bt s i == 95 || isDig (bt s i)))) && nmC (i + 1) ((strBytes s).drop (i + 1)) && within (s.size : Int) 1 16, ()), ()) := by
     rintro b rfl
     rw [ht]
     cases (letter (bt s i) || (decide (i ≠ 0) && (bt s i == 95 || isDig (bt s i)))) <;> simp
   by_cases h1 : 97 ≤ bt s i
   · rw [if_pos (by simpa using h1)]
     by_cases h2 : bt s i ≤ 122
     · rw [if_pos (by simpa using h2)]; exact e _ (by simp [letter, h1, h2])
     · rw [if_neg (by simpa using h2), if_pos (by simp <;> omega)]; exact e _ (by simp [letter, h2] <;> omega)
   · rw [if_neg (by simpa using h1)]
     by_cases h2 : 65 ≤ bt s i
     · rw [if_pos (by simpa using h2)]; exact e _ (by simp [letter, h1, h2])
     · rw [if_neg (by simpa using h2)]; exact e _ (by simp [letter, h1, h2])
theorem pname {s : ByteArray} (hs : s.size ≤ 60010) : run_machine_isName (.start s) = some ((nameOk s, ()), ()) := by
  rw [run_machine_isName]
  exact pname_at hs s.size 0 (by omega)
theorem rname_at {s : ByteArray} (hs : s.size ≤ 60010) : ∀ (k i : Nat), i + k = s.size → run_ratchetbase_IsName (.p116 s (i : Int)) = some ((nmC i ((strBytes s).drop i), ()), ())
 | 0, i, h => by
   rw [run_ratchetbase_IsName, if_neg (by simp; omega), List.drop_of_length_le (by rw [strB_len]; omega)]
   rfl
 | k + 1, i, h => by
   have hi : i < s.size := by omega
   have hd := strB_drop hi
   have ih := rname_at hs k (i + 1) (by omega)
   rw [run_ratchetbase_IsName, if_pos (by simp; omega), sidx_nat hi]
   simp only [some_bind']
   have hw : IntKind.wrap .i64 ((i : Int) + 1) = ((i + 1 : Nat) : Int) := wrap_succ hi (by omega)
   have ht := rname_tail (c := bt s i) (some ((nmC (i + 1) ((strBytes s).drop (i + 1)), ()), ())) (by rw [hw]; exact ih)
   rw [hd, nmC]
   have e : ∀ b, b = letter (bt s i) → run_ratchetbase_IsName (.p3731 s (i : Int) (bt s i) b) = some (((letter (bt s i) || (decide (i ≠ 0) && (bt s i == 95 || isDig (bt s i)))) && nmC (i + 1) ((strBytes s).drop (i + 1)), ()), ()) := by
     rintro b rfl
     rw [ht]
     cases (letter (bt s i) || (decide (i ≠ 0) && (bt s i == 95 || isDig (bt s i)))) <;> simp
   by_cases h1 : 97 ≤ bt s i
   · rw [if_pos (by simpa using h1)]
     by_cases h2 : bt s i ≤ 122
     · rw [if_pos (by simpa using h2)]; exact e _ (by simp [letter, h1, h2])
     · rw [if_neg (by simpa using h2), if_pos (by simp <;> omega)]; exact e _ (by simp [letter, h2] <;> omega)
   · rw [if_neg (by simpa using h1)]
     by_cases h2 : 65 ≤ bt s i
     · rw [if_pos (by simpa using h2)]; exact e _ (by simp [letter, h1, h2])
     · rw [if_neg (by simpa using h2)]; exact e _ (by simp [letter, h1, h2])
theorem rname {s : ByteArray} (hs : s.size ≤ 60010) : run_ratchetbase_IsName (.start s) = some ((nameOk s, ()), ()) := by
  rw [run_ratchetbase_IsName]
  unfold nameOk
  by_cases h1 : s.size < 1
  · rw [if_pos (by simp; omega)]
    have : within (s.size : Int) 1 16 = false := by unfold within; simp; omega
    rw [this, Bool.and_false]
  · rw [if_neg (by simp; omega)]
    by_cases h2 : s.size > 16
    · rw [if_pos (by simp; omega)]
      have : within (s.size : Int) 1 16 = false := by unfold within; simp; omega
      rw [this, Bool.and_false]
    · rw [if_neg (by simp; omega), run_ratchetbase_IsName]
      have : within (s.size : Int) 1 16 = true := within_iff.2 (by omega)
      rw [this, Bool.and_true]
      exact rname_at hs s.size 0 (by omega)
theorem rhas_at (l : List ByteArray) (s : ByteArray) (hl : l.length ≤ 1000) : ∀ (k i : Nat), i + k = l.length → run_ratchetbase_HasText (.p52 l s (i : Int)) = some (((l.drop i).any (seq · s), ()), ())
 | 0, i, h => by
   rw [run_ratchetbase_HasText, if_neg (by simp; omega), List.drop_of_length_le (by omega)]
   rfl
 | k + 1, i, h => by
   have hi : i < l.length := by omega
   rw [run_ratchetbase_HasText, if_pos (by simp; omega), idx_nat, List.getElem?_eq_getElem hi]
   simp only [some_bind']
   rw [wrap_succ hi (by omega), rhas_at l s hl k (i + 1) (by omega), drop_cons hi, List.any_cons]
   cases seq l[i] s <;> simp
theorem rhas (l : List ByteArray) (s : ByteArray) (hl : l.length ≤ 1000) : run_ratchetbase_HasText (.start l s) = some ((l.any (seq · s), ()), ()) := by
  rw [run_ratchetbase_HasText]
  exact rhas_at l s hl l.length 0 (by omega)
end Go.Proofs.YtjededkgblbamaaGreatDoor.Ev.F
