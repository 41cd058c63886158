/- The reference's numbers and literals. -/
import Derived.Test.YtfmkleeneddijaaGreatDoorPTok3
import Derived.Lib.AtoiTie
set_option linter.unusedVariables false
set_option linter.unusedSimpArgs false
set_option linter.unnecessarySimpa false
namespace Go.Proofs.YtfmkleeneddijaaGreatDoor.Ev.F
open Go.Proofs.YtfmkleeneddijaaGreatDoor.Ev

/-! ### decimals -/
theorem dd_dig : ∀ (u : Nat) (c : UInt8) (r : List UInt8), Lib.decDigits u = c :: r → c = 48 → u = 0 ∧ r = [] := by
  intro u
  induction u using Nat.strongRecOn with
  | ind u ih =>
    intro c r h hc
    rw [Lib.decDigits] at h
    split at h
    · rename_i hu
      have h1 : UInt8.ofNat (48 + u) = c := by injection h
      have h2 : r = [] := by injection h with _ h; exact h.symm
      rw [hc] at h1
      have h3 := congrArg UInt8.toNat h1
      rw [UInt8.toNat_ofNat'] at h3
      have h4 : (48 : UInt8).toNat = 48 := rfl
      exact ⟨by omega, h2⟩
    · rename_i hu
      cases hd : Lib.decDigits (u / 10) with
      | nil =>
        have : (Lib.decDigits (u / 10)).length = 0 := by rw [hd]; rfl
        rw [Lib.decDigits] at this
        split at this <;> simp at this
      | cons a l =>
        rw [hd] at h
        have h1 : a = c := by injection h
        have := (ih (u / 10) (by omega) a l hd (h1.trans hc)).1
        omega
theorem decFrom_app (l : List UInt8) : ∀ (a : Nat) (c : UInt8), Lib.decFrom a (l ++ [c]) = (Lib.decFrom a l).bind fun m => (Lib.digitVal c).map fun d => m * 10 + d := by
  induction l with
  | nil =>
    intro a c
    simp only [List.nil_append, Lib.decFrom, Option.bind]
    cases Lib.digitVal c <;> rfl
  | cons b l ih =>
    intro a c
    simp only [List.cons_append, Lib.decFrom]
    cases Lib.digitVal b with
    | none => rfl
    | some d => exact ih _ c
theorem decFrom_ge (l : List UInt8) : ∀ (a m : Nat), Lib.decFrom a l = some m → a ≤ m := by
  induction l with
  | nil => intro a m h; simp [Lib.decFrom] at h; omega
  | cons b l ih =>
    intro a m h
    simp only [Lib.decFrom] at h
    cases hd : Lib.digitVal b with
    | none => rw [hd] at h; cases h
    | some d => rw [hd] at h; have := ih _ _ h; omega
theorem digitVal_iff {c : UInt8} {d : Nat} : Lib.digitVal c = some d ↔ 48 ≤ c.toNat ∧ c.toNat ≤ 57 ∧ d = c.toNat - 48 := by
  unfold Lib.digitVal
  split
  · rename_i h
    simp only [Option.some.injEq]
    omega
  · rename_i h
    constructor
    · intro h; cases h
    · omega
theorem digitVal_none {c : UInt8} : Lib.digitVal c = none ↔ ¬ (48 ≤ c.toNat ∧ c.toNat ≤ 57) := by
  unfold Lib.digitVal
  split <;> simp_all
/-- digits without a superfluous zero are the decimals of their value -/
theorem dd_val : ∀ (n : Nat) (l : List UInt8) (m : Nat), l.length = n → Lib.decFrom 0 l = some m → l ≠ [] → (l = [48] ∨ ∀ r, l ≠ 48 :: r) → Lib.decDigits m = l := by
  intro n
  induction n with
  | zero => intro l m hn h hl; exact absurd (List.length_eq_zero_iff.1 hn) hl
  | succ n ih =>
    intro l m hn h hl h0
    rcases List.eq_nil_or_concat l with rfl | ⟨l', c, rfl⟩
    · exact absurd rfl hl
    · simp only [List.concat_eq_append] at *
      rw [decFrom_app] at h
      cases hl' : Lib.decFrom 0 l' with
      | none => rw [hl'] at h; cases h
      | some m' =>
        rw [hl'] at h
        cases hd : Lib.digitVal c with
        | none => rw [hd] at h; cases h
        | some d =>
          rw [hd] at h
          simp only [Option.bind, Option.map, Option.some.injEq] at h
          obtain ⟨d0, d1, d2⟩ := digitVal_iff.1 hd
          have hc : UInt8.ofNat (48 + d) = c := by
            rw [d2, show 48 + (c.toNat - 48) = c.toNat by omega]
            exact UInt8.ofNat_toNat
          by_cases he : l' = []
          · subst he
            simp only [Lib.decFrom, Option.some.injEq] at hl'
            rw [Lib.decDigits, dif_pos (by omega), show m = d by omega, hc]
            rfl
          · have hz : ∀ r, l' ≠ 48 :: r := by
              intro r hr
              rcases h0 with h0 | h0
              · rw [hr] at h0; simp at h0
              · exact h0 (r ++ [c]) (by rw [hr]; rfl)
            have hm : 1 ≤ m' := by
              cases l' with
              | nil => exact absurd rfl he
              | cons b t =>
                simp only [Lib.decFrom] at hl'
                cases hb : Lib.digitVal b with
                | none => rw [hb] at hl'; cases hl'
                | some e =>
                  rw [hb] at hl'
                  obtain ⟨e0, e1, e2⟩ := digitVal_iff.1 hb
                  have h1 := decFrom_ge _ _ _ hl'
                  have h2 : b ≠ 48 := fun h => hz t (by rw [h])
                  have h3 : b.toNat ≠ 48 := fun h => h2 (UInt8.toNat_inj.1 h)
                  omega
            have := ih l' m' (by simp at hn; omega) hl' he (.inr hz)
            rw [Lib.decDigits, dif_neg (by omega), show m / 10 = m' by omega, show m % 10 = d by omega, hc, this]
theorem bt_get {s : ByteArray} {i : Nat} {c : UInt8} (h : s.data.toList[i]? = some c) : bt s i = (c.toNat : Int) := by
  unfold bt
  rw [List.getD, h]
  rfl
theorem drop_bt {s : ByteArray} {i : Nat} (h : i < s.size) : ∃ c, s.data.toList[i]? = some c ∧ bt s i = (c.toNat : Int) ∧ s.data.toList.drop i = c :: s.data.toList.drop (i + 1) := by
  have h' : i < s.data.toList.length := by rw [sizeL]; exact h
  exact ⟨s.data.toList[i], List.getElem?_eq_getElem h', bt_get (List.getElem?_eq_getElem h'), List.drop_eq_getElem_cons h'⟩
/-- the loop over the digits -/
theorem num_loop {s : ByteArray} (hs : s.size ≤ 10) (a : Int) : ∀ (k i n : Nat), i + k = s.size → n < 10 ^ i →
    run_ratchetbase_Number (.p1012 s a (n : Int) (i : Int)) = some (match Lib.decFrom n (s.data.toList.drop i) with
      | none => ((0, (false, ())), ())
      | some m => if a = 1 then ((-(m : Int), (true, ())), ()) else (((m : Int), (true, ())), ())) := by
  intro k
  induction k with
  | zero =>
    intro i n h hn
    have hp : 10 ^ i ≤ 10 ^ 10 := Nat.pow_le_pow_right (by decide) (by omega)
    have e : (10 : Nat) ^ 10 = 10000000000 := by decide
    rw [run_ratchetbase_Number, if_neg (by simp; omega), List.drop_eq_nil_of_le (by rw [sizeL]; omega)]
    simp only [Lib.decFrom]
    by_cases ha : a = 1
    · rw [if_pos (by simpa using ha), if_pos ha, wrap_i64 (by omega) (by omega)]
      simp
    · rw [if_neg (by simpa using ha), if_neg ha]
  | succ k ih =>
    intro i n h hn
    have hi : i < s.size := by omega
    have hp : 10 ^ (i + 1) ≤ 10 ^ 10 := Nat.pow_le_pow_right (by decide) (by omega)
    have e : (10 : Nat) ^ 10 = 10000000000 := by decide
    obtain ⟨c, h1, h2, h3⟩ := drop_bt hi
    rw [run_ratchetbase_Number, if_pos (by simp; omega), sidx_nat hi, h3]
    simp only [some_bind', Lib.decFrom, h2]
    by_cases hlo : c.toNat < 48
    · rw [if_pos (by simp; omega), digitVal_none.2 (by omega)]
    · rw [if_neg (by simp; omega)]
      by_cases hhi : 57 < c.toNat
      · rw [if_pos (by simp; omega), digitVal_none.2 (by omega)]
      · rw [if_neg (by simp; omega), run_ratchetbase_Number, sidx_nat hi]
        simp only [some_bind', h2]
        rw [digitVal_iff.2 ⟨by omega, by omega, rfl⟩]
        have hn' : n * 10 + (c.toNat - 48) < 10 ^ (i + 1) := by rw [Nat.pow_succ]; omega
        rw [wrap_u8' (x := (c.toNat : Int) - 48) (by omega) (by omega), wrap_i64 (x := (c.toNat : Int) - 48) (by omega) (by omega), wrap_i64 (x := 10 * (n : Int)) (by omega) (by omega), wrap_i64 (x := 10 * (n : Int) + ((c.toNat : Int) - 48)) (by omega) (by omega), wrap_i64 (x := (i : Int) + 1) (by omega) (by omega)]
        have := ih (i + 1) (n * 10 + (c.toNat - 48)) (by omega) hn'
        rw [show 10 * (n : Int) + ((c.toNat : Int) - 48) = ((n * 10 + (c.toNat - 48) : Nat) : Int) by omega, show ((i : Int) + 1) = ((i + 1 : Nat) : Int) by omega, this]
theorem atoiN_short {s : ByteArray} (h : s.size ≤ 18) : atoiN s = match Lib.atoi s.data.toList with | some v => (v, false) | none => (0, true) := by
  unfold atoiN
  rw [Lib.atoiAll_short _ (by rw [sizeL]; exact h)]
  cases Lib.atoi s.data.toList <;> rfl
theorem natOk_false_dig {s : ByteArray} (h : isDig (bt s 0) = false) : natOk s = false := by
  cases hk : natOk s with
  | false => rfl
  | true => rw [(natOk_dig hk).2.1] at h; cases h
theorem natOk_false_size {s : ByteArray} (h : 9 < s.size) : natOk s = false := by
  cases hk : natOk s with
  | false => rfl
  | true => have := (natOk_dig hk).2.2; omega
theorem deci_data (n : Int) : (deci n).data.toList = Lib.itoa n := by unfold deci; rfl
theorem byte_ext {a b : ByteArray} (h : a.data.toList = b.data.toList) : a = b := by
  obtain ⟨⟨a⟩⟩ := a
  obtain ⟨⟨b⟩⟩ := b
  have h : a = b := h
  rw [h]
theorem rNumber_eq (s : ByteArray) (hs : s.size ≤ 60000) : ∃ x, run_ratchetref05_number (.start s) = some ((x, (natOk s, ())), ()) ∧ (natOk s = true → x = natN s) := by
  rw [run_ratchetref05_number]
  by_cases h0 : s.size = 0
  · have hn : natOk s = false := natOk_false_dig (by
      unfold bt
      rw [List.getD, List.getElem?_eq_none (by rw [sizeL]; omega)]
      rfl)
    rw [run_ratchetbase_Number, if_neg (by rw [h0]; decide), run_ratchetbase_Number, if_pos (by rw [h0]; decide)]
    simp only [some_bind']
    rw [if_neg (by decide), hn]
    exact ⟨0, rfl, fun h => by cases h⟩
  have hpos : 0 < s.size := by omega
  obtain ⟨c, h1, h2, h3⟩ := drop_bt hpos
  rw [List.drop_zero] at h3
  rw [run_ratchetbase_Number, if_pos (by simp; omega), show (0 : Int) = ((0 : Nat) : Int) from rfl, sidx_nat hpos]
  simp only [some_bind', h2]
  have z0 : ((0 : Nat) : Int) = 0 := rfl
  have z1 : ((1 : Nat) : Int) = 1 := rfl
  by_cases hm : c.toNat = 45
  · -- a minus sign
    have hn : natOk s = false := natOk_false_dig (by rw [h2, hm]; rfl)
    rw [if_pos (by simp; omega), hn]
    rw [run_ratchetbase_Number]
    by_cases hs1 : s.size = 1
    · rw [if_pos (by simp; omega)]
      exact ⟨0, rfl, fun h => by cases h⟩
    · rw [if_neg (by simp; omega), wrap_i64 (x := (s.size : Int) - 1) (by omega) (by omega)]
      by_cases hs10 : 10 < s.size
      · rw [if_pos (by simp; omega)]
        exact ⟨0, rfl, fun h => by cases h⟩
      · obtain ⟨c1, g1, g2, g3⟩ := drop_bt (s := s) (i := 1) (by omega)
        rw [if_neg (by simp; omega), ← z1, sidx_nat (by omega)]
        simp only [some_bind', g2]
        by_cases hz : c1.toNat = 48
        · rw [if_pos (by simp; omega), if_pos (by simp; omega)]
          exact ⟨0, rfl, fun h => by cases h⟩
        · rw [if_neg (by simp; omega), run_ratchetbase_Number]
          have := num_loop (s := s) (by omega) 1 (s.size - 1) 1 0 (by omega) (by decide)
          rw [z0] at this
          rw [z1, ← z1] at this ⊢
          rw [z0]
          rw [this, g3]
          simp only [Lib.decFrom]
          cases hd : Lib.digitVal c1 with
          | none => exact ⟨0, rfl, fun h => by cases h⟩
          | some d =>
            obtain ⟨d0, d1, d2⟩ := digitVal_iff.1 hd
            cases hf : Lib.decFrom (0 * 10 + d) (s.data.toList.drop (1 + 1)) with
            | none => exact ⟨0, by simp only [hf, some_bind']; rfl, fun h => by cases h⟩
            | some m =>
              have := decFrom_ge _ _ _ hf
              refine ⟨-(m : Int), ?_, fun h => by cases h⟩
              simp only [hf, some_bind', if_true]
              simp
              omega
  · rw [if_neg (by simp; omega), run_ratchetbase_Number, if_neg (show ¬ ((s.size : Int) == ((0 : Nat) : Int)) = true by simp only [beq_iff_eq]; omega), wrap_i64 (x := (s.size : Int) - ((0 : Nat) : Int)) (by omega) (by omega)]
    by_cases hs9 : 9 < s.size
    · rw [if_pos (by simp; omega), natOk_false_size hs9]
      exact ⟨0, rfl, fun h => by cases h⟩
    · rw [if_neg (by simp; omega), ← z0, sidx_nat hpos]
      simp only [some_bind', h2]
      by_cases hz : c.toNat = 48 ∧ 1 < s.size
      · have hn : natOk s = false := by
          cases hk : natOk s with
          | false => rfl
          | true =>
            have k1 := (natOk_dig hk).1
            have k2 := congrArg (fun b : ByteArray => b.data.toList) k1
            simp only [deci_data] at k2
            have k3 : Lib.itoa (natN s) = Lib.decDigits (natN s).toNat := by
              unfold Lib.itoa
              rw [if_neg (by have := natN_ge hk; omega)]
            rw [k3, h3] at k2
            have k4 := (dd_dig _ _ _ k2 (UInt8.toNat_inj.1 hz.1)).2
            have k5 := congrArg List.length k4
            rw [List.length_drop, sizeL] at k5
            simp at k5
            omega
        rw [if_pos (by simp; omega), if_pos (by simp; omega), hn]
        exact ⟨0, rfl, fun h => by cases h⟩
      · have step : (if (((c.toNat : Int)) == (48 : Int)) = true then (if (decide ((s.size : Int) > (1 : Int))) = true then some (((0 : Int), (false, ())), ()) else run_ratchetbase_Number (.p31 s ((0 : Nat) : Int))) else run_ratchetbase_Number (.p31 s ((0 : Nat) : Int))) = run_ratchetbase_Number (.p31 s ((0 : Nat) : Int)) := by
          by_cases h48 : c.toNat = 48
          · rw [if_pos (by simp; omega), if_neg (by simp; omega)]
          · rw [if_neg (by simp; omega)]
        have hl := num_loop (s := s) (by omega) 0 s.size 0 0 (by omega) (by decide)
        rw [z0] at hl step ⊢
        rw [step, run_ratchetbase_Number, hl, List.drop_zero]
        have hat : ∀ m, Lib.decFrom 0 s.data.toList = some m → natOk s = true ∧ natN s = (m : Int) := by
          intro m hf
          have hne : s.data.toList ≠ [] := by rw [h3]; exact List.cons_ne_nil _ _
          have hcan : s.data.toList = [48] ∨ ∀ r, s.data.toList ≠ 48 :: r := by
            by_cases h48 : c.toNat = 48
            · refine .inl ?_
              rw [h3, UInt8.toNat_inj.1 (show c.toNat = (48 : UInt8).toNat from h48), List.drop_eq_nil_of_le (by rw [sizeL]; omega)]
            · refine .inr fun r hr => h48 ?_
              rw [h3] at hr
              have : c = 48 := by injection hr
              rw [this]; rfl
          have hdd := dd_val _ _ m rfl hf hne hcan
          have hdig : isDig (bt s 0) = true := by
            rw [h3] at hf
            simp only [Lib.decFrom] at hf
            cases hd : Lib.digitVal c with
            | none => rw [hd] at hf; cases hf
            | some d =>
              obtain ⟨d0, d1, d2⟩ := digitVal_iff.1 hd
              rw [h2]
              unfold isDig
              simp
              omega
          have hc45 : (c == 45) = false := beq_eq_false_iff_ne.2 fun h => hm (by rw [h]; rfl)
          have hc43 : (c == 43) = false := beq_eq_false_iff_ne.2 fun h => by
            rw [h2, h] at hdig
            exact absurd hdig (by decide)
          have hat : Lib.atoi s.data.toList = some (m : Int) := by
            rw [h3]
            simp only [Lib.atoi, hc45, hc43, Bool.false_eq_true, if_false]
            rw [← h3]
            unfold Lib.decNat
            rw [if_neg (by rw [h3]; exact Bool.false_ne_true), hf]
            rfl
          have hN : atoiN s = ((m : Int), false) := by rw [atoiN_short (by omega), hat]
          have hnn : natN s = (m : Int) := by unfold natN; rw [hN]
          refine ⟨?_, hnn⟩
          unfold natOk
          rw [hN, hnn, hdig]
          have hdc : deci (m : Int) = s := byte_ext (by
            rw [deci_data]
            unfold Lib.itoa
            rw [if_neg (by omega), Int.toNat_natCast]
            exact hdd)
          rw [hdc, seq_self]
          simp
          omega
        cases hf : Lib.decFrom 0 s.data.toList with
        | some m =>
          obtain ⟨a1, a2⟩ := hat m hf
          simp only [some_bind']
          rw [if_neg (show ¬ (0 : Int) = 1 by decide)]
          rw [if_pos rfl, a1]
          exact ⟨(m : Int), by simp, fun _ => a2.symm⟩
        | none =>
          have hn : natOk s = false := by
            by_cases hdig : isDig (bt s 0) = true
            · have hc45 : (c == 45) = false := beq_eq_false_iff_ne.2 fun h => hm (by rw [h]; rfl)
              have hc43 : (c == 43) = false := beq_eq_false_iff_ne.2 fun h => by
                rw [h2, h] at hdig
                exact absurd hdig (by decide)
              have hat : Lib.atoi s.data.toList = none := by
                rw [h3]
                simp only [Lib.atoi, hc45, hc43, Bool.false_eq_true, if_false]
                rw [← h3]
                unfold Lib.decNat
                rw [if_neg (by rw [h3]; exact Bool.false_ne_true), hf]
                rfl
              have hN : atoiN s = (0, true) := by rw [atoiN_short (by omega), hat]
              unfold natOk
              rw [hN]
              rfl
            · exact natOk_false_dig (by simpa using hdig)
          simp only [some_bind']
          rw [hn]
          exact ⟨0, rfl, fun h => by cases h⟩
end Go.Proofs.YtfmkleeneddijaaGreatDoor.Ev.F
