/- Bytes, numbers, digits. -/
import Derived.Test.YtjededkgblbamaaGreatDoorTPMach
import Derived.Test.YtjededkgblbamaaGreatDoorTEvPure
import Derived.Lib.AtoiTie
set_option linter.unusedVariables false
set_option linter.unusedSimpArgs false
set_option linter.unnecessarySimpa false
namespace Go.Proofs.YtjededkgblbamaaGreatDoor.Ev.F
open Go.Proofs.YtjededkgblbamaaGreatDoor.Ev

def bt (s : ByteArray) (i : Nat) : Int := ((s.data.toList.getD i 0).toNat : Int)
theorem sizeL (s : ByteArray) : s.data.toList.length = s.size := by rw [Array.length_toList]; rfl
theorem sidx_nat {s : ByteArray} {i : Nat} (h : i < s.size) : sidx s (i : Int) = some (bt s i) := by
  unfold sidx bt
  rw [if_pos (by omega), Int.toNat_natCast, List.getD, List.getElem?_eq_getElem (by rw [sizeL]; exact h)]
  rfl
theorem bt_0 (s : ByteArray) (i : Nat) : 0 ≤ bt s i := by unfold bt; omega
theorem bt_lt (s : ByteArray) (i : Nat) : bt s i < 256 := by
  unfold bt
  have := (s.data.toList.getD i 0).toNat_lt
  omega
theorem span_nat {n i j : Nat} (h1 : i ≤ j) (h2 : j ≤ n) : span n (i : Int) (j : Int) = some (i, j) := by
  unfold span
  rw [if_pos ⟨by omega, by omega, by omega⟩]
  rfl
theorem seq_iff {a b : ByteArray} : seq a b = true ↔ a = b := by
  obtain ⟨⟨a⟩⟩ := a
  obtain ⟨⟨b⟩⟩ := b
  simp [seq]
theorem seq_self (a : ByteArray) : seq a a = true := seq_iff.2 rfl

theorem ext_bt {a b : ByteArray} (h : a.size = b.size) (hb : ∀ i, i < a.size → bt a i = bt b i) : a = b := by
  obtain ⟨⟨a⟩⟩ := a
  obtain ⟨⟨b⟩⟩ := b
  congr 2
  refine List.ext_getElem (by simpa [ByteArray.size] using h) fun i h1 h2 => ?_
  have := hb i (by simpa [ByteArray.size] using h1)
  unfold bt at this
  simp only [List.getD, List.getElem?_eq_getElem h1, List.getElem?_eq_getElem h2, Option.getD_some] at this
  exact UInt8.toNat_inj.1 (by omega)
theorem size_ext (s : ByteArray) {i j : Nat} (h1 : i ≤ j) (h2 : j ≤ s.size) : (s.extract i j).size = j - i := by
  rw [ByteArray.size_extract]; omega
theorem bt_ext (s : ByteArray) {i j k : Nat} (h2 : j ≤ s.size) (hk : i + k < j) : bt (s.extract i j) k = bt s (i + k) := by
  unfold bt
  have h3 : (s.extract i j).data.toList = (s.data.toList.take j).drop i := by
    rw [ByteArray.data_extract, Array.toList_extract, List.extract_eq_take_drop]
    apply List.ext_getElem?
    intro n
    simp only [List.getElem?_take, List.getElem?_drop]
    by_cases hn : n < j - i
    · rw [if_pos hn, if_pos (by omega)]
    · rw [if_neg hn, if_neg (by omega)]
  rw [h3]
  simp only [List.getD, List.getElem?_drop, List.getElem?_take, if_pos hk]

def isDig (c : Int) : Bool := decide (48 ≤ c) && decide (c ≤ 57)
noncomputable def natN (s : ByteArray) : Int := (atoiN s).1
noncomputable def deci (n : Int) : ByteArray := ⟨(Lib.itoa n).toArray⟩
noncomputable def natOk (s : ByteArray) : Bool := !(atoiN s).2 && (decide (s.size ≤ 9) && (seq (deci (natN s)) s && isDig (bt s 0)))
theorem deci_pos (n : Int) : 0 < (deci n).size := by
  have : (deci n).size = (Lib.itoa n).length := by unfold deci; rfl
  rw [this]
  unfold Lib.itoa
  split
  · simp
  · unfold Lib.decDigits
    split <;> simp
theorem natN_bounds {s : ByteArray} (h : (atoiN s).2 = false) : -9223372036854775808 ≤ natN s ∧ natN s ≤ 9223372036854775807 := by
  unfold natN
  unfold atoiN at h ⊢
  cases ha : Lib.atoiAll s.data.toList with
  | ok v => exact Lib.atoiAll_bounds ha
  | «syntax» => rw [ha] at h; cases h
  | range => rw [ha] at h; cases h
theorem natOk_ge {s : ByteArray} (h : natOk s = true) : (atoiN s).2 = false := by
  unfold natOk at h
  simp only [Bool.and_eq_true, Bool.not_eq_true'] at h
  exact h.1
theorem natOk_dig {s : ByteArray} (h : natOk s = true) : deci (natN s) = s ∧ isDig (bt s 0) = true ∧ s.size ≤ 9 := by
  unfold natOk at h
  simp only [Bool.and_eq_true, decide_eq_true_eq, seq_iff] at h
  exact ⟨h.2.2.1, h.2.2.2, h.2.1⟩
theorem natN_ge {s : ByteArray} (h : natOk s = true) : 0 ≤ natN s := by
  obtain ⟨h1, h2, _⟩ := natOk_dig h
  rcases Int.lt_or_le (natN s) 0 with h3 | h3
  · have : bt (deci (natN s)) 0 = 45 := by
      unfold deci Lib.itoa bt
      rw [if_pos h3]
      rfl
    rw [h1] at this
    rw [this] at h2
    cases h2
  · exact h3
theorem strBytes_range (s : ByteArray) : ∀ c ∈ strBytes s, 0 ≤ c ∧ c < 256 := by
  intro c hc
  unfold strBytes at hc
  obtain ⟨b, _, rfl⟩ := List.mem_map.1 hc
  have := b.toNat_lt
  omega
theorem strBytes_size (s : ByteArray) : (strBytes s).length = s.size := by unfold strBytes; rw [List.length_map]; exact sizeL s
/-! ### decimals -/
theorem dd_dig : ∀ (u : Nat) (c : UInt8) (r : List UInt8), Lib.decDigits u = c :: r → c = 48 → u = 0 ∧ r = [] := by
  intro u
  induction u using Nat.strongRecOn with
  | ind u ih =>
    intro c r h hc
    rw [Lib.decDigits] at h
    split at h
    · rename_i hu
      have h1 : UInt8.ofNat (48 + u) = c := by injection h
      have h2 : r = [] := by injection h with _ h; exact h.symm
      rw [hc] at h1
      have h3 := congrArg UInt8.toNat h1
      rw [UInt8.toNat_ofNat'] at h3
      have h4 : (48 : UInt8).toNat = 48 := rfl
      exact ⟨by omega, h2⟩
    · rename_i hu
      cases hd : Lib.decDigits (u / 10) with
      | nil =>
        have : (Lib.decDigits (u / 10)).length = 0 := by rw [hd]; rfl
        rw [Lib.decDigits] at this
        split at this <;> simp at this
      | cons a l =>
        rw [hd] at h
        have h1 : a = c := by injection h
        have := (ih (u / 10) (by omega) a l hd (h1.trans hc)).1
        omega
theorem decFrom_app (l : List UInt8) : ∀ (a : Nat) (c : UInt8), Lib.decFrom a (l ++ [c]) = (Lib.decFrom a l).bind fun m => (Lib.digitVal c).map fun d => m * 10 + d := by
  induction l with
  | nil =>
    intro a c
    simp only [List.nil_append, Lib.decFrom, Option.bind]
    cases Lib.digitVal c <;> rfl
  | cons b l ih =>
    intro a c
    simp only [List.cons_append, Lib.decFrom]
    cases Lib.digitVal b with
    | none => rfl
    | some d => exact ih _ c
theorem decFrom_ge (l : List UInt8) : ∀ (a m : Nat), Lib.decFrom a l = some m → a ≤ m := by
  induction l with
  | nil => intro a m h; simp [Lib.decFrom] at h; omega
  | cons b l ih =>
    intro a m h
    simp only [Lib.decFrom] at h
    cases hd : Lib.digitVal b with
    | none => rw [hd] at h; cases h
    | some d => rw [hd] at h; have := ih _ _ h; omega
theorem digitVal_iff {c : UInt8} {d : Nat} : Lib.digitVal c = some d ↔ 48 ≤ c.toNat ∧ c.toNat ≤ 57 ∧ d = c.toNat - 48 := by
  unfold Lib.digitVal
  split
  · rename_i h
    simp only [Option.some.injEq]
    omega
  · rename_i h
    constructor
    · intro h; cases h
    · omega
theorem digitVal_none {c : UInt8} : Lib.digitVal c = none ↔ ¬ (48 ≤ c.toNat ∧ c.toNat ≤ 57) := by
  unfold Lib.digitVal
  split <;> simp_all
/-- digits without a superfluous zero are the decimals of their value -/
theorem dd_val : ∀ (n : Nat) (l : List UInt8) (m : Nat), l.length = n → Lib.decFrom 0 l = some m → l ≠ [] → (l = [48] ∨ ∀ r, l ≠ 48 :: r) → Lib.decDigits m = l := by
  intro n
  induction n with
  | zero => intro l m hn h hl; exact absurd (List.length_eq_zero_iff.1 hn) hl
  | succ n ih =>
    intro l m hn h hl h0
    rcases List.eq_nil_or_concat l with rfl | ⟨l', c, rfl⟩
    · exact absurd rfl hl
    · simp only [List.concat_eq_append] at *
      rw [decFrom_app] at h
      cases hl' : Lib.decFrom 0 l' with
      | none => rw [hl'] at h; cases h
      | some m' =>
        rw [hl'] at h
        cases hd : Lib.digitVal c with
        | none => rw [hd] at h; cases h
        | some d =>
          rw [hd] at h
          simp only [Option.bind, Option.map, Option.some.injEq] at h
          obtain ⟨d0, d1, d2⟩ := digitVal_iff.1 hd
          have hc : UInt8.ofNat (48 + d) = c := by
            rw [d2, show 48 + (c.toNat - 48) = c.toNat by omega]
            exact UInt8.ofNat_toNat
          by_cases he : l' = []
          · subst he
            simp only [Lib.decFrom, Option.some.injEq] at hl'
            rw [Lib.decDigits, dif_pos (by omega), show m = d by omega, hc]
            rfl
          · have hz : ∀ r, l' ≠ 48 :: r := by
              intro r hr
              rcases h0 with h0 | h0
              · rw [hr] at h0; simp at h0
              · exact h0 (r ++ [c]) (by rw [hr]; rfl)
            have hm : 1 ≤ m' := by
              cases l' with
              | nil => exact absurd rfl he
              | cons b t =>
                simp only [Lib.decFrom] at hl'
                cases hb : Lib.digitVal b with
                | none => rw [hb] at hl'; cases hl'
                | some e =>
                  rw [hb] at hl'
                  obtain ⟨e0, e1, e2⟩ := digitVal_iff.1 hb
                  have h1 := decFrom_ge _ _ _ hl'
                  have h2 : b ≠ 48 := fun h => hz t (by rw [h])
                  have h3 : b.toNat ≠ 48 := fun h => h2 (UInt8.toNat_inj.1 h)
                  omega
            have := ih l' m' (by simp at hn; omega) hl' he (.inr hz)
            rw [Lib.decDigits, dif_neg (by omega), show m / 10 = m' by omega, show m % 10 = d by omega, hc, this]
theorem bt_get {s : ByteArray} {i : Nat} {c : UInt8} (h : s.data.toList[i]? = some c) : bt s i = (c.toNat : Int) := by
  unfold bt
  rw [List.getD, h]
  rfl
theorem drop_bt {s : ByteArray} {i : Nat} (h : i < s.size) : ∃ c, s.data.toList[i]? = some c ∧ bt s i = (c.toNat : Int) ∧ s.data.toList.drop i = c :: s.data.toList.drop (i + 1) := by
  have h' : i < s.data.toList.length := by rw [sizeL]; exact h
  exact ⟨s.data.toList[i], List.getElem?_eq_getElem h', bt_get (List.getElem?_eq_getElem h'), List.drop_eq_getElem_cons h'⟩
/-- the loop over the digits -/
theorem num_loop {s : ByteArray} (hs : s.size ≤ 10) (a : Int) : ∀ (k i n : Nat), i + k = s.size → n < 10 ^ i →
    run_ratchetbase_Number (.p1012 s a (n : Int) (i : Int)) = some (match Lib.decFrom n (s.data.toList.drop i) with
      | none => ((0, (false, ())), ())
      | some m => if a = 1 then ((-(m : Int), (true, ())), ()) else (((m : Int), (true, ())), ())) := by
  intro k
  induction k with
  | zero =>
    intro i n h hn
    have hp : 10 ^ i ≤ 10 ^ 10 := Nat.pow_le_pow_right (by decide) (by omega)
    have e : (10 : Nat) ^ 10 = 10000000000 := by decide
    rw [run_ratchetbase_Number, if_neg (by simp; omega), List.drop_eq_nil_of_le (by rw [sizeL]; omega)]
    simp only [Lib.decFrom]
    by_cases ha : a = 1
    · rw [if_pos (by simpa using ha), if_pos ha, wrap_i64 (by omega) (by omega)]
      simp
    · rw [if_neg (by simpa using ha), if_neg ha]
  | succ k ih =>
    intro i n h hn
    have hi : i < s.size := by omega
    have hp : 10 ^ (i + 1) ≤ 10 ^ 10 := Nat.pow_le_pow_right (by decide) (by omega)
    have e : (10 : Nat) ^ 10 = 10000000000 := by decide
    obtain ⟨c, h1, h2, h3⟩ := drop_bt hi
    rw [run_ratchetbase_Number, if_pos (by simp; omega), sidx_nat hi, h3]
    simp only [some_bind', Lib.decFrom, h2]
    by_cases hlo : c.toNat < 48
    · rw [if_pos (by simp; omega), digitVal_none.2 (by omega)]
    · rw [if_neg (by simp; omega)]
      by_cases hhi : 57 < c.toNat
      · rw [if_pos (by simp; omega), digitVal_none.2 (by omega)]
      · rw [if_neg (by simp; omega), run_ratchetbase_Number, sidx_nat hi]
        simp only [some_bind', h2]
        rw [digitVal_iff.2 ⟨by omega, by omega, rfl⟩]
        have hn' : n * 10 + (c.toNat - 48) < 10 ^ (i + 1) := by rw [Nat.pow_succ]; omega
        rw [wrap_u8' (x := (c.toNat : Int) - 48) (by omega) (by omega), wrap_i64 (x := (c.toNat : Int) - 48) (by omega) (by omega), wrap_i64 (x := 10 * (n : Int)) (by omega) (by omega), wrap_i64 (x := 10 * (n : Int) + ((c.toNat : Int) - 48)) (by omega) (by omega), wrap_i64 (x := (i : Int) + 1) (by omega) (by omega)]
        have := ih (i + 1) (n * 10 + (c.toNat - 48)) (by omega) hn'
        rw [show 10 * (n : Int) + ((c.toNat : Int) - 48) = ((n * 10 + (c.toNat - 48) : Nat) : Int) by omega, show ((i : Int) + 1) = ((i + 1 : Nat) : Int) by omega, this]
theorem atoiN_short {s : ByteArray} (h : s.size ≤ 18) : atoiN s = match Lib.atoi s.data.toList with | some v => (v, false) | none => (0, true) := by
  unfold atoiN
  rw [Lib.atoiAll_short _ (by rw [sizeL]; exact h)]
  cases Lib.atoi s.data.toList <;> rfl
theorem natOk_false_dig {s : ByteArray} (h : isDig (bt s 0) = false) : natOk s = false := by
  cases hk : natOk s with
  | false => rfl
  | true => rw [(natOk_dig hk).2.1] at h; cases h
theorem natOk_false_size {s : ByteArray} (h : 9 < s.size) : natOk s = false := by
  cases hk : natOk s with
  | false => rfl
  | true => have := (natOk_dig hk).2.2; omega
theorem deci_data (n : Int) : (deci n).data.toList = Lib.itoa n := by unfold deci; rfl
theorem byte_ext {a b : ByteArray} (h : a.data.toList = b.data.toList) : a = b := by
  obtain ⟨⟨a⟩⟩ := a
  obtain ⟨⟨b⟩⟩ := b
  have h : a = b := h
  rw [h]
/-! ### decimals -/
theorem Decimal_loop : ∀ (n : Nat), n < 100000 → ∀ (l : List UInt8), l.length + n ≤ 200000 → run_ratchetbase_Decimal (.p248 (n : Int) ⟨l.toArray⟩ ⟨#[]⟩) = some ((⟨((if n = 0 then [] else Lib.decDigits n) ++ l).toArray⟩, ()), ()) := by
  intro n
  induction n using Nat.strongRecOn with
  | ind n ih =>
    intro hn l hl
    have hlsz : ∀ m : List UInt8, (⟨m.toArray⟩ : ByteArray).size = m.length := fun m => rfl
    have hsz : (⟨#[]⟩ : ByteArray).size = 0 := rfl
    rw [run_ratchetbase_Decimal]
    by_cases h0 : n = 0
    · subst h0
      rw [if_neg (by decide), if_pos (Nat.ble_eq_true_of_le (by rw [hsz]; rw [hlsz]; omega)), if_pos rfl]
      congr 3
    · have ht : Int.tmod (n : Int) 10 = ((n % 10 : Nat) : Int) := by rw [Int.tmod_eq_emod_of_nonneg (by omega)]; omega
      have hd : Int.tdiv (n : Int) 10 = ((n / 10 : Nat) : Int) := by rw [Int.tdiv_eq_ediv_of_nonneg (by omega)]; omega
      have hm := Nat.mod_lt n (show 0 < 10 by decide)
      have hS : run_ratchetbase_Size (.start ((n % 10 : Nat) : Int)) = some ((((n % 10 : Nat) : Int), ()), ()) := by
        rw [run_ratchetbase_Size, wrap_i64 (x := 0 - ((n % 10 : Nat) : Int)) (by omega) (by omega), if_neg (by omega)]
      rw [if_pos (by simp only [bne_iff_ne]; omega), if_pos (by decide), ht, hS]
      simp only [some_bind']
      rw [wrap_i64 (x := 48 + ((n % 10 : Nat) : Int)) (by omega) (by omega), wrap_u8' (x := 48 + ((n % 10 : Nat) : Int)) (by omega) (by omega)]
      have eb : bytesStr ([48 + ((n % 10 : Nat) : Int)] : List Int) = ⟨[UInt8.ofNat (48 + n % 10)].toArray⟩ := by
        unfold bytesStr
        simp only [List.map_cons, List.map_nil]
        rw [show (48 + ((n % 10 : Nat) : Int)).toNat = 48 + n % 10 by omega]
      have ea : (⟨[UInt8.ofNat (48 + n % 10)].toArray⟩ : ByteArray) ++ ⟨l.toArray⟩ = ⟨(UInt8.ofNat (48 + n % 10) :: l).toArray⟩ := byte_ext (by simp)
      rw [eb, ea, if_pos (Nat.ble_eq_true_of_le (by rw [hlsz, hlsz]; simp; omega)), if_pos (by decide), hd, wrap_i64 (x := ((n / 10 : Nat) : Int)) (by omega) (by omega), ih (n / 10) (by omega) (by omega) _ (by simp; omega), if_neg h0]
      conv => rhs; rw [Lib.decDigits]
      by_cases h10 : n < 10
      · rw [dif_pos h10, if_pos (by omega), Nat.mod_eq_of_lt h10]
        rfl
      · rw [dif_neg h10, if_neg (by omega), List.append_assoc]
        rfl
theorem Decimal_eq {n : Nat} (hn : n < 100000) : run_ratchetbase_Decimal (.start (n : Int)) = some ((deci (n : Int), ()), ()) := by
  have hd : deci (n : Int) = ⟨(Lib.decDigits n).toArray⟩ := byte_ext (by
    rw [deci_data]
    unfold Lib.itoa
    rw [if_neg (by omega), Int.toNat_natCast])
  rw [run_ratchetbase_Decimal]
  by_cases h0 : n = 0
  · subst h0
    rw [if_pos (by decide), hd, Lib.decDigits, dif_pos (by decide)]
    rfl
  · rw [if_neg (by simp only [beq_iff_eq]; omega), if_neg (by simp only [decide_eq_true_eq]; omega), run_ratchetbase_Decimal]
    have := Decimal_loop n hn [] (by simp; omega)
    rw [if_neg h0, List.append_nil] at this
    rw [hd]
    exact this
end Go.Proofs.YtjededkgblbamaaGreatDoor.Ev.F
