/- Bytes, numbers, digits. -/
import Derived.Test.YtcgkjbglijganaaGreatDoorF1
import Derived.Test.YtcgkjbglijganaaGreatDoorEvPure
import Derived.Lib.AtoiTie
set_option linter.unusedVariables false
set_option linter.unusedSimpArgs false
set_option linter.unnecessarySimpa false
namespace Go.Proofs.YtcgkjbglijganaaGreatDoor.Ev.F
open Go.Proofs.YtcgkjbglijganaaGreatDoor.Ev

theorem fits_one {a b : Nat} (by_ : Nat) (h : (a + b) * by_ ≤ 140737488355328) : fits a b by_ = true := Nat.ble_eq_true_of_le h
def bt (s : ByteArray) (i : Nat) : Int := ((s.data.toList.getD i 0).toNat : Int)
theorem sizeL (s : ByteArray) : s.data.toList.length = s.size := by rw [Array.length_toList]; rfl
theorem sidx_nat {s : ByteArray} {i : Nat} (h : i < s.size) : sidx s (i : Int) = some (bt s i) := by
  unfold sidx bt
  rw [if_pos (by omega), Int.toNat_natCast, List.getD, List.getElem?_eq_getElem (by rw [sizeL]; exact h)]
  rfl
theorem bt_0 (s : ByteArray) (i : Nat) : 0 ≤ bt s i := by unfold bt; omega
theorem bt_lt (s : ByteArray) (i : Nat) : bt s i < 256 := by
  unfold bt
  have := (s.data.toList.getD i 0).toNat_lt
  omega
theorem span_nat {n i j : Nat} (h1 : i ≤ j) (h2 : j ≤ n) : span n (i : Int) (j : Int) = some (i, j) := by
  unfold span
  rw [if_pos ⟨by omega, by omega, by omega⟩]
  rfl
theorem seq_iff {a b : ByteArray} : seq a b = true ↔ a = b := by
  obtain ⟨⟨a⟩⟩ := a
  obtain ⟨⟨b⟩⟩ := b
  simp [seq]
theorem seq_self (a : ByteArray) : seq a a = true := seq_iff.2 rfl

theorem ext_bt {a b : ByteArray} (h : a.size = b.size) (hb : ∀ i, i < a.size → bt a i = bt b i) : a = b := by
  obtain ⟨⟨a⟩⟩ := a
  obtain ⟨⟨b⟩⟩ := b
  congr 2
  refine List.ext_getElem (by simpa [ByteArray.size] using h) fun i h1 h2 => ?_
  have := hb i (by simpa [ByteArray.size] using h1)
  unfold bt at this
  simp only [List.getD, List.getElem?_eq_getElem h1, List.getElem?_eq_getElem h2, Option.getD_some] at this
  exact UInt8.toNat_inj.1 (by omega)
theorem size_ext (s : ByteArray) {i j : Nat} (h1 : i ≤ j) (h2 : j ≤ s.size) : (s.extract i j).size = j - i := by
  rw [ByteArray.size_extract]; omega
theorem bt_ext (s : ByteArray) {i j k : Nat} (h2 : j ≤ s.size) (hk : i + k < j) : bt (s.extract i j) k = bt s (i + k) := by
  unfold bt
  have h3 : (s.extract i j).data.toList = (s.data.toList.take j).drop i := by
    rw [ByteArray.data_extract, Array.toList_extract, List.extract_eq_take_drop]
    apply List.ext_getElem?
    intro n
    simp only [List.getElem?_take, List.getElem?_drop]
    by_cases hn : n < j - i
    · rw [if_pos hn, if_pos (by omega)]
    · rw [if_neg hn, if_neg (by omega)]
  rw [h3]
  simp only [List.getD, List.getElem?_drop, List.getElem?_take, if_pos hk]

/-- does w stand there -/
def hasW (s : ByteArray) (i : Nat) (w : ByteArray) : Bool := decide (i + w.size ≤ s.size) && seq (s.extract i (i + w.size)) w
theorem hasW_iff {s w : ByteArray} {i : Nat} : hasW s i w = true ↔ i + w.size ≤ s.size ∧ ∀ j, j < w.size → bt s (i + j) = bt w j := by
  unfold hasW
  rw [Bool.and_eq_true, decide_eq_true_eq, seq_iff]
  constructor
  · rintro ⟨h1, h2⟩
    refine ⟨h1, fun j hj => ?_⟩
    have := bt_ext s (i := i) (j := i + w.size) (k := j) h1 (by omega)
    rw [h2] at this
    exact this.symm
  · rintro ⟨h1, h2⟩
    refine ⟨h1, ext_bt (by rw [size_ext s (by omega) h1]; omega) fun j hj => ?_⟩
    rw [size_ext s (by omega) h1] at hj
    rw [bt_ext s h1 (by omega)]
    exact h2 j (by omega)
theorem hasW_two {s : ByteArray} {i : Nat} {a b : UInt8} : hasW s i ⟨#[a, b]⟩ = true ↔ i + 2 ≤ s.size ∧ bt s i = a.toNat ∧ bt s (i + 1) = b.toNat := by
  rw [hasW_iff]
  have e : (⟨#[a, b]⟩ : ByteArray).size = 2 := rfl
  rw [e]
  constructor
  · rintro ⟨h1, h2⟩
    exact ⟨h1, h2 0 (by omega), h2 1 (by omega)⟩
  · rintro ⟨h1, h2, h3⟩
    refine ⟨h1, fun j hj => ?_⟩
    match j, hj with
    | 0, _ => exact h2
    | 1, _ => exact h3

def isDig (c : Int) : Bool := decide (48 ≤ c) && decide (c ≤ 57)
noncomputable def natN (s : ByteArray) : Int := (atoiN s).1
noncomputable def deci (n : Int) : ByteArray := ⟨(Lib.itoa n).toArray⟩
noncomputable def natOk (s : ByteArray) : Bool := !(atoiN s).2 && (decide (s.size ≤ 9) && (seq (deci (natN s)) s && isDig (bt s 0)))
theorem deci_pos (n : Int) : 0 < (deci n).size := by
  have : (deci n).size = (Lib.itoa n).length := by unfold deci; rfl
  rw [this]
  unfold Lib.itoa
  split
  · simp
  · unfold Lib.decDigits
    split <;> simp
theorem natN_bounds {s : ByteArray} (h : (atoiN s).2 = false) : -9223372036854775808 ≤ natN s ∧ natN s ≤ 9223372036854775807 := by
  unfold natN
  unfold atoiN at h ⊢
  cases ha : Lib.atoiAll s.data.toList with
  | ok v => exact Lib.atoiAll_bounds ha
  | «syntax» => rw [ha] at h; cases h
  | range => rw [ha] at h; cases h
def digO (c : Int) : Int := if 48 ≤ c ∧ c ≤ 57 then c - 48 else if 97 ≤ c ∧ c ≤ 102 then c - 87 else -1
/-- the digits of a literal -/
def digL (base : Int) : List Int → Int → Option Int
 | [], v => some v
 | c :: cs, v => if digO c < 0 ∨ base ≤ digO c then none else digL base cs (if v * base + digO c < 65536 then v * base + digO c else 65536)
theorem digO_range (c : Int) : -1 ≤ digO c ∧ digO c ≤ 15 := by
  unfold digO
  split
  · omega
  · split <;> omega
theorem natOk_ge {s : ByteArray} (h : natOk s = true) : (atoiN s).2 = false := by
  unfold natOk at h
  simp only [Bool.and_eq_true, Bool.not_eq_true'] at h
  exact h.1
theorem natOk_dig {s : ByteArray} (h : natOk s = true) : deci (natN s) = s ∧ isDig (bt s 0) = true ∧ s.size ≤ 9 := by
  unfold natOk at h
  simp only [Bool.and_eq_true, decide_eq_true_eq, seq_iff] at h
  exact ⟨h.2.2.1, h.2.2.2, h.2.1⟩
theorem natN_ge {s : ByteArray} (h : natOk s = true) : 0 ≤ natN s := by
  obtain ⟨h1, h2, _⟩ := natOk_dig h
  rcases Int.lt_or_le (natN s) 0 with h3 | h3
  · have : bt (deci (natN s)) 0 = 45 := by
      unfold deci Lib.itoa bt
      rw [if_pos h3]
      rfl
    rw [h1] at this
    rw [this] at h2
    cases h2
  · exact h3
theorem strBytes_range (s : ByteArray) : ∀ c ∈ strBytes s, 0 ≤ c ∧ c < 256 := by
  intro c hc
  unfold strBytes at hc
  obtain ⟨b, _, rfl⟩ := List.mem_map.1 hc
  have := b.toNat_lt
  omega
theorem strBytes_size (s : ByteArray) : (strBytes s).length = s.size := by unfold strBytes; rw [List.length_map]; exact sizeL s
/-! ### decimals -/
theorem dd_dig : ∀ (u : Nat) (c : UInt8) (r : List UInt8), Lib.decDigits u = c :: r → c = 48 → u = 0 ∧ r = [] := by
  intro u
  induction u using Nat.strongRecOn with
  | ind u ih =>
    intro c r h hc
    rw [Lib.decDigits] at h
    split at h
    · rename_i hu
      have h1 : UInt8.ofNat (48 + u) = c := by injection h
      have h2 : r = [] := by injection h with _ h; exact h.symm
      rw [hc] at h1
      have h3 := congrArg UInt8.toNat h1
      rw [UInt8.toNat_ofNat'] at h3
      have h4 : (48 : UInt8).toNat = 48 := rfl
      exact ⟨by omega, h2⟩
    · rename_i hu
      cases hd : Lib.decDigits (u / 10) with
      | nil =>
        have : (Lib.decDigits (u / 10)).length = 0 := by rw [hd]; rfl
        rw [Lib.decDigits] at this
        split at this <;> simp at this
      | cons a l =>
        rw [hd] at h
        have h1 : a = c := by injection h
        have := (ih (u / 10) (by omega) a l hd (h1.trans hc)).1
        omega
theorem decFrom_app (l : List UInt8) : ∀ (a : Nat) (c : UInt8), Lib.decFrom a (l ++ [c]) = (Lib.decFrom a l).bind fun m => (Lib.digitVal c).map fun d => m * 10 + d := by
  induction l with
  | nil =>
    intro a c
    simp only [List.nil_append, Lib.decFrom, Option.bind]
    cases Lib.digitVal c <;> rfl
  | cons b l ih =>
    intro a c
    simp only [List.cons_append, Lib.decFrom]
    cases Lib.digitVal b with
    | none => rfl
    | some d => exact ih _ c
theorem decFrom_ge (l : List UInt8) : ∀ (a m : Nat), Lib.decFrom a l = some m → a ≤ m := by
  induction l with
  | nil => intro a m h; simp [Lib.decFrom] at h; omega
  | cons b l ih =>
    intro a m h
    simp only [Lib.decFrom] at h
    cases hd : Lib.digitVal b with
    | none => rw [hd] at h; cases h
    | some d => rw [hd] at h; have := ih _ _ h; omega
theorem digitVal_iff {c : UInt8} {d : Nat} : Lib.digitVal c = some d ↔ 48 ≤ c.toNat ∧ c.toNat ≤ 57 ∧ d = c.toNat - 48 := by
  unfold Lib.digitVal
  split
  · rename_i h
    simp only [Option.some.injEq]
    omega
  · rename_i h
    constructor
    · intro h; cases h
    · omega
theorem digitVal_none {c : UInt8} : Lib.digitVal c = none ↔ ¬ (48 ≤ c.toNat ∧ c.toNat ≤ 57) := by
  unfold Lib.digitVal
  split <;> simp_all
/-- digits without a superfluous zero are the decimals of their value -/
theorem dd_val : ∀ (n : Nat) (l : List UInt8) (m : Nat), l.length = n → Lib.decFrom 0 l = some m → l ≠ [] → (l = [48] ∨ ∀ r, l ≠ 48 :: r) → Lib.decDigits m = l := by
  intro n
  induction n with
  | zero => intro l m hn h hl; exact absurd (List.length_eq_zero_iff.1 hn) hl
  | succ n ih =>
    intro l m hn h hl h0
    rcases List.eq_nil_or_concat l with rfl | ⟨l', c, rfl⟩
    · exact absurd rfl hl
    · simp only [List.concat_eq_append] at *
      rw [decFrom_app] at h
      cases hl' : Lib.decFrom 0 l' with
      | none => rw [hl'] at h; cases h
      | some m' =>
        rw [hl'] at h
        cases hd : Lib.digitVal c with
        | none => rw [hd] at h; cases h
        | some d =>
          rw [hd] at h
          simp only [Option.bind, Option.map, Option.some.injEq] at h
          obtain ⟨d0, d1, d2⟩ := digitVal_iff.1 hd
          have hc : UInt8.ofNat (48 + d) = c := by
            rw [d2, show 48 + (c.toNat - 48) = c.toNat by omega]
            exact UInt8.ofNat_toNat
          by_cases he : l' = []
          · subst he
            simp only [Lib.decFrom, Option.some.injEq] at hl'
            rw [Lib.decDigits, dif_pos (by omega), show m = d by omega, hc]
            rfl
          · have hz : ∀ r, l' ≠ 48 :: r := by
              intro r hr
              rcases h0 with h0 | h0
              · rw [hr] at h0; simp at h0
              · exact h0 (r ++ [c]) (by rw [hr]; rfl)
            have hm : 1 ≤ m' := by
              cases l' with
              | nil => exact absurd rfl he
              | cons b t =>
                simp only [Lib.decFrom] at hl'
                cases hb : Lib.digitVal b with
                | none => rw [hb] at hl'; cases hl'
                | some e =>
                  rw [hb] at hl'
                  obtain ⟨e0, e1, e2⟩ := digitVal_iff.1 hb
                  have h1 := decFrom_ge _ _ _ hl'
                  have h2 : b ≠ 48 := fun h => hz t (by rw [h])
                  have h3 : b.toNat ≠ 48 := fun h => h2 (UInt8.toNat_inj.1 h)
                  omega
            have := ih l' m' (by simp at hn; omega) hl' he (.inr hz)
            rw [Lib.decDigits, dif_neg (by omega), show m / 10 = m' by omega, show m % 10 = d by omega, hc, this]
theorem bt_get {s : ByteArray} {i : Nat} {c : UInt8} (h : s.data.toList[i]? = some c) : bt s i = (c.toNat : Int) := by
  unfold bt
  rw [List.getD, h]
  rfl
theorem drop_bt {s : ByteArray} {i : Nat} (h : i < s.size) : ∃ c, s.data.toList[i]? = some c ∧ bt s i = (c.toNat : Int) ∧ s.data.toList.drop i = c :: s.data.toList.drop (i + 1) := by
  have h' : i < s.data.toList.length := by rw [sizeL]; exact h
  exact ⟨s.data.toList[i], List.getElem?_eq_getElem h', bt_get (List.getElem?_eq_getElem h'), List.drop_eq_getElem_cons h'⟩
/-- the loop over the digits -/
theorem num_loop {s : ByteArray} (hs : s.size ≤ 10) (a : Int) : ∀ (k i n : Nat), i + k = s.size → n < 10 ^ i →
    run_ratchetbase_Number (.p1012 s a (n : Int) (i : Int)) = some (match Lib.decFrom n (s.data.toList.drop i) with
      | none => ((0, (false, ())), ())
      | some m => if a = 1 then ((-(m : Int), (true, ())), ()) else (((m : Int), (true, ())), ())) := by
  intro k
  induction k with
  | zero =>
    intro i n h hn
    have hp : 10 ^ i ≤ 10 ^ 10 := Nat.pow_le_pow_right (by decide) (by omega)
    have e : (10 : Nat) ^ 10 = 10000000000 := by decide
    rw [run_ratchetbase_Number, if_neg (by simp; omega), List.drop_eq_nil_of_le (by rw [sizeL]; omega)]
    simp only [Lib.decFrom]
    by_cases ha : a = 1
    · rw [if_pos (by simpa using ha), if_pos ha, wrap_i64 (by omega) (by omega)]
      simp
    · rw [if_neg (by simpa using ha), if_neg ha]
  | succ k ih =>
    intro i n h hn
    have hi : i < s.size := by omega
    have hp : 10 ^ (i + 1) ≤ 10 ^ 10 := Nat.pow_le_pow_right (by decide) (by omega)
    have e : (10 : Nat) ^ 10 = 10000000000 := by decide
    obtain ⟨c, h1, h2, h3⟩ := drop_bt hi
    rw [run_ratchetbase_Number, if_pos (by simp; omega), sidx_nat hi, h3]
    simp only [some_bind', Lib.decFrom, h2]
    by_cases hlo : c.toNat < 48
    · rw [if_pos (by simp; omega), digitVal_none.2 (by omega)]
    · rw [if_neg (by simp; omega)]
      by_cases hhi : 57 < c.toNat
      · rw [if_pos (by simp; omega), digitVal_none.2 (by omega)]
      · rw [if_neg (by simp; omega), run_ratchetbase_Number, sidx_nat hi]
        simp only [some_bind', h2]
        rw [digitVal_iff.2 ⟨by omega, by omega, rfl⟩]
        have hn' : n * 10 + (c.toNat - 48) < 10 ^ (i + 1) := by rw [Nat.pow_succ]; omega
        rw [wrap_u8' (x := (c.toNat : Int) - 48) (by omega) (by omega), wrap_i64 (x := (c.toNat : Int) - 48) (by omega) (by omega), wrap_i64 (x := 10 * (n : Int)) (by omega) (by omega), wrap_i64 (x := 10 * (n : Int) + ((c.toNat : Int) - 48)) (by omega) (by omega), wrap_i64 (x := (i : Int) + 1) (by omega) (by omega)]
        have := ih (i + 1) (n * 10 + (c.toNat - 48)) (by omega) hn'
        rw [show 10 * (n : Int) + ((c.toNat : Int) - 48) = ((n * 10 + (c.toNat - 48) : Nat) : Int) by omega, show ((i : Int) + 1) = ((i + 1 : Nat) : Int) by omega, this]
theorem atoiN_short {s : ByteArray} (h : s.size ≤ 18) : atoiN s = match Lib.atoi s.data.toList with | some v => (v, false) | none => (0, true) := by
  unfold atoiN
  rw [Lib.atoiAll_short _ (by rw [sizeL]; exact h)]
  cases Lib.atoi s.data.toList <;> rfl
theorem natOk_false_dig {s : ByteArray} (h : isDig (bt s 0) = false) : natOk s = false := by
  cases hk : natOk s with
  | false => rfl
  | true => rw [(natOk_dig hk).2.1] at h; cases h
theorem natOk_false_size {s : ByteArray} (h : 9 < s.size) : natOk s = false := by
  cases hk : natOk s with
  | false => rfl
  | true => have := (natOk_dig hk).2.2; omega
theorem deci_data (n : Int) : (deci n).data.toList = Lib.itoa n := by unfold deci; rfl
theorem byte_ext {a b : ByteArray} (h : a.data.toList = b.data.toList) : a = b := by
  obtain ⟨⟨a⟩⟩ := a
  obtain ⟨⟨b⟩⟩ := b
  have h : a = b := h
  rw [h]
theorem Power_eq {w : Int} (h0 : 0 ≤ w) (h1 : w ≤ 62) : run_ratchetbase_Power (.start w) = some ((pw w, ()), ()) := by
  rw [run_ratchetbase_Power, if_pos (by simpa using h0), shl_one h1]
theorem Within_eq (n lo hi : Int) : run_ratchetbase_Within (.start n lo hi) = some ((decide (lo ≤ n) && decide (n ≤ hi), ()), ()) := by
  rw [run_ratchetbase_Within]
  by_cases h : lo ≤ n
  · rw [if_pos (by simpa using h)]; simp [h]
  · rw [if_neg (by simpa using h)]; simp [h]
theorem ext_drop (s : ByteArray) (i : Nat) : (s.extract i s.size).data.toList = s.data.toList.drop i := by
  rw [ByteArray.data_extract, Array.toList_extract, List.extract_eq_take_drop]
  rw [List.take_of_length_le]
  rw [List.length_drop, sizeL]
  exact Nat.le_refl _
theorem strB_cons {s : ByteArray} {i : Nat} (h : i < s.size) : strBytes (s.extract i s.size) = bt s i :: strBytes (s.extract (i + 1) s.size) := by
  obtain ⟨c, h1, h2, h3⟩ := drop_bt h
  unfold strBytes
  rw [ext_drop, ext_drop, h3, h2]
  rfl
theorem strB_nil (s : ByteArray) : strBytes (s.extract s.size s.size) = [] := by
  unfold strBytes
  rw [ext_drop, List.drop_eq_nil_of_le (by rw [sizeL]; exact Nat.le_refl _)]
  rfl
/-- a digit's byte -/
def ub (d : Nat) : UInt8 := UInt8.ofNat (if d < 10 then 48 + d else 87 + d)
/-- so many digits -/
def padD (b : Nat) : Nat → Nat → List UInt8
 | 0, _ => []
 | n + 1, v => padD b n (v / b) ++ [ub (v % b)]
/-- no zeros in front -/
def digs (b : Nat) : Nat → Nat → List UInt8
 | 0, _ => []
 | k + 1, v => if v < b then [ub v] else digs b k (v / b) ++ [ub (v % b)]
def toI (l : List UInt8) : List Int := l.map fun c => (c.toNat : Int)
theorem toI_app (a b : List UInt8) : toI (a ++ b) = toI a ++ toI b := by unfold toI; exact List.map_append
theorem digs_succ (b k v : Nat) : digs b (k + 1) v = if v < b then [ub v] else digs b k (v / b) ++ [ub (v % b)] := rfl
theorem digO_ub : ∀ d : Nat, d < 16 → digO ((ub d).toNat : Int) = (d : Int) := by decide +kernel
theorem div_pow {v b k : Nat} (h : v < b ^ (k + 1)) : v / b < b ^ k := by
  rw [Nat.pow_succ] at h
  exact Nat.div_lt_of_lt_mul (by rw [Nat.mul_comm]; exact h)
theorem digL_app (b : Int) : ∀ (l m : List Int) (x : Int), digL b (l ++ m) x = (digL b l x).bind (digL b m)
 | [], m, x => rfl
 | c :: l, m, x => by
   show (if digO c < 0 ∨ b ≤ digO c then none else digL b (l ++ m) _) = _
   show _ = (if digO c < 0 ∨ b ≤ digO c then none else digL b l _).bind (digL b m)
   split
   · rfl
   · exact digL_app b l m _
theorem digL_one {b : Nat} (hb : b ≤ 16) {d : Nat} (hd : d < b) (x : Int) : digL (b : Int) (toI [ub d]) x = some (if x * (b : Int) + (d : Int) < 65536 then x * (b : Int) + (d : Int) else 65536) := by
  have e := digO_ub d (by omega)
  show (if digO ((ub d).toNat : Int) < 0 ∨ (b : Int) ≤ digO ((ub d).toNat : Int) then none else digL (b : Int) [] _) = _
  rw [e, if_neg (by omega)]
  rfl
theorem digL_digs {b : Nat} (h2 : 2 ≤ b) (hb : b ≤ 16) : ∀ (k v : Nat), v < b ^ k → v < 65536 → digL (b : Int) (toI (digs b k v)) 0 = some (v : Int) := by
  intro k
  induction k with
  | zero =>
    intro v h hv
    have : v = 0 := by simpa using h
    rw [this]
    rfl
  | succ k ih =>
    intro v h hv
    rw [digs_succ]
    by_cases hvb : v < b
    · rw [if_pos hvb, digL_one hb hvb, if_pos (by omega)]
      congr 1
      omega
    · rw [if_neg hvb, toI_app, digL_app, ih (v / b) (div_pow h) (by have := Nat.div_le_self v b; omega)]
      have hm := Nat.mod_lt v (show 0 < b by omega)
      have e : (((v / b : Nat) : Int) * (b : Int) + ((v % b : Nat) : Int)) = (v : Int) := by
        have := Nat.div_add_mod v b
        rw [← Int.natCast_mul, ← Int.natCast_add, Nat.mul_comm, this]
      show digL (b : Int) (toI [ub (v % b)]) ((v / b : Nat) : Int) = _
      rw [digL_one hb hm, e, if_pos (by omega)]
theorem digL_zeros (b : Nat) (h2 : 2 ≤ b) (l : List Int) : ∀ n, digL (b : Int) (toI (List.replicate n 48) ++ l) 0 = digL (b : Int) l 0
 | 0 => rfl
 | n + 1 => by
   show (if digO 48 < 0 ∨ (b : Int) ≤ digO 48 then none else digL (b : Int) (toI (List.replicate n 48) ++ l) (if (0 : Int) * b + digO 48 < 65536 then (0 : Int) * b + digO 48 else 65536)) = _
   have e : digO 48 = 0 := by decide
   rw [e, if_neg (by omega), Int.zero_mul, Int.zero_add, if_pos (by decide)]
   exact digL_zeros b h2 l n
theorem padD_zero (b : Nat) : ∀ n, padD b n 0 = List.replicate n 48
 | 0 => rfl
 | n + 1 => by
   show padD b n (0 / b) ++ [ub (0 % b)] = _
   rw [Nat.zero_div, Nat.zero_mod, padD_zero b n, List.replicate_succ']
   rfl
theorem padD_len (b : Nat) : ∀ n v, (padD b n v).length = n
 | 0, v => rfl
 | n + 1, v => by show (padD b n (v / b) ++ [ub (v % b)]).length = _; rw [List.length_append, padD_len b n]; rfl
theorem pad_digs {b : Nat} (h2 : 2 ≤ b) : ∀ (n v k : Nat), 1 ≤ n → n ≤ k → v < b ^ n → (digs b k v).length ≤ n ∧ 1 ≤ (digs b k v).length ∧ List.replicate (n - (digs b k v).length) 48 ++ digs b k v = padD b n v := by
  intro n
  induction n with
  | zero => intro v k h; omega
  | succ n ih =>
    intro v k h1 hk hv
    obtain ⟨k, rfl⟩ : ∃ j, k = j + 1 := ⟨k - 1, by omega⟩
    rw [digs_succ]
    by_cases hvb : v < b
    · rw [if_pos hvb]
      refine ⟨by simp, by simp, ?_⟩
      show List.replicate (n + 1 - 1) 48 ++ [ub v] = padD b n (v / b) ++ [ub (v % b)]
      rw [Nat.div_eq_of_lt hvb, Nat.mod_eq_of_lt hvb, padD_zero]
      rfl
    · rw [if_neg hvb]
      have hn : 1 ≤ n := by
        rcases Nat.eq_zero_or_pos n with h0 | h0
        · subst h0; simp at hv; omega
        · exact h0
      obtain ⟨g1, g2, g3⟩ := ih (v / b) k hn (by omega) (div_pow hv)
      have e : (digs b k (v / b) ++ [ub (v % b)]).length = (digs b k (v / b)).length + 1 := by simp
      rw [e]
      refine ⟨by omega, by omega, ?_⟩
      show _ = padD b n (v / b) ++ [ub (v % b)]
      rw [← g3, show n + 1 - ((digs b k (v / b)).length + 1) = n - (digs b k (v / b)).length by omega, List.append_assoc]
theorem padD_cons (b : Nat) : ∀ (j v : Nat), padD b (j + 1) v = ub (v / b ^ j % b) :: padD b j v
 | 0, v => by show [] ++ [ub (v % b)] = [ub (v / 1 % b)]; rw [Nat.div_one]; rfl
 | j + 1, v => by
   show padD b (j + 1) (v / b) ++ [ub (v % b)] = ub (v / b ^ (j + 1) % b) :: (padD b j (v / b) ++ [ub (v % b)])
   rw [padD_cons b j (v / b), Nat.div_div_eq_div_mul, Nat.pow_succ, Nat.mul_comm b]
   rfl
theorem dec_digs : ∀ (k v : Nat), 1 ≤ k → v < 10 ^ k → Lib.decDigits v = digs 10 k v := by
  intro k
  induction k with
  | zero => intro v h; omega
  | succ k ih =>
    intro v h1 hv
    rw [digs_succ, Lib.decDigits]
    by_cases h : v < 10
    · rw [dif_pos h, if_pos h]
      unfold ub
      rw [if_pos h]
    · rw [dif_neg h, if_neg h]
      have hk : 1 ≤ k := by
        rcases Nat.eq_zero_or_pos k with h0 | h0
        · subst h0; simp at hv; omega
        · exact h0
      rw [ih (v / 10) hk (div_pow hv)]
      have hm := Nat.mod_lt v (show 0 < 10 by decide)
      unfold ub
      rw [if_pos hm]
abbrev D36 : ByteArray := ⟨#[48, 49, 50, 51, 52, 53, 54, 55, 56, 57, 97, 98, 99, 100, 101, 102, 103, 104, 105, 106, 107, 108, 109, 110, 111, 112, 113, 114, 115, 116, 117, 118, 119, 120, 121, 122]⟩
abbrev D16 : ByteArray := ⟨#[48, 49, 50, 51, 52, 53, 54, 55, 56, 57, 97, 98, 99, 100, 101, 102]⟩
theorem D36_get : ∀ n : Nat, n < 16 → sidx D36 (n : Int) = some ((ub n).toNat : Int) := by decide +kernel
theorem D16_get0 : ∀ n : Nat, n < 16 → seq (D16.extract n (n + 1)) ⟨#[ub n]⟩ = true := by decide +kernel
theorem D16_get {n : Nat} (h : n < 16) : D16.extract n (n + 1) = ⟨#[ub n]⟩ := seq_iff.1 (D16_get0 n h)
theorem wrap_u64' {x : Int} (h0 : 0 ≤ x) (h1 : x < 18446744073709551616) : IntKind.wrap .u64 x = x := by
  rw [IntKind.wrap_u64]; omega
theorem and_u64 {u n : Nat} (hn : n ≤ 32) (hu : u < 65536) : bits .and .u64 (u : Int) (((2 ^ n - 1 : Nat)) : Int) = ((u % 2 ^ n : Nat) : Int) := by
  rw [bits_eq]
  unfold bits0
  have hlt : 2 ^ n < 2 ^ 64 := Nat.pow_lt_pow_right (by decide) (by omega)
  have e2 : (BitVec.ofInt 64 (((2 ^ n - 1 : Nat)) : Int)).toNat = 2 ^ n - 1 := by
    rw [BitVec.ofInt_natCast, BitVec.toNat_ofNat]
    exact Nat.mod_eq_of_lt (show 2 ^ n - 1 < 2 ^ 64 from Nat.lt_of_le_of_lt (Nat.sub_le _ _) hlt)
  have e3 : (BitVec.ofInt 64 ((u : Nat) : Int)).toNat = u := by
    rw [BitVec.ofInt_natCast, BitVec.toNat_ofNat]
    exact Nat.mod_eq_of_lt (by omega)
  show IntKind.wrap .u64 (((BitVec.ofInt 64 (u : Int) &&& BitVec.ofInt 64 (((2 ^ n - 1 : Nat)) : Int)).toNat : Nat) : Int) = _
  rw [BitVec.toNat_and, e2, e3, Nat.and_two_pow_sub_one_eq_mod]
  have := Nat.mod_le u (2 ^ n)
  exact wrap_u64' (by omega) (by omega)
theorem shr_u64 {u n : Nat} (hn : n ≤ 32) : shr .u64 (u : Int) (n : Int) = ((u / 2 ^ n : Nat) : Int) := by
  unfold shr
  have e : min ((n : Int)).toNat IntKind.u64.bits = n := by
    have : IntKind.u64.bits = 64 := rfl
    omega
  rw [e, Int.fdiv_eq_ediv_of_nonneg _ (Int.le_of_lt (Int.pow_pos (by decide)))]
  rw [Int.natCast_ediv]
  simp
theorem drop_set {α : Type} (l : List α) (i : Nat) (x : α) (h : i < l.length) : (l.set i x).drop i = x :: l.drop (i + 1) := by
  rw [List.drop_eq_getElem_cons (by simpa using h), List.getElem_set_self, List.drop_set_of_lt (Nat.lt_succ_self i)]
theorem bytesStr_toI (l : List UInt8) : bytesStr (toI l) = ⟨l.toArray⟩ := by
  unfold bytesStr toI
  rw [List.map_map]
  have : (List.map ((fun n : Int => UInt8.ofNat n.toNat) ∘ fun c : UInt8 => (c.toNat : Int)) l) = l := by
    rw [show ((fun n : Int => UInt8.ofNat n.toNat) ∘ fun c : UInt8 => (c.toNat : Int)) = id from funext fun c => by simp]
    exact List.map_id l
  rw [this]
theorem fb_fin {i : Nat} (hi : i ≤ 65) {B : List Int} (hB : B.length = 65) {tail : List UInt8} (ht : B.drop i = toI tail) (s : ByteArray) : run_internal_strconv_formatBits (.p127 [] false false s (i : Int) B) = some (((), (⟨tail.toArray⟩, ())), ()) := by
  rw [run_internal_strconv_formatBits, if_neg (by decide), run_internal_strconv_formatBits, if_neg (by decide), show (65 : Int) = ((65 : Nat) : Int) from rfl, span_nat hi (Nat.le_refl _)]
  simp only [some_bind']
  rw [if_pos (Nat.ble_eq_true_of_le (by omega))]
  have : cut B (i, 65) = toI tail := by
    unfold cut
    rw [List.take_of_length_le (by omega), ht]
  rw [this, bytesStr_toI]
theorem fb_loop {n : Nat} (h1 : 1 ≤ n) (h4 : n ≤ 4) (s : ByteArray) : ∀ (k u i : Nat) (B : List Int) (tail : List UInt8), 1 ≤ k → u < (2 ^ n) ^ k → u < 65536 → k ≤ i → i ≤ 65 → B.length = 65 → B.drop i = toI tail →
    run_internal_strconv_formatBits (.p32440 [] (u : Int) false false s (i : Int) (n : Int) ((2 ^ n : Nat) : Int) (((2 ^ n - 1 : Nat)) : Int) B) = some (((), (⟨(digs (2 ^ n) k u ++ tail).toArray⟩, ())), ()) := by
  have hb2 : 2 ≤ 2 ^ n := by
    have : 2 ^ 1 ≤ 2 ^ n := Nat.pow_le_pow_right (by decide) h1
    omega
  have hb16 : 2 ^ n ≤ 16 := by
    have : 2 ^ n ≤ 2 ^ 4 := Nat.pow_le_pow_right (by decide) h4
    omega
  intro k
  induction k with
  | zero => intro u i B tail h; omega
  | succ k ih =>
    intro u i B tail hk hu hu2 hki hi hB ht
    rw [run_internal_strconv_formatBits, digs_succ]
    have hw : IntKind.wrap .i64 ((i : Int) - 1) = ((i - 1 : Nat) : Int) := by rw [wrap_i64 (by omega) (by omega)]; omega
    have hx : ∃ x, B[i - 1]? = some x := ⟨_, List.getElem?_eq_getElem (by omega)⟩
    obtain ⟨x, hx⟩ := hx
    have hchk : (decide ((0 : Int) ≤ ((i - 1 : Nat) : Int)) && decide (((i - 1 : Nat) : Int) < (65 : Int))) = true := by
      simp
      omega
    have hds : ∀ (d : Nat), (B.set (i - 1) ((ub d).toNat : Int)).drop (i - 1) = toI (ub d :: tail) := fun d => by
      rw [drop_set _ _ _ (by omega), show i - 1 + 1 = i by omega, ht]
      rfl
    by_cases hub : u < 2 ^ n
    · rw [if_neg (by simp only [decide_eq_true_eq]; omega), if_pos hub, D36_get u (by omega)]
      simp only [some_bind']
      rw [hw, if_pos hchk, idx_nat, hx]
      simp only [some_bind', Int.toNat_natCast]
      rw [fb_fin (by omega) (by simpa using hB) (hds u)]
      rfl
    · have hkk : 1 ≤ k := by
        rcases Nat.eq_zero_or_pos k with h0 | h0
        · subst h0; simp at hu; omega
        · exact h0
      have hm := Nat.mod_lt u (show 0 < 2 ^ n by omega)
      rw [if_pos (by simp only [decide_eq_true_eq]; omega), if_neg hub, and_u64 (by omega) hu2, D36_get _ (by omega)]
      simp only [some_bind']
      rw [hw, if_pos hchk, idx_nat, hx]
      simp only [some_bind', Int.toNat_natCast]
      rw [if_pos (by simp), shr_u64 (by omega)]
      have := ih (u / 2 ^ n) (i - 1) (B.set (i - 1) ((ub (u % 2 ^ n)).toNat : Int)) (ub (u % 2 ^ n) :: tail) hkk (div_pow hu) (by have := Nat.div_le_self u (2 ^ n); omega) (by omega) (by omega) (by simpa using hB) (hds _)
      rw [this, List.append_assoc]
      rfl
theorem fb_pow (n : Nat) (hn : n = 1 ∨ n = 4) : (run_internal_strconv_isPowerOfTwo (.start ((2 ^ n : Nat) : Int)) = some ((true, ()), ())) ∧ run_math_bits_TrailingZeros (.start (IntKind.wrap .u64 ((2 ^ n : Nat) : Int))) = some (((n : Int), ()), ()) := by
  rcases hn with rfl | rfl
  · exact ⟨by kernel_rfl, by kernel_rfl⟩
  · exact ⟨by kernel_rfl, by kernel_rfl⟩
/-- the digits that FormatInt writes -/
def fmtD (n v : Nat) : List UInt8 := digs (2 ^ n) 16 v
theorem FormatInt_eq {n v : Nat} (hn : n = 1 ∨ n = 4) (hv : v < 65536) : run_strconv_FormatInt (.start (v : Int) ((2 ^ n : Nat) : Int)) = some ((⟨(fmtD n v).toArray⟩, ()), ()) := by
  obtain ⟨p1, p2⟩ := fb_pow n hn
  have hb : 2 ≤ 2 ^ n ∧ 2 ^ n ≤ 16 ∧ 2 ^ n ≠ 10 := by rcases hn with rfl | rfl <;> decide
  have hpw : v < (2 ^ n) ^ 16 := by
    have : (2 : Nat) ^ 16 ≤ (2 ^ n) ^ 16 := Nat.pow_le_pow_left hb.1 16
    have e : (2 : Nat) ^ 16 = 65536 := by decide
    omega
  have w1 : IntKind.wrap .u64 ((2 ^ n : Nat) : Int) = ((2 ^ n : Nat) : Int) := wrap_u64' (by omega) (by omega)
  rw [run_strconv_FormatInt, run_internal_strconv_FormatInt, if_neg (by simp only [beq_iff_eq]; omega), wrap_u64' (x := (v : Int)) (by omega) (by omega)]
  have e0 : decide ((v : Int) < 0) = false := by simp
  rw [e0, run_internal_strconv_formatBits, if_neg (by simp only [decide_eq_true_eq]; omega), if_neg (by simp only [beq_iff_eq]; omega), if_neg (by simp only [decide_eq_true_eq]; omega), run_internal_strconv_formatBits, if_neg (by decide), run_internal_strconv_formatBits, p1]
  simp only [some_bind', if_true]
  rw [p2]
  simp only [some_bind']
  rw [w1, wrap_u64' (x := (n : Int)) (by omega) (by omega), wrap_u64' (x := ((2 ^ n : Nat) : Int) - 1) (by omega) (by omega), show ((2 ^ n : Nat) : Int) - 1 = ((2 ^ n - 1 : Nat) : Int) by omega]
  have := fb_loop (n := n) (by omega) (by omega) ⟨#[]⟩ 16 v 65 (List.replicate 65 0) [] (by decide) hpw hv (by decide) (by decide) (by simp) (by simp [toI])
  rw [show ((65 : Nat) : Int) = 65 from rfl] at this
  rw [this, List.append_nil]
  rfl

/-! ### decimals -/
theorem Decimal_loop : ∀ (n : Nat), n < 100000 → ∀ (l : List UInt8), l.length + n ≤ 200000 → run_ratchetbase_Decimal (.p248 (n : Int) ⟨l.toArray⟩ ⟨#[]⟩) = some ((⟨((if n = 0 then [] else Lib.decDigits n) ++ l).toArray⟩, ()), ()) := by
  intro n
  induction n using Nat.strongRecOn with
  | ind n ih =>
    intro hn l hl
    have hlsz : ∀ m : List UInt8, (⟨m.toArray⟩ : ByteArray).size = m.length := fun m => rfl
    have hsz : (⟨#[]⟩ : ByteArray).size = 0 := rfl
    rw [run_ratchetbase_Decimal]
    by_cases h0 : n = 0
    · subst h0
      rw [if_neg (by decide), if_pos (Nat.ble_eq_true_of_le (by rw [hsz]; rw [hlsz]; omega)), if_pos rfl]
      congr 3
    · have ht : Int.tmod (n : Int) 10 = ((n % 10 : Nat) : Int) := by rw [Int.tmod_eq_emod_of_nonneg (by omega)]; omega
      have hd : Int.tdiv (n : Int) 10 = ((n / 10 : Nat) : Int) := by rw [Int.tdiv_eq_ediv_of_nonneg (by omega)]; omega
      have hm := Nat.mod_lt n (show 0 < 10 by decide)
      have hS : run_ratchetbase_Size (.start ((n % 10 : Nat) : Int)) = some ((((n % 10 : Nat) : Int), ()), ()) := by
        rw [run_ratchetbase_Size, wrap_i64 (x := 0 - ((n % 10 : Nat) : Int)) (by omega) (by omega), if_neg (by omega)]
      rw [if_pos (by simp only [bne_iff_ne]; omega), if_pos (by decide), ht, hS]
      simp only [some_bind']
      rw [wrap_i64 (x := 48 + ((n % 10 : Nat) : Int)) (by omega) (by omega), wrap_u8' (x := 48 + ((n % 10 : Nat) : Int)) (by omega) (by omega)]
      have eb : bytesStr ([48 + ((n % 10 : Nat) : Int)] : List Int) = ⟨[UInt8.ofNat (48 + n % 10)].toArray⟩ := by
        unfold bytesStr
        simp only [List.map_cons, List.map_nil]
        rw [show (48 + ((n % 10 : Nat) : Int)).toNat = 48 + n % 10 by omega]
      have ea : (⟨[UInt8.ofNat (48 + n % 10)].toArray⟩ : ByteArray) ++ ⟨l.toArray⟩ = ⟨(UInt8.ofNat (48 + n % 10) :: l).toArray⟩ := byte_ext (by simp)
      rw [eb, ea, if_pos (Nat.ble_eq_true_of_le (by rw [hlsz, hlsz]; simp; omega)), if_pos (by decide), hd, wrap_i64 (x := ((n / 10 : Nat) : Int)) (by omega) (by omega), ih (n / 10) (by omega) (by omega) _ (by simp; omega), if_neg h0]
      conv => rhs; rw [Lib.decDigits]
      by_cases h10 : n < 10
      · rw [dif_pos h10, if_pos (by omega), Nat.mod_eq_of_lt h10]
        rfl
      · rw [dif_neg h10, if_neg (by omega), List.append_assoc]
        rfl
theorem Decimal_eq {n : Nat} (hn : n < 100000) : run_ratchetbase_Decimal (.start (n : Int)) = some ((deci (n : Int), ()), ()) := by
  have hd : deci (n : Int) = ⟨(Lib.decDigits n).toArray⟩ := byte_ext (by
    rw [deci_data]
    unfold Lib.itoa
    rw [if_neg (by omega), Int.toNat_natCast])
  rw [run_ratchetbase_Decimal]
  by_cases h0 : n = 0
  · subst h0
    rw [if_pos (by decide), hd, Lib.decDigits, dif_pos (by decide)]
    rfl
  · rw [if_neg (by simp only [beq_iff_eq]; omega), if_neg (by simp only [decide_eq_true_eq]; omega), run_ratchetbase_Decimal]
    have := Decimal_loop n hn [] (by simp; omega)
    rw [if_neg h0, List.append_nil] at this
    rw [hd]
    exact this
/-- the literal of a width, a sign and digits -/
def txt (w : Nat) (c : UInt8) (D : List UInt8) : ByteArray := ⟨(Lib.decDigits w ++ 39 :: c :: D).toArray⟩
theorem txt_data (w : Nat) (c : UInt8) (D : List UInt8) : (txt w c D).data.toList = Lib.decDigits w ++ 39 :: c :: D := rfl
theorem W_ok0 : ∀ w : Nat, w < 17 → (natOk ⟨(Lib.decDigits w).toArray⟩ && (decide (natN ⟨(Lib.decDigits w).toArray⟩ = (w : Int)) && ((Lib.decDigits w).all (fun c => c != 39) && decide ((Lib.decDigits w).length ≤ 2)))) = true := by decide +kernel
theorem W_ok {w : Nat} (h : w < 17) : natOk ⟨(Lib.decDigits w).toArray⟩ = true ∧ natN ⟨(Lib.decDigits w).toArray⟩ = (w : Int) ∧ (∀ c ∈ Lib.decDigits w, c ≠ 39) ∧ (Lib.decDigits w).length ≤ 2 := by
  have := W_ok0 w h
  rw [Bool.and_eq_true, Bool.and_eq_true, Bool.and_eq_true, decide_eq_true_eq, decide_eq_true_eq, List.all_eq_true] at this
  exact ⟨this.1, this.2.1, fun c hc => by simpa using this.2.2.1 c hc, this.2.2.2⟩
theorem index_app : ∀ (l r : List UInt8), (∀ c ∈ l, c ≠ 39) → Lib.indexByte (l ++ 39 :: r) 39 = (l.length : Int)
 | [], r, _ => rfl
 | c :: l, r, h => by
   have ih := index_app l r fun d hd => h d (List.mem_cons_of_mem _ hd)
   have hc : (c == 39) = false := beq_eq_false_iff_ne.2 (h c List.mem_cons_self)
   show (if (c == 39) = true then 0 else if (Lib.indexByte (l ++ 39 :: r) 39 == -1) = true then -1 else Lib.indexByte (l ++ 39 :: r) 39 + 1) = _
   rw [hc, ih, if_neg (by decide), if_neg (by simp only [beq_iff_eq]; omega)]
   simp
theorem pw_nat (n : Nat) : pw (n : Int) = ((2 ^ n : Nat) : Int) := by unfold pw; simp
theorem enc_ok : ∀ n : Nat, n < 128 → seq (Utf8.encode (n : Int)) ⟨#[UInt8.ofNat n]⟩ = true := by decide +kernel
theorem repeat_48 : ∀ m : Nat, Lib.repeatL [48] m = List.replicate m 48
 | 0 => rfl
 | m + 1 => by show [48] ++ Lib.repeatL [48] m = _; rw [repeat_48 m]; rfl
end Go.Proofs.YtcgkjbglijganaaGreatDoor.Ev.F
