/- Numbers, literals, operators, tokens. -/
import Derived.Test.YtfmkleeneddijaaGreatDoorPTok
set_option linter.unusedVariables false
set_option linter.unusedSimpArgs false
set_option linter.unnecessarySimpa false
namespace Go.Proofs.YtfmkleeneddijaaGreatDoor.Ev.F
open Go.Proofs.YtfmkleeneddijaaGreatDoor.Ev

/-! ### numbers -/
noncomputable def natN (s : ByteArray) : Int := (atoiN s).1
noncomputable def deci (n : Int) : ByteArray := ⟨(Lib.itoa n).toArray⟩
noncomputable def natOk (s : ByteArray) : Bool := !(atoiN s).2 && (decide (s.size ≤ 9) && (seq (deci (natN s)) s && isDig (bt s 0)))
theorem deci_pos (n : Int) : 0 < (deci n).size := by
  have : (deci n).size = (Lib.itoa n).length := by unfold deci; rfl
  rw [this]
  unfold Lib.itoa
  split
  · simp
  · unfold Lib.decDigits
    split <;> simp
theorem natN_bounds {s : ByteArray} (h : (atoiN s).2 = false) : -9223372036854775808 ≤ natN s ∧ natN s ≤ 9223372036854775807 := by
  unfold natN
  unfold atoiN at h ⊢
  cases ha : Lib.atoiAll s.data.toList with
  | ok v => exact Lib.atoiAll_bounds ha
  | «syntax» => rw [ha] at h; cases h
  | range => rw [ha] at h; cases h
theorem natural_eq {s : ByteArray} (hs : s.size ≤ 60000) : run_lexer_natural (.start s) = some ((natN s, (natOk s, ())), ()) := by
  rw [run_lexer_natural]
  unfold atoiRun
  have hb : Nat.ble s.size 281474976710656 = true := Nat.ble_eq_true_of_le (by omega)
  simp only [hb, cond_true, some_bind']
  unfold natOk
  cases he : (atoiN s).2 with
  | true => rfl
  | false =>
    simp only [Bool.not_false, if_true, Bool.true_and]
    by_cases h9 : s.size ≤ 9
    · rw [if_pos (by simp; omega)]
      unfold itoaRun
      simp only
      rw [if_pos (show -9223372036854775808 ≤ (atoiN s).1 ∧ (atoiN s).1 ≤ 9223372036854775807 from natN_bounds he)]
      simp only [some_bind']
      by_cases hq : seq (deci (natN s)) s = true
      · have hp := deci_pos (natN s)
        rw [seq_iff.1 hq] at hp
        have hq' : seq ⟨(Lib.itoa (atoiN s).1).toArray⟩ s = true := hq
        rw [if_pos hq', show (0 : Int) = ((0 : Nat) : Int) from rfl, sidx_nat hp]
        simp only [some_bind', isDigit_eq]
        rw [hq]
        simp [h9, natN]
      · have hq' : ¬ seq ⟨(Lib.itoa (atoiN s).1).toArray⟩ s = true := hq
        rw [if_neg hq']
        simp only [Bool.not_eq_true] at hq
        rw [hq]
        simp [natN]
    · rw [if_neg (by simp; omega)]
      simp [h9, natN]

/-! ### literals -/
def baseO (c : Int) : Int := if c = 98 then 2 else if c = 100 then 10 else if c = 104 then 16 else 0
def digO (c : Int) : Int := if 48 ≤ c ∧ c ≤ 57 then c - 48 else if 97 ≤ c ∧ c ≤ 102 then c - 87 else -1
theorem base_tab : ∀ n : Nat, n < 256 → (let r := firstIdx ⟨#[98, 100, 104]⟩ ((n : Int).toNat.toUInt8); decide (r = -1) && decide (baseO n = 0) || decide (r = 0) && decide (baseO n = 2) || decide (r = 1) && decide (baseO n = 10) || decide (r = 2) && decide (baseO n = 16)) = true := by decide +kernel
theorem dig_tab : ∀ n : Nat, n < 256 → decide (firstIdx ⟨#[48, 49, 50, 51, 52, 53, 54, 55, 56, 57, 97, 98, 99, 100, 101, 102]⟩ ((n : Int).toNat.toUInt8) = digO n) = true := by decide +kernel
theorem baseOf_eq {c : Int} (h0 : 0 ≤ c) (h1 : c < 256) : run_lexer_baseOf (.start c) = some ((baseO c, ()), ()) := by
  obtain ⟨n, rfl⟩ := Int.eq_ofNat_of_zero_le h0
  have h := base_tab n (by omega)
  rw [run_lexer_baseOf]
  simp only [run_strings_IndexByte, run_internal_stringslite_IndexByte, byteAt, some_bind']
  simp only [Bool.or_eq_true, Bool.and_eq_true, decide_eq_true_eq] at h
  rcases h with ((⟨h2, h3⟩ | ⟨h2, h3⟩) | ⟨h2, h3⟩) | ⟨h2, h3⟩ <;> (rw [h2, h3]; rfl)
theorem digitOf_eq {c : Int} (h0 : 0 ≤ c) (h1 : c < 256) : run_lexer_digitOf (.start c) = some ((digO c, ()), ()) := by
  obtain ⟨n, rfl⟩ := Int.eq_ofNat_of_zero_le h0
  have h := dig_tab n (by omega)
  rw [run_lexer_digitOf]
  simp only [run_strings_IndexByte, run_internal_stringslite_IndexByte, byteAt, some_bind']
  rw [of_decide_eq_true h]
theorem baseO_range (c : Int) : 0 ≤ baseO c ∧ baseO c ≤ 16 := by
  unfold baseO
  repeat' split
  all_goals omega
/-- the digits of a literal -/
def digL (base : Int) : List Int → Int → Option Int
 | [], v => some v
 | c :: cs, v => if digO c < 0 ∨ base ≤ digO c then none else digL base cs (if v * base + digO c < 65536 then v * base + digO c else 65536)
def litFin (w v : Int) : Int × Int × Int := if 1 ≤ w ∧ w ≤ 16 then (if pw w ≤ v then (0, 0, 2) else (v, w, 0)) else (0, 0, 2)
def litD (w base : Int) (l : List Int) (v : Int) : Int × Int × Int := match digL base l v with | none => (0, 0, 7) | some v => litFin w v
abbrev litR (r : Int × Int × Int) : R_lexer_ParseLiteral := (((r.1, (r.2.1, ())), (r.2.2, ())), ())
theorem digO_range (c : Int) : -1 ≤ digO c ∧ digO c ≤ 15 := by
  unfold digO
  split
  · omega
  · split <;> omega
theorem lit_loop {w base : Int} (hw0 : -1 ≤ w) (hw1 : w ≤ 9223372036854775807) (hb0 : 0 ≤ base) (hb1 : base ≤ 16) (l : List Int) (hl : ∀ c ∈ l, 0 ≤ c ∧ c < 256) (hlen : l.length < 60000) : ∀ (k i : Nat) (v : Int), i + k = l.length → 0 ≤ v → v ≤ 65536 →
    run_lexer_ParseLiteral (.p2036 w base v 65536 l (l.length : Int) (i : Int) 0 0) = some (litR (litD w base (l.drop i) v)) := by
  intro k
  induction k with
  | zero =>
    intro i v h h0 h1
    rw [run_lexer_ParseLiteral, if_neg (by simp; omega), List.drop_eq_nil_of_le (by omega)]
    simp only [run_lexer_within, litD, digL, litFin]
    by_cases hw : 1 ≤ w
    · rw [if_pos (by simpa using hw)]
      simp only [some_bind']
      by_cases hw2 : w ≤ 16
      · rw [if_neg (by simp; omega), if_pos (by simp; omega), shl_one (by omega)]
        by_cases hp : pw w ≤ v
        · rw [if_pos (by simpa using hp), if_pos ⟨hw, hw2⟩, if_pos hp]
        · rw [if_neg (by simpa using hp), if_pos ⟨hw, hw2⟩, if_neg hp]
      · rw [if_pos (by simp; omega), if_neg (by omega)]
    · rw [if_neg (by simpa using hw)]
      simp only [some_bind']
      rw [if_pos (by decide), if_neg (by omega)]
  | succ k ih =>
    intro i v h h0 h1
    have hi : i < l.length := by omega
    obtain ⟨c0, c1⟩ := hl _ (List.getElem_mem hi)
    rw [run_lexer_ParseLiteral, if_pos (by simp; omega), idx_nat, List.getElem?_eq_getElem hi]
    simp only [some_bind', digitOf_eq c0 c1]
    rw [List.drop_eq_getElem_cons hi]
    unfold litD digL
    obtain ⟨d0, d1⟩ := digO_range l[i]
    by_cases hd : digO l[i] < 0
    · rw [if_pos (by simpa using hd), if_pos (.inl hd)]
    · rw [if_neg (by simpa using hd)]
      by_cases hd2 : base ≤ digO l[i]
      · rw [if_pos (by simpa using hd2), if_pos (.inr hd2)]
      · rw [if_neg (by simpa using hd2), if_neg (by omega), run_lexer_ParseLiteral]
        have hm : v * base ≤ 65536 * 16 := Int.mul_le_mul h1 hb1 hb0 (by decide)
        have hm0 : 0 ≤ v * base := Int.mul_nonneg h0 hb0
        rw [wrap_i64 (x := v * base) (by omega) (by omega), wrap_i64 (x := v * base + digO l[i]) (by omega) (by omega), wrap_i64 (by omega) (by omega), show ((i : Int) + 1) = ((i + 1 : Nat) : Int) by omega]
        rw [ih (i + 1) _ (by omega) (by split <;> omega) (by split <;> omega)]
        rfl
noncomputable def litE (s : ByteArray) : Int × Int × Int :=
  if Lib.indexByte s.data.toList 39 < 0 then (0, 0, 7)
  else if natOk (s.extract 0 (Lib.indexByte s.data.toList 39).toNat) = false then (0, 0, 7)
  else if 2 ≤ s.size - (Lib.indexByte s.data.toList 39 + 1).toNat ∧ s.size - (Lib.indexByte s.data.toList 39 + 1).toNat ≤ 17 then
    litD (natN (s.extract 0 (Lib.indexByte s.data.toList 39).toNat)) (baseO (bt s (Lib.indexByte s.data.toList 39 + 1).toNat)) (strBytes (s.extract ((Lib.indexByte s.data.toList 39 + 1).toNat + 1) s.size)) 0
  else (0, 0, 7)
theorem natOk_ge {s : ByteArray} (h : natOk s = true) : (atoiN s).2 = false := by
  unfold natOk at h
  simp only [Bool.and_eq_true, Bool.not_eq_true'] at h
  exact h.1
theorem natOk_dig {s : ByteArray} (h : natOk s = true) : deci (natN s) = s ∧ isDig (bt s 0) = true ∧ s.size ≤ 9 := by
  unfold natOk at h
  simp only [Bool.and_eq_true, decide_eq_true_eq, seq_iff] at h
  exact ⟨h.2.2.1, h.2.2.2, h.2.1⟩
theorem natN_ge {s : ByteArray} (h : natOk s = true) : 0 ≤ natN s := by
  obtain ⟨h1, h2, _⟩ := natOk_dig h
  rcases Int.lt_or_le (natN s) 0 with h3 | h3
  · have : bt (deci (natN s)) 0 = 45 := by
      unfold deci Lib.itoa bt
      rw [if_pos h3]
      rfl
    rw [h1] at this
    rw [this] at h2
    cases h2
  · exact h3
theorem strBytes_range (s : ByteArray) : ∀ c ∈ strBytes s, 0 ≤ c ∧ c < 256 := by
  intro c hc
  unfold strBytes at hc
  obtain ⟨b, _, rfl⟩ := List.mem_map.1 hc
  have := b.toNat_lt
  omega
theorem strBytes_size (s : ByteArray) : (strBytes s).length = s.size := by unfold strBytes; rw [List.length_map]; exact sizeL s
theorem ParseLiteral_eq {s : ByteArray} (hs : s.size ≤ 60000) : run_lexer_ParseLiteral (.start s) = some (litR (litE s)) := by
  rw [run_lexer_ParseLiteral]
  simp only [run_strings_Cut, run_internal_stringslite_Cut, oneRun]
  have e : (⟨#[39]⟩ : ByteArray).data.toList = [39] := rfl
  simp only [e, some_bind']
  unfold litE
  have hge := Lib.indexByte_ge s.data.toList 39
  by_cases hn : Lib.indexByte s.data.toList 39 < 0
  · rw [if_neg (by simp; omega), if_pos hn]
    simp only [some_bind', natural_eq hs]
    rfl
  · obtain ⟨o, ho⟩ := Int.eq_ofNat_of_zero_le (show 0 ≤ Lib.indexByte s.data.toList 39 by omega)
    have ho : Lib.indexByte s.data.toList 39 = (o : Int) := ho
    have hlt : o < s.size := by
      have := (List.getElem?_eq_some_iff.1 (Lib.indexByte_some ho).1).1
      rw [sizeL] at this; exact this
    rw [ho]
    rw [if_pos (by simp), if_neg (by omega), show (0 : Int) = ((0 : Nat) : Int) from rfl, span_nat (Nat.zero_le _) (by omega)]
    have e2 : ((⟨#[39]⟩ : ByteArray).size : Int) = 1 := rfl
    simp only [some_bind', e2]
    rw [wrap_i64 (by omega) (by omega), show ((o : Int) + 1) = ((o + 1 : Nat) : Int) by omega, span_nat (by omega) (Nat.le_refl _)]
    simp only [some_bind']
    have hf : (s.extract 0 o).size ≤ 60000 := by rw [size_ext s (Nat.zero_le _) (by omega)]; omega
    rw [natural_eq hf]
    simp only [some_bind', Int.toNat_natCast, Bool.not_true, Bool.false_eq_true, if_false]
    have hr : (s.extract (o + 1) s.size).size = s.size - (o + 1) := size_ext s (by omega) (Nat.le_refl _)
    cases hk : natOk (s.extract 0 o) with
    | false => rfl
    | true =>
      simp only [Bool.not_true, Bool.false_eq_true, if_false, run_lexer_within, hr, Bool.true_eq_false]
      by_cases h2 : 2 ≤ s.size - (o + 1)
      · rw [if_pos (by simp; omega)]
        simp only [some_bind']
        by_cases h17 : s.size - (o + 1) ≤ 17
        · rw [if_neg (by simp; omega), if_pos ⟨h2, h17⟩, run_lexer_ParseLiteral, show (0 : Int) = ((0 : Nat) : Int) from rfl, sidx_nat (by omega)]
          simp only [some_bind']
          rw [bt_ext s (Nat.le_refl _) (by omega), Nat.add_zero, baseOf_eq (bt_0 _ _) (bt_lt _ _), show (1 : Int) = ((1 : Nat) : Int) from rfl, span_nat (by omega) (Nat.le_refl _)]
          simp only [some_bind', hr]
          have hx : (s.extract (o + 1) s.size).extract 1 (s.size - (o + 1)) = s.extract (o + 1 + 1) s.size := by
            refine ext_bt ?_ fun n hn => ?_
            · rw [size_ext _ (by omega) (by omega), size_ext s (by omega) (Nat.le_refl _)]; omega
            · rw [size_ext _ (by omega) (by omega)] at hn
              rw [bt_ext _ (by omega) (by omega), bt_ext s (Nat.le_refl _) (by omega), bt_ext s (Nat.le_refl _) (by omega)]
              congr 1; omega
          rw [hx]
          have hb : 0 ≤ baseO (bt s (o + 1)) ∧ baseO (bt s (o + 1)) ≤ 16 := baseO_range _
          have hn0 := natN_ge hk
          have hn1 := (natN_bounds (natOk_ge hk)).2
          have := lit_loop (w := natN (s.extract 0 o)) (by omega) hn1 hb.1 hb.2 (strBytes (s.extract (o + 1 + 1) s.size)) (strBytes_range _)
            (by rw [strBytes_size, size_ext s (by omega) (Nat.le_refl _)]; omega) (strBytes (s.extract (o + 1 + 1) s.size)).length 0 0 (by omega) (by decide) (by decide)
          simpa using this
        · rw [if_pos (by simp; omega), if_neg (by omega)]
      · rw [if_neg (by simp; omega), if_neg (by omega)]
        simp [some_bind']
end Go.Proofs.YtfmkleeneddijaaGreatDoor.Ev.F
