/- Strings of bits: written; the law. -/
import Derived.Test.YtcgkjbglijganaaGreatDoorPStr5
set_option linter.unusedVariables false
set_option linter.unusedSimpArgs false
set_option linter.unnecessarySimpa false
namespace Go.Proofs.YtcgkjbglijganaaGreatDoor.Ev.F
open Go.Proofs.YtcgkjbglijganaaGreatDoor.Ev

theorem numV_cons (b ch : Int) (l : List Int) (last n c : Int) : numV b (ch :: l) last n c = if ch = 95 then (if last = 95 then none else numV b l 95 n c) else if dv ch < 0 ∨ b ≤ dv ch then none else numV b l ch (satM (n * b + dv ch)) (c + 1) := rfl
theorem numV_app (b : Int) : ∀ (l m : List Int) (last n c : Int), numV b (l ++ m) last n c = (numV b l last n c).bind fun r => numV b m r.2.2 r.1 r.2.1
 | [], m, last, n, c => rfl
 | ch :: l, m, last, n, c => by
   rw [List.cons_append, numV_cons, numV_cons]
   split
   · split
     · rfl
     · exact numV_app b l m 95 n c
   · split
     · rfl
     · exact numV_app b l m ch _ _
theorem ub_tab : ∀ d : Nat, d < 16 → dv ((ub d).toNat : Int) = (d : Int) ∧ (ub d).toNat ≠ 95 := by decide +kernel
theorem numV_one {b : Nat} (hb : b ≤ 16) {d : Nat} (hd : d < b) (last n c : Int) : numV (b : Int) (toI [ub d]) last n c = some (satM (n * (b : Int) + (d : Int)), c + 1, ((ub d).toNat : Int)) := by
  obtain ⟨h1, h2⟩ := ub_tab d (by omega)
  have e0 : toI [ub d] = [((ub d).toNat : Int)] := rfl
  rw [e0, numV_cons, if_neg (by omega), h1, if_neg (by omega)]
  rfl
theorem numV_digs {b : Nat} (h2 : 2 ≤ b) (hb : b ≤ 16) : ∀ (k v : Nat), v < b ^ k → v < 65536 → ∀ (last c : Int), ∃ z : Int, numV (b : Int) (toI (digs b k v)) last 0 c = some ((v : Int), c + ((digs b k v).length : Int), z) ∧ (1 ≤ (digs b k v).length → z ≠ 95) := by
  intro k
  induction k with
  | zero =>
    intro v h hv last c
    have : v = 0 := by simpa using h
    subst this
    exact ⟨last, by simp [digs, toI, numV], fun h => by simp [digs] at h⟩
  | succ k ih =>
    intro v h hv last c
    rw [digs_succ]
    by_cases hvb : v < b
    · rw [if_pos hvb, numV_one hb hvb]
      refine ⟨((ub v).toNat : Int), ?_, fun _ => by have := (ub_tab v (by omega)).2; omega⟩
      have : satM ((0 : Int) * (b : Int) + (v : Int)) = (v : Int) := by
        unfold satM
        rw [Int.zero_mul, Int.zero_add, if_pos (by omega)]
      rw [this]
      rfl
    · rw [if_neg hvb, toI_app, numV_app]
      obtain ⟨z, h1, _⟩ := ih (v / b) (div_pow h) (by have := Nat.div_le_self v b; omega) last c
      have hm := Nat.mod_lt v (show 0 < b by omega)
      rw [h1]
      show ∃ z, numV (b : Int) (toI [ub (v % b)]) _ ((v / b : Nat) : Int) _ = _ ∧ _
      rw [numV_one hb hm]
      have e : (((v / b : Nat) : Int) * (b : Int) + ((v % b : Nat) : Int)) = (v : Int) := by
        have := Nat.div_add_mod v b
        rw [← Int.natCast_mul, ← Int.natCast_add, Nat.mul_comm, this]
      have e2 : satM (v : Int) = (v : Int) := by unfold satM; rw [if_pos (by omega)]
      rw [e, e2]
      refine ⟨((ub (v % b)).toNat : Int), ?_, fun _ => by have := (ub_tab (v % b) (by omega)).2; omega⟩
      simp
      omega
theorem numV_zeros (b : Nat) (h2 : 2 ≤ b) (l : List Int) : ∀ (n : Nat) (last c : Int), ∃ last' : Int, numV (b : Int) (toI (List.replicate n 48) ++ l) last 0 c = numV (b : Int) l last' 0 (c + (n : Int))
 | 0, last, c => ⟨last, by simp [toI]⟩
 | n + 1, last, c => by
   obtain ⟨last', h⟩ := numV_zeros b h2 l n 48 (c + 1)
   refine ⟨last', ?_⟩
   have e0 : toI (List.replicate (n + 1) 48) ++ l = (48 : Int) :: (toI (List.replicate n 48) ++ l) := rfl
   rw [e0, numV_cons]
   have e : dv 48 = 0 := by decide
   have e2 : satM ((0 : Int) * (b : Int) + 0) = 0 := by unfold satM; rw [Int.zero_mul, Int.zero_add, if_pos (by omega)]
   rw [if_neg (by decide), e, if_neg (by omega), e2, h, show c + 1 + (n : Int) = c + ((n + 1 : Nat) : Int) by omega]
/-- what is written is read again -/
theorem txt_parse {w : Nat} (h1 : 1 ≤ w) (h16 : w ≤ 16) {c : UInt8} {b : Nat} (hb : b = 2 ∨ b = 10 ∨ b = 16) (hc : byR (c.toNat : Int) = (b : Int)) {D : List UInt8} (hD : D.length ≤ 16) {v : Nat} {k z : Int} (hv : numV (b : Int) (toI D) 95 0 0 = some ((v : Int), k, z)) (hk : 1 ≤ k ∧ k ≤ 20) (hz : z ≠ 95) (hch : chk (w : Int) (v : Int) = 0) :
    run_bits_ParseBits (.start (txt w c D)) = some ((((w : Int), ((v : Int), ())), ((0 : Int), ())), ()) := by
  obtain ⟨k1, k2, k3, k4⟩ := W_ok (show w < 17 by omega)
  have hi : Lib.indexByte (txt w c D).data.toList 39 = ((Lib.decDigits w).length : Int) := by rw [txt_data]; exact index_app _ _ k3
  have hsz : (txt w c D).size = (Lib.decDigits w).length + (D.length + 2) := by rw [← sizeL, txt_data]; simp
  have hx : (txt w c D).extract 0 (Lib.decDigits w).length = ⟨(Lib.decDigits w).toArray⟩ := byte_ext (by
    rw [ByteArray.data_extract, Array.toList_extract, List.extract_eq_take_drop, txt_data]
    simp)
  have hWs : (⟨(Lib.decDigits w).toArray⟩ : ByteArray).size = (Lib.decDigits w).length := rfl
  have hre : ((txt w c D).extract ((Lib.decDigits w).length + 1) (txt w c D).size).data.toList = c :: D := by
    rw [ext_drop, txt_data, ← List.drop_drop, List.drop_left]
    rfl
  have hrs : ((txt w c D).extract ((Lib.decDigits w).length + 1) (txt w c D).size).size = D.length + 1 := by rw [← sizeL, hre]; rfl
  have hb0 : bt ((txt w c D).extract ((Lib.decDigits w).length + 1) (txt w c D).size) 0 = (c.toNat : Int) := bt_get (by rw [hre]; rfl)
  have z0 : ((0 : Nat) : Int) = 0 := rfl
  rw [run_bits_ParseBits, if_neg (by simp; omega)]
  simp only [run_strings_Cut, run_internal_stringslite_Cut, oneRun, some_bind']
  have h1s : ((⟨#[39]⟩ : ByteArray).size : Int) = 1 := rfl
  rw [hi, if_pos (by simp), h1s, ← z0, span_nat (Nat.zero_le _) (by omega)]
  simp only [some_bind']
  rw [wrap_i64 (x := ((Lib.decDigits w).length : Int) + 1) (by omega) (by omega), show (((Lib.decDigits w).length : Int) + 1) = (((Lib.decDigits w).length + 1 : Nat) : Int) by omega, span_nat (by omega) (Nat.le_refl _)]
  simp only [some_bind', Bool.not_true, Bool.false_eq_true, if_false]
  rw [z0]
  have hP := progP (front := (txt w c D).extract 0 (Lib.decDigits w).length) (rest := (txt w c D).extract ((Lib.decDigits w).length + 1) (txt w c D).size) (by rw [hx, hWs]; omega) (by omega) _ rfl
  rw [hP, hx, if_pos (show natOk ⟨(Lib.decDigits w).toArray⟩ = true ∧ (⟨(Lib.decDigits w).toArray⟩ : ByteArray).size ≤ 2 from ⟨k1, by rw [hWs]; exact k4⟩), if_neg (by omega), k2, p63_eq (by omega) (by omega), hb0, hc, if_neg (by omega), p255_eq hb (by omega) (by omega)]
  have hs2 : strBytes (((txt w c D).extract ((Lib.decDigits w).length + 1) (txt w c D).size).extract 1 ((txt w c D).extract ((Lib.decDigits w).length + 1) (txt w c D).size).size) = toI D := by
    unfold strBytes
    rw [ext_drop, hre]
    rfl
  have hz' : (z != 95) = true := by simpa using hz
  rw [hs2, hv]
  unfold valR numR'
  simp only [hz', Bool.true_and]
  rw [and_true' hk, if_pos rfl, hch]
  rfl

/-! ### how the program writes -/
def cnt (n w : Nat) : Nat := (w + n - 1) / n
def isB (b : Int) : Bool := b == 2 || (b == 10 || b == 16)
theorem base_tab : ∀ n : Nat, n < 17 → (glob0[n]?).map (fun x => x != 0) = some (isB (n : Int)) := by decide
theorem isBase_eq (b : Int) : run_bits_isBase (.start b) = some ((isB b, ()), ()) := by
  rw [run_bits_isBase, bwithin_eq]
  simp only [some_bind']
  by_cases h : 0 ≤ b ∧ b ≤ 16
  · obtain ⟨n, rfl⟩ := Int.eq_ofNat_of_zero_le h.1
    obtain ⟨x, t1, t2⟩ := Option.map_eq_some_iff.1 (base_tab n (by omega))
    rw [and_true' h, if_pos rfl, idx_nat, t1]
    simp only [some_bind']
    rw [t2]
  · rw [and_false' h, if_neg (by decide)]
    have h1 : b ≠ 2 := fun e => h (by omega)
    have h2 : b ≠ 10 := fun e => h (by omega)
    have h3 : b ≠ 16 := fun e => h (by omega)
    have : isB b = false := by
      unfold isB
      rw [beq_eq_false_iff_ne.2 h1, beq_eq_false_iff_ne.2 h2, beq_eq_false_iff_ne.2 h3]
      rfl
    rw [this]
theorem hg1 : idx glob0 (2 : Int) = some 98 := by decide
theorem hg2 {b c : Nat} (hbc : b = 2 ∧ c = 98 ∨ b = 10 ∧ c = 100 ∨ b = 16 ∧ c = 104) : idx glob0 (b : Int) = some (c : Int) := by
  rcases hbc with ⟨rfl, rfl⟩ | ⟨rfl, rfl⟩ | ⟨rfl, rfl⟩
  · exact (idx_nat glob0 2).trans (by decide)
  · exact (idx_nat glob0 10).trans (by decide)
  · exact (idx_nat glob0 16).trans (by decide)
theorem he1 {c : Nat} (h : c < 128) : Utf8.encode (c : Int) = ⟨#[UInt8.ofNat c]⟩ := seq_iff.1 (enc_ok c h)
theorem hw1 {w : Nat} (h16 : w ≤ 16) : itoaRun ((w : Int), ()) () = some ((⟨(Lib.decDigits w).toArray⟩, ()), ()) := by
    unfold itoaRun
    simp only
    rw [if_pos (by omega), Lib.itoa_nonneg]
theorem bl {a b : Nat} (h : a + b ≤ 200) : Nat.ble (a + b) 9223372036854775807 = true := Nat.ble_eq_true_of_le (by omega)
theorem fbx {w : Nat} (h1 : 1 ≤ w) (h16 : w ≤ 16) {b c : Nat} (hc : c < 128) (hg : idx glob0 (b : Int) = some (c : Int)) {D : List UInt8} (hD : D.length ≤ 20) (v : Int) : run_bits_FormatBits (.p63 (b : Int) ⟨D.toArray⟩ (w : Int) v) = some ((txt w (UInt8.ofNat c) D, ((0 : Int), ())), ()) := by
  obtain ⟨k1, k2, k3, k4⟩ := W_ok (show w < 17 by omega)
  have hlsz : ∀ m : List UInt8, (⟨m.toArray⟩ : ByteArray).size = m.length := fun m => rfl
  have sa : ∀ a b : ByteArray, (a ++ b).size = a.size + b.size := fun a b => by simp
  have h39 : (⟨#[39]⟩ : ByteArray).size = 1 := rfl
  have hcs : (⟨#[UInt8.ofNat c]⟩ : ByteArray).size = 1 := rfl
  have p1 : Nat.ble ((⟨(Lib.decDigits w).toArray⟩ : ByteArray).size + (⟨#[39]⟩ : ByteArray).size) 9223372036854775807 = true := bl (by rw [hlsz, h39]; omega)
  have p2 : Nat.ble (((⟨(Lib.decDigits w).toArray⟩ : ByteArray) ++ ⟨#[39]⟩).size + (⟨#[UInt8.ofNat c]⟩ : ByteArray).size) 9223372036854775807 = true := bl (by rw [sa, hlsz, h39, hcs]; omega)
  have p3 : Nat.ble (((⟨(Lib.decDigits w).toArray⟩ : ByteArray) ++ ⟨#[39]⟩ ++ ⟨#[UInt8.ofNat c]⟩).size + (⟨D.toArray⟩ : ByteArray).size) 9223372036854775807 = true := bl (by rw [sa, sa, h39, hcs, hlsz, hlsz]; omega)
  rw [run_bits_FormatBits, hw1 h16]
  simp only [some_bind']
  rw [if_pos p1, hg]
  rw [some_bind', he1 hc]
  rw [if_pos p2, if_pos p3]
  have : ((⟨(Lib.decDigits w).toArray⟩ : ByteArray) ++ ⟨#[39]⟩ ++ ⟨#[UInt8.ofNat c]⟩ ++ ⟨D.toArray⟩) = txt w (UInt8.ofNat c) D := byte_ext (by rw [txt_data]; simp)
  rw [this]
theorem fb_end {w : Nat} (h1 : 1 ≤ w) (h16 : w ≤ 16) {b c : Nat} (hbc : b = 2 ∧ c = 98 ∨ b = 10 ∧ c = 100 ∨ b = 16 ∧ c = 104) {D : List UInt8} (hD : D.length ≤ 20) (v : Int) : run_bits_FormatBits (.p63 (b : Int) ⟨D.toArray⟩ (w : Int) v) = some ((txt w (UInt8.ofNat c) D, ((0 : Int), ())), ()) := fbx h1 h16 (by omega) (hg2 hbc) hD v
theorem fb_pow2 {n b c : Nat} (hn : n = 1 ∧ b = 2 ∧ c = 98 ∨ n = 4 ∧ b = 16 ∧ c = 104) {w v : Nat} (h1 : 1 ≤ w) (h16 : w ≤ 16) (hv : v < 2 ^ w) (hch : chk (w : Int) (v : Int) = 0) : run_bits_FormatBits (.start (w : Int) (v : Int) (b : Int)) = some ((txt w (UInt8.ofNat c) (padD b (cnt n w) v), ((0 : Int), ())), ()) := by
  have h65 : (2 : Nat) ^ w ≤ 2 ^ 16 := Nat.pow_le_pow_right (by decide) h16
  have e16 : (2 : Nat) ^ 16 = 65536 := by decide
  have hnn : n = 1 ∨ n = 4 := by omega
  have hbn : b = 2 ^ n := by rcases hn with ⟨rfl, rfl, _⟩ | ⟨rfl, rfl, _⟩ <;> rfl
  have hc1 : 1 ≤ cnt n w ∧ cnt n w ≤ 16 ∧ w ≤ n * cnt n w := by
    unfold cnt
    rcases hnn with rfl | rfl <;> omega
  have hvb : v < b ^ cnt n w := by
    rw [hbn, ← Nat.pow_mul]
    have : (2 : Nat) ^ w ≤ 2 ^ (n * cnt n w) := Nat.pow_le_pow_right (by decide) hc1.2.2
    omega
  obtain ⟨g1, g2, g3⟩ := pad_digs (b := b) (by omega) (cnt n w) v 16 hc1.1 hc1.2.1 hvb
  have hiB : isB (b : Int) = true := by rcases hn with ⟨rfl, rfl, _⟩ | ⟨rfl, rfl, _⟩ <;> decide
  have hsome : Option.isSome (aget ieq (aput ieq (aput ieq ([] : List (Int × Int)) (2 : Int) (1 : Int)) (16 : Int) (4 : Int)) (b : Int)) = true := by rcases hn with ⟨rfl, rfl, _⟩ | ⟨rfl, rfl, _⟩ <;> decide
  have hm : Option.getD (aget ieq (aput ieq (aput ieq ([] : List (Int × Int)) (2 : Int) (1 : Int)) (16 : Int) (4 : Int)) (b : Int)) (0 : Int) = (n : Int) := by rcases hn with ⟨rfl, rfl, _⟩ | ⟨rfl, rfl, _⟩ <;> decide
  have hF : fmtRun (v : Int) (b : Int) (run_strconv_FormatInt (.start (v : Int) (b : Int))) = some ((⟨(digs b 16 v).toArray⟩, ()), ()) := by
    unfold fmtRun
    rw [if_neg (by omega), hbn, FormatInt_eq hnn (by omega)]
    rfl
  have hlsz : ∀ m : List UInt8, (⟨m.toArray⟩ : ByteArray).size = m.length := fun m => rfl
  rw [run_bits_FormatBits, CheckBits_eq, isBase_eq]
  simp only [some_bind', unless_eq, first2_eq, hch, hiB, if_true, ne_eq, not_true_eq_false, if_false, bne_self_eq_false, Bool.false_eq_true]
  rw [hF]
  simp only [some_bind', hm, hsome, if_true]
  have hq : Int.tdiv (IntKind.wrap .i64 (IntKind.wrap .i64 ((w : Int) + (n : Int)) - 1)) (n : Int) = ((cnt n w : Nat) : Int) := by
    rw [wrap_i64 (x := (w : Int) + (n : Int)) (by omega) (by omega), wrap_i64 (x := (w : Int) + (n : Int) - 1) (by omega) (by omega), Int.tdiv_eq_ediv_of_nonneg (by omega)]
    unfold cnt
    rw [Int.natCast_ediv]
    congr 1
    omega
  have hz : ((n : Int) == 0) = false := by rw [beq_eq_false_iff_ne]; omega
  rw [hz, if_pos (by decide), hq, hlsz, wrap_i64 (x := ((cnt n w : Nat) : Int)) (by omega) (by omega), wrap_i64 (x := ((cnt n w : Nat) : Int) - (((digs b 16 v).length : Nat) : Int)) (by omega) (by omega)]
  have hR : repeatRun ((⟨#[48]⟩ : ByteArray), ((cnt n w : Nat) : Int) - (((digs b 16 v).length : Nat) : Int), ()) () = some ((⟨(List.replicate (cnt n w - (digs b 16 v).length) 48).toArray⟩, ()), ()) := by
    unfold repeatRun
    have et : (((cnt n w : Nat) : Int) - (((digs b 16 v).length : Nat) : Int)).toNat = cnt n w - (digs b 16 v).length := by omega
    have h48 : (⟨#[48]⟩ : ByteArray).size = 1 := rfl
    have hb : (decide ((0 : Int) ≤ ((cnt n w : Nat) : Int) - (((digs b 16 v).length : Nat) : Int)) && (decide (((cnt n w : Nat) : Int) - (((digs b 16 v).length : Nat) : Int) ≤ 9223372036854775807) && Nat.ble ((⟨#[48]⟩ : ByteArray).size * (((cnt n w : Nat) : Int) - (((digs b 16 v).length : Nat) : Int)).toNat) 140737488355328)) = true := by
      rw [Bool.and_eq_true, Bool.and_eq_true, decide_eq_true_eq, decide_eq_true_eq]
      exact ⟨by omega, by omega, Nat.ble_eq_true_of_le (by rw [h48, et]; omega)⟩
    simp only
    rw [hb, cond_true, et]
    show some (((⟨(Lib.repeatL [48] (cnt n w - (digs b 16 v).length)).toArray⟩ : ByteArray), ()), ()) = _
    rw [repeat_48]
  rw [hR]
  simp only [some_bind']
  have hrl : (List.replicate (cnt n w - (digs b 16 v).length) (48 : UInt8)).length = cnt n w - (digs b 16 v).length := List.length_replicate
  rw [if_pos (Nat.ble_eq_true_of_le (by simp only [hlsz, hrl]; omega))]
  have hj : (⟨(List.replicate (cnt n w - (digs b 16 v).length) 48).toArray⟩ : ByteArray) ++ ⟨(digs b 16 v).toArray⟩ = ⟨(padD b (cnt n w) v).toArray⟩ := byte_ext (by rw [← g3]; simp)
  rw [hj]
  exact fb_end h1 h16 (by omega) (by rw [padD_len]; omega) _
theorem fb_dec {w v : Nat} (h1 : 1 ≤ w) (h16 : w ≤ 16) (hv : v < 2 ^ w) (hch : chk (w : Int) (v : Int) = 0) : run_bits_FormatBits (.start (w : Int) (v : Int) 10) = some ((txt w 100 (Lib.decDigits v), ((0 : Int), ())), ()) := by
  have h65 : (2 : Nat) ^ w ≤ 2 ^ 16 := Nat.pow_le_pow_right (by decide) h16
  have e16 : (2 : Nat) ^ 16 = 65536 := by decide
  have e5 : (10 : Nat) ^ 5 = 100000 := by decide
  have hdl : (Lib.decDigits v).length ≤ 5 := by
    rw [dec_digs 5 v (by decide) (by omega)]
    exact (pad_digs (by decide) 5 v 5 (by decide) (by decide) (by omega)).1
  have hiB : isB (10 : Int) = true := by decide
  have hsome : Option.isSome (aget ieq (aput ieq (aput ieq ([] : List (Int × Int)) (2 : Int) (1 : Int)) (16 : Int) (4 : Int)) (10 : Int)) = false := by decide
  have hF : fmtRun (v : Int) 10 (run_strconv_FormatInt (.start (v : Int) 10)) = some ((⟨(Lib.decDigits v).toArray⟩, ()), ()) := by
    unfold fmtRun
    rw [if_pos rfl]
    unfold itoaRun
    simp only
    rw [if_pos (by omega), Lib.itoa_nonneg]
  rw [run_bits_FormatBits, CheckBits_eq, isBase_eq]
  simp only [some_bind', unless_eq, first2_eq, hch, hiB, if_true, ne_eq, not_true_eq_false, if_false, bne_self_eq_false, Bool.false_eq_true]
  rw [hF]
  simp only [some_bind', hsome, Bool.false_eq_true, if_false]
  exact fb_end (b := 10) (c := 100) h1 h16 (by omega) (by omega) _
end Go.Proofs.YtcgkjbglijganaaGreatDoor.Ev.F
