/- Digits of a number at a base. -/
import Derived.Test.YtfmkleeneddijaaGreatDoorPLit
set_option linter.unusedVariables false
set_option linter.unusedSimpArgs false
set_option linter.unnecessarySimpa false
namespace Go.Proofs.YtfmkleeneddijaaGreatDoor.Ev.F
open Go.Proofs.YtfmkleeneddijaaGreatDoor.Ev

/-- a digit's byte -/
def ub (d : Nat) : UInt8 := UInt8.ofNat (if d < 10 then 48 + d else 87 + d)
/-- so many digits -/
def padD (b : Nat) : Nat → Nat → List UInt8
 | 0, _ => []
 | n + 1, v => padD b n (v / b) ++ [ub (v % b)]
/-- no zeros in front -/
def digs (b : Nat) : Nat → Nat → List UInt8
 | 0, _ => []
 | k + 1, v => if v < b then [ub v] else digs b k (v / b) ++ [ub (v % b)]
def toI (l : List UInt8) : List Int := l.map fun c => (c.toNat : Int)
theorem toI_app (a b : List UInt8) : toI (a ++ b) = toI a ++ toI b := by unfold toI; exact List.map_append
theorem digs_succ (b k v : Nat) : digs b (k + 1) v = if v < b then [ub v] else digs b k (v / b) ++ [ub (v % b)] := rfl
theorem digO_ub : ∀ d : Nat, d < 16 → digO ((ub d).toNat : Int) = (d : Int) := by decide +kernel
theorem div_pow {v b k : Nat} (h : v < b ^ (k + 1)) : v / b < b ^ k := by
  rw [Nat.pow_succ] at h
  exact Nat.div_lt_of_lt_mul (by rw [Nat.mul_comm]; exact h)
theorem digL_app (b : Int) : ∀ (l m : List Int) (x : Int), digL b (l ++ m) x = (digL b l x).bind (digL b m)
 | [], m, x => rfl
 | c :: l, m, x => by
   show (if digO c < 0 ∨ b ≤ digO c then none else digL b (l ++ m) _) = _
   show _ = (if digO c < 0 ∨ b ≤ digO c then none else digL b l _).bind (digL b m)
   split
   · rfl
   · exact digL_app b l m _
theorem digL_one {b : Nat} (hb : b ≤ 16) {d : Nat} (hd : d < b) (x : Int) : digL (b : Int) (toI [ub d]) x = some (if x * (b : Int) + (d : Int) < 65536 then x * (b : Int) + (d : Int) else 65536) := by
  have e := digO_ub d (by omega)
  show (if digO ((ub d).toNat : Int) < 0 ∨ (b : Int) ≤ digO ((ub d).toNat : Int) then none else digL (b : Int) [] _) = _
  rw [e, if_neg (by omega)]
  rfl
theorem digL_digs {b : Nat} (h2 : 2 ≤ b) (hb : b ≤ 16) : ∀ (k v : Nat), v < b ^ k → v < 65536 → digL (b : Int) (toI (digs b k v)) 0 = some (v : Int) := by
  intro k
  induction k with
  | zero =>
    intro v h hv
    have : v = 0 := by simpa using h
    rw [this]
    rfl
  | succ k ih =>
    intro v h hv
    rw [digs_succ]
    by_cases hvb : v < b
    · rw [if_pos hvb, digL_one hb hvb, if_pos (by omega)]
      congr 1
      omega
    · rw [if_neg hvb, toI_app, digL_app, ih (v / b) (div_pow h) (by have := Nat.div_le_self v b; omega)]
      have hm := Nat.mod_lt v (show 0 < b by omega)
      have e : (((v / b : Nat) : Int) * (b : Int) + ((v % b : Nat) : Int)) = (v : Int) := by
        have := Nat.div_add_mod v b
        rw [← Int.natCast_mul, ← Int.natCast_add, Nat.mul_comm, this]
      show digL (b : Int) (toI [ub (v % b)]) ((v / b : Nat) : Int) = _
      rw [digL_one hb hm, e, if_pos (by omega)]
theorem digL_zeros (b : Nat) (h2 : 2 ≤ b) (l : List Int) : ∀ n, digL (b : Int) (toI (List.replicate n 48) ++ l) 0 = digL (b : Int) l 0
 | 0 => rfl
 | n + 1 => by
   show (if digO 48 < 0 ∨ (b : Int) ≤ digO 48 then none else digL (b : Int) (toI (List.replicate n 48) ++ l) (if (0 : Int) * b + digO 48 < 65536 then (0 : Int) * b + digO 48 else 65536)) = _
   have e : digO 48 = 0 := by decide
   rw [e, if_neg (by omega), Int.zero_mul, Int.zero_add, if_pos (by decide)]
   exact digL_zeros b h2 l n
theorem padD_zero (b : Nat) : ∀ n, padD b n 0 = List.replicate n 48
 | 0 => rfl
 | n + 1 => by
   show padD b n (0 / b) ++ [ub (0 % b)] = _
   rw [Nat.zero_div, Nat.zero_mod, padD_zero b n, List.replicate_succ']
   rfl
theorem padD_len (b : Nat) : ∀ n v, (padD b n v).length = n
 | 0, v => rfl
 | n + 1, v => by show (padD b n (v / b) ++ [ub (v % b)]).length = _; rw [List.length_append, padD_len b n]; rfl
theorem pad_digs {b : Nat} (h2 : 2 ≤ b) : ∀ (n v k : Nat), 1 ≤ n → n ≤ k → v < b ^ n → (digs b k v).length ≤ n ∧ 1 ≤ (digs b k v).length ∧ List.replicate (n - (digs b k v).length) 48 ++ digs b k v = padD b n v := by
  intro n
  induction n with
  | zero => intro v k h; omega
  | succ n ih =>
    intro v k h1 hk hv
    obtain ⟨k, rfl⟩ : ∃ j, k = j + 1 := ⟨k - 1, by omega⟩
    rw [digs_succ]
    by_cases hvb : v < b
    · rw [if_pos hvb]
      refine ⟨by simp, by simp, ?_⟩
      show List.replicate (n + 1 - 1) 48 ++ [ub v] = padD b n (v / b) ++ [ub (v % b)]
      rw [Nat.div_eq_of_lt hvb, Nat.mod_eq_of_lt hvb, padD_zero]
      rfl
    · rw [if_neg hvb]
      have hn : 1 ≤ n := by
        rcases Nat.eq_zero_or_pos n with h0 | h0
        · subst h0; simp at hv; omega
        · exact h0
      obtain ⟨g1, g2, g3⟩ := ih (v / b) k hn (by omega) (div_pow hv)
      have e : (digs b k (v / b) ++ [ub (v % b)]).length = (digs b k (v / b)).length + 1 := by simp
      rw [e]
      refine ⟨by omega, by omega, ?_⟩
      show _ = padD b n (v / b) ++ [ub (v % b)]
      rw [← g3, show n + 1 - ((digs b k (v / b)).length + 1) = n - (digs b k (v / b)).length by omega, List.append_assoc]
theorem padD_cons (b : Nat) : ∀ (j v : Nat), padD b (j + 1) v = ub (v / b ^ j % b) :: padD b j v
 | 0, v => by show [] ++ [ub (v % b)] = [ub (v / 1 % b)]; rw [Nat.div_one]; rfl
 | j + 1, v => by
   show padD b (j + 1) (v / b) ++ [ub (v % b)] = ub (v / b ^ (j + 1) % b) :: (padD b j (v / b) ++ [ub (v % b)])
   rw [padD_cons b j (v / b), Nat.div_div_eq_div_mul, Nat.pow_succ, Nat.mul_comm b]
   rfl
theorem dec_digs : ∀ (k v : Nat), 1 ≤ k → v < 10 ^ k → Lib.decDigits v = digs 10 k v := by
  intro k
  induction k with
  | zero => intro v h; omega
  | succ k ih =>
    intro v h1 hv
    rw [digs_succ, Lib.decDigits]
    by_cases h : v < 10
    · rw [dif_pos h, if_pos h]
      unfold ub
      rw [if_pos h]
    · rw [dif_neg h, if_neg h]
      have hk : 1 ≤ k := by
        rcases Nat.eq_zero_or_pos k with h0 | h0
        · subst h0; simp at hv; omega
        · exact h0
      rw [ih (v / 10) hk (div_pow hv)]
      have hm := Nat.mod_lt v (show 0 < 10 by decide)
      unfold ub
      rw [if_pos hm]
abbrev D36 : ByteArray := ⟨#[48, 49, 50, 51, 52, 53, 54, 55, 56, 57, 97, 98, 99, 100, 101, 102, 103, 104, 105, 106, 107, 108, 109, 110, 111, 112, 113, 114, 115, 116, 117, 118, 119, 120, 121, 122]⟩
abbrev D16 : ByteArray := ⟨#[48, 49, 50, 51, 52, 53, 54, 55, 56, 57, 97, 98, 99, 100, 101, 102]⟩
theorem D36_get : ∀ n : Nat, n < 16 → sidx D36 (n : Int) = some ((ub n).toNat : Int) := by decide +kernel
theorem D16_get0 : ∀ n : Nat, n < 16 → seq (D16.extract n (n + 1)) ⟨#[ub n]⟩ = true := by decide +kernel
theorem D16_get {n : Nat} (h : n < 16) : D16.extract n (n + 1) = ⟨#[ub n]⟩ := seq_iff.1 (D16_get0 n h)
end Go.Proofs.YtfmkleeneddijaaGreatDoor.Ev.F
