/- Bits counted: what the library's tricks come to, for all numbers below 65536. -/
import Derived.KernelRfl
namespace Go.Proofs.YtcgkjbglijganaaDoor.Ev.F

/-- all numbers from b * 2 ^ d on, below (b + 1) * 2 ^ d -/
def allB (p : Nat → Bool) : Nat → Nat → Bool
 | 0, b => p b
 | d + 1, b => bif allB p d (2 * b) then allB p d (2 * b + 1) else false
theorem allB_spec {p : Nat → Bool} : ∀ (d b x : Nat), allB p d b = true → x / 2 ^ d = b → p x = true
 | 0, b, x, h, hx => by
   simp at hx
   subst hx
   exact h
 | d + 1, b, x, h, hx => by
   unfold allB at h
   cases h1 : allB p d (2 * b) with
   | false => rw [h1] at h; cases h
   | true =>
     rw [h1] at h
     have h2 : x / 2 ^ d / 2 = b := by rw [Nat.div_div_eq_div_mul, ← Nat.pow_succ]; exact hx
     rcases Nat.mod_two_eq_zero_or_one (x / 2 ^ d) with h3 | h3
     · exact allB_spec d (2 * b) x h1 (by omega)
     · exact allB_spec d (2 * b + 1) x h (by omega)

/-- n is worked out first -/
def force {α : Type} (n : Nat) (f : Nat → α) : α := Nat.rec (f 0) (fun k _ => f (Nat.succ k)) n
theorem force_eq {α : Type} (n : Nat) (f : Nat → α) : force n f = f n := by cases n <;> rfl

/-- the library's count of ones -/
def swar1 (x : Nat) : Nat := Nat.mod (Nat.add (Nat.land (Nat.shiftRight x 1) 6148914691236517205) (Nat.land x 6148914691236517205)) 18446744073709551616
def swar2 (x : Nat) : Nat := Nat.mod (Nat.add (Nat.land (Nat.shiftRight x 2) 3689348814741910323) (Nat.land x 3689348814741910323)) 18446744073709551616
def swar3 (x : Nat) : Nat := Nat.land (Nat.mod (Nat.add (Nat.shiftRight x 4) x) 18446744073709551616) 1085102592571150095
def swar4 (k x : Nat) : Nat := Nat.mod (Nat.add (Nat.shiftRight x k) x) 18446744073709551616
def swar (x : Nat) : Nat := Nat.mod (swar4 32 (swar4 16 (swar4 8 (swar3 (swar2 (swar1 x)))))) 128
def bitAt (x k : Nat) : Nat := Nat.mod (Nat.shiftRight x k) 2
/-- the ones among the n lower bits -/
def popN : Nat → Nat → Nat
 | 0, _ => 0
 | n + 1, x => popN n x + bitAt x n
def pop16 (x : Nat) : Nat := Nat.add (Nat.add (Nat.add (Nat.add (bitAt x 0) (bitAt x 1)) (Nat.add (bitAt x 2) (bitAt x 3))) (Nat.add (Nat.add (bitAt x 4) (bitAt x 5)) (Nat.add (bitAt x 6) (bitAt x 7)))) (Nat.add (Nat.add (Nat.add (bitAt x 8) (bitAt x 9)) (Nat.add (bitAt x 10) (bitAt x 11))) (Nat.add (Nat.add (bitAt x 12) (bitAt x 13)) (Nat.add (bitAt x 14) (bitAt x 15))))
def swarB (x : Nat) : Bool := force x fun x => force (swar1 x) fun a => force (swar2 a) fun a => force (swar3 a) fun a => force (swar4 8 a) fun a => force (swar4 16 a) fun a => force (swar4 32 a) fun a => Nat.beq (Nat.mod a 128) (pop16 x)
theorem swar_all : allB swarB 16 0 = true := by kernel_rfl
end Go.Proofs.YtcgkjbglijganaaDoor.Ev.F
