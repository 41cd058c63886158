/- A part of the proof. -/
import Derived.Test.YtjededkgblbamaaGreatDoorIPP8
set_option linter.unusedVariables false
set_option linter.unusedSimpArgs false
set_option linter.unnecessarySimpa false
set_option maxRecDepth 100000
namespace Go.Proofs.YtjededkgblbamaaGreatDoor.Ev.F
open Go.Proofs.YtjededkgblbamaaGreatDoor.Ev
theorem xG0 {P : Prop} [Decidable P] {x y : Int} : (if (if P then (1 : Int) else 0) = 1 then x else y) = if P then x else y := by
  by_cases p : P <;> simp [p]
theorem xP2 {a b : Nat} (ha : a < 2 ^ 62) : bits .and .i64 (a : Int) (b : Int) = ((a &&& b : Nat) : Int) ∨ b ≥ 2 ^ 62 := by
  by_cases hb : b < 2 ^ 62
  · left
    rw [u80]
    unfold vc7
    show IntKind.wrap .i64 (((BitVec.ofInt 64 (a : Int) &&& BitVec.ofInt 64 (b : Int)).toNat : Nat) : Int) = _
    rw [BitVec.ofInt_natCast, BitVec.ofInt_natCast, BitVec.toNat_and, BitVec.toNat_ofNat, BitVec.toNat_ofNat, Nat.mod_eq_of_lt (by omega), Nat.mod_eq_of_lt (by omega)]
    have : a &&& b ≤ a := Nat.and_le_left
    exact wrap_i64 (by omega) (by omega)
  · exact .inr (by omega)
theorem xV2 {x y : Int} (hx : 0 ≤ x ∧ x ≤ 255) (hy : 0 ≤ y ∧ y ≤ 255) : 0 ≤ bits .and .i64 x y ∧ bits .and .i64 x y ≤ 255 := by
  obtain ⟨a, rfl⟩ := Int.eq_ofNat_of_zero_le hx.1
  obtain ⟨b, rfl⟩ := Int.eq_ofNat_of_zero_le hy.1
  rcases xP2 (a := a) (b := b) (by omega) with h | h
  · rw [h]
    have : a &&& b ≤ a := Nat.and_le_left
    omega
  · omega
theorem xH4 {m0 m1 m2 m3 m4 m5 m6 m7 : Int} (h0 : 0 ≤ m0 ∧ m0 ≤ 255) (h1 : 0 ≤ m1 ∧ m1 ≤ 255) (h2 : 0 ≤ m2 ∧ m2 ≤ 255) (h3 : 0 ≤ m3 ∧ m3 ≤ 255) (h4 : 0 ≤ m4 ∧ m4 ≤ 255) (h5 : 0 ≤ m5 ∧ m5 ≤ 255) (h6 : 0 ≤ m6 ∧ m6 ≤ 255) (h7 : 0 ≤ m7 ∧ m7 ≤ 255) (k : Int) : 0 ≤ memv m0 m1 m2 m3 m4 m5 m6 m7 k ∧ memv m0 m1 m2 m3 m4 m5 m6 m7 k ≤ 255 := by
  unfold memv; repeat' split
  all_goals assumption
theorem xI4 {op n ra rb mk : Int} (hn : 0 ≤ n ∧ n ≤ 255) (ha : 0 ≤ ra ∧ ra ≤ 255) (hb : 0 ≤ rb ∧ rb ≤ 255) (hm : 0 ≤ mk ∧ mk ≤ 255) : 0 ≤ valv op n ra rb mk ∧ valv op n ra rb mk ≤ 255 := by
  unfold valv
  repeat' split
  · exact hn
  · exact hb
  · rw [wrap_i64 (by omega) (by omega), Int.tmod_eq_emod_of_nonneg (by omega)]; omega
  · rw [wrap_i64 (x := ra - rb) (by omega) (by omega), wrap_i64 (by omega) (by omega), Int.tmod_eq_emod_of_nonneg (by omega)]; omega
  · exact xV2 ha hb
  · exact hm
  · exact ha
section
variable {W M : Nat → Int} {pc h v c r0 r1 r2 r3 m0 m1 m2 m3 m4 m5 m6 m7 op a b n : Int}
structure Mg (m0 m1 m2 m3 m4 m5 m6 m7 : Int) : Prop where
  h0 : 0 ≤ m0 ∧ m0 ≤ 255
  h1 : 0 ≤ m1 ∧ m1 ≤ 255
  h2 : 0 ≤ m2 ∧ m2 ≤ 255
  h3 : 0 ≤ m3 ∧ m3 ≤ 255
  h4 : 0 ≤ m4 ∧ m4 ≤ 255
  h5 : 0 ≤ m5 ∧ m5 ≤ 255
  h6 : 0 ≤ m6 ∧ m6 ≤ 255
  h7 : 0 ≤ m7 ∧ m7 ≤ 255
theorem wK7 (hp : 0 ≤ pc ∧ pc ≤ 15) (hh : 0 ≤ h ∧ h ≤ 1) (hv : 0 ≤ v ∧ v ≤ 1) (hc : 0 ≤ c ∧ c ≤ 65535) (R : Rg r0 r1 r2 r3) (G : Mg m0 m1 m2 m3 m4 m5 m6 m7) : stE (stv pc h v c r0 r1 r2 r3 m0 m1 m2 m3 m4 m5 m6 m7) = 0 := by
  obtain ⟨a0, a1, a2, a3⟩ := R
  obtain ⟨b0, b1, b2, b3, b4, b5, b6, b7⟩ := G
  have : uL4 (stv pc h v c r0 r1 r2 r3 m0 m1 m2 m3 m4 m5 m6 m7) ul6 = true := by
    unfold ul6 stv
    simp only [uL4, Bool.and_eq_true, uq7, Bool.and_true, p4, p1, p16, p8]
    omega
  unfold stE
  rw [if_pos (show (stv pc h v c r0 r1 r2 r3 m0 m1 m2 m3 m4 m5 m6 m7).length = 16 from rfl), if_pos this]
theorem xQ8 (D : Cd op a b n c) (R : Rg r0 r1 r2 r3) (hj : op = 8 ∨ op = 9 → n ≤ 15) : hp (V W (stv pc 0 1 c r0 r1 r2 r3 m0 m1 m2 m3 m4 m5 m6 m7)) uc2.Writes (stv pc 0 1 c r0 r1 r2 r3 m0 m1 m2 m3 m4 m5 m6 m7) =
    stv (npc op n pc (reg r0 r1 r2 r3 a)) (nhl op) 0 c
      (nrg op a 0 (valv op n (reg r0 r1 r2 r3 a) (reg r0 r1 r2 r3 b) (memv m0 m1 m2 m3 m4 m5 m6 m7 (reg r0 r1 r2 r3 b % 8))) r0) (nrg op a 1 (valv op n (reg r0 r1 r2 r3 a) (reg r0 r1 r2 r3 b) (memv m0 m1 m2 m3 m4 m5 m6 m7 (reg r0 r1 r2 r3 b % 8))) r1) (nrg op a 2 (valv op n (reg r0 r1 r2 r3 a) (reg r0 r1 r2 r3 b) (memv m0 m1 m2 m3 m4 m5 m6 m7 (reg r0 r1 r2 r3 b % 8))) r2) (nrg op a 3 (valv op n (reg r0 r1 r2 r3 a) (reg r0 r1 r2 r3 b) (memv m0 m1 m2 m3 m4 m5 m6 m7 (reg r0 r1 r2 r3 b % 8))) r3)
      (nmm op (reg r0 r1 r2 r3 b % 8) 0 (reg r0 r1 r2 r3 a) m0) (nmm op (reg r0 r1 r2 r3 b % 8) 1 (reg r0 r1 r2 r3 a) m1) (nmm op (reg r0 r1 r2 r3 b % 8) 2 (reg r0 r1 r2 r3 a) m2) (nmm op (reg r0 r1 r2 r3 b % 8) 3 (reg r0 r1 r2 r3 a) m3) (nmm op (reg r0 r1 r2 r3 b % 8) 4 (reg r0 r1 r2 r3 a) m4) (nmm op (reg r0 r1 r2 r3 b % 8) 5 (reg r0 r1 r2 r3 a) m5) (nmm op (reg r0 r1 r2 r3 b % 8) 6 (reg r0 r1 r2 r3 a) m6) (nmm op (reg r0 r1 r2 r3 b % 8) 7 (reg r0 r1 r2 r3 a) m7) := by
  have e0 : (if V W (stv pc 0 1 c r0 r1 r2 r3 m0 m1 m2 m3 m4 m5 m6 m7) 122 = 1 then V W (stv pc 0 1 c r0 r1 r2 r3 m0 m1 m2 m3 m4 m5 m6 m7) 121 else pc) = npc op n pc (reg r0 r1 r2 r3 a) := by
    rw [f122 D, f121 D]
    unfold npc
    by_cases h0 : op = 0
    · simp [h0]
    · by_cases h1 : op = 8 ∨ op = 9 ∧ reg r0 r1 r2 r3 a = 0
      · have hn : n % 16 = n := by
          have := D.hn
          have := hj (by rcases h1 with h1 | h1; exact .inl h1; exact .inr h1.1)
          omega
        simp [h0, h1, hn]
      · simp [h0, h1]
  rw [hp1, e0, f109 D, V16, V123, f126 D, f129 D, f132 D, f135 D, f106 D R, f140 D R, f143 D R, f146 D R, f149 D R, f152 D R, f155 D R, f158 D R, f161 D R, f63 D]
  simp only [xG0]
  rfl
end
def insn (l : List ua3) (pc : Int) : ua3 := match l[pc.toNat]? with | some c => c | none => ⟨0, 0, 0, 0⟩
theorem xF7 {l : List ua3} (h : ∀ c ∈ l, uB7 c.Op c.A c.B c.N = 0) (pc : Int) : Cd (insn l pc).Op (insn l pc).A (insn l pc).B (insn l pc).N (wd l pc.toNat) ∧ ((insn l pc).Op = 8 ∨ (insn l pc).Op = 9 → (insn l pc).N ≤ 15) := by
  unfold insn wd
  cases hk : l[pc.toNat]? with
  | none => exact ⟨⟨by decide, by decide, by decide, by decide, rfl⟩, by decide⟩
  | some x =>
    have hx := h x (List.mem_of_getElem? hk)
    obtain ⟨h1, h2, h3, h4, h5, _⟩ := uQ5 hx
    rw [uk4] at h1 h2 h3 h4 h5
    refine ⟨⟨h1, h2, h3, h4, x07 hx⟩, fun hj => ?_⟩
    simp only at hj ⊢
    unfold vk1 jmp at h5
    rw [if_pos (by simpa using hj)] at h5
    omega
theorem x05 (l : List Int) (hn : l.length ≤ 1000) : uh0 (.start l) = some (((), ()), (l, ())) := by
  rw [uh0, if_pos (uy0 (by simp; omega))]; rfl
theorem wG1 (l : List ua3) {pc : Int} (hp : 0 ≤ pc) {r m : List Int} (hr : r.length ≤ 1000) (hm : m.length ≤ 1000) : ul1 (.start l pc 0 r m) = ul1 (.p63 pc 0 r m 0 0 pc 0 (insn l pc).Op (insn l pc).A (insn l pc).B (insn l pc).N r m) := by
  rw [ul1.eq_1, uT6]
  simp only [x05 r hr, x05 m hm, ua4, show ((0 : Int) == 1) = false from rfl, Bool.false_eq_true, if_false]
  by_cases h : pc < (l.length : Int)
  · have hlt : pc.toNat < l.length := by omega
    have hi : idx l pc = some l[pc.toNat] := by unfold idx; rw [if_pos hp, List.getElem?_eq_getElem hlt]
    have hins : insn l pc = l[pc.toNat] := by unfold insn; rw [List.getElem?_eq_getElem hlt]
    simp only [show decide (pc < (l.length : Int)) = true by simpa using h, if_true, hi, ua4, hins]
  · have hins : insn l pc = ⟨0, 0, 0, 0⟩ := by unfold insn; rw [List.getElem?_eq_none (by omega)]
    simp only [show decide (pc < (l.length : Int)) = false by simpa using h, Bool.false_eq_true, if_false, hins]
end Go.Proofs.YtjededkgblbamaaGreatDoor.Ev.F
