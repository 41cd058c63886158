/- A part of the proof. -/
import Derived.Test.YtjededkgblbamaaGreatDoorIPP4
set_option linter.unusedVariables false
set_option linter.unusedSimpArgs false
set_option linter.unnecessarySimpa false
set_option maxRecDepth 100000
namespace Go.Proofs.YtjededkgblbamaaGreatDoor.Ev.F
open Go.Proofs.YtjededkgblbamaaGreatDoor.Ev
theorem ud2 {x k w : Int} (h0 : 0 ≤ x) (h1 : x ≤ 65535) : Int.tmod (IntKind.wrap .i64 (Int.tdiv x (pw k))) (pw w) = x / pw k % pw w := by
  have hk := wf6 k
  have hd : Int.tdiv x (pw k) = x / pw k := Int.tdiv_eq_ediv_of_nonneg h0
  have h2 : 0 ≤ x / pw k := Int.ediv_nonneg h0 (by omega)
  have h3 : x / pw k ≤ x := Int.ediv_le_self _ h0
  rw [hd, wrap_i64 (by omega) (by omega), Int.tmod_eq_emod_of_nonneg h2]
theorem w25 {x : Int} (h0 : 0 ≤ x) (h1 : x ≤ 1) : IntKind.wrap .i64 (IntKind.wrap .i64 (pw 1 - 1) - x) = 1 - x := by
  rw [show pw 1 = 2 from rfl, wrap_i64 (x := 2 - 1) (by omega) (by omega), wrap_i64 (by omega) (by omega)]
  omega
theorem xM0 {x y : Int} (hx : x = 0 ∨ x = 1) (hy : y = 0 ∨ y = 1) : bits .and .i64 x y = if x = 1 then y else 0 := by
  rcases hx with rfl | rfl <;> rcases hy with rfl | rfl <;> kernel_rfl
theorem x53 {x y : Int} (hx : x = 0 ∨ x = 1) (hy : y = 0 ∨ y = 1) : bits .or .i64 x y = if x = 1 then 1 else y := by
  rcases hx with rfl | rfl <;> rcases hy with rfl | rfl <;> kernel_rfl
theorem p0 : pw 0 = 1 := rfl
theorem p1 : pw 1 = 2 := rfl
theorem p2 : pw 2 = 4 := rfl
theorem p3 : pw 3 = 8 := rfl
theorem p4 : pw 4 = 16 := rfl
theorem p8 : pw 8 = 256 := rfl
theorem p10 : pw 10 = 1024 := rfl
theorem p12 : pw 12 = 4096 := rfl
theorem p16 : pw 16 = 65536 := rfl
abbrev stv (pc h v c r0 r1 r2 r3 m0 m1 m2 m3 m4 m5 m6 m7 : Int) : List Int := [pc, h, v, c, r0, r1, r2, r3, m0, m1, m2, m3, m4, m5, m6, m7]
section
variable {W : Nat → Int} {pc h v c r0 r1 r2 r3 m0 m1 m2 m3 m4 m5 m6 m7 : Int}
theorem l0 : V W (stv pc h v c r0 r1 r2 r3 m0 m1 m2 m3 m4 m5 m6 m7) 0 = pc := (V0 W _).trans rfl
theorem l1 : V W (stv pc h v c r0 r1 r2 r3 m0 m1 m2 m3 m4 m5 m6 m7) 1 = h := (V1 W _).trans rfl
theorem l2 : V W (stv pc h v c r0 r1 r2 r3 m0 m1 m2 m3 m4 m5 m6 m7) 2 = v := (V2 W _).trans rfl
theorem l3 : V W (stv pc h v c r0 r1 r2 r3 m0 m1 m2 m3 m4 m5 m6 m7) 3 = c := (V3 W _).trans rfl
theorem l4 : V W (stv pc h v c r0 r1 r2 r3 m0 m1 m2 m3 m4 m5 m6 m7) 4 = r0 := (V4 W _).trans rfl
theorem l5 : V W (stv pc h v c r0 r1 r2 r3 m0 m1 m2 m3 m4 m5 m6 m7) 5 = r1 := (V5 W _).trans rfl
theorem l6 : V W (stv pc h v c r0 r1 r2 r3 m0 m1 m2 m3 m4 m5 m6 m7) 6 = r2 := (V6 W _).trans rfl
theorem l7 : V W (stv pc h v c r0 r1 r2 r3 m0 m1 m2 m3 m4 m5 m6 m7) 7 = r3 := (V7 W _).trans rfl
theorem l8 : V W (stv pc h v c r0 r1 r2 r3 m0 m1 m2 m3 m4 m5 m6 m7) 8 = m0 := (V8 W _).trans rfl
theorem l9 : V W (stv pc h v c r0 r1 r2 r3 m0 m1 m2 m3 m4 m5 m6 m7) 9 = m1 := (V9 W _).trans rfl
theorem l10 : V W (stv pc h v c r0 r1 r2 r3 m0 m1 m2 m3 m4 m5 m6 m7) 10 = m2 := (V10 W _).trans rfl
theorem l11 : V W (stv pc h v c r0 r1 r2 r3 m0 m1 m2 m3 m4 m5 m6 m7) 11 = m3 := (V11 W _).trans rfl
theorem l12 : V W (stv pc h v c r0 r1 r2 r3 m0 m1 m2 m3 m4 m5 m6 m7) 12 = m4 := (V12 W _).trans rfl
theorem l13 : V W (stv pc h v c r0 r1 r2 r3 m0 m1 m2 m3 m4 m5 m6 m7) 13 = m5 := (V13 W _).trans rfl
theorem l14 : V W (stv pc h v c r0 r1 r2 r3 m0 m1 m2 m3 m4 m5 m6 m7) 14 = m6 := (V14 W _).trans rfl
theorem l15 : V W (stv pc h v c r0 r1 r2 r3 m0 m1 m2 m3 m4 m5 m6 m7) 15 = m7 := (V15 W _).trans rfl
theorem xZ7 (hh : h = 0 ∨ h = 1) (hv : v = 0 ∨ v = 1) : V W (stv pc h v c r0 r1 r2 r3 m0 m1 m2 m3 m4 m5 m6 m7) 35 = if v = 0 then 1 - h else 0 := by
  rw [V35, V33, V34, l1, l2, w25 (by omega) (by omega), w25 (by omega) (by omega), xM0 (by omega) (by omega)]
  rcases hv with rfl | rfl <;> simp
theorem xh6 (h0 : 0 ≤ pc) (h1 : pc ≤ 15) : V W (stv pc h v c r0 r1 r2 r3 m0 m1 m2 m3 m4 m5 m6 m7) 54 = W pc.toNat := by
  have e36 : V W (stv pc h v c r0 r1 r2 r3 m0 m1 m2 m3 m4 m5 m6 m7) 36 = pc % 2 := by rw [V36, l0, ud2 h0 (by omega), p0, p1]; omega
  have e45 : V W (stv pc h v c r0 r1 r2 r3 m0 m1 m2 m3 m4 m5 m6 m7) 45 = pc / 2 % 2 := by rw [V45, l0, ud2 h0 (by omega), p1]
  have e50 : V W (stv pc h v c r0 r1 r2 r3 m0 m1 m2 m3 m4 m5 m6 m7) 50 = pc / 4 % 2 := by rw [V50, l0, ud2 h0 (by omega), p2, p1]
  have e53 : V W (stv pc h v c r0 r1 r2 r3 m0 m1 m2 m3 m4 m5 m6 m7) 53 = pc / 8 % 2 := by rw [V53, l0, ud2 h0 (by omega), p3, p1]
  have : pc = 0 ∨ pc = 1 ∨ pc = 2 ∨ pc = 3 ∨ pc = 4 ∨ pc = 5 ∨ pc = 6 ∨ pc = 7 ∨ pc = 8 ∨ pc = 9 ∨ pc = 10 ∨ pc = 11 ∨ pc = 12 ∨ pc = 13 ∨ pc = 14 ∨ pc = 15 := by omega
  rw [V54, V51, V52, V46, V47, V48, V49, V37, V38, V39, V40, V41, V42, V43, V44, e36, e45, e50, e53, V17, V18, V19, V20, V21, V22, V23, V24, V25, V26, V27, V28, V29, V30, V31, V32]
  rcases this with rfl | rfl | rfl | rfl | rfl | rfl | rfl | rfl | rfl | rfl | rfl | rfl | rfl | rfl | rfl | rfl <;> simp
def reg (r0 r1 r2 r3 : Int) (a : Int) : Int := if a = 0 then r0 else if a = 1 then r1 else if a = 2 then r2 else r3
def memv (m0 m1 m2 m3 m4 m5 m6 m7 : Int) (a : Int) : Int := if a = 0 then m0 else if a = 1 then m1 else if a = 2 then m2 else if a = 3 then m3 else if a = 4 then m4 else if a = 5 then m5 else if a = 6 then m6 else m7
structure Cd (op a b n c : Int) : Prop where
  ho : 0 ≤ op ∧ op ≤ 9
  ha : 0 ≤ a ∧ a ≤ 3
  hb : 0 ≤ b ∧ b ≤ 3
  hn : 0 ≤ n ∧ n ≤ 255
  hc : c = uz6 op a b n
structure Rg (r0 r1 r2 r3 : Int) : Prop where
  hr0 : 0 ≤ r0 ∧ r0 ≤ 255
  hr1 : 0 ≤ r1 ∧ r1 ≤ 255
  hr2 : 0 ≤ r2 ∧ r2 ≤ 255
  hr3 : 0 ≤ r3 ∧ r3 ≤ 255
variable {op a b n : Int}
theorem f55 (D : Cd op a b n c) : V W (stv pc h v c r0 r1 r2 r3 m0 m1 m2 m3 m4 m5 m6 m7) 55 = op := by
  obtain ⟨ho, ha, hb, hn, hc⟩ := id D
  rw [V55, l3, ud2 (by unfold uz6 at hc; omega) (by unfold uz6 at hc; omega), p12, p4]
  unfold uz6 at hc; omega
theorem f56 (D : Cd op a b n c) : V W (stv pc h v c r0 r1 r2 r3 m0 m1 m2 m3 m4 m5 m6 m7) 56 = n := by
  obtain ⟨ho, ha, hb, hn, hc⟩ := id D
  rw [V56, l3, ud2 (by unfold uz6 at hc; omega) (by unfold uz6 at hc; omega), p0, p8]
  unfold uz6 at hc; omega
theorem f57 (D : Cd op a b n c) : V W (stv pc h v c r0 r1 r2 r3 m0 m1 m2 m3 m4 m5 m6 m7) 57 = a := by
  obtain ⟨ho, ha, hb, hn, hc⟩ := id D
  rw [V57, l3, ud2 (by unfold uz6 at hc; omega) (by unfold uz6 at hc; omega), p10, p2]
  unfold uz6 at hc; omega
theorem f58 (D : Cd op a b n c) : V W (stv pc h v c r0 r1 r2 r3 m0 m1 m2 m3 m4 m5 m6 m7) 58 = b := by
  obtain ⟨ho, ha, hb, hn, hc⟩ := id D
  rw [V58, l3, ud2 (by unfold uz6 at hc; omega) (by unfold uz6 at hc; omega), p8, p2]
  unfold uz6 at hc; omega
theorem f63 (D : Cd op a b n c) : V W (stv pc h v c r0 r1 r2 r3 m0 m1 m2 m3 m4 m5 m6 m7) 63 = reg r0 r1 r2 r3 a := by
  obtain ⟨ho, ha, hb, hn, hc⟩ := id D
  have e59 : V W (stv pc h v c r0 r1 r2 r3 m0 m1 m2 m3 m4 m5 m6 m7) 59 = a % 2 := by rw [V59, f57 D, ud2 (by omega) (by omega), p0, p1]; omega
  have e62 : V W (stv pc h v c r0 r1 r2 r3 m0 m1 m2 m3 m4 m5 m6 m7) 62 = a / 2 % 2 := by rw [V62, f57 D, ud2 (by omega) (by omega), p1]
  rw [V63, V60, V61, e59, e62, l4, l5, l6, l7]
  have : a = 0 ∨ a = 1 ∨ a = 2 ∨ a = 3 := by omega
  unfold reg
  rcases this with rfl | rfl | rfl | rfl <;> simp
theorem f68 (D : Cd op a b n c) : V W (stv pc h v c r0 r1 r2 r3 m0 m1 m2 m3 m4 m5 m6 m7) 68 = reg r0 r1 r2 r3 b := by
  obtain ⟨ho, ha, hb, hn, hc⟩ := id D
  have e59 : V W (stv pc h v c r0 r1 r2 r3 m0 m1 m2 m3 m4 m5 m6 m7) 64 = b % 2 := by rw [V64, f58 D, ud2 (by omega) (by omega), p0, p1]; omega
  have e62 : V W (stv pc h v c r0 r1 r2 r3 m0 m1 m2 m3 m4 m5 m6 m7) 67 = b / 2 % 2 := by rw [V67, f58 D, ud2 (by omega) (by omega), p1]
  rw [V68, V65, V66, e59, e62, l4, l5, l6, l7]
  have : b = 0 ∨ b = 1 ∨ b = 2 ∨ b = 3 := by omega
  unfold reg
  rcases this with rfl | rfl | rfl | rfl <;> simp
theorem vg7 (R : Rg r0 r1 r2 r3) (a : Int) : 0 ≤ reg r0 r1 r2 r3 a ∧ reg r0 r1 r2 r3 a ≤ 255 := by
  obtain ⟨hr0, hr1, hr2, hr3⟩ := R
  unfold reg; repeat' split
  all_goals assumption
theorem f69 (D : Cd op a b n c) (R : Rg r0 r1 r2 r3) : V W (stv pc h v c r0 r1 r2 r3 m0 m1 m2 m3 m4 m5 m6 m7) 69 = reg r0 r1 r2 r3 b % 8 := by
  obtain ⟨ho, ha, hb, hn, hc⟩ := id D
  have := vg7 R b
  rw [V69, f68 D, ud2 (by omega) (by omega), p0, p3]; omega
theorem f82 (D : Cd op a b n c) (R : Rg r0 r1 r2 r3) : V W (stv pc h v c r0 r1 r2 r3 m0 m1 m2 m3 m4 m5 m6 m7) 82 = memv m0 m1 m2 m3 m4 m5 m6 m7 (reg r0 r1 r2 r3 b % 8) := by
  obtain ⟨ho, ha, hb, hn, hc⟩ := id D
  have hrb := vg7 R b
  have h69 := f69 (W := W) (pc := pc) (h := h) (v := v) (m0 := m0) (m1 := m1) (m2 := m2) (m3 := m3) (m4 := m4) (m5 := m5) (m6 := m6) (m7 := m7) D R
  generalize reg r0 r1 r2 r3 b = rb at *
  have e73 : V W (stv pc h v c r0 r1 r2 r3 m0 m1 m2 m3 m4 m5 m6 m7) 73 = rb % 8 % 2 := by rw [V73, h69, ud2 (by omega) (by omega), p0, p1]; omega
  have e78 : V W (stv pc h v c r0 r1 r2 r3 m0 m1 m2 m3 m4 m5 m6 m7) 78 = rb % 8 / 2 % 2 := by rw [V78, h69, ud2 (by omega) (by omega), p1]
  have e81 : V W (stv pc h v c r0 r1 r2 r3 m0 m1 m2 m3 m4 m5 m6 m7) 81 = rb % 8 / 4 % 2 := by rw [V81, h69, ud2 (by omega) (by omega), p2, p1]
  rw [V82, V79, V80, V74, V75, V76, V77, e73, e78, e81, l8, l9, l10, l11, l12, l13, l14, l15]
  have h0 : 0 ≤ rb % 8 := by omega
  have h1 : rb % 8 ≤ 7 := by omega
  generalize rb % 8 = k at h0 h1 ⊢
  have : k = 0 ∨ k = 1 ∨ k = 2 ∨ k = 3 ∨ k = 4 ∨ k = 5 ∨ k = 6 ∨ k = 7 := by omega
  unfold memv
  rcases this with rfl | rfl | rfl | rfl | rfl | rfl | rfl | rfl <;> simp
def valv (op n ra rb mk : Int) : Int :=
  if op = 1 then n else if op = 2 then rb else if op = 3 then Int.tmod (IntKind.wrap .i64 (ra + rb)) 256 else if op = 4 then Int.tmod (IntKind.wrap .i64 (IntKind.wrap .i64 (ra - rb) + 256)) 256 else if op = 5 then bits .and .i64 ra rb else if op = 6 then mk else ra
theorem ops (D : Cd op a b n c) : op = 0 ∨ op = 1 ∨ op = 2 ∨ op = 3 ∨ op = 4 ∨ op = 5 ∨ op = 6 ∨ op = 7 ∨ op = 8 ∨ op = 9 := by have := D.ho; omega
theorem f106 (D : Cd op a b n c) (R : Rg r0 r1 r2 r3) : V W (stv pc h v c r0 r1 r2 r3 m0 m1 m2 m3 m4 m5 m6 m7) 106 = valv op n (reg r0 r1 r2 r3 a) (reg r0 r1 r2 r3 b) (memv m0 m1 m2 m3 m4 m5 m6 m7 (reg r0 r1 r2 r3 b % 8)) := by
  obtain ⟨ho, ha, hb, hn, hc⟩ := id D
  have h55 := f55 (W := W) (pc := pc) (h := h) (v := v) (r0 := r0) (r1 := r1) (r2 := r2) (r3 := r3) (m0 := m0) (m1 := m1) (m2 := m2) (m3 := m3) (m4 := m4) (m5 := m5) (m6 := m6) (m7 := m7) D
  rw [V106, V105, V104, V102, V101, V100, V98, V97, V96, V94, V93, V92, V90, V89, V88, V86, V85, V84, V70, V71, V72, f82 D R, f56 D, f63 D, f68 D, h55, p8]
  unfold valv
  rcases ops D with h' | h' | h' | h' | h' | h' | h' | h' | h' | h' <;> simp [h']
theorem b00 : bits .or .i64 0 0 = 0 := by kernel_rfl
theorem b01 : bits .or .i64 0 1 = 1 := by kernel_rfl
theorem b10 : bits .or .i64 1 0 = 1 := by kernel_rfl
theorem a00 : bits .and .i64 0 0 = 0 := by kernel_rfl
theorem a01 : bits .and .i64 0 1 = 0 := by kernel_rfl
theorem a10 : bits .and .i64 1 0 = 0 := by kernel_rfl
theorem a11 : bits .and .i64 1 1 = 1 := by kernel_rfl
theorem f107 (D : Cd op a b n c) : V W (stv pc h v c r0 r1 r2 r3 m0 m1 m2 m3 m4 m5 m6 m7) 107 = if 1 ≤ op ∧ op ≤ 6 then 1 else 0 := by
  obtain ⟨ho, ha, hb, hn, hc⟩ := id D
  have h55 := f55 (W := W) (pc := pc) (h := h) (v := v) (r0 := r0) (r1 := r1) (r2 := r2) (r3 := r3) (m0 := m0) (m1 := m1) (m2 := m2) (m3 := m3) (m4 := m4) (m5 := m5) (m6 := m6) (m7 := m7) D
  rw [V107, V103, V99, V95, V91, V87, V83, V105, V104, V101, V100, V97, V96, V93, V92, V89, V88, V85, V84, h55]
  rcases ops D with h' | h' | h' | h' | h' | h' | h' | h' | h' | h' <;> simp [h', b00, b01, b10]
theorem f109 (D : Cd op a b n c) : V W (stv pc h v c r0 r1 r2 r3 m0 m1 m2 m3 m4 m5 m6 m7) 109 = if op = 0 then 1 else 0 := by rw [V109, f55 D, V108]
theorem f117 (D : Cd op a b n c) : V W (stv pc h v c r0 r1 r2 r3 m0 m1 m2 m3 m4 m5 m6 m7) 117 = if op = 8 ∨ op = 9 ∧ reg r0 r1 r2 r3 a = 0 then 1 else 0 := by
  obtain ⟨ho, ha, hb, hn, hc⟩ := id D
  rw [V117, V116, V115, V114, V113, V112, V111, V110, f55 D, f63 D]
  by_cases h0 : reg r0 r1 r2 r3 a = 0
  · rcases ops D with h' | h' | h' | h' | h' | h' | h' | h' | h' | h' <;> simp [h', h0, b00, b01, b10, a00, a01, a10, a11]
  · rcases ops D with h' | h' | h' | h' | h' | h' | h' | h' | h' | h' <;> simp [h', h0, b00, b01, b10, a00, a01, a10, a11]
theorem f121 (D : Cd op a b n c) : V W (stv pc h v c r0 r1 r2 r3 m0 m1 m2 m3 m4 m5 m6 m7) 121 = if op = 8 ∨ op = 9 ∧ reg r0 r1 r2 r3 a = 0 then n % 16 else Int.tmod (IntKind.wrap .i64 (pc + 1)) 16 := by
  obtain ⟨ho, ha, hb, hn, hc⟩ := id D
  rw [V121, f117 D, V120, V119, V118, l0, f56 D, ud2 (by omega) (by omega), p0, p4]
  by_cases h' : op = 8 ∨ op = 9 ∧ reg r0 r1 r2 r3 a = 0 <;> simp [h']
theorem f122 (D : Cd op a b n c) : V W (stv pc h v c r0 r1 r2 r3 m0 m1 m2 m3 m4 m5 m6 m7) 122 = if op = 0 then 0 else 1 := by
  obtain ⟨ho, ha, hb, hn, hc⟩ := id D
  rw [V122, f109 D]
  by_cases h' : op = 0
  · simp only [h', if_true]; kernel_rfl
  · simp only [h', if_false]; kernel_rfl
theorem uy7 {P Q : Prop} [Decidable P] [Decidable Q] : bits .and .i64 (if P then 1 else 0) (if Q then 1 else 0) = if P ∧ Q then 1 else 0 := by
  by_cases p : P <;> by_cases q : Q <;> simp [p, q, a00, a01, a10, a11]
theorem f126 (D : Cd op a b n c) : V W (stv pc h v c r0 r1 r2 r3 m0 m1 m2 m3 m4 m5 m6 m7) 126 = if (1 ≤ op ∧ op ≤ 6) ∧ a = 0 then 1 else 0 := by rw [V126, V125, V124, f57 D, f107 D, uy7]
theorem f129 (D : Cd op a b n c) : V W (stv pc h v c r0 r1 r2 r3 m0 m1 m2 m3 m4 m5 m6 m7) 129 = if (1 ≤ op ∧ op ≤ 6) ∧ a = 1 then 1 else 0 := by rw [V129, V128, V127, f57 D, f107 D, uy7]
theorem f132 (D : Cd op a b n c) : V W (stv pc h v c r0 r1 r2 r3 m0 m1 m2 m3 m4 m5 m6 m7) 132 = if (1 ≤ op ∧ op ≤ 6) ∧ a = 2 then 1 else 0 := by rw [V132, V131, V130, f57 D, f107 D, uy7]
theorem f135 (D : Cd op a b n c) : V W (stv pc h v c r0 r1 r2 r3 m0 m1 m2 m3 m4 m5 m6 m7) 135 = if (1 ≤ op ∧ op ≤ 6) ∧ a = 3 then 1 else 0 := by rw [V135, V134, V133, f57 D, f107 D, uy7]
theorem f137 (D : Cd op a b n c) : V W (stv pc h v c r0 r1 r2 r3 m0 m1 m2 m3 m4 m5 m6 m7) 137 = if op = 7 then 1 else 0 := by rw [V137, f55 D, V136]
theorem f140 (D : Cd op a b n c) (R : Rg r0 r1 r2 r3) : V W (stv pc h v c r0 r1 r2 r3 m0 m1 m2 m3 m4 m5 m6 m7) 140 = if op = 7 ∧ reg r0 r1 r2 r3 b % 8 = 0 then 1 else 0 := by rw [V140, V139, V138, f69 D R, f137 D, uy7]
theorem f143 (D : Cd op a b n c) (R : Rg r0 r1 r2 r3) : V W (stv pc h v c r0 r1 r2 r3 m0 m1 m2 m3 m4 m5 m6 m7) 143 = if op = 7 ∧ reg r0 r1 r2 r3 b % 8 = 1 then 1 else 0 := by rw [V143, V142, V141, f69 D R, f137 D, uy7]
theorem f146 (D : Cd op a b n c) (R : Rg r0 r1 r2 r3) : V W (stv pc h v c r0 r1 r2 r3 m0 m1 m2 m3 m4 m5 m6 m7) 146 = if op = 7 ∧ reg r0 r1 r2 r3 b % 8 = 2 then 1 else 0 := by rw [V146, V145, V144, f69 D R, f137 D, uy7]
theorem f149 (D : Cd op a b n c) (R : Rg r0 r1 r2 r3) : V W (stv pc h v c r0 r1 r2 r3 m0 m1 m2 m3 m4 m5 m6 m7) 149 = if op = 7 ∧ reg r0 r1 r2 r3 b % 8 = 3 then 1 else 0 := by rw [V149, V148, V147, f69 D R, f137 D, uy7]
theorem f152 (D : Cd op a b n c) (R : Rg r0 r1 r2 r3) : V W (stv pc h v c r0 r1 r2 r3 m0 m1 m2 m3 m4 m5 m6 m7) 152 = if op = 7 ∧ reg r0 r1 r2 r3 b % 8 = 4 then 1 else 0 := by rw [V152, V151, V150, f69 D R, f137 D, uy7]
theorem f155 (D : Cd op a b n c) (R : Rg r0 r1 r2 r3) : V W (stv pc h v c r0 r1 r2 r3 m0 m1 m2 m3 m4 m5 m6 m7) 155 = if op = 7 ∧ reg r0 r1 r2 r3 b % 8 = 5 then 1 else 0 := by rw [V155, V154, V153, f69 D R, f137 D, uy7]
theorem f158 (D : Cd op a b n c) (R : Rg r0 r1 r2 r3) : V W (stv pc h v c r0 r1 r2 r3 m0 m1 m2 m3 m4 m5 m6 m7) 158 = if op = 7 ∧ reg r0 r1 r2 r3 b % 8 = 6 then 1 else 0 := by rw [V158, V157, V156, f69 D R, f137 D, uy7]
theorem f161 (D : Cd op a b n c) (R : Rg r0 r1 r2 r3) : V W (stv pc h v c r0 r1 r2 r3 m0 m1 m2 m3 m4 m5 m6 m7) 161 = if op = 7 ∧ reg r0 r1 r2 r3 b % 8 = 7 then 1 else 0 := by rw [V161, V160, V159, f69 D R, f137 D, uy7]
end
end Go.Proofs.YtjededkgblbamaaGreatDoor.Ev.F
