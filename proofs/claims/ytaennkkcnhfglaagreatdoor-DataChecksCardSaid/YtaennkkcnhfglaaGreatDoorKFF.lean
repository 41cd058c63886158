/- A part of the proof. -/
import Derived.Test.YtaennkkcnhfglaaGreatDoorKF3
import Derived.Test.YtaennkkcnhfglaaGreatDoorKEvFuel
set_option linter.unusedVariables false
set_option maxRecDepth 100000
namespace Go.Proofs.YtaennkkcnhfglaaGreatDoor.Ev.F
open Go.Proofs Go.Proofs.YtaennkkcnhfglaaGreatDoor.Ev
noncomputable section
def uZ2 : Nat → P_z0 → Option R_z0
 | 0, _ => none
 | n + 1, .start =>
  some ((([(⟨(⟨#[77, 97, 121, 98, 101]⟩ : ByteArray), ([(⟨#[97]⟩ : ByteArray)] : List ByteArray), ([(⟨(⟨#[78, 111, 110, 101]⟩ : ByteArray), []⟩ : ua0), (⟨(⟨#[83, 111, 109, 101]⟩ : ByteArray), ([(⟨(⟨#[118, 97, 108, 117, 101]⟩ : ByteArray), (⟨(0 : Int), (0 : Int), (⟨#[97]⟩ : ByteArray), []⟩ : ua1)⟩ : ua6)] : List ua6)⟩ : ua0)] : List ua0)⟩ : ua2), (⟨(⟨#[80, 97, 105, 114]⟩ : ByteArray), ([(⟨#[97]⟩ : ByteArray), (⟨#[98]⟩ : ByteArray)] : List ByteArray), ([(⟨(⟨#[80, 97, 105, 114]⟩ : ByteArray), ([(⟨(⟨#[108, 101, 102, 116]⟩ : ByteArray), (⟨(0 : Int), (0 : Int), (⟨#[97]⟩ : ByteArray), []⟩ : ua1)⟩ : ua6), (⟨(⟨#[114, 105, 103, 104, 116]⟩ : ByteArray), (⟨(0 : Int), (0 : Int), (⟨#[98]⟩ : ByteArray), []⟩ : ua1)⟩ : ua6)] : List ua6)⟩ : ua0)] : List ua0)⟩ : ua2), (⟨(⟨#[67, 111, 108, 111, 114]⟩ : ByteArray), [], ([(⟨(⟨#[82, 101, 100]⟩ : ByteArray), []⟩ : ua0), (⟨(⟨#[71, 114, 101, 101, 110]⟩ : ByteArray), []⟩ : ua0), (⟨(⟨#[66, 108, 117, 101]⟩ : ByteArray), []⟩ : ua0)] : List ua0)⟩ : ua2)] : List ua2), ()), ())
theorem wJ4 : ∀ (n : Nat) (p : P_z0), OLe (uZ2 n p) (u16 p) := by
 intro n
 induction n with
 | zero => exact fun p r h => by cases h
 | succ n ih =>
  intro p
  cases p <;> rw [u16, uZ2] <;> repeat' with_reducible first | refine OLe.bind ?_ (fun _ => ?_) | refine OLe.ite ?_ ?_ | exact ih _ | exact OLe.refl _
def vW5 : Nat → P_z1 → Option R_z1
 | 0, _ => none
 | n + 1, .start n0 =>
  some ((((2 : Int), (n0, ((⟨#[]⟩ : ByteArray), ((), ())))), ()), ())
theorem wJ5 : ∀ (n : Nat) (p : P_z1), OLe (vW5 n p) (vM1 p) := by
 intro n
 induction n with
 | zero => exact fun p r h => by cases h
 | succ n ih =>
  intro p
  cases p <;> rw [vM1, vW5] <;> repeat' with_reducible first | refine OLe.bind ?_ (fun _ => ?_) | refine OLe.ite ?_ ?_ | exact ih _ | exact OLe.refl _
def ux5 : Nat → P_z2 → Option R_z2
 | 0, _ => none
 | n + 1, .start name0 parts1 =>
  some ((((1 : Int), ((0 : Int), (name0, (parts1, ())))), ()), ())
theorem vq7 : ∀ (n : Nat) (p : P_z2), OLe (ux5 n p) (uD7 p) := by
 intro n
 induction n with
 | zero => exact fun p r h => by cases h
 | succ n ih =>
  intro p
  cases p <;> rw [uD7, ux5] <;> repeat' with_reducible first | refine OLe.bind ?_ (fun _ => ?_) | refine OLe.ite ?_ ?_ | exact ih _ | exact OLe.refl _
def vf9 : Nat → P_z3 → Option R_z3
 | 0, _ => none
 | n + 1, .start n0 =>
  (vW5 n (.start n0)) >>= fun t1 =>
  (ux5 n (.start (⟨#[66, 105, 116]⟩ : ByteArray) ([(⟨t1.1.1.1, t1.1.1.2.1, t1.1.1.2.2.1, []⟩ : ua1)] : List ua1))) >>= fun t2 =>
  some (((t2.1.1.1, (t2.1.1.2.1, (t2.1.1.2.2.1, (t2.1.1.2.2.2.1, ())))), ()), ())
theorem wJ6 : ∀ (n : Nat) (p : P_z3), OLe (vf9 n p) (vg4 p) := by
 intro n
 induction n with
 | zero => exact fun p r h => by cases h
 | succ n ih =>
  intro p
  cases p <;> rw [vg4, vf9] <;> repeat' with_reducible first | refine OLe.bind ?_ (fun _ => ?_) | refine OLe.ite ?_ ?_ | exact wJ5 n _ | exact vq7 n _ | exact ih _ | exact OLe.refl _
def vy9 : Nat → P_z4 → Option R_z4
 | 0, _ => none
 | n + 1, .start s0 =>
  (bif decide ((List.length s0 : Int) = (List.length s0 : Int)) then span (List.length s0) (0 : Int) (List.length s0 : Int) else none) >>= fun t1 =>
  some ((cut s0 t1, ()), ())
theorem wJ7 : ∀ (n : Nat) (p : P_z4), OLe (vy9 n p) (uM0 p) := by
 intro n
 induction n with
 | zero => exact fun p r h => by cases h
 | succ n ih =>
  intro p
  cases p <;> rw [uM0, vy9] <;> repeat' with_reducible first | refine OLe.bind ?_ (fun _ => ?_) | refine OLe.ite ?_ ?_ | exact ih _ | exact OLe.refl _
def uh6 : Nat → P_z5 → Option R_z5
 | 0, _ => none
 | n + 1, .start n0 lo1 hi2 =>
  if (decide (lo1 ≤ n0)) = true then
   some ((decide (n0 ≤ hi2), ()), ())
  else
   some ((false, ()), ())
theorem ue2 : ∀ (n : Nat) (p : P_z5), OLe (uh6 n p) (uk1 p) := by
 intro n
 induction n with
 | zero => exact fun p r h => by cases h
 | succ n ih =>
  intro p
  cases p <;> rw [uk1, uh6] <;> repeat' with_reducible first | refine OLe.bind ?_ (fun _ => ?_) | refine OLe.ite ?_ ?_ | exact ih _ | exact OLe.refl _
def uk2 : Nat → P_z6 → Option R_z6
 | 0, _ => none
 | n + 1, .start s0 =>
  uk2 n (.p52 s0 (ub8 s0) (List.length (ub8 s0) : Int) (0 : Int))
 | n + 1, .p52 s0 s7 s8 s9 =>
  if (decide (s9 < s8)) = true then
   (idx s7 s9) >>= fun t1 =>
   if (decide ((97 : Int) ≤ t1)) = true then
    if (decide (t1 ≤ (122 : Int))) = true then
     uk2 n (.p3379 s0 s9 t1 true s7 s8 s9)
    else
     if (decide ((65 : Int) ≤ t1)) = true then
      uk2 n (.p3379 s0 s9 t1 (decide (t1 ≤ (90 : Int))) s7 s8 s9)
     else
      uk2 n (.p3379 s0 s9 t1 false s7 s8 s9)
   else
    if (decide ((65 : Int) ≤ t1)) = true then
     uk2 n (.p3379 s0 s9 t1 (decide (t1 ≤ (90 : Int))) s7 s8 s9)
    else
     uk2 n (.p3379 s0 s9 t1 false s7 s8 s9)
  else
   (uh6 n (.start (s0.size : Int) (1 : Int) (16 : Int))) >>= fun t2 =>
   some ((t2.1.1, ()), ())
 | n + 1, .p3379 s0 i3 c4 letter5 s7 s8 s9 =>
  if (!letter5) = true then
   if (i3 == (0 : Int)) = true then
    some ((false, ()), ())
   else
    if (c4 != (95 : Int)) = true then
     if (decide (c4 < (48 : Int))) = true then
      some ((false, ()), ())
     else
      if (decide (c4 > (57 : Int))) = true then
       some ((false, ()), ())
      else
       uk2 n (.p52 s0 s7 s8 (IntKind.wrap .i64 (s9 + (1 : Int))))
    else
     uk2 n (.p52 s0 s7 s8 (IntKind.wrap .i64 (s9 + (1 : Int))))
  else
   uk2 n (.p52 s0 s7 s8 (IntKind.wrap .i64 (s9 + (1 : Int))))
theorem uK8 : ∀ (n : Nat) (p : P_z6), OLe (uk2 n p) (uf9 p) := by
 intro n
 induction n with
 | zero => exact fun p r h => by cases h
 | succ n ih =>
  intro p
  cases p <;> rw [uf9, uk2] <;> repeat' with_reducible first | refine OLe.bind ?_ (fun _ => ?_) | refine OLe.ite ?_ ?_ | exact ue2 n _ | exact ih _ | exact OLe.refl _
def uc0 : Nat → P_z7 → Option R_z7
 | 0, _ => none
 | n + 1, .start is0 e1 =>
  if is0 = true then
   some (((0 : Int), ()), ())
  else
   some ((e1, ()), ())
theorem uf5 : ∀ (n : Nat) (p : P_z7), OLe (uc0 n p) (uc4 p) := by
 intro n
 induction n with
 | zero => exact fun p r h => by cases h
 | succ n ih =>
  intro p
  cases p <;> rw [uc4, uc0] <;> repeat' with_reducible first | refine OLe.bind ?_ (fun _ => ?_) | refine OLe.ite ?_ ?_ | exact ih _ | exact OLe.refl _
def uZ3 : Nat → P_z8 → Option R_z8
 | 0, _ => none
 | n + 1, .start s0 v1 =>
  uZ3 n (.p52 s0 v1 (List.length s0 : Int) (0 : Int))
 | n + 1, .p52 s0 v1 s7 s8 =>
  if (decide (s8 < s7)) = true then
   (idx s0 s8) >>= fun t1 =>
   if (seq v1 t1) = true then
    some ((s8, ()), ())
   else
    uZ3 n (.p52 s0 v1 s7 (IntKind.wrap .i64 (s8 + (1 : Int))))
  else
   some (((-1 : Int), ()), ())
theorem vq8 : ∀ (n : Nat) (p : P_z8), OLe (uZ3 n p) (uv0 p) := by
 intro n
 induction n with
 | zero => exact fun p r h => by cases h
 | succ n ih =>
  intro p
  cases p <;> rw [uv0, uZ3] <;> repeat' with_reducible first | refine OLe.bind ?_ (fun _ => ?_) | refine OLe.ite ?_ ?_ | exact ih _ | exact OLe.refl _
def vz7 : Nat → P_z9 → Option R_z9
 | 0, _ => none
 | n + 1, .start s0 v1 =>
  (uZ3 n (.start s0 v1)) >>= fun t1 =>
  some ((decide (t1.1.1 ≥ (0 : Int)), ()), ())
theorem uK9 : ∀ (n : Nat) (p : P_z9), OLe (vz7 n p) (u17 p) := by
 intro n
 induction n with
 | zero => exact fun p r h => by cases h
 | succ n ih =>
  intro p
  cases p <;> rw [u17, vz7] <;> repeat' with_reducible first | refine OLe.bind ?_ (fun _ => ?_) | refine OLe.ite ?_ ?_ | exact vq8 n _ | exact ih _ | exact OLe.refl _
def ud8 : Nat → wv0 → Option xN3
 | 0, _ => none
 | n + 1, .start l0 =>
  ud8 n (.p52 l0 (List.length l0 : Int) (0 : Int))
 | n + 1, .p52 s5 s6 s7 =>
  if (decide (s7 < s6)) = true then
   (idx s5 s7) >>= fun t1 =>
   if (t1 != (0 : Int)) = true then
    some ((t1, ()), ())
   else
    ud8 n (.p52 s5 s6 (IntKind.wrap .i64 (s7 + (1 : Int))))
  else
   some (((0 : Int), ()), ())
theorem ue7 : ∀ (n : Nat) (p : wv0), OLe (ud8 n p) (uc8 p) := by
 intro n
 induction n with
 | zero => exact fun p r h => by cases h
 | succ n ih =>
  intro p
  cases p <;> rw [uc8, ud8] <;> repeat' with_reducible first | refine OLe.bind ?_ (fun _ => ?_) | refine OLe.ite ?_ ?_ | exact ih _ | exact OLe.refl _
def uK0 : Nat → wv1 → Option xN4
 | 0, _ => none
 | n + 1, .start name0 known1 =>
  (uk2 n (.start name0)) >>= fun t1 =>
  (uc0 n (.start t1.1.1 (4 : Int))) >>= fun t2 =>
  (vz7 n (.start known1 name0)) >>= fun t3 =>
  (uc0 n (.start (!t3.1.1) (5 : Int))) >>= fun t4 =>
  (ud8 n (.start ([t2.1.1, t4.1.1] : List Int))) >>= fun t5 =>
  some ((t5.1.1, ()), ())
theorem uB7 : ∀ (n : Nat) (p : wv1), OLe (uK0 n p) (ux6 p) := by
 intro n
 induction n with
 | zero => exact fun p r h => by cases h
 | succ n ih =>
  intro p
  cases p <;> rw [ux6, uK0] <;> repeat' with_reducible first | refine OLe.bind ?_ (fun _ => ?_) | refine OLe.ite ?_ ?_ | exact uK8 n _ | exact uf5 n _ | exact uK9 n _ | exact ue7 n _ | exact ih _ | exact OLe.refl _
def vy1 : Nat → wv2 → Option xN5
 | 0, _ => none
 | n + 1, .start i0 p1 s2 =>
  (span (List.length s2.Params) (0 : Int) i0) >>= fun t1 =>
  (uK0 n (.start p1 (cut s2.Params t1))) >>= fun t2 =>
  some ((t2.1.1, ()), ())
theorem vW6 : ∀ (n : Nat) (p : wv2), OLe (vy1 n p) (uZ4 p) := by
 intro n
 induction n with
 | zero => exact fun p r h => by cases h
 | succ n ih =>
  intro p
  cases p <;> rw [uZ4, vy1] <;> repeat' with_reducible first | refine OLe.bind ?_ (fun _ => ?_) | refine OLe.ite ?_ ?_ | exact uB7 n _ | exact ih _ | exact OLe.refl _
def uT6 : Nat → wv3 → Option xN6
 | 0, _ => none
 | n + 1, .start l0 C0 C1 C2 =>
  uT6 n (.p52 l0 (List.length l0 : Int) (0 : Int) C0 C1 C2)
 | n + 1, .p52 s9 s10 s11 C0 C1 C2 =>
  if (decide (s11 < s10)) = true then
   (idx s9 s11) >>= fun t1 =>
   (vy1 n (.start s11 t1 (⟨C0, C1, C2⟩ : ua2))) >>= fun t2 =>
   if (t2.1.1 != (0 : Int)) = true then
    some ((s11, (t2.1.1, ())), ((C0, (C1, (C2, ()))), ()))
   else
    uT6 n (.p52 s9 s10 (IntKind.wrap .i64 (s11 + (1 : Int))) C0 C1 C2)
  else
   some (((0 : Int), ((0 : Int), ())), ((C0, (C1, (C2, ()))), ()))
theorem vW7 : ∀ (n : Nat) (p : wv3), OLe (uT6 n p) (um4 p) := by
 intro n
 induction n with
 | zero => exact fun p r h => by cases h
 | succ n ih =>
  intro p
  cases p <;> rw [um4, uT6] <;> repeat' with_reducible first | refine OLe.bind ?_ (fun _ => ?_) | refine OLe.ite ?_ ?_ | exact vW6 n _ | exact ih _ | exact OLe.refl _
def vy2 : Nat → wv4 → Option xN7
 | 0, _ => none
 | n + 1, .start t0_0 t0_1 t0_2 t0_3 =>
  some ((t0_3, ()), ())
theorem vW8 : ∀ (n : Nat) (p : wv4), OLe (vy2 n p) (uZ5 p) := by
 intro n
 induction n with
 | zero => exact fun p r h => by cases h
 | succ n ih =>
  intro p
  cases p <;> rw [uZ5, vy2] <;> repeat' with_reducible first | refine OLe.bind ?_ (fun _ => ?_) | refine OLe.ite ?_ ?_ | exact ih _ | exact OLe.refl _
def uB8 : Nat → vj5 → Option vB6
 | 0, _ => none
 | n + 1, .start x0_0 x0_1 x0_2 x0_3 depth1 B0 =>
  if (decide ((IntKind.wrap .i64 (B0 + (1 : Int))) > (200 : Int))) = true then
   some ((false, ()), ((IntKind.wrap .i64 (B0 + (1 : Int)), ()), (((), ()), ((((), ((), ((), ()))), ()), ()))))
  else
   if (decide (depth1 > (40 : Int))) = true then
    some ((false, ()), ((IntKind.wrap .i64 (B0 + (1 : Int)), ()), (((), ()), ((((), ((), ((), ()))), ()), ()))))
   else
    uB8 n (.p15 depth1 (IntKind.wrap .i64 (B0 + (1 : Int))) x0_0 x0_1 x0_2 x0_3)
 | n + 1, .p15 depth1 B0 H0 H1 H2 H3 =>
  (vy2 n (.start H0 H1 H2 H3)) >>= fun t1 =>
  uB8 n (.p244 depth1 t1.1.1 (List.length t1.1.1 : Int) (0 : Int) B0)
 | n + 1, .p244 depth1 s20 s21 s22 B0 =>
  if (decide (s22 < s21)) = true then
   (idx s20 s22) >>= fun t1 =>
   (uB8 n (.start t1.Kind t1.Value t1.Name t1.Parts (IntKind.wrap .i64 (depth1 + (1 : Int))) B0)) >>= fun t2 =>
   if (!t2.1.1) = true then
    some ((false, ()), ((t2.2.1.1, ()), (((), ()), ((((), ((), ((), ()))), ()), ()))))
   else
    uB8 n (.p244 depth1 s20 s21 (IntKind.wrap .i64 (s22 + (1 : Int))) t2.2.1.1)
  else
   some ((true, ()), ((B0, ()), (((), ()), ((((), ((), ((), ()))), ()), ()))))
theorem vW9 : ∀ (n : Nat) (p : vj5), OLe (uB8 n p) (uj4 p) := by
 intro n
 induction n with
 | zero => exact fun p r h => by cases h
 | succ n ih =>
  intro p
  cases p <;> rw [uj4, uB8] <;> repeat' with_reducible first | refine OLe.bind ?_ (fun _ => ?_) | refine OLe.ite ?_ ?_ | exact vW8 n _ | exact ih _ | exact OLe.refl _
def u32 : Nat → wv5 → Option xN8
 | 0, _ => none
 | n + 1, .start root0_0 root0_1 root0_2 root0_3 =>
  (uB8 n (.start root0_0 root0_1 root0_2 root0_3 (1 : Int) (0 : Int))) >>= fun t1 =>
  (uc0 n (.start t1.1.1 (8 : Int))) >>= fun t2 =>
  some ((t2.1.1, ()), ())
theorem vf7 : ∀ (n : Nat) (p : wv5), OLe (u32 n p) (uG9 p) := by
 intro n
 induction n with
 | zero => exact fun p r h => by cases h
 | succ n ih =>
  intro p
  cases p <;> rw [uG9, u32] <;> repeat' with_reducible first | refine OLe.bind ?_ (fun _ => ?_) | refine OLe.ite ?_ ?_ | exact uf5 n _ | exact vW9 n _ | exact ih _ | exact OLe.refl _
def vy3 : Nat → wv6 → Option xN9
 | 0, _ => none
 | n + 1, .start d0_0 d0_1 d0_2 s1 =>
  some ((seq d0_0 s1, ()), ())
theorem vX0 : ∀ (n : Nat) (p : wv6), OLe (vy3 n p) (uZ6 p) := by
 intro n
 induction n with
 | zero => exact fun p r h => by cases h
 | succ n ih =>
  intro p
  cases p <;> rw [uZ6, vy3] <;> repeat' with_reducible first | refine OLe.bind ?_ (fun _ => ?_) | refine OLe.ite ?_ ?_ | exact ih _ | exact OLe.refl _
def uT7 : Nat → wv7 → Option xO0
 | 0, _ => none
 | n + 1, .start s0 B0 =>
  uT7 n (.p52 s0 (List.length s0 : Int) (0 : Int) B0)
 | n + 1, .p52 s0 s7 s8 B0 =>
  if (decide (s8 < s7)) = true then
   (idx s0 s8) >>= fun t1 =>
   (vy3 n (.start t1.Name t1.Params t1.Constructors B0)) >>= fun t2 =>
   if t2.1.1 = true then
    some ((s8, ()), ((B0, ()), ()))
   else
    uT7 n (.p52 s0 s7 (IntKind.wrap .i64 (s8 + (1 : Int))) B0)
  else
   some (((-1 : Int), ()), ((B0, ()), ()))
theorem vX1 : ∀ (n : Nat) (p : wv7), OLe (uT7 n p) (um5 p) := by
 intro n
 induction n with
 | zero => exact fun p r h => by cases h
 | succ n ih =>
  intro p
  cases p <;> rw [um5, uT7] <;> repeat' with_reducible first | refine OLe.bind ?_ (fun _ => ?_) | refine OLe.ite ?_ ?_ | exact vX0 n _ | exact ih _ | exact OLe.refl _
def u33 : Nat → wv8 → Option xO1
 | 0, _ => none
 | n + 1, .start s0_0 s0_1 name1 =>
  (uT7 n (.start s0_0 name1)) >>= fun t1 =>
  if (decide (t1.1.1 < (0 : Int))) = true then
   some ((((⟨#[]⟩ : ByteArray), ([], ([], ()))), (false, ())), ())
  else
   (idx s0_0 t1.1.1) >>= fun t2 =>
   some (((t2.Name, (t2.Params, (t2.Constructors, ()))), (true, ())), ())
theorem uB9 : ∀ (n : Nat) (p : wv8), OLe (u33 n p) (uH0 p) := by
 intro n
 induction n with
 | zero => exact fun p r h => by cases h
 | succ n ih =>
  intro p
  cases p <;> rw [uH0, u33] <;> repeat' with_reducible first | refine OLe.bind ?_ (fun _ => ?_) | refine OLe.ite ?_ ?_ | exact vX1 n _ | exact ih _ | exact OLe.refl _
mutual
def u34 : Nat → u45 → Option vB7
 | 0, _ => none
 | n + 1, .start s0 x1_0 x1_1 x1_2 x1_3 s2 =>
  (runF_z21 n (.start s2.list s2.params x1_0 x1_1 x1_2 x1_3)) >>= fun t1 =>
  some ((t1.1.1, ()), ())
def uK1 : Nat → uV5 → Option vk6
 | 0, _ => none
 | n + 1, .start l0 C0 C1 =>
  uK1 n (.p52 l0 (List.length l0 : Int) (0 : Int) C0 C1)
 | n + 1, .p52 s9 s10 s11 C0 C1 =>
  if (decide (s11 < s10)) = true then
   (idx s9 s11) >>= fun t1 =>
   (u34 n (.start s11 t1.Kind t1.Value t1.Name t1.Parts (⟨C0, C1⟩ : un5))) >>= fun t2 =>
   if (t2.1.1 != (0 : Int)) = true then
    some ((s11, (t2.1.1, ())), ((C0, (C1, ())), ()))
   else
    uK1 n (.p52 s9 s10 (IntKind.wrap .i64 (s11 + (1 : Int))) C0 C1)
  else
   some (((0 : Int), ((0 : Int), ())), ((C0, (C1, ())), ()))
def runF_z21 : Nat → uV4 → Option vk5
 | 0, _ => none
 | n + 1, .start s0_0 s0_1 t1_0 t1_1 t1_2 t1_3 =>
  if (t1_0 == (0 : Int)) = true then
   (vz7 n (.start s0_1 t1_2)) >>= fun t1 =>
   if (!t1.1.1) = true then
    some (((6 : Int), ()), ())
   else
    runF_z21 n (.p15 (0 : Int) s0_0 s0_1 t1_0 t1_1 t1_2 t1_3)
  else
   if (t1_0 == (1 : Int)) = true then
    (u33 n (.start s0_0 s0_1 t1_2)) >>= fun t2 =>
    if t2.1.2.1 = true then
     runF_z21 n (.p15 (List.length t2.1.1.2.1 : Int) s0_0 s0_1 t1_0 t1_1 t1_2 t1_3)
    else
     if (seq t1_2 (⟨#[66, 105, 116]⟩ : ByteArray)) = true then
      runF_z21 n (.p15 (1 : Int) s0_0 s0_1 t1_0 t1_1 t1_2 t1_3)
     else
      if (!(seq t1_2 (⟨#[66, 111, 111, 108]⟩ : ByteArray))) = true then
       some (((6 : Int), ()), ())
      else
       runF_z21 n (.p15 (0 : Int) s0_0 s0_1 t1_0 t1_1 t1_2 t1_3)
   else
    if (t1_0 == (2 : Int)) = true then
     runF_z21 n (.p15 (0 : Int) s0_0 s0_1 t1_0 t1_1 t1_2 t1_3)
    else
     some (((15 : Int), ()), ())
 | n + 1, .p15 count5 C0 C1 D0 D1 D2 D3 =>
  if ((List.length D3 : Int) != count5) = true then
   some (((10 : Int), ()), ())
  else
   if (D0 == (2 : Int)) = true then
    (uh6 n (.start D1 (0 : Int) (1000000000 : Int))) >>= fun t1 =>
    if (!t1.1.1) = true then
     some (((2 : Int), ()), ())
    else
     runF_z21 n (.p63 C0 C1 D0 D1 D2 D3)
   else
    runF_z21 n (.p63 C0 C1 D0 D1 D2 D3)
 | n + 1, .p63 C0 C1 D0 D1 D2 D3 =>
  (uK1 n (.start D3 C0 C1)) >>= fun t1 =>
  some ((t1.1.2.1, ()), ())
end
theorem uG5 : ∀ (n : Nat), (∀ p : u45, OLe (u34 n p) (uC7 p)) ∧ (∀ p : uV5, OLe (uK1 n p) (run_z22 p)) ∧ (∀ p : uV4, OLe (runF_z21 n p) (run_z21 p)) := by
  intro n
  induction n with
  | zero => exact ⟨(fun p r h => by cases h), (fun p r h => by cases h), (fun p r h => by cases h)⟩
  | succ n ih =>
    refine ⟨?_, ?_, ?_⟩
    · intro p
      cases p <;> rw [uC7, u34] <;> repeat' with_reducible first | refine OLe.bind ?_ (fun _ => ?_) | refine OLe.ite ?_ ?_ | exact ue2 n _ | exact uK9 n _ | exact uB9 n _ | exact ih.1 _ | exact ih.2.1 _ | exact ih.2.2 _ | exact OLe.refl _
    · intro p
      cases p <;> rw [run_z22, uK1] <;> repeat' with_reducible first | refine OLe.bind ?_ (fun _ => ?_) | refine OLe.ite ?_ ?_ | exact ue2 n _ | exact uK9 n _ | exact uB9 n _ | exact ih.1 _ | exact ih.2.1 _ | exact ih.2.2 _ | exact OLe.refl _
    · intro p
      cases p <;> rw [run_z21, runF_z21] <;> repeat' with_reducible first | refine OLe.bind ?_ (fun _ => ?_) | refine OLe.ite ?_ ?_ | exact ue2 n _ | exact uK9 n _ | exact uB9 n _ | exact ih.1 _ | exact ih.2.1 _ | exact ih.2.2 _ | exact OLe.refl _
theorem xW8 (n : Nat) : ∀ (p : u45), OLe (u34 n p) (uC7 p) := (uG5 n).1
theorem xW9 (n : Nat) : ∀ (p : uV5), OLe (uK1 n p) (run_z22 p) := (uG5 n).2.1
theorem vX2 (n : Nat) : ∀ (p : uV4), OLe (runF_z21 n p) (run_z21 p) := (uG5 n).2.2
def u35 : Nat → wv9 → Option xO2
 | 0, _ => none
 | n + 1, .start s0_0 s0_1 t1_0 t1_1 t1_2 t1_3 =>
  (u32 n (.start t1_0 t1_1 t1_2 t1_3)) >>= fun t1 =>
  if (t1.1.1 != (0 : Int)) = true then
   some ((t1.1.1, ()), ())
  else
   (runF_z21 n (.start s0_0 s0_1 t1_0 t1_1 t1_2 t1_3)) >>= fun t2 =>
   some ((t2.1.1, ()), ())
theorem vf8 : ∀ (n : Nat) (p : wv9), OLe (u35 n p) (uH1 p) := by
 intro n
 induction n with
 | zero => exact fun p r h => by cases h
 | succ n ih =>
  intro p
  cases p <;> rw [uH1, u35] <;> repeat' with_reducible first | refine OLe.bind ?_ (fun _ => ?_) | refine OLe.ite ?_ ?_ | exact vf7 n _ | exact vX2 n _ | exact ih _ | exact OLe.refl _
def vy4 : Nat → ww0 → Option xO3
 | 0, _ => none
 | n + 1, .start s0 f1_0 f1_1 f1_2 f1_3 f1_4 D0 D1 B2 =>
  (uK0 n (.start f1_0 B2)) >>= fun t1 =>
  if (t1.1.1 != (0 : Int)) = true then
   some ((t1.1.1, ()), (((), ()), ((D0, (D1, ())), (B2, ()))))
  else
   if (fits (List.length B2) (List.length ([f1_0] : List ByteArray)) 16) = true then
    (u35 n (.start D0 D1 f1_1 f1_2 f1_3 f1_4)) >>= fun t2 =>
    some ((t2.1.1, ()), (((), ()), ((D0, (D1, ())), (B2 ++ ([f1_0] : List ByteArray), ()))))
   else none
theorem vX3 : ∀ (n : Nat) (p : ww0), OLe (vy4 n p) (uZ7 p) := by
 intro n
 induction n with
 | zero => exact fun p r h => by cases h
 | succ n ih =>
  intro p
  cases p <;> rw [uZ7, vy4] <;> repeat' with_reducible first | refine OLe.bind ?_ (fun _ => ?_) | refine OLe.ite ?_ ?_ | exact uB7 n _ | exact vf8 n _ | exact ih _ | exact OLe.refl _
def uT8 : Nat → ww1 → Option xO4
 | 0, _ => none
 | n + 1, .start l0 D0 D1 =>
  uT8 n (.p52 l0 (List.length l0 : Int) (0 : Int) D0 D1 ([] : List ByteArray))
 | n + 1, .p52 s9 s10 s11 D0 D1 B2 =>
  if (decide (s11 < s10)) = true then
   (idx s9 s11) >>= fun t1 =>
   (vy4 n (.start s11 t1.Name t1.Type_.Kind t1.Type_.Value t1.Type_.Name t1.Type_.Parts D0 D1 B2)) >>= fun t2 =>
   if (t2.1.1 != (0 : Int)) = true then
    some ((s11, (t2.1.1, ())), (((), ()), ((t2.2.2.1.1, (t2.2.2.1.2.1, ())), (t2.2.2.2.1, ()))))
   else
    uT8 n (.p52 s9 s10 (IntKind.wrap .i64 (s11 + (1 : Int))) t2.2.2.1.1 t2.2.2.1.2.1 t2.2.2.2.1)
  else
   some (((0 : Int), ((0 : Int), ())), (((), ()), ((D0, (D1, ())), (B2, ()))))
theorem vX4 : ∀ (n : Nat) (p : ww1), OLe (uT8 n p) (um6 p) := by
 intro n
 induction n with
 | zero => exact fun p r h => by cases h
 | succ n ih =>
  intro p
  cases p <;> rw [um6, uT8] <;> repeat' with_reducible first | refine OLe.bind ?_ (fun _ => ?_) | refine OLe.ite ?_ ?_ | exact vX3 n _ | exact ih _ | exact OLe.refl _
def vy5 : Nat → ww2 → Option xO5
 | 0, _ => none
 | n + 1, .start s0 c1_0 c1_1 D0 D1 B2 =>
  (uK0 n (.start c1_0 B2)) >>= fun t1 =>
  (uc0 n (.start (decide ((List.length c1_1 : Int) ≤ (8 : Int))) (8 : Int))) >>= fun t2 =>
  (ud8 n (.start ([t1.1.1, t2.1.1] : List Int))) >>= fun t3 =>
  if (t3.1.1 != (0 : Int)) = true then
   some ((t3.1.1, ()), (((), ()), ((D0, (D1, ())), (B2, ()))))
  else
   if (fits (List.length B2) (List.length ([c1_0] : List ByteArray)) 16) = true then
    (uT8 n (.start c1_1 D0 D1)) >>= fun t4 =>
    some ((t4.1.2.1, ()), (((), ()), ((t4.2.2.1.1, (t4.2.2.1.2.1, ())), (B2 ++ ([c1_0] : List ByteArray), ()))))
   else none
theorem vX5 : ∀ (n : Nat) (p : ww2), OLe (vy5 n p) (uZ8 p) := by
 intro n
 induction n with
 | zero => exact fun p r h => by cases h
 | succ n ih =>
  intro p
  cases p <;> rw [uZ8, vy5] <;> repeat' with_reducible first | refine OLe.bind ?_ (fun _ => ?_) | refine OLe.ite ?_ ?_ | exact uf5 n _ | exact ue7 n _ | exact uB7 n _ | exact vX4 n _ | exact ih _ | exact OLe.refl _
def uT9 : Nat → ww3 → Option xO6
 | 0, _ => none
 | n + 1, .start l0 D0 D1 B2 =>
  uT9 n (.p52 l0 (List.length l0 : Int) (0 : Int) D0 D1 B2)
 | n + 1, .p52 s9 s10 s11 D0 D1 B2 =>
  if (decide (s11 < s10)) = true then
   (idx s9 s11) >>= fun t1 =>
   (vy5 n (.start s11 t1.Name t1.Fields D0 D1 B2)) >>= fun t2 =>
   if (t2.1.1 != (0 : Int)) = true then
    some ((s11, (t2.1.1, ())), (((), ()), ((t2.2.2.1.1, (t2.2.2.1.2.1, ())), (t2.2.2.2.1, ()))))
   else
    uT9 n (.p52 s9 s10 (IntKind.wrap .i64 (s11 + (1 : Int))) t2.2.2.1.1 t2.2.2.1.2.1 t2.2.2.2.1)
  else
   some (((0 : Int), ((0 : Int), ())), (((), ()), ((D0, (D1, ())), (B2, ()))))
theorem vX6 : ∀ (n : Nat) (p : ww3), OLe (uT9 n p) (um7 p) := by
 intro n
 induction n with
 | zero => exact fun p r h => by cases h
 | succ n ih =>
  intro p
  cases p <;> rw [um7, uT9] <;> repeat' with_reducible first | refine OLe.bind ?_ (fun _ => ?_) | refine OLe.ite ?_ ?_ | exact vX5 n _ | exact ih _ | exact OLe.refl _
def uU0 : Nat → ww4 → Option xO7
 | 0, _ => none
 | n + 1, .start s0_0 s0_1 d1_0 d1_1 d1_2 names2 constructors3 =>
  if (fits (List.length names2) (List.length ([(⟨#[66, 105, 116]⟩ : ByteArray), (⟨#[66, 111, 111, 108]⟩ : ByteArray), (⟨#[73, 110, 116, 101, 103, 101, 114]⟩ : ByteArray)] : List ByteArray)) 16) = true then
   (uK0 n (.start d1_0 (names2 ++ ([(⟨#[66, 105, 116]⟩ : ByteArray), (⟨#[66, 111, 111, 108]⟩ : ByteArray), (⟨#[73, 110, 116, 101, 103, 101, 114]⟩ : ByteArray)] : List ByteArray)))) >>= fun t1 =>
   if (decide ((List.length d1_1 : Int) ≤ (4 : Int))) = true then
    (uc0 n (.start (decide ((List.length d1_2 : Int) ≤ (16 : Int))) (8 : Int))) >>= fun t2 =>
    (uc0 n (.start (decide ((List.length d1_2 : Int) > (0 : Int))) (10 : Int))) >>= fun t3 =>
    (ud8 n (.start ([t1.1.1, t2.1.1, t3.1.1] : List Int))) >>= fun t4 =>
    uU0 n (.p7 constructors3 t4.1.1 s0_0 s0_1 d1_0 d1_1 d1_2)
   else
    (uc0 n (.start false (8 : Int))) >>= fun t5 =>
    (uc0 n (.start (decide ((List.length d1_2 : Int) > (0 : Int))) (10 : Int))) >>= fun t6 =>
    (ud8 n (.start ([t1.1.1, t5.1.1, t6.1.1] : List Int))) >>= fun t7 =>
    uU0 n (.p7 constructors3 t7.1.1 s0_0 s0_1 d1_0 d1_1 d1_2)
  else none
 | n + 1, .p7 constructors3 e9 C0 C1 D0 D1 D2 =>
  if (e9 != (0 : Int)) = true then
   some ((e9, ()), ())
  else
   (uT6 n (.start D1 D0 D1 D2)) >>= fun t1 =>
   if (t1.1.2.1 != (0 : Int)) = true then
    some ((t1.1.2.1, ()), ())
   else
    if (fits (List.length constructors3) (List.length ([(⟨#[70, 97, 108, 115, 101]⟩ : ByteArray), (⟨#[84, 114, 117, 101]⟩ : ByteArray)] : List ByteArray)) 16) = true then
     (uT9 n (.start t1.2.1.2.2.1 C0 t1.2.1.2.1 (constructors3 ++ ([(⟨#[70, 97, 108, 115, 101]⟩ : ByteArray), (⟨#[84, 114, 117, 101]⟩ : ByteArray)] : List ByteArray)))) >>= fun t2 =>
     some ((t2.1.2.1, ()), ())
    else none
theorem vX7 : ∀ (n : Nat) (p : ww4), OLe (uU0 n p) (up4 p) := by
 intro n
 induction n with
 | zero => exact fun p r h => by cases h
 | succ n ih =>
  intro p
  cases p <;> rw [up4, uU0] <;> repeat' with_reducible first | refine OLe.bind ?_ (fun _ => ?_) | refine OLe.ite ?_ ?_ | exact uf5 n _ | exact ue7 n _ | exact uB7 n _ | exact vW7 n _ | exact vX6 n _ | exact ih _ | exact OLe.refl _
def uU1 : Nat → ww5 → Option xO8
 | 0, _ => none
 | n + 1, .start i0 d1_0 d1_1 d1_2 B0 B3 B4 =>
  (span (List.length B0) (0 : Int) i0) >>= fun t1 =>
  (vy9 n (.start B3)) >>= fun t2 =>
  (vy9 n (.start B4)) >>= fun t3 =>
  (uU0 n (.start (cut B0 t1) ([]) d1_0 d1_1 d1_2 t2.1.1 t3.1.1)) >>= fun t4 =>
  if (fits (List.length B3) (List.length ([d1_0] : List ByteArray)) 16) = true then
   uU1 n (.p244 t4.1.1 d1_2 (List.length d1_2 : Int) (0 : Int) B0 (B3 ++ ([d1_0] : List ByteArray)) B4)
  else none
 | n + 1, .p244 e8 s27 s28 s29 B0 B3 B4 =>
  if (decide (s29 < s28)) = true then
   (idx s27 s29) >>= fun t1 =>
   if (fits (List.length B4) (List.length ([t1.Name] : List ByteArray)) 16) = true then
    uU1 n (.p244 e8 s27 s28 (IntKind.wrap .i64 (s29 + (1 : Int))) B0 B3 (B4 ++ ([t1.Name] : List ByteArray)))
   else none
  else
   some ((e8, ()), ((B0, ()), (((), ()), (((), ()), (B3, (B4, ()))))))
theorem vX8 : ∀ (n : Nat) (p : ww5), OLe (uU1 n p) (um8 p) := by
 intro n
 induction n with
 | zero => exact fun p r h => by cases h
 | succ n ih =>
  intro p
  cases p <;> rw [um8, uU1] <;> repeat' with_reducible first | refine OLe.bind ?_ (fun _ => ?_) | refine OLe.ite ?_ ?_ | exact wJ7 n _ | exact vX7 n _ | exact ih _ | exact OLe.refl _
def uU2 : Nat → ww6 → Option xO9
 | 0, _ => none
 | n + 1, .start l0 B0 =>
  uU2 n (.p52 l0 (List.length l0 : Int) (0 : Int) B0 ([] : List ByteArray) ([] : List ByteArray))
 | n + 1, .p52 s9 s10 s11 B0 B3 B4 =>
  if (decide (s11 < s10)) = true then
   (idx s9 s11) >>= fun t1 =>
   (uU1 n (.start s11 t1.Name t1.Params t1.Constructors B0 B3 B4)) >>= fun t2 =>
   if (t2.1.1 != (0 : Int)) = true then
    some ((s11, (t2.1.1, ())), ((t2.2.1.1, ()), (((), ()), (((), ()), (t2.2.2.2.2.1, (t2.2.2.2.2.2.1, ()))))))
   else
    uU2 n (.p52 s9 s10 (IntKind.wrap .i64 (s11 + (1 : Int))) t2.2.1.1 t2.2.2.2.2.1 t2.2.2.2.2.2.1)
  else
   some (((0 : Int), ((0 : Int), ())), ((B0, ()), (((), ()), (((), ()), (B3, (B4, ()))))))
theorem vX9 : ∀ (n : Nat) (p : ww6), OLe (uU2 n p) (up5 p) := by
 intro n
 induction n with
 | zero => exact fun p r h => by cases h
 | succ n ih =>
  intro p
  cases p <;> rw [up5, uU2] <;> repeat' with_reducible first | refine OLe.bind ?_ (fun _ => ?_) | refine OLe.ite ?_ ?_ | exact vX8 n _ | exact ih _ | exact OLe.refl _
def vy6 : Nat → ww7 → Option xP0
 | 0, _ => none
 | n + 1, .start l0 =>
  if (decide ((List.length l0 : Int) > (20 : Int))) = true then
   some (((0 : Int), ((8 : Int), ())), ())
  else
   (uU2 n (.start l0 l0)) >>= fun t1 =>
   some ((t1.1.1, (t1.1.2.1, ())), ())
theorem vY0 : ∀ (n : Nat) (p : ww7), OLe (vy6 n p) (uH2 p) := by
 intro n
 induction n with
 | zero => exact fun p r h => by cases h
 | succ n ih =>
  intro p
  cases p <;> rw [uH2, vy6] <;> repeat' with_reducible first | refine OLe.bind ?_ (fun _ => ?_) | refine OLe.ite ?_ ?_ | exact vX9 n _ | exact ih _ | exact OLe.refl _
def us1 : Nat → vj6 → Option vB8
 | 0, _ => none
 | n + 1, .start t0_0 t0_1 t0_2 t0_3 params1 args2 =>
  (uZ3 n (.start params1 t0_2)) >>= fun t1 =>
  if (t0_0 == (0 : Int)) = true then
   us1 n (.p27 params1 args2 t1.1.1 (decide (t1.1.1 ≥ (0 : Int))) t0_0 t0_1 t0_2 t0_3 (0 : Int) (0 : Int) (⟨#[]⟩ : ByteArray))
  else
   us1 n (.p27 params1 args2 t1.1.1 false t0_0 t0_1 t0_2 t0_3 (0 : Int) (0 : Int) (⟨#[]⟩ : ByteArray))
 | n + 1, .p27 params1 args2 i7 s21 C0 C1 C2 C3 D0 D1 D2 =>
  if s21 = true then
   (idx args2 i7) >>= fun t1 =>
   (us1 n (.start t1.Kind t1.Value t1.Name t1.Parts ([]) ([]))) >>= fun t2 =>
   some (((t2.1.1.1, (t2.1.1.2.1, (t2.1.1.2.2.1, (t2.1.1.2.2.2.1, ())))), ()), ())
  else
   us1 n (.p500 params1 args2 C3 (List.length C3 : Int) (0 : Int) D0 D1 D2 C0 C1 C2 ([] : List ua1))
 | n + 1, .p500 params1 args2 s30 s31 s32 C0 C1 C2 D0 D1 D2 B2 =>
  if (decide (s32 < s31)) = true then
   (idx s30 s32) >>= fun t1 =>
   (us1 n (.start t1.Kind t1.Value t1.Name t1.Parts params1 args2)) >>= fun t2 =>
   if (fits (List.length B2) (List.length ([(⟨t2.1.1.1, t2.1.1.2.1, t2.1.1.2.2.1, t2.1.1.2.2.2.1⟩ : ua1)] : List ua1)) 56) = true then
    us1 n (.p500 params1 args2 s30 s31 (IntKind.wrap .i64 (s32 + (1 : Int))) C0 C1 C2 D0 D1 D2 (B2 ++ ([(⟨t2.1.1.1, t2.1.1.2.1, t2.1.1.2.2.1, t2.1.1.2.2.2.1⟩ : ua1)] : List ua1)))
   else none
  else
   some (((D0, (D1, (D2, (B2, ())))), ()), ())
theorem vY1 : ∀ (n : Nat) (p : vj6), OLe (us1 n p) (ue9 p) := by
 intro n
 induction n with
 | zero => exact fun p r h => by cases h
 | succ n ih =>
  intro p
  cases p <;> rw [ue9, us1] <;> repeat' with_reducible first | refine OLe.bind ?_ (fun _ => ?_) | refine OLe.ite ?_ ?_ | exact vq8 n _ | exact ih _ | exact OLe.refl _
def uC0 : Nat → ww8 → Option xP1
 | 0, _ => none
 | n + 1, .start s0_0 s0_1 t1_0 t1_1 t1_2 t1_3 =>
  (u33 n (.start s0_0 s0_1 t1_2)) >>= fun t1 =>
  if (!t1.1.2.1) = true then
   some (((), ()), (([(⟨(⟨#[70, 97, 108, 115, 101]⟩ : ByteArray), [], none⟩ : data_variant), (⟨(⟨#[84, 114, 117, 101]⟩ : ByteArray), [], none⟩ : data_variant)] : List data_variant), ()))
  else
   uC0 n (.p500 t1.1.1.2.2.1 (List.length t1.1.1.2.2.1 : Int) (0 : Int) t1_0 t1_1 t1_2 t1_3 t1.1.1.1 t1.1.1.2.1 t1.1.1.2.2.1 ([] : List data_variant))
 | n + 1, .p500 s26 s27 s28 C0 C1 C2 C3 D0 D1 D2 B2 =>
  if (decide (s28 < s27)) = true then
   (idx s26 s28) >>= fun t1 =>
   uC0 n (.p512820 s26 s27 s28 t1.Fields (List.length t1.Fields : Int) (0 : Int) C0 C1 C2 C3 D0 D1 D2 B2 t1.Name ([] : List ua6))
  else
   some (((), ()), (B2, ()))
 | n + 1, .p512820 s26 s27 s28 s36 s37 s38 C0 C1 C2 C3 D0 D1 D2 B2 B3 B4 =>
  if (decide (s38 < s37)) = true then
   (idx s36 s38) >>= fun t1 =>
   (us1 n (.start t1.Type_.Kind t1.Type_.Value t1.Type_.Name t1.Type_.Parts D1 C3)) >>= fun t2 =>
   if (fits (List.length B4) (List.length ([(⟨t1.Name, (⟨t2.1.1.1, t2.1.1.2.1, t2.1.1.2.2.1, t2.1.1.2.2.2.1⟩ : ua1)⟩ : ua6)] : List ua6)) 72) = true then
    uC0 n (.p512820 s26 s27 s28 s36 s37 (IntKind.wrap .i64 (s38 + (1 : Int))) C0 C1 C2 C3 D0 D1 D2 B2 B3 (B4 ++ ([(⟨t1.Name, (⟨t2.1.1.1, t2.1.1.2.1, t2.1.1.2.2.1, t2.1.1.2.2.2.1⟩ : ua1)⟩ : ua6)] : List ua6)))
   else none
  else
   if (fits (List.length B2) (List.length ([(⟨B3, B4, none⟩ : data_variant)] : List data_variant)) 64) = true then
    uC0 n (.p500 s26 s27 (IntKind.wrap .i64 (s28 + (1 : Int))) C0 C1 C2 C3 D0 D1 D2 (B2 ++ ([(⟨B3, B4, none⟩ : data_variant)] : List data_variant)))
   else none
theorem vY2 : ∀ (n : Nat) (p : ww8), OLe (uC0 n p) (ug2 p) := by
 intro n
 induction n with
 | zero => exact fun p r h => by cases h
 | succ n ih =>
  intro p
  cases p <;> rw [ug2, uC0] <;> repeat' with_reducible first | refine OLe.bind ?_ (fun _ => ?_) | refine OLe.ite ?_ ?_ | exact uB9 n _ | exact vY1 n _ | exact ih _ | exact OLe.refl _
def up9 : Nat → vj7 → Option vB9
 | 0, _ => none
 | n + 1, .start s0_0 s0_1 t1_0 t1_1 t1_2 t1_3 deep3 B0 =>
  (u32 n (.start t1_0 t1_1 t1_2 t1_3)) >>= fun t1 =>
  if (t1.1.1 != (0 : Int)) = true then
   some ((none, (t1.1.1, ())), ((B0, ()), ()))
  else
   if (decide ((IntKind.wrap .i64 (B0 + (1 : Int))) ≤ (200 : Int))) = true then
    (uc0 n (.start (decide (deep3 ≤ (40 : Int))) (8 : Int))) >>= fun t2 =>
    up9 n (.p31 deep3 t2.1.1 (IntKind.wrap .i64 (B0 + (1 : Int))) s0_0 s0_1 t1_0 t1_1 t1_2 t1_3)
   else
    (uc0 n (.start false (8 : Int))) >>= fun t3 =>
    up9 n (.p31 deep3 t3.1.1 (IntKind.wrap .i64 (B0 + (1 : Int))) s0_0 s0_1 t1_0 t1_1 t1_2 t1_3)
 | n + 1, .p31 deep3 few11 B0 D0 D1 G0 G1 G2 G3 =>
  if (G0 == (2 : Int)) = true then
   some ((none, ((26 : Int), ())), ((B0, ()), ()))
  else
   if (seq G2 (⟨#[66, 105, 116]⟩ : ByteArray)) = true then
    (idx G3 (0 : Int)) >>= fun t1 =>
    (uc0 n (.start (t1.Kind == (2 : Int)) (26 : Int))) >>= fun t2 =>
    (uh6 n (.start t1.Value (1 : Int) (16 : Int))) >>= fun t3 =>
    (uc0 n (.start t3.1.1 (25 : Int))) >>= fun t4 =>
    (ud8 n (.start ([t2.1.1, t4.1.1, few11] : List Int))) >>= fun t5 =>
    some ((some (⟨t1.Value, none⟩ : ua5), (t5.1.1, ())), ((B0, ()), ()))
   else
    if (few11 != (0 : Int)) = true then
     some ((none, (few11, ())), ((B0, ()), ()))
    else
     (uC0 n (.start D0 D1 G0 G1 G2 G3)) >>= fun t6 =>
     up9 n (.p8180 deep3 (List.length t6.2.1 : Int) (0 : Int) B0 D0 D1 (0 : Int) t6.2.1)
 | n + 1, .p8180 deep3 s76 s77 B0 D0 D1 B2 B3 =>
  if (decide (s77 < s76)) = true then
   if (decide ((0 : Int) ≤ s77) && decide (s77 < (List.length B3 : Int))) = true then
    (idx B3 s77) >>= fun t1 =>
    if (Option.isNone t1.parts) = true then
     (if s77 = (Int.toNat s77 : Int) then B3[Int.toNat s77]? else none) >>= fun t2 =>
     up9 n (.p4188572 deep3 s77 s76 s77 t2.fields (List.length t2.fields : Int) (0 : Int) B0 D0 D1 B2 (B3, Int.toNat s77) ([] : List (Option ua5)))
    else none
   else none
  else
   some ((some (⟨B2, (some B3)⟩ : ua5), ((0 : Int), ())), ((B0, ()), ()))
 | n + 1, .p4188572 deep3 v15 s76 s77 s89 s90 s91 B0 D0 D1 B2 B3 B4 =>
  if (decide (s91 < s90)) = true then
   (idx s89 s91) >>= fun t1 =>
   (up9 n (.start D0 D1 t1.Type_.Kind t1.Type_.Value t1.Type_.Name t1.Type_.Parts (IntKind.wrap .i64 (deep3 + (1 : Int))) B0)) >>= fun t2 =>
   if (t2.1.2.1 != (0 : Int)) = true then
    some ((none, (t2.1.2.1, ())), ((t2.2.1.1, ()), ()))
   else
    (if v15 = (B3.2 : Int) then B3.1[B3.2]? else none) >>= fun t3 =>
    if (fits (List.length B4) (List.length ([t2.1.1] : List (Option ua5))) 8) = true then
     if v15 = (B3.2 : Int) then
      up9 n (.p4188572 deep3 v15 s76 s77 s89 s90 (IntKind.wrap .i64 (s91 + (1 : Int))) t2.2.1.1 D0 D1 B2 (B3.1, B3.2) (B4 ++ ([t2.1.1] : List (Option ua5))))
     else none
    else none
  else
   up9 n (.p8180 deep3 s76 (IntKind.wrap .i64 (s77 + (1 : Int))) B0 D0 D1 B2 (List.modify B3.1 B3.2 (fun y => (⟨y.name, y.fields, (some B4)⟩ : data_variant))))
theorem vY3 : ∀ (n : Nat) (p : vj7), OLe (up9 n p) (uc6 p) := by
 intro n
 induction n with
 | zero => exact fun p r h => by cases h
 | succ n ih =>
  intro p
  cases p <;> rw [uc6, up9] <;> repeat' with_reducible first | refine OLe.bind ?_ (fun _ => ?_) | refine OLe.ite ?_ ?_ | exact ue2 n _ | exact uf5 n _ | exact ue7 n _ | exact vf7 n _ | exact vY2 n _ | exact ih _ | exact OLe.refl _
def ux0 : Nat → ww9 → Option xP2
 | 0, _ => none
 | n + 1, .start x0 =>
  x0 >>= fun t1 =>
  (xX8 t1.constructors) >>= fun t2 =>
  some ((t2, ()), ())
theorem ue8 : ∀ (n : Nat) (p : ww9), OLe (ux0 n p) (ur3 p) := by
 intro n
 induction n with
 | zero => exact fun p r h => by cases h
 | succ n ih =>
  intro p
  cases p <;> rw [ur3, ux0] <;> repeat' with_reducible first | refine OLe.bind ?_ (fun _ => ?_) | refine OLe.ite ?_ ?_ | exact ih _ | exact OLe.refl _
def us2 : Nat → wx0 → Option xP3
 | 0, _ => none
 | n + 1, .start x0 =>
  if (decide (x0 ≥ (4294967296 : Int))) = true then
   if (decide ((0 : Int) ≤ (32 : Int))) = true then
    us2 n (.p7 (shr .u64 x0 (32 : Int)) (32 : Int))
   else none
  else
   us2 n (.p7 x0 (0 : Int))
 | n + 1, .p7 x0 n2 =>
  if (decide (x0 ≥ (65536 : Int))) = true then
   if (decide ((0 : Int) ≤ (16 : Int))) = true then
    us2 n (.p15 (shr .u64 x0 (16 : Int)) (IntKind.wrap .i64 (n2 + (16 : Int))))
   else none
  else
   us2 n (.p15 x0 n2)
 | n + 1, .p15 x0 n2 =>
  if (decide (x0 ≥ (256 : Int))) = true then
   if (decide ((0 : Int) ≤ (8 : Int))) = true then
    us2 n (.p31 (shr .u64 x0 (8 : Int)) (IntKind.wrap .i64 (n2 + (8 : Int))))
   else none
  else
   us2 n (.p31 x0 n2)
 | n + 1, .p31 x0 n2 =>
  (sidx (⟨#[0, 1, 2, 2, 3, 3, 3, 3, 4, 4, 4, 4, 4, 4, 4, 4, 5, 5, 5, 5, 5, 5, 5, 5, 5, 5, 5, 5, 5, 5, 5, 5, 6, 6, 6, 6, 6, 6, 6, 6, 6, 6, 6, 6, 6, 6, 6, 6, 6, 6, 6, 6, 6, 6, 6, 6, 6, 6, 6, 6, 6, 6, 6, 6, 7, 7, 7, 7, 7, 7, 7, 7, 7, 7, 7, 7, 7, 7, 7, 7, 7, 7, 7, 7, 7, 7, 7, 7, 7, 7, 7, 7, 7, 7, 7, 7, 7, 7, 7, 7, 7, 7, 7, 7, 7, 7, 7, 7, 7, 7, 7, 7, 7, 7, 7, 7, 7, 7, 7, 7, 7, 7, 7, 7, 7, 7, 7, 7, 8, 8, 8, 8, 8, 8, 8, 8, 8, 8, 8, 8, 8, 8, 8, 8, 8, 8, 8, 8, 8, 8, 8, 8, 8, 8, 8, 8, 8, 8, 8, 8, 8, 8, 8, 8, 8, 8, 8, 8, 8, 8, 8, 8, 8, 8, 8, 8, 8, 8, 8, 8, 8, 8, 8, 8, 8, 8, 8, 8, 8, 8, 8, 8, 8, 8, 8, 8, 8, 8, 8, 8, 8, 8, 8, 8, 8, 8, 8, 8, 8, 8, 8, 8, 8, 8, 8, 8, 8, 8, 8, 8, 8, 8, 8, 8, 8, 8, 8, 8, 8, 8, 8, 8, 8, 8, 8, 8, 8, 8, 8, 8, 8, 8, 8, 8, 8, 8, 8, 8, 8, 8, 8, 8, 8, 8, 8, 8]⟩ : ByteArray) (IntKind.wrap .u8 x0)) >>= fun t1 =>
  some ((IntKind.wrap .i64 (n2 + (IntKind.wrap .i64 t1)), ()), ())
theorem vY4 : ∀ (n : Nat) (p : wx0), OLe (us2 n p) (uj5 p) := by
 intro n
 induction n with
 | zero => exact fun p r h => by cases h
 | succ n ih =>
  intro p
  cases p <;> rw [uj5, us2] <;> repeat' with_reducible first | refine OLe.bind ?_ (fun _ => ?_) | refine OLe.ite ?_ ?_ | exact ih _ | exact OLe.refl _
def vy7 : Nat → wx1 → Option xP4
 | 0, _ => none
 | n + 1, .start x0 =>
  (us2 n (.start x0)) >>= fun t1 =>
  some ((t1.1.1, ()), ())
theorem vY5 : ∀ (n : Nat) (p : wx1), OLe (vy7 n p) (uZ9 p) := by
 intro n
 induction n with
 | zero => exact fun p r h => by cases h
 | succ n ih =>
  intro p
  cases p <;> rw [uZ9, vy7] <;> repeat' with_reducible first | refine OLe.bind ?_ (fun _ => ?_) | refine OLe.ite ?_ ?_ | exact vY4 n _ | exact ih _ | exact OLe.refl _
def vy8 : Nat → wx2 → Option xP5
 | 0, _ => none
 | n + 1, .start x0 =>
  x0 >>= fun t1 =>
  (vy7 n (.start (IntKind.wrap .u64 (IntKind.wrap .i64 ((List.length (Option.getD t1.constructors []) : Int) - (1 : Int)))))) >>= fun t2 =>
  some ((t2.1.1, ()), ())
theorem uQ1 : ∀ (n : Nat) (p : wx2), OLe (vy8 n p) (uQ2 p) := by
 intro n
 induction n with
 | zero => exact fun p r h => by cases h
 | succ n ih =>
  intro p
  cases p <;> rw [uQ2, vy8] <;> repeat' with_reducible first | refine OLe.bind ?_ (fun _ => ?_) | refine OLe.ite ?_ ?_ | exact vY5 n _ | exact ih _ | exact OLe.refl _
mutual
def uC1 : Nat → uV6 → Option vk7
 | 0, _ => none
 | n + 1, .start v0_0 v0_1 v0_2 =>
  uC1 n (.p116 (0 : Int) v0_2 (List.length (Option.getD v0_2 []) : Int) (0 : Int))
 | n + 1, .p116 sum3 s7 s8 s9 =>
  if (decide (s9 < s8)) = true then
   (idx (Option.getD s7 []) s9) >>= fun t1 =>
   (runF_z41 n (.start t1)) >>= fun t2 =>
   uC1 n (.p116 (IntKind.wrap .i64 (sum3 + t2.1.1)) s7 s8 (IntKind.wrap .i64 (s9 + (1 : Int))))
  else
   some ((sum3, ()), ())
def us3 : Nat → uV7 → Option vk8
 | 0, _ => none
 | n + 1, .start x0 =>
  x0 >>= fun t1 =>
  us3 n (.p116 (0 : Int) t1.constructors (List.length (Option.getD t1.constructors []) : Int) (0 : Int))
 | n + 1, .p116 most3 s9 s10 s11 =>
  if (decide (s11 < s10)) = true then
   (idx (Option.getD s9 []) s11) >>= fun t1 =>
   (uC1 n (.start t1.name t1.fields t1.parts)) >>= fun t2 =>
   us3 n (.p116 (if t2.1.1 > most3 then t2.1.1 else most3) s9 s10 (IntKind.wrap .i64 (s11 + (1 : Int))))
  else
   some ((most3, ()), ())
def runF_z41 : Nat → u46 → Option vC0
 | 0, _ => none
 | n + 1, .start x0 =>
  (ux0 n (.start x0)) >>= fun t1 =>
  if t1.1.1 = true then
   x0 >>= fun t2 =>
   some ((t2.bits, ()), ())
  else
   (vy8 n (.start x0)) >>= fun t3 =>
   (us3 n (.start x0)) >>= fun t4 =>
   some ((IntKind.wrap .i64 (t3.1.1 + t4.1.1), ()), ())
end
theorem uG6 : ∀ (n : Nat), (∀ p : uV6, OLe (uC1 n p) (uj6 p)) ∧ (∀ p : uV7, OLe (us3 n p) (run_z42 p)) ∧ (∀ p : u46, OLe (runF_z41 n p) (run_z41 p)) := by
  intro n
  induction n with
  | zero => exact ⟨(fun p r h => by cases h), (fun p r h => by cases h), (fun p r h => by cases h)⟩
  | succ n ih =>
    refine ⟨?_, ?_, ?_⟩
    · intro p
      cases p <;> rw [uj6, uC1] <;> repeat' with_reducible first | refine OLe.bind ?_ (fun _ => ?_) | refine OLe.ite ?_ ?_ | exact ue8 n _ | exact uQ1 n _ | exact ih.1 _ | exact ih.2.1 _ | exact ih.2.2 _ | exact OLe.refl _
    · intro p
      cases p <;> rw [run_z42, us3] <;> repeat' with_reducible first | refine OLe.bind ?_ (fun _ => ?_) | refine OLe.ite ?_ ?_ | exact ue8 n _ | exact uQ1 n _ | exact ih.1 _ | exact ih.2.1 _ | exact ih.2.2 _ | exact OLe.refl _
    · intro p
      cases p <;> rw [run_z41, runF_z41] <;> repeat' with_reducible first | refine OLe.bind ?_ (fun _ => ?_) | refine OLe.ite ?_ ?_ | exact ue8 n _ | exact uQ1 n _ | exact ih.1 _ | exact ih.2.1 _ | exact ih.2.2 _ | exact OLe.refl _
theorem vY6 (n : Nat) : ∀ (p : uV6), OLe (uC1 n p) (uj6 p) := (uG6 n).1
theorem vg0 (n : Nat) : ∀ (p : uV7), OLe (us3 n p) (run_z42 p) := (uG6 n).2.1
theorem uu6 (n : Nat) : ∀ (p : u46), OLe (runF_z41 n p) (run_z41 p) := (uG6 n).2.2
def uK2 : Nat → wx3 → Option xP6
 | 0, _ => none
 | n + 1, .start l0 t1_0 t1_1 t1_2 t1_3 =>
  (vy6 n (.start l0)) >>= fun t1 =>
  if (t1.1.2.1 != (0 : Int)) = true then
   some ((none, ((l0, ((), ())), (t1.1.2.1, ()))), ())
  else
   (u35 n (.start l0 ([]) t1_0 t1_1 t1_2 t1_3)) >>= fun t2 =>
   if (t2.1.1 != (0 : Int)) = true then
    some ((none, ((l0, ((), ())), (t2.1.1, ()))), ())
   else
    (up9 n (.start l0 ([]) t1_0 t1_1 t1_2 t1_3 (1 : Int) (0 : Int))) >>= fun t3 =>
    if (t3.1.2.1 == (0 : Int)) = true then
     (runF_z41 n (.start t3.1.1)) >>= fun t4 =>
     (uh6 n (.start t4.1.1 (1 : Int) (16 : Int))) >>= fun t5 =>
     if (!t5.1.1) = true then
      some ((t3.1.1, ((l0, ((), ())), ((25 : Int), ()))), ())
     else
      some ((t3.1.1, ((l0, ((), ())), (t3.1.2.1, ()))), ())
    else
     some ((t3.1.1, ((l0, ((), ())), (t3.1.2.1, ()))), ())
theorem uC2 : ∀ (n : Nat) (p : wx3), OLe (uK2 n p) (ur4 p) := by
 intro n
 induction n with
 | zero => exact fun p r h => by cases h
 | succ n ih =>
  intro p
  cases p <;> rw [ur4, uK2] <;> repeat' with_reducible first | refine OLe.bind ?_ (fun _ => ?_) | refine OLe.ite ?_ ?_ | exact ue2 n _ | exact vf8 n _ | exact vY0 n _ | exact vY3 n _ | exact uu6 n _ | exact ih _ | exact OLe.refl _
def vz0 : Nat → wx4 → Option xP7
 | 0, _ => none
 | n + 1, .start l0 t1_0 t1_1 t1_2 t1_3 =>
  (uK2 n (.start l0 t1_0 t1_1 t1_2 t1_3)) >>= fun t1 =>
  if (t1.1.2.2.1 != (0 : Int)) = true then
   some (((0 : Int), (t1.1.2.2.1, ())), ())
  else
   (runF_z41 n (.start t1.1.1)) >>= fun t2 =>
   some ((t2.1.1, ((0 : Int), ())), ())
theorem vY7 : ∀ (n : Nat) (p : wx4), OLe (vz0 n p) (vg5 p) := by
 intro n
 induction n with
 | zero => exact fun p r h => by cases h
 | succ n ih =>
  intro p
  cases p <;> rw [vg5, vz0] <;> repeat' with_reducible first | refine OLe.bind ?_ (fun _ => ?_) | refine OLe.ite ?_ ?_ | exact uu6 n _ | exact uC2 n _ | exact ih _ | exact OLe.refl _
def us4 : Nat → wx5 → Option xP8
 | 0, _ => none
 | n + 1, .start name0 parts1 =>
  some (((name0, ((0 : Int), (parts1, ()))), ()), ())
theorem vY8 : ∀ (n : Nat) (p : wx5), OLe (us4 n p) (uu7 p) := by
 intro n
 induction n with
 | zero => exact fun p r h => by cases h
 | succ n ih =>
  intro p
  cases p <;> rw [uu7, us4] <;> repeat' with_reducible first | refine OLe.bind ?_ (fun _ => ?_) | refine OLe.ite ?_ ?_ | exact ih _ | exact OLe.refl _
def vz1 : Nat → wx6 → Option xP9
 | 0, _ => none
 | n + 1, .start v0_0 v0_1 v0_2 =>
  some ((v0_2, ()), ())
theorem vY9 : ∀ (n : Nat) (p : wx6), OLe (vz1 n p) (vg6 p) := by
 intro n
 induction n with
 | zero => exact fun p r h => by cases h
 | succ n ih =>
  intro p
  cases p <;> rw [vg6, vz1] <;> repeat' with_reducible first | refine OLe.bind ?_ (fun _ => ?_) | refine OLe.ite ?_ ?_ | exact ih _ | exact OLe.refl _
def uC3 : Nat → vj8 → Option vC1
 | 0, _ => none
 | n + 1, .start x0_0 x0_1 x0_2 depth1 B0 =>
  if (decide ((IntKind.wrap .i64 (B0 + (1 : Int))) > (200 : Int))) = true then
   some ((false, ()), ((IntKind.wrap .i64 (B0 + (1 : Int)), ()), (((), ()), ((((), ((), ((), ()))), ()), ()))))
  else
   if (decide (depth1 > (40 : Int))) = true then
    some ((false, ()), ((IntKind.wrap .i64 (B0 + (1 : Int)), ()), (((), ()), ((((), ((), ((), ()))), ()), ()))))
   else
    uC3 n (.p15 depth1 (IntKind.wrap .i64 (B0 + (1 : Int))) x0_0 x0_1 x0_2)
 | n + 1, .p15 depth1 B0 H0 H1 H2 =>
  (vz1 n (.start H0 H1 H2)) >>= fun t1 =>
  uC3 n (.p244 depth1 t1.1.1 (List.length t1.1.1 : Int) (0 : Int) B0)
 | n + 1, .p244 depth1 s20 s21 s22 B0 =>
  if (decide (s22 < s21)) = true then
   (idx s20 s22) >>= fun t1 =>
   (uC3 n (.start t1.Name t1.Number t1.Parts (IntKind.wrap .i64 (depth1 + (1 : Int))) B0)) >>= fun t2 =>
   if (!t2.1.1) = true then
    some ((false, ()), ((t2.2.1.1, ()), (((), ()), ((((), ((), ((), ()))), ()), ()))))
   else
    uC3 n (.p244 depth1 s20 s21 (IntKind.wrap .i64 (s22 + (1 : Int))) t2.2.1.1)
  else
   some ((true, ()), ((B0, ()), (((), ()), ((((), ((), ((), ()))), ()), ()))))
theorem vZ0 : ∀ (n : Nat) (p : vj8), OLe (uC3 n p) (ux7 p) := by
 intro n
 induction n with
 | zero => exact fun p r h => by cases h
 | succ n ih =>
  intro p
  cases p <;> rw [ux7, uC3] <;> repeat' with_reducible first | refine OLe.bind ?_ (fun _ => ?_) | refine OLe.ite ?_ ?_ | exact vY9 n _ | exact ih _ | exact OLe.refl _
def u36 : Nat → wx7 → Option xQ0
 | 0, _ => none
 | n + 1, .start root0_0 root0_1 root0_2 =>
  (uC3 n (.start root0_0 root0_1 root0_2 (1 : Int) (0 : Int))) >>= fun t1 =>
  (uc0 n (.start t1.1.1 (8 : Int))) >>= fun t2 =>
  some ((t2.1.1, ()), ())
theorem vg1 : ∀ (n : Nat) (p : wx7), OLe (u36 n p) (u00 p) := by
 intro n
 induction n with
 | zero => exact fun p r h => by cases h
 | succ n ih =>
  intro p
  cases p <;> rw [u00, u36] <;> repeat' with_reducible first | refine OLe.bind ?_ (fun _ => ?_) | refine OLe.ite ?_ ?_ | exact uf5 n _ | exact vZ0 n _ | exact ih _ | exact OLe.refl _
def vz2 : Nat → wx8 → Option xQ1
 | 0, _ => none
 | n + 1, .start v0_0 v0_1 v0_2 s1 =>
  some ((seq v0_0 s1, ()), ())
theorem vZ1 : ∀ (n : Nat) (p : wx8), OLe (vz2 n p) (u01 p) := by
 intro n
 induction n with
 | zero => exact fun p r h => by cases h
 | succ n ih =>
  intro p
  cases p <;> rw [u01, vz2] <;> repeat' with_reducible first | refine OLe.bind ?_ (fun _ => ?_) | refine OLe.ite ?_ ?_ | exact ih _ | exact OLe.refl _
def uU3 : Nat → wx9 → Option xQ2
 | 0, _ => none
 | n + 1, .start s0 B0 =>
  uU3 n (.p52 s0 (List.length (Option.getD s0 []) : Int) (0 : Int) B0)
 | n + 1, .p52 s0 s7 s8 B0 =>
  if (decide (s8 < s7)) = true then
   (idx (Option.getD s0 []) s8) >>= fun t1 =>
   (vz2 n (.start t1.name t1.fields t1.parts B0)) >>= fun t2 =>
   if t2.1.1 = true then
    some ((s8, ()), ((B0, ()), ()))
   else
    uU3 n (.p52 s0 s7 (IntKind.wrap .i64 (s8 + (1 : Int))) B0)
  else
   some (((-1 : Int), ()), ((B0, ()), ()))
theorem vZ2 : ∀ (n : Nat) (p : wx9), OLe (uU3 n p) (um9 p) := by
 intro n
 induction n with
 | zero => exact fun p r h => by cases h
 | succ n ih =>
  intro p
  cases p <;> rw [um9, uU3] <;> repeat' with_reducible first | refine OLe.bind ?_ (fun _ => ?_) | refine OLe.ite ?_ ?_ | exact vZ1 n _ | exact ih _ | exact OLe.refl _
def u37 : Nat → wy0 → Option xQ3
 | 0, _ => none
 | n + 1, .start x0 name1 =>
  x0 >>= fun t1 =>
  (uU3 n (.start t1.constructors name1)) >>= fun t2 =>
  some ((t2.1.1, ()), ())
theorem uC4 : ∀ (n : Nat) (p : wy0), OLe (u37 n p) (uC8 p) := by
 intro n
 induction n with
 | zero => exact fun p r h => by cases h
 | succ n ih =>
  intro p
  cases p <;> rw [uC8, u37] <;> repeat' with_reducible first | refine OLe.bind ?_ (fun _ => ?_) | refine OLe.ite ?_ ?_ | exact vZ2 n _ | exact ih _ | exact OLe.refl _
mutual
def u38 : Nat → u47 → Option vC2
 | 0, _ => none
 | n + 1, .start i0 part1_0 part1_1 part1_2 C0 C1 C2 =>
  (idx (Option.getD C2 []) i0) >>= fun t1 =>
  (runF_z53 n (.start t1 part1_0 part1_1 part1_2)) >>= fun t2 =>
  some ((t2.1.1, ()), ((C0, (C1, (C2, ()))), ()))
def uK3 : Nat → uV8 → Option vk9
 | 0, _ => none
 | n + 1, .start l0 C0 C1 C2 =>
  uK3 n (.p52 l0 (List.length l0 : Int) (0 : Int) C0 C1 C2)
 | n + 1, .p52 s9 s10 s11 C0 C1 C2 =>
  if (decide (s11 < s10)) = true then
   (idx s9 s11) >>= fun t1 =>
   (u38 n (.start s11 t1.Name t1.Number t1.Parts C0 C1 C2)) >>= fun t2 =>
   if (t2.1.1 != (0 : Int)) = true then
    some ((s11, (t2.1.1, ())), ((t2.2.1.1, (t2.2.1.2.1, (t2.2.1.2.2.1, ()))), ()))
   else
    uK3 n (.p52 s9 s10 (IntKind.wrap .i64 (s11 + (1 : Int))) t2.2.1.1 t2.2.1.2.1 t2.2.1.2.2.1)
  else
   some (((0 : Int), ((0 : Int), ())), ((C0, (C1, (C2, ()))), ()))
def runF_z53 : Nat → u48 → Option vC3
 | 0, _ => none
 | n + 1, .start x0 v1_0 v1_1 v1_2 =>
  (ux0 n (.start x0)) >>= fun t1 =>
  if t1.1.1 = true then
   if (seq v1_0 (⟨#[]⟩ : ByteArray)) = true then
    (uc0 n (.start ((List.length v1_2 : Int) == (0 : Int)) (3 : Int))) >>= fun t2 =>
    x0 >>= fun t3 =>
    if (decide ((0 : Int) ≤ t3.bits)) = true then
     (uh6 n (.start v1_1 (0 : Int) (IntKind.wrap .i64 ((shl .i64 (1 : Int) t3.bits) - (1 : Int))))) >>= fun t4 =>
     (uc0 n (.start t4.1.1 (2 : Int))) >>= fun t5 =>
     (ud8 n (.start ([t2.1.1, t5.1.1] : List Int))) >>= fun t6 =>
     some ((t6.1.1, ()), ())
    else none
   else
    (uc0 n (.start false (3 : Int))) >>= fun t7 =>
    x0 >>= fun t8 =>
    if (decide ((0 : Int) ≤ t8.bits)) = true then
     (uh6 n (.start v1_1 (0 : Int) (IntKind.wrap .i64 ((shl .i64 (1 : Int) t8.bits) - (1 : Int))))) >>= fun t9 =>
     (uc0 n (.start t9.1.1 (2 : Int))) >>= fun t10 =>
     (ud8 n (.start ([t7.1.1, t10.1.1] : List Int))) >>= fun t11 =>
     some ((t11.1.1, ()), ())
    else none
  else
   (u37 n (.start x0 v1_0)) >>= fun t12 =>
   if (decide (t12.1.1 < (0 : Int))) = true then
    some (((6 : Int), ()), ())
   else
    x0 >>= fun t13 =>
    (idx (Option.getD t13.constructors []) t12.1.1) >>= fun t14 =>
    (uc0 n (.start (v1_1 == (0 : Int)) (3 : Int))) >>= fun t15 =>
    (uc0 n (.start ((List.length v1_2 : Int) == (List.length (Option.getD t14.parts []) : Int)) (10 : Int))) >>= fun t16 =>
    (ud8 n (.start ([t15.1.1, t16.1.1] : List Int))) >>= fun t17 =>
    if (t17.1.1 != (0 : Int)) = true then
     some ((t17.1.1, ()), ())
    else
     (uK3 n (.start v1_2 t14.name t14.fields t14.parts)) >>= fun t18 =>
     some ((t18.1.2.1, ()), ())
end
theorem uG7 : ∀ (n : Nat), (∀ p : u47, OLe (u38 n p) (uH3 p)) ∧ (∀ p : uV8, OLe (uK3 n p) (run_z54 p)) ∧ (∀ p : u48, OLe (runF_z53 n p) (run_z53 p)) := by
  intro n
  induction n with
  | zero => exact ⟨(fun p r h => by cases h), (fun p r h => by cases h), (fun p r h => by cases h)⟩
  | succ n ih =>
    refine ⟨?_, ?_, ?_⟩
    · intro p
      cases p <;> rw [uH3, u38] <;> repeat' with_reducible first | refine OLe.bind ?_ (fun _ => ?_) | refine OLe.ite ?_ ?_ | exact ue2 n _ | exact uf5 n _ | exact ue7 n _ | exact ue8 n _ | exact uC4 n _ | exact ih.1 _ | exact ih.2.1 _ | exact ih.2.2 _ | exact OLe.refl _
    · intro p
      cases p <;> rw [run_z54, uK3] <;> repeat' with_reducible first | refine OLe.bind ?_ (fun _ => ?_) | refine OLe.ite ?_ ?_ | exact ue2 n _ | exact uf5 n _ | exact ue7 n _ | exact ue8 n _ | exact uC4 n _ | exact ih.1 _ | exact ih.2.1 _ | exact ih.2.2 _ | exact OLe.refl _
    · intro p
      cases p <;> rw [run_z53, runF_z53] <;> repeat' with_reducible first | refine OLe.bind ?_ (fun _ => ?_) | refine OLe.ite ?_ ?_ | exact ue2 n _ | exact uf5 n _ | exact ue7 n _ | exact ue8 n _ | exact uC4 n _ | exact ih.1 _ | exact ih.2.1 _ | exact ih.2.2 _ | exact OLe.refl _
theorem xX0 (n : Nat) : ∀ (p : u47), OLe (u38 n p) (uH3 p) := (uG7 n).1
theorem xX1 (n : Nat) : ∀ (p : uV8), OLe (uK3 n p) (run_z54 p) := (uG7 n).2.1
theorem vZ3 (n : Nat) : ∀ (p : u48), OLe (runF_z53 n p) (run_z53 p) := (uG7 n).2.2
def uU4 : Nat → wy1 → Option xQ4
 | 0, _ => none
 | n + 1, .start l0 t1_0 t1_1 t1_2 t1_3 v2_0 v2_1 v2_2 =>
  (uK2 n (.start l0 t1_0 t1_1 t1_2 t1_3)) >>= fun t1 =>
  if (t1.1.2.2.1 == (0 : Int)) = true then
   (u36 n (.start v2_0 v2_1 v2_2)) >>= fun t2 =>
   uU4 n (.p15 t1.1.1 t2.1.1 v2_0 v2_1 v2_2)
  else
   uU4 n (.p15 t1.1.1 t1.1.2.2.1 v2_0 v2_1 v2_2)
 | n + 1, .p15 x8 e10 C0 C1 C2 =>
  if (e10 == (0 : Int)) = true then
   (runF_z53 n (.start x8 C0 C1 C2)) >>= fun t1 =>
   some ((x8, (t1.1.1, ())), ())
  else
   some ((x8, (e10, ())), ())
theorem vZ4 : ∀ (n : Nat) (p : wy1), OLe (uU4 n p) (uH4 p) := by
 intro n
 induction n with
 | zero => exact fun p r h => by cases h
 | succ n ih =>
  intro p
  cases p <;> rw [uH4, uU4] <;> repeat' with_reducible first | refine OLe.bind ?_ (fun _ => ?_) | refine OLe.ite ?_ ?_ | exact uC2 n _ | exact vg1 n _ | exact vZ3 n _ | exact ih _ | exact OLe.refl _
def uK4 : Nat → vj9 → Option vC4
 | 0, _ => none
 | n + 1, .start x0 v1_0 v1_1 v1_2 =>
  (ux0 n (.start x0)) >>= fun t1 =>
  if t1.1.1 = true then
   some ((v1_1, ()), ())
  else
   (u37 n (.start x0 v1_0)) >>= fun t2 =>
   x0 >>= fun t3 =>
   (idx (Option.getD t3.constructors []) t2.1.1) >>= fun t4 =>
   uK4 n (.p500 x0 t2.1.1 (0 : Int) t4.parts (List.length (Option.getD t4.parts []) : Int) (0 : Int) v1_0 v1_1 v1_2)
 | n + 1, .p500 x0 tag5 fields6 s24 s25 s26 C0 C1 C2 =>
  if (decide (s26 < s25)) = true then
   (idx (Option.getD s24 []) s26) >>= fun t1 =>
   (runF_z41 n (.start t1)) >>= fun t2 =>
   if (decide ((0 : Int) ≤ t2.1.1)) = true then
    (idx C2 s26) >>= fun t3 =>
    (uK4 n (.start t1 t3.Name t3.Number t3.Parts)) >>= fun t4 =>
    uK4 n (.p500 x0 tag5 (bits .or .i64 (shl .i64 fields6 t2.1.1) t4.1.1) s24 s25 (IntKind.wrap .i64 (s26 + (1 : Int))) C0 C1 C2)
   else none
  else
   (us3 n (.start x0)) >>= fun t5 =>
   if (decide ((0 : Int) ≤ t5.1.1)) = true then
    some ((bits .or .i64 (shl .i64 tag5 t5.1.1) fields6, ()), ())
   else none
theorem vZ5 : ∀ (n : Nat) (p : vj9), OLe (uK4 n p) (uC9 p) := by
 intro n
 induction n with
 | zero => exact fun p r h => by cases h
 | succ n ih =>
  intro p
  cases p <;> rw [uC9, uK4] <;> repeat' with_reducible first | refine OLe.bind ?_ (fun _ => ?_) | refine OLe.ite ?_ ?_ | exact ue8 n _ | exact vg0 n _ | exact uu6 n _ | exact uC4 n _ | exact ih _ | exact OLe.refl _
def vz3 : Nat → wy2 → Option xQ5
 | 0, _ => none
 | n + 1, .start l0 t1_0 t1_1 t1_2 t1_3 v2_0 v2_1 v2_2 =>
  (uU4 n (.start l0 t1_0 t1_1 t1_2 t1_3 v2_0 v2_1 v2_2)) >>= fun t1 =>
  if (t1.1.2.1 != (0 : Int)) = true then
   some (((0 : Int), (t1.1.2.1, ())), ())
  else
   (uK4 n (.start t1.1.1 v2_0 v2_1 v2_2)) >>= fun t2 =>
   some ((t2.1.1, ((0 : Int), ())), ())
theorem vZ6 : ∀ (n : Nat) (p : wy2), OLe (vz3 n p) (vg7 p) := by
 intro n
 induction n with
 | zero => exact fun p r h => by cases h
 | succ n ih =>
  intro p
  cases p <;> rw [vg7, vz3] <;> repeat' with_reducible first | refine OLe.bind ?_ (fun _ => ?_) | refine OLe.ite ?_ ?_ | exact vZ4 n _ | exact vZ5 n _ | exact ih _ | exact OLe.refl _
def uK5 : Nat → vk0 → Option vC5
 | 0, _ => none
 | n + 1, .start x0 n1 =>
  (ux0 n (.start x0)) >>= fun t1 =>
  if t1.1.1 = true then
   some ((((⟨#[]⟩ : ByteArray), (n1, ([], ()))), (true, ())), ())
  else
   (us3 n (.start x0)) >>= fun t2 =>
   if (decide ((0 : Int) ≤ t2.1.1)) = true then
    (us3 n (.start x0)) >>= fun t3 =>
    if (decide ((0 : Int) ≤ t3.1.1)) = true then
     x0 >>= fun t4 =>
     if (decide ((shr .i64 n1 t2.1.1) ≥ (List.length (Option.getD t4.constructors []) : Int))) = true then
      some ((((⟨#[]⟩ : ByteArray), ((0 : Int), ([], ()))), (false, ())), ())
     else
      x0 >>= fun t5 =>
      (idx (Option.getD t5.constructors []) (shr .i64 n1 t2.1.1)) >>= fun t6 =>
      (uC1 n (.start t6.name t6.fields t6.parts)) >>= fun t7 =>
      if (decide ((0 : Int) ≤ t7.1.1)) = true then
       if ((shr .i64 (bits .and .i64 n1 (IntKind.wrap .i64 ((shl .i64 (1 : Int) t3.1.1) - (1 : Int)))) t7.1.1) != (0 : Int)) = true then
        some ((((⟨#[]⟩ : ByteArray), ((0 : Int), ([], ()))), (false, ())), ())
       else
        uK5 n (.p8180 (bits .and .i64 n1 (IntKind.wrap .i64 ((shl .i64 (1 : Int) t3.1.1) - (1 : Int)))) t7.1.1 t6.parts (List.length (Option.getD t6.parts []) : Int) (0 : Int) t6.name (0 : Int) ([] : List ua4))
      else none
    else none
   else none
 | n + 1, .p8180 fields7 low9 s54 s55 s56 C0 C1 B1 =>
  if (decide (s56 < s55)) = true then
   (idx (Option.getD s54 []) s56) >>= fun t1 =>
   (runF_z41 n (.start t1)) >>= fun t2 =>
   if (decide ((0 : Int) ≤ (IntKind.wrap .i64 (low9 - t2.1.1)))) = true then
    (runF_z41 n (.start t1)) >>= fun t3 =>
    if (decide ((0 : Int) ≤ t3.1.1)) = true then
     (uK5 n (.start t1 (bits .and .i64 (shr .i64 fields7 (IntKind.wrap .i64 (low9 - t2.1.1))) (IntKind.wrap .i64 ((shl .i64 (1 : Int) t3.1.1) - (1 : Int)))))) >>= fun t4 =>
     if (!t4.1.2.1) = true then
      some (((C0, (C1, (B1, ()))), (false, ())), ())
     else
      if (fits (List.length B1) (List.length ([(⟨t4.1.1.1, t4.1.1.2.1, t4.1.1.2.2.1⟩ : ua4)] : List ua4)) 48) = true then
       uK5 n (.p8180 fields7 (IntKind.wrap .i64 (low9 - t2.1.1)) s54 s55 (IntKind.wrap .i64 (s56 + (1 : Int))) C0 C1 (B1 ++ ([(⟨t4.1.1.1, t4.1.1.2.1, t4.1.1.2.2.1⟩ : ua4)] : List ua4)))
      else none
    else none
   else none
  else
   some (((C0, (C1, (B1, ()))), (true, ())), ())
theorem vZ7 : ∀ (n : Nat) (p : vk0), OLe (uK5 n p) (uD0 p) := by
 intro n
 induction n with
 | zero => exact fun p r h => by cases h
 | succ n ih =>
  intro p
  cases p <;> rw [uD0, uK5] <;> repeat' with_reducible first | refine OLe.bind ?_ (fun _ => ?_) | refine OLe.ite ?_ ?_ | exact ue8 n _ | exact vY6 n _ | exact vg0 n _ | exact uu6 n _ | exact ih _ | exact OLe.refl _
def vz4 : Nat → wy3 → Option xQ6
 | 0, _ => none
 | n + 1, .start l0 t1_0 t1_1 t1_2 t1_3 bits2 =>
  (uK2 n (.start l0 t1_0 t1_1 t1_2 t1_3)) >>= fun t1 =>
  (ud8 n (.start ([t1.1.2.2.1] : List Int))) >>= fun t2 =>
  if (t2.1.1 != (0 : Int)) = true then
   some ((((⟨#[]⟩ : ByteArray), ((0 : Int), ([], ()))), (t2.1.1, ())), ())
  else
   (runF_z41 n (.start t1.1.1)) >>= fun t3 =>
   if (decide ((0 : Int) ≤ t3.1.1)) = true then
    (uh6 n (.start bits2 (0 : Int) (IntKind.wrap .i64 ((shl .i64 (1 : Int) t3.1.1) - (1 : Int))))) >>= fun t4 =>
    if (!t4.1.1) = true then
     some ((((⟨#[]⟩ : ByteArray), ((0 : Int), ([], ()))), ((2 : Int), ())), ())
    else
     (uK5 n (.start t1.1.1 bits2)) >>= fun t5 =>
     if (!t5.1.2.1) = true then
      some ((((⟨#[]⟩ : ByteArray), ((0 : Int), ([], ()))), ((3 : Int), ())), ())
     else
      some (((t5.1.1.1, (t5.1.1.2.1, (t5.1.1.2.2.1, ()))), ((0 : Int), ())), ())
   else none
theorem vZ8 : ∀ (n : Nat) (p : wy3), OLe (vz4 n p) (vg8 p) := by
 intro n
 induction n with
 | zero => exact fun p r h => by cases h
 | succ n ih =>
  intro p
  cases p <;> rw [vg8, vz4] <;> repeat' with_reducible first | refine OLe.bind ?_ (fun _ => ?_) | refine OLe.ite ?_ ?_ | exact ue2 n _ | exact ue7 n _ | exact uu6 n _ | exact uC2 n _ | exact vZ7 n _ | exact ih _ | exact OLe.refl _
mutual
def uC5 : Nat → uV9 → Option vl0
 | 0, _ => none
 | n + 1, .start v0_0 v0_1 v0_2 =>
  uC5 n (.p116 (1 : Int) v0_2 (List.length (Option.getD v0_2 []) : Int) (0 : Int))
 | n + 1, .p116 n3 s7 s8 s9 =>
  if (decide (s9 < s8)) = true then
   (idx (Option.getD s7 []) s9) >>= fun t1 =>
   (runF_z61 n (.start t1)) >>= fun t2 =>
   uC5 n (.p116 (IntKind.wrap .i64 (n3 * t2.1.1)) s7 s8 (IntKind.wrap .i64 (s9 + (1 : Int))))
  else
   some ((n3, ()), ())
def runF_z61 : Nat → uW0 → Option vl1
 | 0, _ => none
 | n + 1, .start x0 =>
  (ux0 n (.start x0)) >>= fun t1 =>
  if t1.1.1 = true then
   x0 >>= fun t2 =>
   if (decide ((0 : Int) ≤ t2.bits)) = true then
    some ((shl .i64 (1 : Int) t2.bits, ()), ())
   else none
  else
   x0 >>= fun t3 =>
   runF_z61 n (.p244 (0 : Int) t3.constructors (List.length (Option.getD t3.constructors []) : Int) (0 : Int))
 | n + 1, .p244 sum3 s16 s17 s18 =>
  if (decide (s18 < s17)) = true then
   (idx (Option.getD s16 []) s18) >>= fun t1 =>
   (uC5 n (.start t1.name t1.fields t1.parts)) >>= fun t2 =>
   runF_z61 n (.p244 (IntKind.wrap .i64 (sum3 + t2.1.1)) s16 s17 (IntKind.wrap .i64 (s18 + (1 : Int))))
  else
   some ((sum3, ()), ())
end
theorem u15 : ∀ (n : Nat), (∀ p : uV9, OLe (uC5 n p) (uu8 p)) ∧ (∀ p : uW0, OLe (runF_z61 n p) (run_z61 p)) := by
  intro n
  induction n with
  | zero => exact ⟨(fun p r h => by cases h), (fun p r h => by cases h)⟩
  | succ n ih =>
    refine ⟨?_, ?_⟩
    · intro p
      cases p <;> rw [uu8, uC5] <;> repeat' with_reducible first | refine OLe.bind ?_ (fun _ => ?_) | refine OLe.ite ?_ ?_ | exact ue8 n _ | exact ih.1 _ | exact ih.2 _ | exact OLe.refl _
    · intro p
      cases p <;> rw [run_z61, runF_z61] <;> repeat' with_reducible first | refine OLe.bind ?_ (fun _ => ?_) | refine OLe.ite ?_ ?_ | exact ue8 n _ | exact ih.1 _ | exact ih.2 _ | exact OLe.refl _
theorem vZ9 (n : Nat) : ∀ (p : uV9), OLe (uC5 n p) (uu8 p) := (u15 n).1
theorem vg2 (n : Nat) : ∀ (p : uW0), OLe (runF_z61 n p) (run_z61 p) := (u15 n).2
def ux1 : Nat → vk1 → Option vC6
 | 0, _ => none
 | n + 1, .start x0 index1 =>
  (ux0 n (.start x0)) >>= fun t1 =>
  if t1.1.1 = true then
   some ((((⟨#[]⟩ : ByteArray), (index1, ([], ()))), ()), ())
  else
   x0 >>= fun t2 =>
   ux1 n (.p116 index1 t2.constructors (List.length (Option.getD t2.constructors []) : Int) (0 : Int) (⟨#[]⟩ : ByteArray) (0 : Int))
 | n + 1, .p116 index1 s18 s19 s20 C0 C1 =>
  if (decide (s20 < s19)) = true then
   (idx (Option.getD s18 []) s20) >>= fun t1 =>
   (uC5 n (.start t1.name t1.fields t1.parts)) >>= fun t2 =>
   if (decide (index1 ≥ t2.1.1)) = true then
    ux1 n (.p116 (IntKind.wrap .i64 (index1 - t2.1.1)) s18 s19 (IntKind.wrap .i64 (s20 + (1 : Int))) C0 C1)
   else
    ux1 n (.p478452 index1 t2.1.1 t1.parts (List.length (Option.getD t1.parts []) : Int) (0 : Int) C0 C1 t1.name (0 : Int) ([] : List ua4))
  else
   some ((((⟨#[]⟩ : ByteArray), ((0 : Int), ([], ()))), ()), ())
 | n + 1, .p478452 index1 n7 s36 s37 s38 C0 C1 D0 D1 B2 =>
  if (decide (s38 < s37)) = true then
   (idx (Option.getD s36 []) s38) >>= fun t1 =>
   (runF_z61 n (.start t1)) >>= fun t2 =>
   if (!(t2.1.1 == (0 : Int))) = true then
    if (!((IntKind.wrap .i64 (Int.tdiv n7 t2.1.1)) == (0 : Int))) = true then
     (ux1 n (.start t1 (IntKind.wrap .i64 (Int.tdiv index1 (IntKind.wrap .i64 (Int.tdiv n7 t2.1.1)))))) >>= fun t3 =>
     if (fits (List.length B2) (List.length ([(⟨t3.1.1.1, t3.1.1.2.1, t3.1.1.2.2.1⟩ : ua4)] : List ua4)) 48) = true then
      if (!((IntKind.wrap .i64 (Int.tdiv n7 t2.1.1)) == (0 : Int))) = true then
       ux1 n (.p478452 (Int.tmod index1 (IntKind.wrap .i64 (Int.tdiv n7 t2.1.1))) (IntKind.wrap .i64 (Int.tdiv n7 t2.1.1)) s36 s37 (IntKind.wrap .i64 (s38 + (1 : Int))) C0 C1 D0 D1 (B2 ++ ([(⟨t3.1.1.1, t3.1.1.2.1, t3.1.1.2.2.1⟩ : ua4)] : List ua4)))
      else none
     else none
    else none
   else none
  else
   some (((D0, (D1, (B2, ()))), ()), ())
theorem v00 : ∀ (n : Nat) (p : vk1), OLe (ux1 n p) (uu9 p) := by
 intro n
 induction n with
 | zero => exact fun p r h => by cases h
 | succ n ih =>
  intro p
  cases p <;> rw [uu9, ux1] <;> repeat' with_reducible first | refine OLe.bind ?_ (fun _ => ?_) | refine OLe.ite ?_ ?_ | exact ue8 n _ | exact vZ9 n _ | exact vg2 n _ | exact ih _ | exact OLe.refl _
def vz5 : Nat → wy4 → Option xQ7
 | 0, _ => none
 | n + 1, .start l0 t1_0 t1_1 t1_2 t1_3 index2 =>
  (uK2 n (.start l0 t1_0 t1_1 t1_2 t1_3)) >>= fun t1 =>
  if (t1.1.2.2.1 != (0 : Int)) = true then
   some ((((⟨#[]⟩ : ByteArray), ((0 : Int), ([], ()))), (t1.1.2.2.1, ())), ())
  else
   (runF_z61 n (.start t1.1.1)) >>= fun t2 =>
   (uh6 n (.start index2 (0 : Int) (IntKind.wrap .i64 (t2.1.1 - (1 : Int))))) >>= fun t3 =>
   if (!t3.1.1) = true then
    some ((((⟨#[]⟩ : ByteArray), ((0 : Int), ([], ()))), ((6 : Int), ())), ())
   else
    (ux1 n (.start t1.1.1 index2)) >>= fun t4 =>
    some (((t4.1.1.1, (t4.1.1.2.1, (t4.1.1.2.2.1, ()))), ((0 : Int), ())), ())
theorem v01 : ∀ (n : Nat) (p : wy4), OLe (vz5 n p) (vg9 p) := by
 intro n
 induction n with
 | zero => exact fun p r h => by cases h
 | succ n ih =>
  intro p
  cases p <;> rw [vg9, vz5] <;> repeat' with_reducible first | refine OLe.bind ?_ (fun _ => ?_) | refine OLe.ite ?_ ?_ | exact ue2 n _ | exact uC2 n _ | exact vg2 n _ | exact v00 n _ | exact ih _ | exact OLe.refl _
mutual
def u39 : Nat → u49 → Option vC7
 | 0, _ => none
 | n + 1, .start s0 x1_0 x1_1 x1_2 =>
  (runF_z65 n (.start x1_0 x1_1 x1_2)) >>= fun t1 =>
  some ((t1.1.1, ()), ())
def uK6 : Nat → uW2 → Option vl3
 | 0, _ => none
 | n + 1, .start l0 =>
  uK6 n (.p52 l0 (List.length l0 : Int) (0 : Int))
 | n + 1, .p52 s9 s10 s11 =>
  if (decide (s11 < s10)) = true then
   (idx s9 s11) >>= fun t1 =>
   (u39 n (.start s11 t1.Name t1.Number t1.Parts)) >>= fun t2 =>
   if (t2.1.1 != (0 : Int)) = true then
    some ((s11, (t2.1.1, ())), ())
   else
    uK6 n (.p52 s9 s10 (IntKind.wrap .i64 (s11 + (1 : Int))))
  else
   some (((0 : Int), ((0 : Int), ())), ())
def runF_z65 : Nat → uW1 → Option vl2
 | 0, _ => none
 | n + 1, .start v0_0 v0_1 v0_2 =>
  if (!(seq v0_0 (⟨#[]⟩ : ByteArray))) = true then
   (uc0 n (.start true (3 : Int))) >>= fun t1 =>
   if (seq v0_0 (⟨#[]⟩ : ByteArray)) = true then
    (uc0 n (.start true (3 : Int))) >>= fun t2 =>
    if (seq v0_0 (⟨#[]⟩ : ByteArray)) = true then
     (uc0 n (.start true (4 : Int))) >>= fun t3 =>
     (uh6 n (.start v0_1 (0 : Int) (99999 : Int))) >>= fun t4 =>
     (uc0 n (.start t4.1.1 (2 : Int))) >>= fun t5 =>
     (ud8 n (.start ([t1.1.1, t2.1.1, t3.1.1, t5.1.1] : List Int))) >>= fun t6 =>
     runF_z65 n (.p15 t6.1.1 v0_0 v0_1 v0_2)
    else
     (uk2 n (.start v0_0)) >>= fun t7 =>
     (uc0 n (.start t7.1.1 (4 : Int))) >>= fun t8 =>
     (uh6 n (.start v0_1 (0 : Int) (99999 : Int))) >>= fun t9 =>
     (uc0 n (.start t9.1.1 (2 : Int))) >>= fun t10 =>
     (ud8 n (.start ([t1.1.1, t2.1.1, t8.1.1, t10.1.1] : List Int))) >>= fun t11 =>
     runF_z65 n (.p15 t11.1.1 v0_0 v0_1 v0_2)
   else
    (uc0 n (.start (v0_1 == (0 : Int)) (3 : Int))) >>= fun t12 =>
    if (seq v0_0 (⟨#[]⟩ : ByteArray)) = true then
     (uc0 n (.start true (4 : Int))) >>= fun t13 =>
     (uh6 n (.start v0_1 (0 : Int) (99999 : Int))) >>= fun t14 =>
     (uc0 n (.start t14.1.1 (2 : Int))) >>= fun t15 =>
     (ud8 n (.start ([t1.1.1, t12.1.1, t13.1.1, t15.1.1] : List Int))) >>= fun t16 =>
     runF_z65 n (.p15 t16.1.1 v0_0 v0_1 v0_2)
    else
     (uk2 n (.start v0_0)) >>= fun t17 =>
     (uc0 n (.start t17.1.1 (4 : Int))) >>= fun t18 =>
     (uh6 n (.start v0_1 (0 : Int) (99999 : Int))) >>= fun t19 =>
     (uc0 n (.start t19.1.1 (2 : Int))) >>= fun t20 =>
     (ud8 n (.start ([t1.1.1, t12.1.1, t18.1.1, t20.1.1] : List Int))) >>= fun t21 =>
     runF_z65 n (.p15 t21.1.1 v0_0 v0_1 v0_2)
  else
   (uc0 n (.start ((List.length v0_2 : Int) == (0 : Int)) (3 : Int))) >>= fun t22 =>
   if (seq v0_0 (⟨#[]⟩ : ByteArray)) = true then
    (uc0 n (.start true (3 : Int))) >>= fun t23 =>
    if (seq v0_0 (⟨#[]⟩ : ByteArray)) = true then
     (uc0 n (.start true (4 : Int))) >>= fun t24 =>
     (uh6 n (.start v0_1 (0 : Int) (99999 : Int))) >>= fun t25 =>
     (uc0 n (.start t25.1.1 (2 : Int))) >>= fun t26 =>
     (ud8 n (.start ([t22.1.1, t23.1.1, t24.1.1, t26.1.1] : List Int))) >>= fun t27 =>
     runF_z65 n (.p15 t27.1.1 v0_0 v0_1 v0_2)
    else
     (uk2 n (.start v0_0)) >>= fun t28 =>
     (uc0 n (.start t28.1.1 (4 : Int))) >>= fun t29 =>
     (uh6 n (.start v0_1 (0 : Int) (99999 : Int))) >>= fun t30 =>
     (uc0 n (.start t30.1.1 (2 : Int))) >>= fun t31 =>
     (ud8 n (.start ([t22.1.1, t23.1.1, t29.1.1, t31.1.1] : List Int))) >>= fun t32 =>
     runF_z65 n (.p15 t32.1.1 v0_0 v0_1 v0_2)
   else
    (uc0 n (.start (v0_1 == (0 : Int)) (3 : Int))) >>= fun t33 =>
    if (seq v0_0 (⟨#[]⟩ : ByteArray)) = true then
     (uc0 n (.start true (4 : Int))) >>= fun t34 =>
     (uh6 n (.start v0_1 (0 : Int) (99999 : Int))) >>= fun t35 =>
     (uc0 n (.start t35.1.1 (2 : Int))) >>= fun t36 =>
     (ud8 n (.start ([t22.1.1, t33.1.1, t34.1.1, t36.1.1] : List Int))) >>= fun t37 =>
     runF_z65 n (.p15 t37.1.1 v0_0 v0_1 v0_2)
    else
     (uk2 n (.start v0_0)) >>= fun t38 =>
     (uc0 n (.start t38.1.1 (4 : Int))) >>= fun t39 =>
     (uh6 n (.start v0_1 (0 : Int) (99999 : Int))) >>= fun t40 =>
     (uc0 n (.start t40.1.1 (2 : Int))) >>= fun t41 =>
     (ud8 n (.start ([t22.1.1, t33.1.1, t39.1.1, t41.1.1] : List Int))) >>= fun t42 =>
     runF_z65 n (.p15 t42.1.1 v0_0 v0_1 v0_2)
 | n + 1, .p15 e4 C0 C1 C2 =>
  if (e4 != (0 : Int)) = true then
   some ((e4, ()), ())
  else
   (uK6 n (.start C2)) >>= fun t1 =>
   some ((t1.1.2.1, ()), ())
end
theorem uG8 : ∀ (n : Nat), (∀ p : u49, OLe (u39 n p) (uH5 p)) ∧ (∀ p : uW2, OLe (uK6 n p) (run_z66 p)) ∧ (∀ p : uW1, OLe (runF_z65 n p) (run_z65 p)) := by
  intro n
  induction n with
  | zero => exact ⟨(fun p r h => by cases h), (fun p r h => by cases h), (fun p r h => by cases h)⟩
  | succ n ih =>
    refine ⟨?_, ?_, ?_⟩
    · intro p
      cases p <;> rw [uH5, u39] <;> repeat' with_reducible first | refine OLe.bind ?_ (fun _ => ?_) | refine OLe.ite ?_ ?_ | exact ue2 n _ | exact uK8 n _ | exact uf5 n _ | exact ue7 n _ | exact ih.1 _ | exact ih.2.1 _ | exact ih.2.2 _ | exact OLe.refl _
    · intro p
      cases p <;> rw [run_z66, uK6] <;> repeat' with_reducible first | refine OLe.bind ?_ (fun _ => ?_) | refine OLe.ite ?_ ?_ | exact ue2 n _ | exact uK8 n _ | exact uf5 n _ | exact ue7 n _ | exact ih.1 _ | exact ih.2.1 _ | exact ih.2.2 _ | exact OLe.refl _
    · intro p
      cases p <;> rw [run_z65, runF_z65] <;> repeat' with_reducible first | refine OLe.bind ?_ (fun _ => ?_) | refine OLe.ite ?_ ?_ | exact ue2 n _ | exact uK8 n _ | exact uf5 n _ | exact ue7 n _ | exact ih.1 _ | exact ih.2.1 _ | exact ih.2.2 _ | exact OLe.refl _
theorem xX2 (n : Nat) : ∀ (p : u49), OLe (u39 n p) (uH5 p) := (uG8 n).1
theorem xX3 (n : Nat) : ∀ (p : uW2), OLe (uK6 n p) (run_z66 p) := (uG8 n).2.1
theorem v02 (n : Nat) : ∀ (p : uW1), OLe (runF_z65 n p) (run_z65 p) := (uG8 n).2.2
def uK7 : Nat → vk2 → Option vC8
 | 0, _ => none
 | n + 1, .start v0_0 v0_1 v0_2 =>
  if (seq v0_0 (⟨#[]⟩ : ByteArray)) = true then
   (u79 (v0_1, ()) ()) >>= fun t1 =>
   some ((t1.1.1, ()), ())
  else
   if ((List.length v0_2 : Int) == (0 : Int)) = true then
    some ((v0_0, ()), ())
   else
    uK7 n (.p500 v0_2 (List.length v0_2 : Int) (0 : Int) v0_0 v0_1 v0_2 ([] : List ByteArray))
 | n + 1, .p500 s19 s20 s21 C0 C1 C2 B1 =>
  if (decide (s21 < s20)) = true then
   (idx s19 s21) >>= fun t1 =>
   (uK7 n (.start t1.Name t1.Number t1.Parts)) >>= fun t2 =>
   if (fits (List.length B1) (List.length ([t2.1.1] : List ByteArray)) 16) = true then
    uK7 n (.p500 s19 s20 (IntKind.wrap .i64 (s21 + (1 : Int))) C0 C1 C2 (B1 ++ ([t2.1.1] : List ByteArray)))
   else none
  else
   if (Nat.ble (C0.size + (⟨#[40]⟩ : ByteArray).size) 9223372036854775807) = true then
    (uN1 (B1, (⟨#[44, 32]⟩ : ByteArray), ()) ()) >>= fun t3 =>
    if (Nat.ble ((C0 ++ (⟨#[40]⟩ : ByteArray)).size + t3.1.1.size) 9223372036854775807) = true then
     if (Nat.ble (((C0 ++ (⟨#[40]⟩ : ByteArray)) ++ t3.1.1).size + (⟨#[41]⟩ : ByteArray).size) 9223372036854775807) = true then
      some ((((C0 ++ (⟨#[40]⟩ : ByteArray)) ++ t3.1.1) ++ (⟨#[41]⟩ : ByteArray), ()), ())
     else none
    else none
   else none
theorem v03 : ∀ (n : Nat) (p : vk2), OLe (uK7 n p) (uD1 p) := by
 intro n
 induction n with
 | zero => exact fun p r h => by cases h
 | succ n ih =>
  intro p
  cases p <;> rw [uD1, uK7] <;> repeat' with_reducible first | refine OLe.bind ?_ (fun _ => ?_) | refine OLe.ite ?_ ?_ | exact ih _ | exact OLe.refl _
def vz6 : Nat → wy5 → Option xQ8
 | 0, _ => none
 | n + 1, .start v0_0 v0_1 v0_2 =>
  (u36 n (.start v0_0 v0_1 v0_2)) >>= fun t1 =>
  if (t1.1.1 != (0 : Int)) = true then
   some (((⟨#[]⟩ : ByteArray), (t1.1.1, ())), ())
  else
   (runF_z65 n (.start v0_0 v0_1 v0_2)) >>= fun t2 =>
   if (t2.1.1 != (0 : Int)) = true then
    some (((⟨#[]⟩ : ByteArray), (t2.1.1, ())), ())
   else
    (uK7 n (.start v0_0 v0_1 v0_2)) >>= fun t3 =>
    some ((t3.1.1, ((0 : Int), ())), ())
theorem v04 : ∀ (n : Nat) (p : wy5), OLe (vz6 n p) (vh0 p) := by
 intro n
 induction n with
 | zero => exact fun p r h => by cases h
 | succ n ih =>
  intro p
  cases p <;> rw [vh0, vz6] <;> repeat' with_reducible first | refine OLe.bind ?_ (fun _ => ?_) | refine OLe.ite ?_ ?_ | exact vg1 n _ | exact v02 n _ | exact v03 n _ | exact ih _ | exact OLe.refl _
def uC6 : Nat → vk3 → Option vC9
 | 0, _ => none
 | n + 1, .start a0_0 a0_1 a0_2 b1_0 b1_1 b1_2 =>
  if (!(seq a0_0 b1_0)) = true then
   some ((false, ()), ())
  else
   if (a0_1 != b1_1) = true then
    some ((false, ()), ())
   else
    if ((List.length a0_2 : Int) != (List.length b1_2 : Int)) = true then
     some ((false, ()), ())
    else
     uC6 n (.p7 a0_0 a0_1 a0_2 b1_0 b1_1 b1_2)
 | n + 1, .p7 C0 C1 C2 D0 D1 D2 =>
  uC6 n (.p116 (0 : Int) C0 C1 C2 D0 D1 D2)
 | n + 1, .p116 i5 C0 C1 C2 D0 D1 D2 =>
  if (decide (i5 < (List.length C2 : Int))) = true then
   (idx C2 i5) >>= fun t1 =>
   (idx D2 i5) >>= fun t2 =>
   (uC6 n (.start t1.Name t1.Number t1.Parts t2.Name t2.Number t2.Parts)) >>= fun t3 =>
   if (!t3.1.1) = true then
    some ((false, ()), ())
   else
    uC6 n (.p116 (IntKind.wrap .i64 (i5 + (1 : Int))) C0 C1 C2 D0 D1 D2)
  else
   some ((true, ()), ())
theorem v05 : ∀ (n : Nat) (p : vk3), OLe (uC6 n p) (ux8 p) := by
 intro n
 induction n with
 | zero => exact fun p r h => by cases h
 | succ n ih =>
  intro p
  cases p <;> rw [ux8, uC6] <;> repeat' with_reducible first | refine OLe.bind ?_ (fun _ => ?_) | refine OLe.ite ?_ ?_ | exact ih _ | exact OLe.refl _
def wk4 : Nat → wy6 → Option xQ9
 | 0, _ => none
 | n + 1, .start =>
  (uZ2 n .start) >>= fun t1 =>
  (vf9 n (.start (3 : Int))) >>= fun t2 =>
  (ux5 n (.start (⟨#[77, 97, 121, 98, 101]⟩ : ByteArray) ([(⟨t2.1.1.1, t2.1.1.2.1, t2.1.1.2.2.1, t2.1.1.2.2.2.1⟩ : ua1)] : List ua1))) >>= fun t3 =>
  (vz0 n (.start t1.1.1 t3.1.1.1 t3.1.1.2.1 t3.1.1.2.2.1 t3.1.1.2.2.2.1)) >>= fun t4 =>
  (uZ2 n .start) >>= fun t5 =>
  (vf9 n (.start (2 : Int))) >>= fun t6 =>
  (ux5 n (.start (⟨#[67, 111, 108, 111, 114]⟩ : ByteArray) ([]))) >>= fun t7 =>
  (ux5 n (.start (⟨#[80, 97, 105, 114]⟩ : ByteArray) ([(⟨t6.1.1.1, t6.1.1.2.1, t6.1.1.2.2.1, t6.1.1.2.2.2.1⟩ : ua1), (⟨t7.1.1.1, t7.1.1.2.1, t7.1.1.2.2.1, t7.1.1.2.2.2.1⟩ : ua1)] : List ua1))) >>= fun t8 =>
  (us4 n (.start (⟨#[66, 108, 117, 101]⟩ : ByteArray) ([]))) >>= fun t9 =>
  (us4 n (.start (⟨#[80, 97, 105, 114]⟩ : ByteArray) ([(⟨(⟨#[]⟩ : ByteArray), (3 : Int), []⟩ : ua4), (⟨t9.1.1.1, t9.1.1.2.1, t9.1.1.2.2.1⟩ : ua4)] : List ua4))) >>= fun t10 =>
  (vz3 n (.start t5.1.1 t8.1.1.1 t8.1.1.2.1 t8.1.1.2.2.1 t8.1.1.2.2.2.1 t10.1.1.1 t10.1.1.2.1 t10.1.1.2.2.1)) >>= fun t11 =>
  (uZ2 n .start) >>= fun t12 =>
  (vf9 n (.start (3 : Int))) >>= fun t13 =>
  (ux5 n (.start (⟨#[77, 97, 121, 98, 101]⟩ : ByteArray) ([(⟨t13.1.1.1, t13.1.1.2.1, t13.1.1.2.2.1, t13.1.1.2.2.2.1⟩ : ua1)] : List ua1))) >>= fun t14 =>
  (vz4 n (.start t12.1.1 t14.1.1.1 t14.1.1.2.1 t14.1.1.2.2.1 t14.1.1.2.2.2.1 (5 : Int))) >>= fun t15 =>
  (uZ2 n .start) >>= fun t16 =>
  (ux5 n (.start (⟨#[67, 111, 108, 111, 114]⟩ : ByteArray) ([]))) >>= fun t17 =>
  (ux5 n (.start (⟨#[66, 111, 111, 108]⟩ : ByteArray) ([]))) >>= fun t18 =>
  (ux5 n (.start (⟨#[80, 97, 105, 114]⟩ : ByteArray) ([(⟨t17.1.1.1, t17.1.1.2.1, t17.1.1.2.2.1, t17.1.1.2.2.2.1⟩ : ua1), (⟨t18.1.1.1, t18.1.1.2.1, t18.1.1.2.2.1, t18.1.1.2.2.2.1⟩ : ua1)] : List ua1))) >>= fun t19 =>
  (vz5 n (.start t16.1.1 t19.1.1.1 t19.1.1.2.1 t19.1.1.2.2.1 t19.1.1.2.2.2.1 (3 : Int))) >>= fun t20 =>
  (us4 n (.start (⟨#[66, 108, 117, 101]⟩ : ByteArray) ([]))) >>= fun t21 =>
  (us4 n (.start (⟨#[80, 97, 105, 114]⟩ : ByteArray) ([(⟨(⟨#[]⟩ : ByteArray), (3 : Int), []⟩ : ua4), (⟨t21.1.1.1, t21.1.1.2.1, t21.1.1.2.2.1⟩ : ua4)] : List ua4))) >>= fun t22 =>
  (vz6 n (.start t22.1.1.1 t22.1.1.2.1 t22.1.1.2.2.1)) >>= fun t23 =>
  if (t4.1.2.1 == (0 : Int)) = true then
   if (t4.1.1 == (4 : Int)) = true then
    if (t11.1.2.1 == (0 : Int)) = true then
     if (t11.1.1 == (14 : Int)) = true then
      if (t15.1.2.1 == (3 : Int)) = true then
       if (t20.1.2.1 == (0 : Int)) = true then
        (us4 n (.start (⟨#[71, 114, 101, 101, 110]⟩ : ByteArray) ([]))) >>= fun t24 =>
        (us4 n (.start (⟨#[84, 114, 117, 101]⟩ : ByteArray) ([]))) >>= fun t25 =>
        (us4 n (.start (⟨#[80, 97, 105, 114]⟩ : ByteArray) ([(⟨t24.1.1.1, t24.1.1.2.1, t24.1.1.2.2.1⟩ : ua4), (⟨t25.1.1.1, t25.1.1.2.1, t25.1.1.2.2.1⟩ : ua4)] : List ua4))) >>= fun t26 =>
        (uC6 n (.start t20.1.1.1 t20.1.1.2.1 t20.1.1.2.2.1 t26.1.1.1 t26.1.1.2.1 t26.1.1.2.2.1)) >>= fun t27 =>
        if t27.1.1 = true then
         if (t23.1.2.1 == (0 : Int)) = true then
          some ((seq t23.1.1 (⟨#[80, 97, 105, 114, 40, 51, 44, 32, 66, 108, 117, 101, 41]⟩ : ByteArray), ()), ())
         else
          some ((false, ()), ())
        else
         some ((false, ()), ())
       else
        some ((false, ()), ())
      else
       some ((false, ()), ())
     else
      some ((false, ()), ())
    else
     some ((false, ()), ())
   else
    some ((false, ()), ())
  else
   some ((false, ()), ())
theorem v06 : ∀ (n : Nat) (p : wy6), OLe (wk4 n p) (u02 p) := by
 intro n
 induction n with
 | zero => exact fun p r h => by cases h
 | succ n ih =>
  intro p
  cases p <;> rw [u02, wk4] <;> repeat' with_reducible first | refine OLe.bind ?_ (fun _ => ?_) | refine OLe.ite ?_ ?_ | exact wJ4 n _ | exact vq7 n _ | exact wJ6 n _ | exact vY7 n _ | exact vY8 n _ | exact vZ6 n _ | exact vZ8 n _ | exact v01 n _ | exact v04 n _ | exact v05 n _ | exact ih _ | exact OLe.refl _
end
end Go.Proofs.YtaennkkcnhfglaaGreatDoor.Ev.F
