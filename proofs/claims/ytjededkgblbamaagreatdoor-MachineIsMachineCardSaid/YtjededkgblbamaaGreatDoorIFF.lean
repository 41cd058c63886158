/- A part of the proof. -/
import Derived.Test.YtjededkgblbamaaGreatDoorIF3
import Derived.Test.YtjededkgblbamaaGreatDoorIEvFuel
set_option linter.unusedVariables false
set_option maxRecDepth 100000
namespace Go.Proofs.YtjededkgblbamaaGreatDoor.Ev.F
open Go.Proofs Go.Proofs.YtjededkgblbamaaGreatDoor.Ev
noncomputable section
def uk8 : Nat → P_z0 → Option R_z0
 | 0, _ => none
 | n + 1, .start n0 lo1 hi2 =>
  if (decide (lo1 ≤ n0)) = true then
   some ((decide (n0 ≤ hi2), ()), ())
  else
   some ((false, ()), ())
theorem um3 : ∀ (n : Nat) (p : P_z0), OLe (uk8 n p) (uf8 p) := by
 intro n
 induction n with
 | zero => exact fun p r h => by cases h
 | succ n ih =>
  intro p
  cases p <;> rw [uf8, uk8] <;> repeat' with_reducible first | refine OLe.bind ?_ (fun _ => ?_) | refine OLe.ite ?_ ?_ | exact ih _ | exact OLe.refl _
def vL3 : Nat → P_z9 → Option R_z9
 | 0, _ => none
 | n + 1, .start l0 =>
  if (fits (List.length ([] : List Int)) (List.length l0) 8) = true then
   some (((), ()), (([] : List Int) ++ l0, ()))
  else none
theorem wn4 : ∀ (n : Nat) (p : P_z9), OLe (vL3 n p) (uy9 p) := by
 intro n
 induction n with
 | zero => exact fun p r h => by cases h
 | succ n ih =>
  intro p
  cases p <;> rw [uy9, vL3] <;> repeat' with_reducible first | refine OLe.bind ?_ (fun _ => ?_) | refine OLe.ite ?_ ?_ | exact ih _ | exact OLe.refl _
def uN3 : Nat → wG4 → Option xP7
 | 0, _ => none
 | n + 1, .start op1 width2 value3 args4 B0 B1 =>
  uN3 n (.p116 op1 width2 value3 args4 (List.length args4 : Int) (0 : Int) B0 (0 : Int) (0 : Int) ([] : List Int) B1)
 | n + 1, .p116 op1 width2 value3 s14 s15 s16 B0 G0 G1 B3 B4 =>
  if (decide (s16 < s15)) = true then
   (idx s14 s16) >>= fun t1 =>
   if (fits (List.length B3) (List.length ([t1.node] : List Int)) 8) = true then
    uN3 n (.p116 op1 width2 value3 s14 s15 (IntKind.wrap .i64 (s16 + (1 : Int))) B0 G0 G1 (B3 ++ ([t1.node] : List Int)) B4)
   else none
  else
   if (fits (List.length ([] : List ua2)) (List.length ([(⟨op1, width2, B3, value3⟩ : ua2)] : List ua2)) 48) = true then
    some (((IntKind.wrap .i64 ((List.length (([] : List ua2) ++ ([(⟨op1, width2, B3, value3⟩ : ua2)] : List ua2)) : Int) - (1 : Int)), (width2, ())), ()), ((B0, ((), ((), ((), ((), ((), ((), ()))))))), (B4, (([] : List ua2) ++ ([(⟨op1, width2, B3, value3⟩ : ua2)] : List ua2), ()))))
   else none
theorem vF2 : ∀ (n : Nat) (p : wG4), OLe (uN3 n p) (uB5 p) := by
 intro n
 induction n with
 | zero => exact fun p r h => by cases h
 | succ n ih =>
  intro p
  cases p <;> rw [uB5, uN3] <;> repeat' with_reducible first | refine OLe.bind ?_ (fun _ => ?_) | refine OLe.ite ?_ ?_ | exact ih _ | exact OLe.refl _
def vm5 : Nat → wq7 → Option xL9
 | 0, _ => none
 | n + 1, .start name1 width2 init3 B0 =>
  if (fits (List.length ([] : List ua1)) (List.length ([(⟨name1, (0 : Int), width2, init3, (0 : Int)⟩ : ua1)] : List ua1)) 48) = true then
   (uN3 n (.start (1 : Int) width2 (0 : Int) ([]) B0 (([] : List ua1) ++ ([(⟨name1, (0 : Int), width2, init3, (0 : Int)⟩ : ua1)] : List ua1)))) >>= fun t1 =>
   some (((t1.1.1.1, (t1.1.1.2.1, ())), ()), ((t1.2.1.1, ((), ((), ((), ((), ((), ((), ()))))))), (t1.2.2.1, (t1.2.2.2.1, ()))))
  else none
theorem vD8 : ∀ (n : Nat) (p : wq7), OLe (vm5 n p) (u61 p) := by
 intro n
 induction n with
 | zero => exact fun p r h => by cases h
 | succ n ih =>
  intro p
  cases p <;> rw [u61, vm5] <;> repeat' with_reducible first | refine OLe.bind ?_ (fun _ => ?_) | refine OLe.ite ?_ ?_ | exact vF2 n _ | exact ih _ | exact OLe.refl _
def un6 : Nat → wE6 → Option xH6
 | 0, _ => none
 | n + 1, .start op1 width2 value3 args4 B0 B1 B2 =>
  un6 n (.p116 op1 width2 value3 args4 (List.length args4 : Int) (0 : Int) B0 (0 : Int) (0 : Int) ([] : List Int) B1 B2)
 | n + 1, .p116 op1 width2 value3 s14 s15 s16 B0 G0 G1 B3 B4 B5 =>
  if (decide (s16 < s15)) = true then
   (idx s14 s16) >>= fun t1 =>
   if (fits (List.length B3) (List.length ([t1.node] : List Int)) 8) = true then
    un6 n (.p116 op1 width2 value3 s14 s15 (IntKind.wrap .i64 (s16 + (1 : Int))) B0 G0 G1 (B3 ++ ([t1.node] : List Int)) B4 B5)
   else none
  else
   if (fits (List.length B5) (List.length ([(⟨op1, width2, B3, value3⟩ : ua2)] : List ua2)) 48) = true then
    some (((IntKind.wrap .i64 ((List.length (B5 ++ ([(⟨op1, width2, B3, value3⟩ : ua2)] : List ua2)) : Int) - (1 : Int)), (width2, ())), ()), ((B0, ((), ((), ((), ((), ((), ((), ()))))))), (B4, (B5 ++ ([(⟨op1, width2, B3, value3⟩ : ua2)] : List ua2), ()))))
   else none
theorem um5 : ∀ (n : Nat) (p : wE6), OLe (un6 n p) (un1 p) := by
 intro n
 induction n with
 | zero => exact fun p r h => by cases h
 | succ n ih =>
  intro p
  cases p <;> rw [un1, un6] <;> repeat' with_reducible first | refine OLe.bind ?_ (fun _ => ?_) | refine OLe.ite ?_ ?_ | exact ih _ | exact OLe.refl _
def uy5 : Nat → wt8 → Option xR7
 | 0, _ => none
 | n + 1, .start name1 width2 init3 B0 B1 B2 =>
  if (fits (List.length B1) (List.length ([(⟨name1, (0 : Int), width2, init3, (0 : Int)⟩ : ua1)] : List ua1)) 48) = true then
   (un6 n (.start (1 : Int) width2 (List.length B1 : Int) ([]) B0 (B1 ++ ([(⟨name1, (0 : Int), width2, init3, (0 : Int)⟩ : ua1)] : List ua1)) B2)) >>= fun t1 =>
   some (((t1.1.1.1, (t1.1.1.2.1, ())), ()), ((t1.2.1.1, ((), ((), ((), ((), ((), ((), ()))))))), (t1.2.2.1, (t1.2.2.2.1, ()))))
  else none
theorem vO3 : ∀ (n : Nat) (p : wt8), OLe (uy5 n p) (uu5 p) := by
 intro n
 induction n with
 | zero => exact fun p r h => by cases h
 | succ n ih =>
  intro p
  cases p <;> rw [uu5, uy5] <;> repeat' with_reducible first | refine OLe.bind ?_ (fun _ => ?_) | refine OLe.ite ?_ ?_ | exact um5 n _ | exact ih _ | exact OLe.refl _
def uT7 : Nat → ww0 → Option xQ7
 | 0, _ => none
 | n + 1, .start width1 value2 B0 B1 B2 =>
  (un6 n (.start (0 : Int) width1 value2 ([]) B0 B1 B2)) >>= fun t1 =>
  some (((t1.1.1.1, (t1.1.1.2.1, ())), ()), ((t1.2.1.1, ((), ((), ((), ((), ((), ((), ()))))))), (t1.2.2.1, (t1.2.2.2.1, ()))))
theorem u22 : ∀ (n : Nat) (p : ww0), OLe (uT7 n p) (uP4 p) := by
 intro n
 induction n with
 | zero => exact fun p r h => by cases h
 | succ n ih =>
  intro p
  cases p <;> rw [uP4, uT7] <;> repeat' with_reducible first | refine OLe.bind ?_ (fun _ => ?_) | refine OLe.ite ?_ ?_ | exact um5 n _ | exact ih _ | exact OLe.refl _
def ux8 : Nat → wH4 → Option xE0
 | 0, _ => none
 | n + 1, .start memory0 =>
  (vm5 n (.start (⟨#[112, 99]⟩ : ByteArray) (4 : Int) (0 : Int) (⟨#[112, 114, 111, 99, 101, 115, 115, 111, 114]⟩ : ByteArray))) >>= fun t1 =>
  (uy5 n (.start (⟨#[104, 97, 108, 116, 101, 100]⟩ : ByteArray) (1 : Int) (0 : Int) t1.2.1.1 t1.2.2.1 t1.2.2.2.1)) >>= fun t2 =>
  (uy5 n (.start (⟨#[118, 97, 108, 105, 100]⟩ : ByteArray) (1 : Int) (0 : Int) t2.2.1.1 t2.2.2.1 t2.2.2.2.1)) >>= fun t3 =>
  (uy5 n (.start (⟨#[99, 111, 100, 101]⟩ : ByteArray) (16 : Int) (0 : Int) t3.2.1.1 t3.2.2.1 t3.2.2.2.1)) >>= fun t4 =>
  ux8 n (.p2036 memory0 (0 : Int) (0 : Int) (0 : Int) (0 : Int) (0 : Int) (0 : Int) (0 : Int) (0 : Int) (0 : Int) (0 : Int) (0 : Int) t1.1.1.1 t1.1.1.2.1 t2.1.1.1 t2.1.1.2.1 t3.1.1.1 t3.1.1.2.1 t4.1.1.1 t4.1.1.2.1 (0 : Int) (0 : Int) t4.2.1.1 ([] : List ua0) t4.2.2.1 t4.2.2.2.1)
 | n + 1, .p2036 memory0 s27 C0 C1 C2 C3 C4 C5 C6 C7 C8 C9 D0 D1 D2 D3 D4 D5 D6 D7 D8 D9 B2 B3 B4 B5 =>
  if (decide (s27 < (4 : Int))) = true then
   (uH5 (s27, ()) ()) >>= fun t1 =>
   if (Nat.ble ((⟨#[114]⟩ : ByteArray).size + t1.1.1.size) 9223372036854775807) = true then
    (uy5 n (.start ((⟨#[114]⟩ : ByteArray) ++ t1.1.1) (8 : Int) (0 : Int) B2 B4 B5)) >>= fun t2 =>
    if (fits (List.length B3) (List.length ([(⟨t2.1.1.1, t2.1.1.2.1⟩ : ua0)] : List ua0)) 16) = true then
     ux8 n (.p2036 memory0 (IntKind.wrap .i64 (s27 + (1 : Int))) C0 C1 C2 C3 C4 C5 C6 C7 C8 C9 D0 D1 D2 D3 D4 D5 D6 D7 D8 D9 t2.2.1.1 (B3 ++ ([(⟨t2.1.1.1, t2.1.1.2.1⟩ : ua0)] : List ua0)) t2.2.2.1 t2.2.2.2.1)
    else none
   else none
  else
   ux8 n (.p4084 memory0 (List.length memory0 : Int) (0 : Int) C0 C1 C2 C3 C4 C5 C6 C7 C8 C9 D0 D1 D2 D3 D4 D5 D6 D7 D8 D9 B2 B3 ([] : List ua0) B4 B5)
 | n + 1, .p4084 s42 s43 s44 C0 C1 C2 C3 C4 C5 C6 C7 C8 C9 D0 D1 D2 D3 D4 D5 D6 D7 D8 D9 B2 B3 B4 B5 B6 =>
  if (decide (s44 < s43)) = true then
   (idx s42 s44) >>= fun t1 =>
   (uH5 (s44, ()) ()) >>= fun t2 =>
   if (Nat.ble ((⟨#[109]⟩ : ByteArray).size + t2.1.1.size) 9223372036854775807) = true then
    (uy5 n (.start ((⟨#[109]⟩ : ByteArray) ++ t2.1.1) (8 : Int) t1 B2 B5 B6)) >>= fun t3 =>
    if (fits (List.length B4) (List.length ([(⟨t3.1.1.1, t3.1.1.2.1⟩ : ua0)] : List ua0)) 16) = true then
     ux8 n (.p4084 s42 s43 (IntKind.wrap .i64 (s44 + (1 : Int))) C0 C1 C2 C3 C4 C5 C6 C7 C8 C9 D0 D1 D2 D3 D4 D5 D6 D7 D8 D9 t3.2.1.1 B3 (B4 ++ ([(⟨t3.1.1.1, t3.1.1.2.1⟩ : ua0)] : List ua0)) t3.2.2.1 t3.2.2.2.1)
    else none
   else none
  else
   (uT7 n (.start (1 : Int) (1 : Int) B2 B5 B6)) >>= fun t4 =>
   some ((((), (D0, (D1, (D2, (D3, (D4, (D5, (D6, (D7, ((), ((), (t4.1.1.1, (t4.1.1.2.1, ()))))))))))))), ()), ((t4.2.1.1, ((), ((), ((), ((), ((), ((), ()))))))), (B3, (B4, (t4.2.2.1, (t4.2.2.2.1, ()))))))
theorem vM1 : ∀ (n : Nat) (p : wH4), OLe (ux8 n p) (ur7 p) := by
 intro n
 induction n with
 | zero => exact fun p r h => by cases h
 | succ n ih =>
  intro p
  cases p <;> rw [ur7, ux8] <;> repeat' with_reducible first | refine OLe.bind ?_ (fun _ => ?_) | refine OLe.ite ?_ ?_ | exact vD8 n _ | exact vO3 n _ | exact u22 n _ | exact ih _ | exact OLe.refl _
def vm8 : Nat → wv6 → Option xO3
 | 0, _ => none
 | n + 1, .start c0_0 c0_1 c0_2 c0_3 =>
  if (decide ((0 : Int) ≤ (12 : Int))) = true then
   if (decide ((0 : Int) ≤ (10 : Int))) = true then
    if (decide ((0 : Int) ≤ (8 : Int))) = true then
     some ((bits .or .i64 (bits .or .i64 (bits .or .i64 (shl .i64 c0_0 (12 : Int)) (shl .i64 c0_1 (10 : Int))) (shl .i64 c0_2 (8 : Int))) c0_3, ()), ())
    else none
   else none
  else none
theorem vR8 : ∀ (n : Nat) (p : wv6), OLe (vm8 n p) (uA7 p) := by
 intro n
 induction n with
 | zero => exact fun p r h => by cases h
 | succ n ih =>
  intro p
  cases p <;> rw [uA7, vm8] <;> repeat' with_reducible first | refine OLe.bind ?_ (fun _ => ?_) | refine OLe.ite ?_ ?_ | exact ih _ | exact OLe.refl _
def uT9 : Nat → wo7 → Option xQ6
 | 0, _ => none
 | n + 1, .start x1_0 x1_1 B0 B1 B2 =>
  (un6 n (.start (2 : Int) x1_1 (0 : Int) ([(⟨x1_0, x1_1⟩ : ua0)] : List ua0) B0 B1 B2)) >>= fun t1 =>
  some (((t1.1.1.1, (t1.1.1.2.1, ())), ()), ((t1.2.1.1, ((), ((), ((), ((), ((), ((), ()))))))), (t1.2.2.1, (t1.2.2.2.1, ()))))
theorem vE0 : ∀ (n : Nat) (p : wo7), OLe (uT9 n p) (uR5 p) := by
 intro n
 induction n with
 | zero => exact fun p r h => by cases h
 | succ n ih =>
  intro p
  cases p <;> rw [uR5, uT9] <;> repeat' with_reducible first | refine OLe.bind ?_ (fun _ => ?_) | refine OLe.ite ?_ ?_ | exact um5 n _ | exact ih _ | exact OLe.refl _
def vo3 : Nat → wG7 → Option xF0
 | 0, _ => none
 | n + 1, .start x1_0 x1_1 y2_0 y2_1 B0 B1 B2 =>
  (un6 n (.start (3 : Int) x1_1 (0 : Int) ([(⟨x1_0, x1_1⟩ : ua0), (⟨y2_0, y2_1⟩ : ua0)] : List ua0) B0 B1 B2)) >>= fun t1 =>
  some (((t1.1.1.1, (t1.1.1.2.1, ())), ()), ((t1.2.1.1, ((), ((), ((), ((), ((), ((), ()))))))), (t1.2.2.1, (t1.2.2.2.1, ()))))
theorem vR2 : ∀ (n : Nat) (p : wG7), OLe (vo3 n p) (uZ3 p) := by
 intro n
 induction n with
 | zero => exact fun p r h => by cases h
 | succ n ih =>
  intro p
  cases p <;> rw [uZ3, vo3] <;> repeat' with_reducible first | refine OLe.bind ?_ (fun _ => ?_) | refine OLe.ite ?_ ?_ | exact um5 n _ | exact ih _ | exact OLe.refl _
def vg9 : Nat → wk7 → Option xP6
 | 0, _ => none
 | n + 1, .start x1_0 x1_1 low2 width3 B0 B1 B2 =>
  (un6 n (.start (14 : Int) width3 low2 ([(⟨x1_0, x1_1⟩ : ua0)] : List ua0) B0 B1 B2)) >>= fun t1 =>
  some (((t1.1.1.1, (t1.1.1.2.1, ())), ()), ((t1.2.1.1, ((), ((), ((), ((), ((), ((), ()))))))), (t1.2.2.1, (t1.2.2.2.1, ()))))
theorem vV8 : ∀ (n : Nat) (p : wk7), OLe (vg9 n p) (u12 p) := by
 intro n
 induction n with
 | zero => exact fun p r h => by cases h
 | succ n ih =>
  intro p
  cases p <;> rw [u12, vg9] <;> repeat' with_reducible first | refine OLe.bind ?_ (fun _ => ?_) | refine OLe.ite ?_ ?_ | exact um5 n _ | exact ih _ | exact OLe.refl _
def vo7 : Nat → ww8 → Option xL6
 | 0, _ => none
 | n + 1, .start c1_0 c1_1 x2_0 x2_1 y3_0 y3_1 B0 B1 B2 =>
  (un6 n (.start (12 : Int) x2_1 (0 : Int) ([(⟨c1_0, c1_1⟩ : ua0), (⟨x2_0, x2_1⟩ : ua0), (⟨y3_0, y3_1⟩ : ua0)] : List ua0) B0 B1 B2)) >>= fun t1 =>
  some (((t1.1.1.1, (t1.1.1.2.1, ())), ()), ((t1.2.1.1, ((), ((), ((), ((), ((), ((), ()))))))), (t1.2.2.1, (t1.2.2.2.1, ()))))
theorem vN8 : ∀ (n : Nat) (p : ww8), OLe (vo7 n p) (u05 p) := by
 intro n
 induction n with
 | zero => exact fun p r h => by cases h
 | succ n ih =>
  intro p
  cases p <;> rw [u05, vo7] <;> repeat' with_reducible first | refine OLe.bind ?_ (fun _ => ?_) | refine OLe.ite ?_ ?_ | exact um5 n _ | exact ih _ | exact OLe.refl _
def uv3 : Nat → wz3 → Option xM1
 | 0, _ => none
 | n + 1, .start l1 number2_0 number2_1 B0 B1 B2 =>
  uv3 n (.p52 l1 (0 : Int) B0 number2_0 number2_1 (0 : Int) (0 : Int) B1 B2)
 | n + 1, .p52 l1 bit7 B0 G0 G1 H0 H1 B4 B5 =>
  if (decide ((List.length l1 : Int) > (1 : Int))) = true then
   (vg9 n (.start G0 G1 bit7 (1 : Int) B0 B4 B5)) >>= fun t1 =>
   uv3 n (.p26932 l1 bit7 (0 : Int) t1.2.1.1 G0 G1 H0 H1 t1.1.1.1 t1.1.1.2.1 ([] : List ua0) t1.2.2.1 t1.2.2.2.1)
  else
   (idx l1 (0 : Int)) >>= fun t2 =>
   some (((t2.node, (t2.width, ())), ()), ((B0, ((), ((), ((), ((), ((), ((), ()))))))), (B4, (B5, ()))))
 | n + 1, .p26932 l1 bit7 i10 B0 G0 G1 H0 H1 J0 J1 B5 B6 B7 =>
  if (decide (i10 < (List.length l1 : Int))) = true then
   (idx l1 (IntKind.wrap .i64 (i10 + (1 : Int)))) >>= fun t1 =>
   (idx l1 i10) >>= fun t2 =>
   (vo7 n (.start J0 J1 t1.node t1.width t2.node t2.width B0 B6 B7)) >>= fun t3 =>
   if (fits (List.length B5) (List.length ([(⟨t3.1.1.1, t3.1.1.2.1⟩ : ua0)] : List ua0)) 16) = true then
    uv3 n (.p26932 l1 bit7 (IntKind.wrap .i64 (i10 + (2 : Int))) t3.2.1.1 G0 G1 H0 H1 J0 J1 (B5 ++ ([(⟨t3.1.1.1, t3.1.1.2.1⟩ : ua0)] : List ua0)) t3.2.2.1 t3.2.2.2.1)
   else none
  else
   uv3 n (.p52 B5 (IntKind.wrap .i64 (bit7 + (1 : Int))) B0 G0 G1 H0 H1 B6 B7)
theorem vP3 : ∀ (n : Nat) (p : wz3), OLe (uv3 n p) (ut2 p) := by
 intro n
 induction n with
 | zero => exact fun p r h => by cases h
 | succ n ih =>
  intro p
  cases p <;> rw [ut2, uv3] <;> repeat' with_reducible first | refine OLe.bind ?_ (fun _ => ?_) | refine OLe.ite ?_ ?_ | exact vV8 n _ | exact vN8 n _ | exact ih _ | exact OLe.refl _
def up9 : Nat → wF5 → Option xE9
 | 0, _ => none
 | n + 1, .start element0 when1_0 when1_1 value2_0 value2_1 =>
  some (((element0, (when1_0, (value2_0, ()))), ()), ())
theorem uZ6 : ∀ (n : Nat) (p : wF5), OLe (up9 n p) (uq8 p) := by
 intro n
 induction n with
 | zero => exact fun p r h => by cases h
 | succ n ih =>
  intro p
  cases p <;> rw [uq8, up9] <;> repeat' with_reducible first | refine OLe.bind ?_ (fun _ => ?_) | refine OLe.ite ?_ ?_ | exact ih _ | exact OLe.refl _
def vh4 : Nat → wz9 → Option xR5
 | 0, _ => none
 | n + 1, .start name1 guard2_0 guard2_1 writes3 B0 B1 B2 =>
  if (fits (List.length ([] : List ua5)) (List.length ([(⟨name1, guard2_0, writes3⟩ : ua5)] : List ua5)) 48) = true then
   some ((), ((B0, ((), ((), ((), ((), ((), ((), ()))))))), (B1, (B2, (([] : List ua5) ++ ([(⟨name1, guard2_0, writes3⟩ : ua5)] : List ua5), ())))))
  else none
theorem vJ9 : ∀ (n : Nat) (p : wz9), OLe (vh4 n p) (u52 p) := by
 intro n
 induction n with
 | zero => exact fun p r h => by cases h
 | succ n ih =>
  intro p
  cases p <;> rw [u52, vh4] <;> repeat' with_reducible first | refine OLe.bind ?_ (fun _ => ?_) | refine OLe.ite ?_ ?_ | exact ih _ | exact OLe.refl _
def uc8 : Nat → wA0 → Option xJ1
 | 0, _ => none
 | n + 1, .start p0_0 p0_1 p0_2 p0_3 p0_4 p0_5 p0_6 p0_7 p0_8 p0_9 p0_10 p0_11 l1 B0 B1 B2 =>
  uc8 n (.p116 l1 (0 : Int) B0 p0_0 p0_1 p0_2 p0_3 p0_4 p0_5 p0_6 p0_7 p0_8 p0_9 p0_10 p0_11 ([] : List ua0) B1 B2)
 | n + 1, .p116 l1 s7 B0 D0 D1 D2 D3 D4 D5 D6 D7 D8 D9 D10 D11 B2 B3 B4 =>
  if (decide (s7 < (16 : Int))) = true then
   if (decide (s7 < (List.length l1 : Int))) = true then
    (idx l1 s7) >>= fun t1 =>
    (vm8 n (.start t1.Op t1.A t1.B t1.N)) >>= fun t2 =>
    uc8 n (.p14951 l1 t2.1.1 s7 B0 D0 D1 D2 D3 D4 D5 D6 D7 D8 D9 D10 D11 B2 B3 B4)
   else
    uc8 n (.p14951 l1 (0 : Int) s7 B0 D0 D1 D2 D3 D4 D5 D6 D7 D8 D9 D10 D11 B2 B3 B4)
  else
   (uT9 n (.start D4 D5 B0 B3 B4)) >>= fun t3 =>
   (uT9 n (.start D2 D3 t3.2.1.1 t3.2.2.1 t3.2.2.2.1)) >>= fun t4 =>
   (vo3 n (.start t3.1.1.1 t3.1.1.2.1 t4.1.1.1 t4.1.1.2.1 t4.2.1.1 t4.2.2.1 t4.2.2.2.1)) >>= fun t5 =>
   (uv3 n (.start B2 D0 D1 t5.2.1.1 t5.2.2.1 t5.2.2.2.1)) >>= fun t6 =>
   (up9 n (.start (3 : Int) D10 D11 t6.1.1.1 t6.1.1.2.1)) >>= fun t7 =>
   (up9 n (.start (2 : Int) D10 D11 D10 D11)) >>= fun t8 =>
   (vh4 n (.start (⟨#[102, 101, 116, 99, 104]⟩ : ByteArray) t5.1.1.1 t5.1.1.2.1 ([(⟨t7.1.1.1, t7.1.1.2.1, t7.1.1.2.2.1⟩ : ub4), (⟨t8.1.1.1, t8.1.1.2.1, t8.1.1.2.2.1⟩ : ub4)] : List ub4) t6.2.1.1 t6.2.2.1 t6.2.2.2.1)) >>= fun t9 =>
   some ((), ((t9.2.1.1, ((), ((), ((), ((), ((), ((), ()))))))), (t9.2.2.1, (t9.2.2.2.1, (t9.2.2.2.2.1, ())))))
 | n + 1, .p14951 l1 word6 s7 B0 D0 D1 D2 D3 D4 D5 D6 D7 D8 D9 D10 D11 B2 B3 B4 =>
  (uT7 n (.start (16 : Int) word6 B0 B3 B4)) >>= fun t1 =>
  if (fits (List.length B2) (List.length ([(⟨t1.1.1.1, t1.1.1.2.1⟩ : ua0)] : List ua0)) 16) = true then
   uc8 n (.p116 l1 (IntKind.wrap .i64 (s7 + (1 : Int))) t1.2.1.1 D0 D1 D2 D3 D4 D5 D6 D7 D8 D9 D10 D11 (B2 ++ ([(⟨t1.1.1.1, t1.1.1.2.1⟩ : ua0)] : List ua0)) t1.2.2.1 t1.2.2.2.1)
  else none
theorem vI7 : ∀ (n : Nat) (p : wA0), OLe (uc8 n p) (us7 p) := by
 intro n
 induction n with
 | zero => exact fun p r h => by cases h
 | succ n ih =>
  intro p
  cases p <;> rw [us7, uc8] <;> repeat' with_reducible first | refine OLe.bind ?_ (fun _ => ?_) | refine OLe.ite ?_ ?_ | exact u22 n _ | exact vR8 n _ | exact vE0 n _ | exact vR2 n _ | exact vP3 n _ | exact uZ6 n _ | exact vJ9 n _ | exact ih _ | exact OLe.refl _
def uh2 : Nat → wl9 → Option xL5
 | 0, _ => none
 | n + 1, .start op1 width2 value3 args4 B0 B1 B2 B3 =>
  uh2 n (.p116 op1 width2 value3 args4 (List.length args4 : Int) (0 : Int) B0 (0 : Int) (0 : Int) ([] : List Int) B1 B2 B3)
 | n + 1, .p116 op1 width2 value3 s14 s15 s16 B0 G0 G1 B3 B4 B5 B6 =>
  if (decide (s16 < s15)) = true then
   (idx s14 s16) >>= fun t1 =>
   if (fits (List.length B3) (List.length ([t1.node] : List Int)) 8) = true then
    uh2 n (.p116 op1 width2 value3 s14 s15 (IntKind.wrap .i64 (s16 + (1 : Int))) B0 G0 G1 (B3 ++ ([t1.node] : List Int)) B4 B5 B6)
   else none
  else
   if (fits (List.length B5) (List.length ([(⟨op1, width2, B3, value3⟩ : ua2)] : List ua2)) 48) = true then
    some (((IntKind.wrap .i64 ((List.length (B5 ++ ([(⟨op1, width2, B3, value3⟩ : ua2)] : List ua2)) : Int) - (1 : Int)), (width2, ())), ()), ((B0, ((), ((), ((), ((), ((), ((), ()))))))), (B4, (B5 ++ ([(⟨op1, width2, B3, value3⟩ : ua2)] : List ua2), (B6, ())))))
   else none
theorem ui3 : ∀ (n : Nat) (p : wl9), OLe (uh2 n p) (uh9 p) := by
 intro n
 induction n with
 | zero => exact fun p r h => by cases h
 | succ n ih =>
  intro p
  cases p <;> rw [uh9, uh2] <;> repeat' with_reducible first | refine OLe.bind ?_ (fun _ => ?_) | refine OLe.ite ?_ ?_ | exact ih _ | exact OLe.refl _
def up3 : Nat → wH0 → Option xI3
 | 0, _ => none
 | n + 1, .start x1_0 x1_1 low2 width3 B0 B1 B2 B3 =>
  (uh2 n (.start (14 : Int) width3 low2 ([(⟨x1_0, x1_1⟩ : ua0)] : List ua0) B0 B1 B2 B3)) >>= fun t1 =>
  some (((t1.1.1.1, (t1.1.1.2.1, ())), ()), ((t1.2.1.1, ((), ((), ((), ((), ((), ((), ()))))))), (t1.2.2.1, (t1.2.2.2.1, (t1.2.2.2.2.1, ())))))
theorem u98 : ∀ (n : Nat) (p : wH0), OLe (up3 n p) (uq9 p) := by
 intro n
 induction n with
 | zero => exact fun p r h => by cases h
 | succ n ih =>
  intro p
  cases p <;> rw [uq9, up3] <;> repeat' with_reducible first | refine OLe.bind ?_ (fun _ => ?_) | refine OLe.ite ?_ ?_ | exact ui3 n _ | exact ih _ | exact OLe.refl _
def uN4 : Nat → wH8 → Option xH0
 | 0, _ => none
 | n + 1, .start c1_0 c1_1 x2_0 x2_1 y3_0 y3_1 B0 B1 B2 B3 =>
  (uh2 n (.start (12 : Int) x2_1 (0 : Int) ([(⟨c1_0, c1_1⟩ : ua0), (⟨x2_0, x2_1⟩ : ua0), (⟨y3_0, y3_1⟩ : ua0)] : List ua0) B0 B1 B2 B3)) >>= fun t1 =>
  some (((t1.1.1.1, (t1.1.1.2.1, ())), ()), ((t1.2.1.1, ((), ((), ((), ((), ((), ((), ()))))))), (t1.2.2.1, (t1.2.2.2.1, (t1.2.2.2.2.1, ())))))
theorem u85 : ∀ (n : Nat) (p : wH8), OLe (uN4 n p) (uE8 p) := by
 intro n
 induction n with
 | zero => exact fun p r h => by cases h
 | succ n ih =>
  intro p
  cases p <;> rw [uE8, uN4] <;> repeat' with_reducible first | refine OLe.bind ?_ (fun _ => ?_) | refine OLe.ite ?_ ?_ | exact ui3 n _ | exact ih _ | exact OLe.refl _
def up4 : Nat → wr0 → Option xQ4
 | 0, _ => none
 | n + 1, .start l1 number2_0 number2_1 B0 B1 B2 B3 =>
  up4 n (.p52 l1 (0 : Int) B0 number2_0 number2_1 (0 : Int) (0 : Int) B1 B2 B3)
 | n + 1, .p52 l1 bit7 B0 G0 G1 H0 H1 B4 B5 B6 =>
  if (decide ((List.length l1 : Int) > (1 : Int))) = true then
   (up3 n (.start G0 G1 bit7 (1 : Int) B0 B4 B5 B6)) >>= fun t1 =>
   up4 n (.p26932 l1 bit7 (0 : Int) t1.2.1.1 G0 G1 H0 H1 t1.1.1.1 t1.1.1.2.1 ([] : List ua0) t1.2.2.1 t1.2.2.2.1 t1.2.2.2.2.1)
  else
   (idx l1 (0 : Int)) >>= fun t2 =>
   some (((t2.node, (t2.width, ())), ()), ((B0, ((), ((), ((), ((), ((), ((), ()))))))), (B4, (B5, (B6, ())))))
 | n + 1, .p26932 l1 bit7 i10 B0 G0 G1 H0 H1 J0 J1 B5 B6 B7 B8 =>
  if (decide (i10 < (List.length l1 : Int))) = true then
   (idx l1 (IntKind.wrap .i64 (i10 + (1 : Int)))) >>= fun t1 =>
   (idx l1 i10) >>= fun t2 =>
   (uN4 n (.start J0 J1 t1.node t1.width t2.node t2.width B0 B6 B7 B8)) >>= fun t3 =>
   if (fits (List.length B5) (List.length ([(⟨t3.1.1.1, t3.1.1.2.1⟩ : ua0)] : List ua0)) 16) = true then
    up4 n (.p26932 l1 bit7 (IntKind.wrap .i64 (i10 + (2 : Int))) t3.2.1.1 G0 G1 H0 H1 J0 J1 (B5 ++ ([(⟨t3.1.1.1, t3.1.1.2.1⟩ : ua0)] : List ua0)) t3.2.2.1 t3.2.2.2.1 t3.2.2.2.2.1)
   else none
  else
   up4 n (.p52 B5 (IntKind.wrap .i64 (bit7 + (1 : Int))) B0 G0 G1 H0 H1 B6 B7 B8)
theorem vO8 : ∀ (n : Nat) (p : wr0), OLe (up4 n p) (uo4 p) := by
 intro n
 induction n with
 | zero => exact fun p r h => by cases h
 | succ n ih =>
  intro p
  cases p <;> rw [uo4, up4] <;> repeat' with_reducible first | refine OLe.bind ?_ (fun _ => ?_) | refine OLe.ite ?_ ?_ | exact u98 n _ | exact u85 n _ | exact ih _ | exact OLe.refl _
def uC0 : Nat → wI1 → Option xL2
 | 0, _ => none
 | n + 1, .start x1_0 x1_1 y2_0 y2_1 B0 B1 B2 B3 =>
  (uh2 n (.start (3 : Int) x1_1 (0 : Int) ([(⟨x1_0, x1_1⟩ : ua0), (⟨y2_0, y2_1⟩ : ua0)] : List ua0) B0 B1 B2 B3)) >>= fun t1 =>
  some (((t1.1.1.1, (t1.1.1.2.1, ())), ()), ((t1.2.1.1, ((), ((), ((), ((), ((), ((), ()))))))), (t1.2.2.1, (t1.2.2.2.1, (t1.2.2.2.2.1, ())))))
theorem vW1 : ∀ (n : Nat) (p : wI1), OLe (uC0 n p) (uA0 p) := by
 intro n
 induction n with
 | zero => exact fun p r h => by cases h
 | succ n ih =>
  intro p
  cases p <;> rw [uA0, uC0] <;> repeat' with_reducible first | refine OLe.bind ?_ (fun _ => ?_) | refine OLe.ite ?_ ?_ | exact ui3 n _ | exact ih _ | exact OLe.refl _
def uC7 : Nat → wl6 → Option xN4
 | 0, _ => none
 | n + 1, .start width1 value2 B0 B1 B2 B3 =>
  (uh2 n (.start (0 : Int) width1 value2 ([]) B0 B1 B2 B3)) >>= fun t1 =>
  some (((t1.1.1.1, (t1.1.1.2.1, ())), ()), ((t1.2.1.1, ((), ((), ((), ((), ((), ((), ()))))))), (t1.2.2.1, (t1.2.2.2.1, (t1.2.2.2.2.1, ())))))
theorem uY0 : ∀ (n : Nat) (p : wl6), OLe (uC7 n p) (uB2 p) := by
 intro n
 induction n with
 | zero => exact fun p r h => by cases h
 | succ n ih =>
  intro p
  cases p <;> rw [uB2, uC7] <;> repeat' with_reducible first | refine OLe.bind ?_ (fun _ => ?_) | refine OLe.ite ?_ ?_ | exact ui3 n _ | exact ih _ | exact OLe.refl _
def un5 : Nat → wk2 → Option xE2
 | 0, _ => none
 | n + 1, .start x1_0 x1_1 value2 B0 B1 B2 B3 =>
  (uC7 n (.start x1_1 value2 B0 B1 B2 B3)) >>= fun t1 =>
  (uh2 n (.start (9 : Int) (1 : Int) (0 : Int) ([(⟨x1_0, x1_1⟩ : ua0), (⟨t1.1.1.1, t1.1.1.2.1⟩ : ua0)] : List ua0) t1.2.1.1 t1.2.2.1 t1.2.2.2.1 t1.2.2.2.2.1)) >>= fun t2 =>
  some (((t2.1.1.1, (t2.1.1.2.1, ())), ()), ((t2.2.1.1, ((), ((), ((), ((), ((), ((), ()))))))), (t2.2.2.1, (t2.2.2.2.1, (t2.2.2.2.2.1, ())))))
theorem vU0 : ∀ (n : Nat) (p : wk2), OLe (un5 n p) (up0 p) := by
 intro n
 induction n with
 | zero => exact fun p r h => by cases h
 | succ n ih =>
  intro p
  cases p <;> rw [up0, un5] <;> repeat' with_reducible first | refine OLe.bind ?_ (fun _ => ?_) | refine OLe.ite ?_ ?_ | exact ui3 n _ | exact uY0 n _ | exact ih _ | exact OLe.refl _
def uU1 : Nat → wG2 → Option xP1
 | 0, _ => none
 | n + 1, .start x1_0 x1_1 y2_0 y2_1 B0 B1 B2 B3 =>
  (uh2 n (.start (4 : Int) x1_1 (0 : Int) ([(⟨x1_0, x1_1⟩ : ua0), (⟨y2_0, y2_1⟩ : ua0)] : List ua0) B0 B1 B2 B3)) >>= fun t1 =>
  some (((t1.1.1.1, (t1.1.1.2.1, ())), ()), ((t1.2.1.1, ((), ((), ((), ((), ((), ((), ()))))))), (t1.2.2.1, (t1.2.2.2.1, (t1.2.2.2.2.1, ())))))
theorem vF4 : ∀ (n : Nat) (p : wG2), OLe (uU1 n p) (uP7 p) := by
 intro n
 induction n with
 | zero => exact fun p r h => by cases h
 | succ n ih =>
  intro p
  cases p <;> rw [uP7, uU1] <;> repeat' with_reducible first | refine OLe.bind ?_ (fun _ => ?_) | refine OLe.ite ?_ ?_ | exact ui3 n _ | exact ih _ | exact OLe.refl _
def vn8 : Nat → wv5 → Option xI2
 | 0, _ => none
 | n + 1, .start x1_0 x1_1 B0 B1 B2 B3 =>
  (uh2 n (.start (2 : Int) x1_1 (0 : Int) ([(⟨x1_0, x1_1⟩ : ua0)] : List ua0) B0 B1 B2 B3)) >>= fun t1 =>
  some (((t1.1.1.1, (t1.1.1.2.1, ())), ()), ((t1.2.1.1, ((), ((), ((), ((), ((), ((), ()))))))), (t1.2.2.1, (t1.2.2.2.1, (t1.2.2.2.2.1, ())))))
theorem vT6 : ∀ (n : Nat) (p : wv5), OLe (vn8 n p) (uY3 p) := by
 intro n
 induction n with
 | zero => exact fun p r h => by cases h
 | succ n ih =>
  intro p
  cases p <;> rw [uY3, vn8] <;> repeat' with_reducible first | refine OLe.bind ?_ (fun _ => ?_) | refine OLe.ite ?_ ?_ | exact ui3 n _ | exact ih _ | exact OLe.refl _
def vk2 : Nat → wp4 → Option xR9
 | 0, _ => none
 | n + 1, .start name1 guard2_0 guard2_1 writes3 B0 B1 B2 B3 =>
  if (fits (List.length B3) (List.length ([(⟨name1, guard2_0, writes3⟩ : ua5)] : List ua5)) 48) = true then
   some ((), ((B0, ((), ((), ((), ((), ((), ((), ()))))))), (B1, (B2, (B3 ++ ([(⟨name1, guard2_0, writes3⟩ : ua5)] : List ua5), ())))))
  else none
theorem vR1 : ∀ (n : Nat) (p : wp4), OLe (vk2 n p) (u38 p) := by
 intro n
 induction n with
 | zero => exact fun p r h => by cases h
 | succ n ih =>
  intro p
  cases p <;> rw [u38, vk2] <;> repeat' with_reducible first | refine OLe.bind ?_ (fun _ => ?_) | refine OLe.ite ?_ ?_ | exact ih _ | exact OLe.refl _
def un4 : Nat → wD8 → Option xO8
 | 0, _ => none
 | n + 1, .start p0_0 p0_1 p0_2 p0_3 p0_4 p0_5 p0_6 p0_7 p0_8 p0_9 p0_10 p0_11 B0 B1 B2 B3 =>
  (up3 n (.start p0_6 p0_7 (12 : Int) (4 : Int) B0 B1 B2 B3)) >>= fun t1 =>
  (up3 n (.start p0_6 p0_7 (0 : Int) (8 : Int) t1.2.1.1 t1.2.2.1 t1.2.2.2.1 t1.2.2.2.2.1)) >>= fun t2 =>
  (up3 n (.start p0_6 p0_7 (10 : Int) (2 : Int) t2.2.1.1 t2.2.2.1 t2.2.2.2.1 t2.2.2.2.2.1)) >>= fun t3 =>
  (up3 n (.start p0_6 p0_7 (8 : Int) (2 : Int) t3.2.1.1 t3.2.2.1 t3.2.2.2.1 t3.2.2.2.2.1)) >>= fun t4 =>
  (up4 n (.start p0_8 t3.1.1.1 t3.1.1.2.1 t4.2.1.1 t4.2.2.1 t4.2.2.2.1 t4.2.2.2.2.1)) >>= fun t5 =>
  (up4 n (.start p0_8 t4.1.1.1 t4.1.1.2.1 t5.2.1.1 t5.2.2.1 t5.2.2.2.1 t5.2.2.2.2.1)) >>= fun t6 =>
  (up3 n (.start t6.1.1.1 t6.1.1.2.1 (0 : Int) (3 : Int) t6.2.1.1 t6.2.2.1 t6.2.2.2.1 t6.2.2.2.2.1)) >>= fun t7 =>
  (uh2 n (.start (6 : Int) (8 : Int) (0 : Int) ([(⟨t5.1.1.1, t5.1.1.2.1⟩ : ua0), (⟨t6.1.1.1, t6.1.1.2.1⟩ : ua0)] : List ua0) t7.2.1.1 t7.2.2.1 t7.2.2.2.1 t7.2.2.2.2.1)) >>= fun t8 =>
  (uh2 n (.start (7 : Int) (8 : Int) (0 : Int) ([(⟨t5.1.1.1, t5.1.1.2.1⟩ : ua0), (⟨t6.1.1.1, t6.1.1.2.1⟩ : ua0)] : List ua0) t8.2.1.1 t8.2.2.1 t8.2.2.2.1 t8.2.2.2.2.1)) >>= fun t9 =>
  (uC0 n (.start t5.1.1.1 t5.1.1.2.1 t6.1.1.1 t6.1.1.2.1 t9.2.1.1 t9.2.2.1 t9.2.2.2.1 t9.2.2.2.2.1)) >>= fun t10 =>
  (up4 n (.start p0_9 t7.1.1.1 t7.1.1.2.1 t10.2.1.1 t10.2.2.1 t10.2.2.2.1 t10.2.2.2.2.1)) >>= fun t11 =>
  (uC7 n (.start (1 : Int) (0 : Int) t11.2.1.1 t11.2.2.1 t11.2.2.2.1 t11.2.2.2.2.1)) >>= fun t12 =>
  un4 n (.p4084 (0 : Int) t12.2.1.1 p0_0 p0_1 p0_2 p0_3 p0_4 p0_5 p0_6 p0_7 p0_8 p0_9 p0_10 p0_11 t1.1.1.1 t1.1.1.2.1 t2.1.1.1 t2.1.1.2.1 t3.1.1.1 t3.1.1.2.1 t5.1.1.1 t5.1.1.2.1 t7.1.1.1 t7.1.1.2.1 ([((1 : Int), (⟨t2.1.1.1, t2.1.1.2.1⟩ : ua0)), ((2 : Int), (⟨t6.1.1.1, t6.1.1.2.1⟩ : ua0)), ((3 : Int), (⟨t8.1.1.1, t8.1.1.2.1⟩ : ua0)), ((4 : Int), (⟨t9.1.1.1, t9.1.1.2.1⟩ : ua0)), ((5 : Int), (⟨t10.1.1.1, t10.1.1.2.1⟩ : ua0)), ((6 : Int), (⟨t11.1.1.1, t11.1.1.2.1⟩ : ua0))] : List (Int × ua0)) t5.1.1.1 t5.1.1.2.1 t12.1.1.1 t12.1.1.2.1 t12.2.2.1 t12.2.2.2.1 t12.2.2.2.2.1)
 | n + 1, .p4084 s90 B0 D0 D1 D2 D3 D4 D5 D6 D7 D8 D9 D10 D11 G0 G1 H0 H1 J0 J1 K0 K1 L0 L1 B7 N0 N1 Q0 Q1 B10 B11 B12 =>
  if (decide (s90 < (10 : Int))) = true then
   if (Option.isSome (aget ieq B7 s90)) = true then
    (un5 n (.start G0 G1 s90 B0 B10 B11 B12)) >>= fun t1 =>
    (uN4 n (.start t1.1.1.1 t1.1.1.2.1 ((Option.getD (aget ieq B7 s90) (⟨(0 : Int), (0 : Int)⟩ : ua0)).node) ((Option.getD (aget ieq B7 s90) (⟨(0 : Int), (0 : Int)⟩ : ua0)).width) N0 N1 t1.2.1.1 t1.2.2.1 t1.2.2.2.1 t1.2.2.2.2.1)) >>= fun t2 =>
    (uU1 n (.start Q0 Q1 t1.1.1.1 t1.1.1.2.1 t2.2.1.1 t2.2.2.1 t2.2.2.2.1 t2.2.2.2.2.1)) >>= fun t3 =>
    un4 n (.p4084 (IntKind.wrap .i64 (s90 + (1 : Int))) t3.2.1.1 D0 D1 D2 D3 D4 D5 D6 D7 D8 D9 D10 D11 G0 G1 H0 H1 J0 J1 K0 K1 L0 L1 B7 t2.1.1.1 t2.1.1.2.1 t3.1.1.1 t3.1.1.2.1 t3.2.2.1 t3.2.2.2.1 t3.2.2.2.2.1)
   else
    un4 n (.p4084 (IntKind.wrap .i64 (s90 + (1 : Int))) B0 D0 D1 D2 D3 D4 D5 D6 D7 D8 D9 D10 D11 G0 G1 H0 H1 J0 J1 K0 K1 L0 L1 B7 N0 N1 Q0 Q1 B10 B11 B12)
  else
   (un5 n (.start G0 G1 (0 : Int) B0 B10 B11 B12)) >>= fun t4 =>
   (un5 n (.start G0 G1 (8 : Int) t4.2.1.1 t4.2.2.1 t4.2.2.2.1 t4.2.2.2.2.1)) >>= fun t5 =>
   (un5 n (.start G0 G1 (9 : Int) t5.2.1.1 t5.2.2.1 t5.2.2.2.1 t5.2.2.2.2.1)) >>= fun t6 =>
   (un5 n (.start K0 K1 (0 : Int) t6.2.1.1 t6.2.2.1 t6.2.2.2.1 t6.2.2.2.2.1)) >>= fun t7 =>
   (uC0 n (.start t6.1.1.1 t6.1.1.2.1 t7.1.1.1 t7.1.1.2.1 t7.2.1.1 t7.2.2.1 t7.2.2.2.1 t7.2.2.2.2.1)) >>= fun t8 =>
   (uU1 n (.start t5.1.1.1 t5.1.1.2.1 t8.1.1.1 t8.1.1.2.1 t8.2.1.1 t8.2.2.1 t8.2.2.2.1 t8.2.2.2.2.1)) >>= fun t9 =>
   (uC7 n (.start (4 : Int) (1 : Int) t9.2.1.1 t9.2.2.1 t9.2.2.2.1 t9.2.2.2.2.1)) >>= fun t10 =>
   (uh2 n (.start (6 : Int) (4 : Int) (0 : Int) ([(⟨D0, D1⟩ : ua0), (⟨t10.1.1.1, t10.1.1.2.1⟩ : ua0)] : List ua0) t10.2.1.1 t10.2.2.1 t10.2.2.2.1 t10.2.2.2.2.1)) >>= fun t11 =>
   (up3 n (.start H0 H1 (0 : Int) (4 : Int) t11.2.1.1 t11.2.2.1 t11.2.2.2.1 t11.2.2.2.2.1)) >>= fun t12 =>
   (uN4 n (.start t9.1.1.1 t9.1.1.2.1 t12.1.1.1 t12.1.1.2.1 t11.1.1.1 t11.1.1.2.1 t12.2.1.1 t12.2.2.1 t12.2.2.2.1 t12.2.2.2.2.1)) >>= fun t13 =>
   (vn8 n (.start t4.1.1.1 t4.1.1.2.1 t13.2.1.1 t13.2.2.1 t13.2.2.2.1 t13.2.2.2.2.1)) >>= fun t14 =>
   (up9 n (.start (0 : Int) t14.1.1.1 t14.1.1.2.1 t13.1.1.1 t13.1.1.2.1)) >>= fun t15 =>
   (up9 n (.start (1 : Int) t4.1.1.1 t4.1.1.2.1 D10 D11)) >>= fun t16 =>
   (uC7 n (.start (1 : Int) (0 : Int) t14.2.1.1 t14.2.2.1 t14.2.2.2.1 t14.2.2.2.2.1)) >>= fun t17 =>
   (up9 n (.start (2 : Int) D10 D11 t17.1.1.1 t17.1.1.2.1)) >>= fun t18 =>
   un4 n (.p262132 (List.length D8 : Int) (0 : Int) t17.2.1.1 D0 D1 D2 D3 D4 D5 D6 D7 D8 D9 D10 D11 G0 G1 J0 J1 K0 K1 L0 L1 N0 N1 Q0 Q1 ([(⟨t15.1.1.1, t15.1.1.2.1, t15.1.1.2.2.1⟩ : ub4), (⟨t16.1.1.1, t16.1.1.2.1, t16.1.1.2.2.1⟩ : ub4), (⟨t18.1.1.1, t18.1.1.2.1, t18.1.1.2.2.1⟩ : ub4)] : List ub4) t17.2.2.1 t17.2.2.2.1 t17.2.2.2.2.1)
 | n + 1, .p262132 s176 s177 B0 D0 D1 D2 D3 D4 D5 D6 D7 D8 D9 D10 D11 G0 G1 H0 H1 J0 J1 K0 K1 L0 L1 M0 M1 B8 B9 B10 B11 =>
  if (decide (s177 < s176)) = true then
   (un5 n (.start H0 H1 s177 B0 B9 B10 B11)) >>= fun t1 =>
   (uC0 n (.start M0 M1 t1.1.1.1 t1.1.1.2.1 t1.2.1.1 t1.2.2.1 t1.2.2.2.1 t1.2.2.2.2.1)) >>= fun t2 =>
   (up9 n (.start (IntKind.wrap .i64 ((4 : Int) + s177)) t2.1.1.1 t2.1.1.2.1 L0 L1)) >>= fun t3 =>
   if (fits (List.length B8) (List.length ([(⟨t3.1.1.1, t3.1.1.2.1, t3.1.1.2.2.1⟩ : ub4)] : List ub4)) 24) = true then
    un4 n (.p262132 s176 (IntKind.wrap .i64 (s177 + (1 : Int))) t2.2.1.1 D0 D1 D2 D3 D4 D5 D6 D7 D8 D9 D10 D11 G0 G1 H0 H1 J0 J1 K0 K1 L0 L1 M0 M1 (B8 ++ ([(⟨t3.1.1.1, t3.1.1.2.1, t3.1.1.2.2.1⟩ : ub4)] : List ub4)) t2.2.2.1 t2.2.2.2.1 t2.2.2.2.2.1)
   else none
  else
   (un5 n (.start G0 G1 (7 : Int) B0 B9 B10 B11)) >>= fun t4 =>
   un4 n (.p1048564 (List.length D9 : Int) (0 : Int) t4.2.1.1 D0 D1 D2 D3 D4 D5 D6 D7 D8 D9 D10 D11 J0 J1 K0 K1 B8 t4.1.1.1 t4.1.1.2.1 t4.2.2.1 t4.2.2.2.1 t4.2.2.2.2.1)
 | n + 1, .p1048564 s203 s204 B0 D0 D1 D2 D3 D4 D5 D6 D7 D8 D9 D10 D11 G0 G1 H0 H1 B4 K0 K1 B6 B7 B8 =>
  if (decide (s204 < s203)) = true then
   (un5 n (.start H0 H1 s204 B0 B6 B7 B8)) >>= fun t1 =>
   (uC0 n (.start K0 K1 t1.1.1.1 t1.1.1.2.1 t1.2.1.1 t1.2.2.1 t1.2.2.2.1 t1.2.2.2.2.1)) >>= fun t2 =>
   (up9 n (.start (IntKind.wrap .i64 ((8 : Int) + s204)) t2.1.1.1 t2.1.1.2.1 G0 G1)) >>= fun t3 =>
   if (fits (List.length B4) (List.length ([(⟨t3.1.1.1, t3.1.1.2.1, t3.1.1.2.2.1⟩ : ub4)] : List ub4)) 24) = true then
    un4 n (.p1048564 s203 (IntKind.wrap .i64 (s204 + (1 : Int))) t2.2.1.1 D0 D1 D2 D3 D4 D5 D6 D7 D8 D9 D10 D11 G0 G1 H0 H1 (B4 ++ ([(⟨t3.1.1.1, t3.1.1.2.1, t3.1.1.2.2.1⟩ : ub4)] : List ub4)) K0 K1 t2.2.2.1 t2.2.2.2.1 t2.2.2.2.2.1)
   else none
  else
   (vk2 n (.start (⟨#[101, 120, 101, 99, 117, 116, 101]⟩ : ByteArray) D4 D5 B4 B0 B6 B7 B8)) >>= fun t4 =>
   some ((), ((t4.2.1.1, ((), ((), ((), ((), ((), ((), ()))))))), (t4.2.2.1, (t4.2.2.2.1, (t4.2.2.2.2.1, ())))))
theorem vD7 : ∀ (n : Nat) (p : wD8), OLe (un4 n p) (un2 p) := by
 intro n
 induction n with
 | zero => exact fun p r h => by cases h
 | succ n ih =>
  intro p
  cases p <;> rw [un2, un4] <;> repeat' with_reducible first | refine OLe.bind ?_ (fun _ => ?_) | refine OLe.ite ?_ ?_ | exact uZ6 n _ | exact ui3 n _ | exact u98 n _ | exact u85 n _ | exact vO8 n _ | exact vW1 n _ | exact uY0 n _ | exact vU0 n _ | exact vF4 n _ | exact vT6 n _ | exact vR1 n _ | exact ih _ | exact OLe.refl _
def ue5 : Nat → wF0 → Option xJ9
 | 0, _ => none
 | n + 1, .start s0 =>
  if (decide ((s0.size : Int) < (1 : Int))) = true then
   some ((false, ()), ())
  else
   if (decide ((s0.size : Int) > (16 : Int))) = true then
    some ((false, ()), ())
   else
    ue5 n (.p7 s0)
 | n + 1, .p7 s0 =>
  ue5 n (.p116 s0 (0 : Int))
 | n + 1, .p116 s0 i3 =>
  if (decide (i3 < (s0.size : Int))) = true then
   (sidx s0 i3) >>= fun t1 =>
   if (decide (t1 ≥ (97 : Int))) = true then
    if (decide (t1 ≤ (122 : Int))) = true then
     ue5 n (.p3731 s0 i3 t1 true)
    else
     if (decide (t1 ≥ (65 : Int))) = true then
      ue5 n (.p3731 s0 i3 t1 (decide (t1 ≤ (90 : Int))))
     else
      ue5 n (.p3731 s0 i3 t1 false)
   else
    if (decide (t1 ≥ (65 : Int))) = true then
     ue5 n (.p3731 s0 i3 t1 (decide (t1 ≤ (90 : Int))))
    else
     ue5 n (.p3731 s0 i3 t1 false)
  else
   some ((true, ()), ())
 | n + 1, .p3731 s0 i3 c4 letter5 =>
  if (!letter5) = true then
   if (i3 == (0 : Int)) = true then
    some ((false, ()), ())
   else
    if (c4 != (95 : Int)) = true then
     if (decide (c4 < (48 : Int))) = true then
      some ((false, ()), ())
     else
      if (decide (c4 > (57 : Int))) = true then
       some ((false, ()), ())
      else
       ue5 n (.p116 s0 (IntKind.wrap .i64 (i3 + (1 : Int))))
    else
     ue5 n (.p116 s0 (IntKind.wrap .i64 (i3 + (1 : Int))))
  else
   ue5 n (.p116 s0 (IntKind.wrap .i64 (i3 + (1 : Int))))
theorem um9 : ∀ (n : Nat) (p : wF0), OLe (ue5 n p) (ue3 p) := by
 intro n
 induction n with
 | zero => exact fun p r h => by cases h
 | succ n ih =>
  intro p
  cases p <;> rw [ue3, ue5] <;> repeat' with_reducible first | refine OLe.bind ?_ (fun _ => ?_) | refine OLe.ite ?_ ?_ | exact ih _ | exact OLe.refl _
def uK9 : Nat → wx0 → Option xS0
 | 0, _ => none
 | n + 1, .start n0 =>
  (uk8 n (.start n0 (1 : Int) (16 : Int))) >>= fun t1 =>
  some ((t1.1.1, ()), ())
theorem uI0 : ∀ (n : Nat) (p : wx0), OLe (uK9 n p) (ux2 p) := by
 intro n
 induction n with
 | zero => exact fun p r h => by cases h
 | succ n ih =>
  intro p
  cases p <;> rw [ux2, uK9] <;> repeat' with_reducible first | refine OLe.bind ?_ (fun _ => ?_) | refine OLe.ite ?_ ?_ | exact um3 n _ | exact ih _ | exact OLe.refl _
def uu6 : Nat → wt5 → Option xP5
 | 0, _ => none
 | n + 1, .start l0 =>
  if (decide ((List.length l0 : Int) > (12 : Int))) = true then
   some (((0 : Int), ((8 : Int), ())), ())
  else
   uu6 n (.p116 l0 (0 : Int))
 | n + 1, .p116 l0 i4 =>
  if (decide (i4 < (List.length l0 : Int))) = true then
   (idx l0 i4) >>= fun t1 =>
   (ue5 n (.start t1.Name)) >>= fun t2 =>
   if (!t2.1.1) = true then
    some ((i4, ((4 : Int), ())), ())
   else
    uu6 n (.p29844 l0 i4 (0 : Int))
  else
   some (((0 : Int), ((0 : Int), ())), ())
 | n + 1, .p29844 l0 i4 k5 =>
  if (decide (k5 < i4)) = true then
   (idx l0 k5) >>= fun t1 =>
   (idx l0 i4) >>= fun t2 =>
   if (seq t1.Name t2.Name) = true then
    some ((i4, ((5 : Int), ())), ())
   else
    uu6 n (.p29844 l0 i4 (IntKind.wrap .i64 (k5 + (1 : Int))))
  else
   (idx l0 i4) >>= fun t3 =>
   (uK9 n (.start t3.Width)) >>= fun t4 =>
   if (!t4.1.1) = true then
    some ((i4, ((2 : Int), ())), ())
   else
    uu6 n (.p116 l0 (IntKind.wrap .i64 (i4 + (1 : Int))))
theorem uZ0 : ∀ (n : Nat) (p : wt5), OLe (uu6 n p) (ur5 p) := by
 intro n
 induction n with
 | zero => exact fun p r h => by cases h
 | succ n ih =>
  intro p
  cases p <;> rw [ur5, uu6] <;> repeat' with_reducible first | refine OLe.bind ?_ (fun _ => ?_) | refine OLe.ite ?_ ?_ | exact um9 n _ | exact uI0 n _ | exact ih _ | exact OLe.refl _
def un7 : Nat → wx4 → Option xH8
 | 0, _ => none
 | n + 1, .start n0 =>
  if (decide ((0 : Int) ≤ n0)) = true then
   some ((shl .i64 (1 : Int) n0, ()), ())
  else none
theorem uG9 : ∀ (n : Nat) (p : wx4), OLe (un7 n p) (uk0 p) := by
 intro n
 induction n with
 | zero => exact fun p r h => by cases h
 | succ n ih =>
  intro p
  cases p <;> rw [uk0, un7] <;> repeat' with_reducible first | refine OLe.bind ?_ (fun _ => ?_) | refine OLe.ite ?_ ?_ | exact ih _ | exact OLe.refl _
def uU2 : Nat → wE7 → Option xF1
 | 0, _ => none
 | n + 1, .start n0 width1 =>
  (un7 n (.start width1)) >>= fun t1 =>
  (uk8 n (.start n0 (0 : Int) (IntKind.wrap .i64 (t1.1.1 - (1 : Int))))) >>= fun t2 =>
  some ((t2.1.1, ()), ())
theorem u24 : ∀ (n : Nat) (p : wE7), OLe (uU2 n p) (uw1 p) := by
 intro n
 induction n with
 | zero => exact fun p r h => by cases h
 | succ n ih =>
  intro p
  cases p <;> rw [uw1, uU2] <;> repeat' with_reducible first | refine OLe.bind ?_ (fun _ => ?_) | refine OLe.ite ?_ ?_ | exact um3 n _ | exact uG9 n _ | exact ih _ | exact OLe.refl _
def up5 : Nat → wp9 → Option xM7
 | 0, _ => none
 | n + 1, .start inputs0 l1 =>
  if (decide ((IntKind.wrap .i64 ((List.length inputs0 : Int) + (List.length l1 : Int))) > (40 : Int))) = true then
   some (((0 : Int), ((8 : Int), ())), ())
  else
   up5 n (.p116 inputs0 l1 (0 : Int))
 | n + 1, .p116 inputs0 l1 i6 =>
  if (decide (i6 < (List.length l1 : Int))) = true then
   (idx l1 i6) >>= fun t1 =>
   (ue5 n (.start t1.Name)) >>= fun t2 =>
   if (!t2.1.1) = true then
    some ((i6, ((4 : Int), ())), ())
   else
    up5 n (.p29844 inputs0 l1 i6 (0 : Int))
  else
   some (((0 : Int), ((0 : Int), ())), ())
 | n + 1, .p29844 inputs0 l1 i6 k7 =>
  if (decide (k7 < i6)) = true then
   (idx l1 k7) >>= fun t1 =>
   (idx l1 i6) >>= fun t2 =>
   if (seq t1.Name t2.Name) = true then
    some ((i6, ((5 : Int), ())), ())
   else
    up5 n (.p29844 inputs0 l1 i6 (IntKind.wrap .i64 (k7 + (1 : Int))))
  else
   up5 n (.p59700 inputs0 l1 i6 (0 : Int))
 | n + 1, .p59700 inputs0 l1 i6 k8 =>
  if (decide (k8 < (List.length inputs0 : Int))) = true then
   (idx inputs0 k8) >>= fun t1 =>
   (idx l1 i6) >>= fun t2 =>
   if (seq t1.Name t2.Name) = true then
    some ((i6, ((5 : Int), ())), ())
   else
    up5 n (.p59700 inputs0 l1 i6 (IntKind.wrap .i64 (k8 + (1 : Int))))
  else
   (idx l1 i6) >>= fun t3 =>
   (uk8 n (.start t3.Kind (0 : Int) (1 : Int))) >>= fun t4 =>
   if (!t4.1.1) = true then
    some ((i6, ((15 : Int), ())), ())
   else
    (idx l1 i6) >>= fun t5 =>
    (uK9 n (.start t5.Width)) >>= fun t6 =>
    if (!t6.1.1) = true then
     some ((i6, ((2 : Int), ())), ())
    else
     (idx l1 i6) >>= fun t7 =>
     (idx l1 i6) >>= fun t8 =>
     (uU2 n (.start t7.Init t8.Width)) >>= fun t9 =>
     if (!t9.1.1) = true then
      some ((i6, ((2 : Int), ())), ())
     else
      (idx l1 i6) >>= fun t10 =>
      (uk8 n (.start t10.Clock (0 : Int) (3 : Int))) >>= fun t11 =>
      if (!t11.1.1) = true then
       some ((i6, ((2 : Int), ())), ())
      else
       up5 n (.p116 inputs0 l1 (IntKind.wrap .i64 (i6 + (1 : Int))))
theorem vJ7 : ∀ (n : Nat) (p : wp9), OLe (up5 n p) (ud7 p) := by
 intro n
 induction n with
 | zero => exact fun p r h => by cases h
 | succ n ih =>
  intro p
  cases p <;> rw [ud7, up5] <;> repeat' with_reducible first | refine OLe.bind ?_ (fun _ => ?_) | refine OLe.ite ?_ ?_ | exact um3 n _ | exact um9 n _ | exact uI0 n _ | exact u24 n _ | exact ih _ | exact OLe.refl _
def uy3 : Nat → wy4 → Option xN6
 | 0, _ => none
 | n + 1, .start d0_0 d0_1 d0_2 d0_3 d0_4 d0_5 d0_6 =>
  uy3 n (.p116 (0 : Int) d0_0 d0_1 d0_2 d0_3 d0_4 d0_5 d0_6 ([] : List Int))
 | n + 1, .p116 i4 C0 C1 C2 C3 C4 C5 C6 B1 =>
  if (decide (i4 < (List.length C1 : Int))) = true then
   (idx C1 i4) >>= fun t1 =>
   if (fits (List.length B1) (List.length ([t1.Width] : List Int)) 8) = true then
    uy3 n (.p116 (IntKind.wrap .i64 (i4 + (1 : Int))) C0 C1 C2 C3 C4 C5 C6 (B1 ++ ([t1.Width] : List Int)))
   else none
  else
   uy3 n (.p244 (0 : Int) C0 C1 C2 C3 C4 C5 C6 B1)
 | n + 1, .p244 i5 C0 C1 C2 C3 C4 C5 C6 B1 =>
  if (decide (i5 < (List.length C2 : Int))) = true then
   (idx C2 i5) >>= fun t1 =>
   if (fits (List.length B1) (List.length ([t1.Width] : List Int)) 8) = true then
    uy3 n (.p244 (IntKind.wrap .i64 (i5 + (1 : Int))) C0 C1 C2 C3 C4 C5 C6 (B1 ++ ([t1.Width] : List Int)))
   else none
  else
   some (((), ()), (B1, ()))
theorem vb1 : ∀ (n : Nat) (p : wy4), OLe (uy3 n p) (ur6 p) := by
 intro n
 induction n with
 | zero => exact fun p r h => by cases h
 | succ n ih =>
  intro p
  cases p <;> rw [ur6, uy3] <;> repeat' with_reducible first | refine OLe.bind ?_ (fun _ => ?_) | refine OLe.ite ?_ ?_ | exact ih _ | exact OLe.refl _
def up8 : Nat → wD7 → Option xI6
 | 0, _ => none
 | n + 1, .start op0 =>
  if (op0 == (0 : Int)) = true then
   up8 n (.p53 op0 (op0 == (0 : Int)))
  else
   up8 n (.p53 op0 (op0 == (1 : Int)))
 | n + 1, .p53 s3 s4 =>
  if s4 = true then
   some (((0 : Int), ()), ())
  else
   if (s3 == (2 : Int)) = true then
    up8 n (.p215 s3 (s3 == (2 : Int)))
   else
    if (s3 == (14 : Int)) = true then
     up8 n (.p215 s3 (s3 == (14 : Int)))
    else
     if (s3 == (15 : Int)) = true then
      up8 n (.p215 s3 (s3 == (15 : Int)))
     else
      up8 n (.p215 s3 (s3 == (16 : Int)))
 | n + 1, .p215 s3 s7 =>
  if s7 = true then
   some (((1 : Int), ()), ())
  else
   if (s3 == (12 : Int)) = true then
    some (((3 : Int), ()), ())
   else
    some (((2 : Int), ()), ())
theorem uY4 : ∀ (n : Nat) (p : wD7), OLe (up8 n p) (um6 p) := by
 intro n
 induction n with
 | zero => exact fun p r h => by cases h
 | succ n ih =>
  intro p
  cases p <;> rw [um6, up8] <;> repeat' with_reducible first | refine OLe.bind ?_ (fun _ => ?_) | refine OLe.ite ?_ ?_ | exact ih _ | exact OLe.refl _
def uf2 : Nat → wE4 → Option xK7
 | 0, _ => none
 | n + 1, .start nodes0 x1_0 x1_1 x1_2 x1_3 =>
  uf2 n (.p116 nodes0 (0 : Int) x1_0 x1_1 x1_2 x1_3 ([] : List Int))
 | n + 1, .p116 nodes0 k6 C0 C1 C2 C3 B1 =>
  if (decide (k6 < (List.length C2 : Int))) = true then
   (idx C2 k6) >>= fun t1 =>
   (idx nodes0 t1) >>= fun t2 =>
   if (fits (List.length B1) (List.length ([t2.Width] : List Int)) 8) = true then
    uf2 n (.p116 nodes0 (IntKind.wrap .i64 (k6 + (1 : Int))) C0 C1 C2 C3 (B1 ++ ([t2.Width] : List Int)))
   else none
  else
   if (C0 == (2 : Int)) = true then
    if (decide ((0 : Int) ≤ (0 : Int)) && decide ((0 : Int) < (List.length B1 : Int))) = true then
     (idx B1 (0 : Int)) >>= fun t3 =>
     some ((t3 == C1, ()), ())
    else none
   else
    if (C0 == (3 : Int)) = true then
     uf2 n (.p983 C0 (C0 == (3 : Int)) C0 C1 C2 C3 B1)
    else
     if (C0 == (4 : Int)) = true then
      uf2 n (.p983 C0 (C0 == (4 : Int)) C0 C1 C2 C3 B1)
     else
      if (C0 == (5 : Int)) = true then
       uf2 n (.p983 C0 (C0 == (5 : Int)) C0 C1 C2 C3 B1)
      else
       if (C0 == (6 : Int)) = true then
        uf2 n (.p983 C0 (C0 == (6 : Int)) C0 C1 C2 C3 B1)
       else
        if (C0 == (7 : Int)) = true then
         uf2 n (.p983 C0 (C0 == (7 : Int)) C0 C1 C2 C3 B1)
        else
         uf2 n (.p983 C0 (C0 == (8 : Int)) C0 C1 C2 C3 B1)
 | n + 1, .p983 s27 s36 C0 C1 C2 C3 B1 =>
  if s36 = true then
   if (decide ((0 : Int) ≤ (0 : Int)) && decide ((0 : Int) < (List.length B1 : Int))) = true then
    (idx B1 (0 : Int)) >>= fun t1 =>
    if (t1 == C1) = true then
     if (decide ((0 : Int) ≤ (1 : Int)) && decide ((1 : Int) < (List.length B1 : Int))) = true then
      (idx B1 (1 : Int)) >>= fun t2 =>
      some ((t2 == C1, ()), ())
     else none
    else
     some ((false, ()), ())
   else none
  else
   if (s27 == (9 : Int)) = true then
    uf2 n (.p3935 s27 (s27 == (9 : Int)) C0 C1 C2 C3 B1)
   else
    if (s27 == (10 : Int)) = true then
     uf2 n (.p3935 s27 (s27 == (10 : Int)) C0 C1 C2 C3 B1)
    else
     uf2 n (.p3935 s27 (s27 == (11 : Int)) C0 C1 C2 C3 B1)
 | n + 1, .p3935 s27 s57 C0 C1 C2 C3 B1 =>
  if s57 = true then
   if (decide ((0 : Int) ≤ (0 : Int)) && decide ((0 : Int) < (List.length B1 : Int))) = true then
    (idx B1 (0 : Int)) >>= fun t1 =>
    if (decide ((0 : Int) ≤ (1 : Int)) && decide ((1 : Int) < (List.length B1 : Int))) = true then
     (idx B1 (1 : Int)) >>= fun t2 =>
     if (t1 == t2) = true then
      some ((C1 == (1 : Int), ()), ())
     else
      some ((false, ()), ())
    else none
   else none
  else
   if (s27 == (12 : Int)) = true then
    if (decide ((0 : Int) ≤ (0 : Int)) && decide ((0 : Int) < (List.length B1 : Int))) = true then
     (idx B1 (0 : Int)) >>= fun t3 =>
     if (t3 == (1 : Int)) = true then
      if (decide ((0 : Int) ≤ (1 : Int)) && decide ((1 : Int) < (List.length B1 : Int))) = true then
       (idx B1 (1 : Int)) >>= fun t4 =>
       if (t4 == C1) = true then
        if (decide ((0 : Int) ≤ (2 : Int)) && decide ((2 : Int) < (List.length B1 : Int))) = true then
         (idx B1 (2 : Int)) >>= fun t5 =>
         some ((t5 == C1, ()), ())
        else none
       else
        some ((false, ()), ())
      else none
     else
      some ((false, ()), ())
    else none
   else
    if (s27 == (13 : Int)) = true then
     if (decide ((0 : Int) ≤ (0 : Int)) && decide ((0 : Int) < (List.length B1 : Int))) = true then
      (idx B1 (0 : Int)) >>= fun t6 =>
      if (decide ((0 : Int) ≤ (1 : Int)) && decide ((1 : Int) < (List.length B1 : Int))) = true then
       (idx B1 (1 : Int)) >>= fun t7 =>
       some (((IntKind.wrap .i64 (t6 + t7)) == C1, ()), ())
      else none
     else none
    else
     if (s27 == (14 : Int)) = true then
      if (decide ((0 : Int) ≤ (0 : Int)) && decide ((0 : Int) < (List.length B1 : Int))) = true then
       (idx B1 (0 : Int)) >>= fun t8 =>
       some ((decide ((IntKind.wrap .i64 (C3 + C1)) ≤ t8), ()), ())
      else none
     else
      if (s27 == (15 : Int)) = true then
       uf2 n (.p1007615 (s27 == (15 : Int)) C0 C1 C2 C3 B1)
      else
       uf2 n (.p1007615 (s27 == (16 : Int)) C0 C1 C2 C3 B1)
 | n + 1, .p1007615 s118 C0 C1 C2 C3 B1 =>
  if s118 = true then
   if (decide ((0 : Int) ≤ (0 : Int)) && decide ((0 : Int) < (List.length B1 : Int))) = true then
    (idx B1 (0 : Int)) >>= fun t1 =>
    some ((decide (t1 ≤ C1), ()), ())
   else none
  else
   if (decide ((0 : Int) ≤ (0 : Int)) && decide ((0 : Int) < (List.length B1 : Int))) = true then
    (idx B1 (0 : Int)) >>= fun t2 =>
    some ((t2 == C1, ()), ())
   else none
theorem vK9 : ∀ (n : Nat) (p : wE4), OLe (uf2 n p) (ug4 p) := by
 intro n
 induction n with
 | zero => exact fun p r h => by cases h
 | succ n ih =>
  intro p
  cases p <;> rw [ug4, uf2] <;> repeat' with_reducible first | refine OLe.bind ?_ (fun _ => ?_) | refine OLe.ite ?_ ?_ | exact ih _ | exact OLe.refl _
def up7 : Nat → wD0 → Option wS4
 | 0, _ => none
 | n + 1, .start leaves0 nodes1 i2 =>
  (idx nodes1 i2) >>= fun t1 =>
  (uk8 n (.start t1.Op (0 : Int) (18 : Int))) >>= fun t2 =>
  if (!t2.1.1) = true then
   some (((15 : Int), ()), ())
  else
   (uK9 n (.start t1.Width)) >>= fun t3 =>
   if (!t3.1.1) = true then
    some (((2 : Int), ()), ())
   else
    (up8 n (.start t1.Op)) >>= fun t4 =>
    if ((List.length t1.Args : Int) != t4.1.1) = true then
     some (((10 : Int), ()), ())
    else
     up7 n (.p1012 leaves0 nodes1 i2 (0 : Int) t1.Op t1.Width t1.Args t1.Value)
 | n + 1, .p1012 leaves0 nodes1 i2 k8 C0 C1 C2 C3 =>
  if (decide (k8 < (List.length C2 : Int))) = true then
   (idx C2 k8) >>= fun t1 =>
   (uk8 n (.start t1 (0 : Int) (IntKind.wrap .i64 (i2 - (1 : Int))))) >>= fun t2 =>
   if (!t2.1.1) = true then
    some (((9 : Int), ()), ())
   else
    up7 n (.p1012 leaves0 nodes1 i2 (IntKind.wrap .i64 (k8 + (1 : Int))) C0 C1 C2 C3)
  else
   if (C0 == (0 : Int)) = true then
    (uU2 n (.start C3 C1)) >>= fun t3 =>
    if (!t3.1.1) = true then
     some (((2 : Int), ()), ())
    else
     some (((0 : Int), ()), ())
   else
    if (C0 == (1 : Int)) = true then
     (uk8 n (.start C3 (0 : Int) (IntKind.wrap .i64 ((List.length leaves0 : Int) - (1 : Int))))) >>= fun t4 =>
     if (!t4.1.1) = true then
      some (((6 : Int), ()), ())
     else
      (idx leaves0 C3) >>= fun t5 =>
      if (t5 != C1) = true then
       some (((25 : Int), ()), ())
      else
       some (((0 : Int), ()), ())
    else
     if (C0 == (14 : Int)) = true then
      (uk8 n (.start C3 (0 : Int) (15 : Int))) >>= fun t6 =>
      if (!t6.1.1) = true then
       some (((2 : Int), ()), ())
      else
       up7 n (.p255 nodes1 C0 C1 C2 C3)
     else
      if (C3 != (0 : Int)) = true then
       some (((3 : Int), ()), ())
      else
       up7 n (.p255 nodes1 C0 C1 C2 C3)
 | n + 1, .p255 nodes1 C0 C1 C2 C3 =>
  (uf2 n (.start nodes1 C0 C1 C2 C3)) >>= fun t1 =>
  if (!t1.1.1) = true then
   some (((25 : Int), ()), ())
  else
   some (((0 : Int), ()), ())
theorem uI9 : ∀ (n : Nat) (p : wD0), OLe (up7 n p) (uj6 p) := by
 intro n
 induction n with
 | zero => exact fun p r h => by cases h
 | succ n ih =>
  intro p
  cases p <;> rw [uj6, up7] <;> repeat' with_reducible first | refine OLe.bind ?_ (fun _ => ?_) | refine OLe.ite ?_ ?_ | exact um3 n _ | exact uI0 n _ | exact u24 n _ | exact uY4 n _ | exact vK9 n _ | exact ih _ | exact OLe.refl _
def uL8 : Nat → ws7 → Option xH5
 | 0, _ => none
 | n + 1, .start leaves0 nodes1 =>
  if (decide ((List.length nodes1 : Int) > (400 : Int))) = true then
   some (((0 : Int), ((8 : Int), ())), ())
  else
   uL8 n (.p116 leaves0 nodes1 (0 : Int))
 | n + 1, .p116 leaves0 nodes1 i6 =>
  if (decide (i6 < (List.length nodes1 : Int))) = true then
   (up7 n (.start leaves0 nodes1 i6)) >>= fun t1 =>
   if (t1.1.1 != (0 : Int)) = true then
    some ((i6, (t1.1.1, ())), ())
   else
    uL8 n (.p116 leaves0 nodes1 (IntKind.wrap .i64 (i6 + (1 : Int))))
  else
   some (((0 : Int), ((0 : Int), ())), ())
theorem vS5 : ∀ (n : Nat) (p : ws7), OLe (uL8 n p) (ul7 p) := by
 intro n
 induction n with
 | zero => exact fun p r h => by cases h
 | succ n ih =>
  intro p
  cases p <;> rw [ul7, uL8] <;> repeat' with_reducible first | refine OLe.bind ?_ (fun _ => ?_) | refine OLe.ite ?_ ?_ | exact uI9 n _ | exact ih _ | exact OLe.refl _
def uM9 : Nat → wt4 → Option xR3
 | 0, _ => none
 | n + 1, .start nodes0 i1 =>
  (uk8 n (.start i1 (0 : Int) (IntKind.wrap .i64 ((List.length nodes0 : Int) - (1 : Int))))) >>= fun t1 =>
  some ((t1.1.1, ()), ())
theorem uG6 : ∀ (n : Nat) (p : wt4), OLe (uM9 n p) (uJ6 p) := by
 intro n
 induction n with
 | zero => exact fun p r h => by cases h
 | succ n ih =>
  intro p
  cases p <;> rw [uJ6, uM9] <;> repeat' with_reducible first | refine OLe.bind ?_ (fun _ => ?_) | refine OLe.ite ?_ ?_ | exact um3 n _ | exact ih _ | exact OLe.refl _
def uy4 : Nat → wi9 → Option xN2
 | 0, _ => none
 | n + 1, .start nodes0 l1 =>
  if (decide ((List.length l1 : Int) > (12 : Int))) = true then
   some (((0 : Int), ((8 : Int), ())), ())
  else
   uy4 n (.p116 nodes0 l1 (0 : Int))
 | n + 1, .p116 nodes0 l1 i6 =>
  if (decide (i6 < (List.length l1 : Int))) = true then
   (idx l1 i6) >>= fun t1 =>
   (ue5 n (.start t1.Name)) >>= fun t2 =>
   if (!t2.1.1) = true then
    some ((i6, ((4 : Int), ())), ())
   else
    uy4 n (.p29844 nodes0 l1 i6 (0 : Int))
  else
   some (((0 : Int), ((0 : Int), ())), ())
 | n + 1, .p29844 nodes0 l1 i6 k7 =>
  if (decide (k7 < i6)) = true then
   (idx l1 k7) >>= fun t1 =>
   (idx l1 i6) >>= fun t2 =>
   if (seq t1.Name t2.Name) = true then
    some ((i6, ((5 : Int), ())), ())
   else
    uy4 n (.p29844 nodes0 l1 i6 (IntKind.wrap .i64 (k7 + (1 : Int))))
  else
   (idx l1 i6) >>= fun t3 =>
   (uM9 n (.start nodes0 t3.Node)) >>= fun t4 =>
   if (!t4.1.1) = true then
    some ((i6, ((9 : Int), ())), ())
   else
    uy4 n (.p116 nodes0 l1 (IntKind.wrap .i64 (i6 + (1 : Int))))
theorem vN3 : ∀ (n : Nat) (p : wi9), OLe (uy4 n p) (us8 p) := by
 intro n
 induction n with
 | zero => exact fun p r h => by cases h
 | succ n ih =>
  intro p
  cases p <;> rw [us8, uy4] <;> repeat' with_reducible first | refine OLe.bind ?_ (fun _ => ?_) | refine OLe.ite ?_ ?_ | exact um9 n _ | exact uG6 n _ | exact ih _ | exact OLe.refl _
def uU0 : Nat → wB5 → Option xG2
 | 0, _ => none
 | n + 1, .start nodes0 i1 =>
  (uM9 n (.start nodes0 i1)) >>= fun t1 =>
  if t1.1.1 = true then
   (idx nodes0 i1) >>= fun t2 =>
   some ((t2.Width == (1 : Int), ()), ())
  else
   some ((false, ()), ())
theorem uW2 : ∀ (n : Nat) (p : wB5), OLe (uU0 n p) (uP2 p) := by
 intro n
 induction n with
 | zero => exact fun p r h => by cases h
 | succ n ih =>
  intro p
  cases p <;> rw [uP2, uU0] <;> repeat' with_reducible first | refine OLe.bind ?_ (fun _ => ?_) | refine OLe.ite ?_ ?_ | exact uG6 n _ | exact ih _ | exact OLe.refl _
def uC5 : Nat → wv8 → Option xK8
 | 0, _ => none
 | n + 1, .start elements0 nodes1 l2 =>
  if (decide ((List.length l2 : Int) > (16 : Int))) = true then
   some (((8 : Int), ()), ())
  else
   uC5 n (.p116 elements0 nodes1 l2 (0 : Int))
 | n + 1, .p116 elements0 nodes1 l2 i7 =>
  if (decide (i7 < (List.length l2 : Int))) = true then
   (idx l2 i7) >>= fun t1 =>
   (uk8 n (.start t1.Element (0 : Int) (IntKind.wrap .i64 ((List.length elements0 : Int) - (1 : Int))))) >>= fun t2 =>
   if (!t2.1.1) = true then
    some (((6 : Int), ()), ())
   else
    (idx l2 i7) >>= fun t3 =>
    (uU0 n (.start nodes1 t3.When)) >>= fun t4 =>
    if (!t4.1.1) = true then
     some (((9 : Int), ()), ())
    else
     (idx l2 i7) >>= fun t5 =>
     (uM9 n (.start nodes1 t5.Value)) >>= fun t6 =>
     if (!t6.1.1) = true then
      some (((9 : Int), ()), ())
     else
      uC5 n (.p3731 elements0 nodes1 l2 i7)
  else
   some (((0 : Int), ()), ())
 | n + 1, .p3731 elements0 nodes1 l2 i7 =>
  (idx l2 i7) >>= fun t1 =>
  (idx nodes1 t1.Value) >>= fun t2 =>
  (idx l2 i7) >>= fun t3 =>
  (idx elements0 t3.Element) >>= fun t4 =>
  if (t2.Width != t4.Width) = true then
   some (((25 : Int), ()), ())
  else
   uC5 n (.p116 elements0 nodes1 l2 (IntKind.wrap .i64 (i7 + (1 : Int))))
theorem vV0 : ∀ (n : Nat) (p : wv8), OLe (uC5 n p) (uv6 p) := by
 intro n
 induction n with
 | zero => exact fun p r h => by cases h
 | succ n ih =>
  intro p
  cases p <;> rw [uv6, uC5] <;> repeat' with_reducible first | refine OLe.bind ?_ (fun _ => ?_) | refine OLe.ite ?_ ?_ | exact um3 n _ | exact uG6 n _ | exact uW2 n _ | exact ih _ | exact OLe.refl _
def ud1 : Nat → wD6 → Option xO2
 | 0, _ => none
 | n + 1, .start l0 n1 =>
  ud1 n (.p52 l0 n1 (0 : Int))
 | n + 1, .p52 l0 n1 i5 =>
  if (decide (i5 < (List.length l0 : Int))) = true then
   (idx l0 i5) >>= fun t1 =>
   if (t1 == n1) = true then
    some ((true, ()), ())
   else
    ud1 n (.p52 l0 n1 (IntKind.wrap .i64 (i5 + (1 : Int))))
  else
   some ((false, ()), ())
theorem uj9 : ∀ (n : Nat) (p : wD6), OLe (ud1 n p) (ud8 p) := by
 intro n
 induction n with
 | zero => exact fun p r h => by cases h
 | succ n ih =>
  intro p
  cases p <;> rw [ud8, ud1] <;> repeat' with_reducible first | refine OLe.bind ?_ (fun _ => ?_) | refine OLe.ite ?_ ?_ | exact ih _ | exact OLe.refl _
def uj4 : Nat → wI2 → Option xE3
 | 0, _ => none
 | n + 1, .start d0_0 d0_1 d0_2 d0_3 d0_4 d0_5 d0_6 =>
  (ue5 n (.start d0_0)) >>= fun t1 =>
  if (!t1.1.1) = true then
   some (((0 : Int), ((4 : Int), ())), ())
  else
   (uu6 n (.start d0_1)) >>= fun t2 =>
   if (t2.1.2.1 != (0 : Int)) = true then
    some ((t2.1.1, (t2.1.2.1, ())), ())
   else
    (up5 n (.start d0_1 d0_2)) >>= fun t3 =>
    if (t3.1.2.1 != (0 : Int)) = true then
     some ((t3.1.1, (t3.1.2.1, ())), ())
    else
     (uy3 n (.start d0_0 d0_1 d0_2 d0_3 d0_4 d0_5 d0_6)) >>= fun t4 =>
     (uL8 n (.start t4.2.1 d0_3)) >>= fun t5 =>
     if (t5.1.2.1 != (0 : Int)) = true then
      some ((t5.1.1, (t5.1.2.1, ())), ())
     else
      if (decide ((List.length d0_4 : Int) > (16 : Int))) = true then
       some (((0 : Int), ((8 : Int), ())), ())
      else
       uj4 n (.p2036 (0 : Int) d0_0 d0_1 d0_2 d0_3 d0_4 d0_5 d0_6)
 | n + 1, .p2036 i10 C0 C1 C2 C3 C4 C5 C6 =>
  if (decide (i10 < (List.length C4 : Int))) = true then
   (idx C4 i10) >>= fun t1 =>
   (ue5 n (.start t1.Name)) >>= fun t2 =>
   if (!t2.1.1) = true then
    some ((i10, ((4 : Int), ())), ())
   else
    uj4 n (.p1042740 i10 (0 : Int) C0 C1 C2 C3 C4 C5 C6 t1.Name t1.Guard t1.Writes)
  else
   (uy4 n (.start C3 C5)) >>= fun t3 =>
   if (t3.1.2.1 != (0 : Int)) = true then
    some ((t3.1.1, (t3.1.2.1, ())), ())
   else
    if (decide ((List.length C6 : Int) > (16 : Int))) = true then
     some (((0 : Int), ((8 : Int), ())), ())
    else
     uj4 n (.p16372 (0 : Int) C0 C1 C2 C3 C4 C5 C6)
 | n + 1, .p1042740 i10 k12 C0 C1 C2 C3 C4 C5 C6 D0 D1 D2 =>
  if (decide (k12 < i10)) = true then
   (idx C4 k12) >>= fun t1 =>
   if (seq t1.Name D0) = true then
    some ((i10, ((5 : Int), ())), ())
   else
    uj4 n (.p1042740 i10 (IntKind.wrap .i64 (k12 + (1 : Int))) C0 C1 C2 C3 C4 C5 C6 D0 D1 D2)
  else
   (uU0 n (.start C3 D1)) >>= fun t2 =>
   if (!t2.1.1) = true then
    some ((i10, ((9 : Int), ())), ())
   else
    (uC5 n (.start C2 C3 D2)) >>= fun t3 =>
    if (t3.1.1 != (0 : Int)) = true then
     some ((i10, (t3.1.1, ())), ())
    else
     uj4 n (.p2036 (IntKind.wrap .i64 (i10 + (1 : Int))) C0 C1 C2 C3 C4 C5 C6)
 | n + 1, .p16372 i16 C0 C1 C2 C3 C4 C5 C6 =>
  if (decide (i16 < (List.length C6 : Int))) = true then
   (idx C6 i16) >>= fun t1 =>
   (uk8 n (.start t1.Kind (0 : Int) (3 : Int))) >>= fun t2 =>
   if (!t2.1.1) = true then
    some ((i16, ((15 : Int), ())), ())
   else
    if ((List.length t1.Rules : Int) == (0 : Int)) = true then
     some ((i16, ((10 : Int), ())), ())
    else
     if (decide ((List.length t1.Rules : Int) > (16 : Int))) = true then
      some ((i16, ((10 : Int), ())), ())
     else
      uj4 n (.p1047847 i16 C0 C1 C2 C3 C4 C5 C6 t1.Kind t1.Rules)
  else
   some (((0 : Int), ((0 : Int), ())), ())
 | n + 1, .p1047847 i16 C0 C1 C2 C3 C4 C5 C6 D0 D1 =>
  uj4 n (.p8382780 i16 (0 : Int) C0 C1 C2 C3 C4 C5 C6 D0 D1)
 | n + 1, .p8382780 i16 k18 C0 C1 C2 C3 C4 C5 C6 D0 D1 =>
  if (decide (k18 < (List.length D1 : Int))) = true then
   (idx D1 k18) >>= fun t1 =>
   (uk8 n (.start t1 (0 : Int) (IntKind.wrap .i64 ((List.length C4 : Int) - (1 : Int))))) >>= fun t2 =>
   if (!t2.1.1) = true then
    some ((i16, ((6 : Int), ())), ())
   else
    (span (List.length D1) (0 : Int) k18) >>= fun t3 =>
    (idx D1 k18) >>= fun t4 =>
    (ud1 n (.start (cut D1 t3) t4)) >>= fun t5 =>
    if t5.1.1 = true then
     some ((i16, ((23 : Int), ())), ())
    else
     uj4 n (.p8382780 i16 (IntKind.wrap .i64 (k18 + (1 : Int))) C0 C1 C2 C3 C4 C5 C6 D0 D1)
  else
   uj4 n (.p16372 (IntKind.wrap .i64 (i16 + (1 : Int))) C0 C1 C2 C3 C4 C5 C6)
theorem vU8 : ∀ (n : Nat) (p : wI2), OLe (uj4 n p) (ui9 p) := by
 intro n
 induction n with
 | zero => exact fun p r h => by cases h
 | succ n ih =>
  intro p
  cases p <;> rw [ui9, uj4] <;> repeat' with_reducible first | refine OLe.bind ?_ (fun _ => ?_) | refine OLe.ite ?_ ?_ | exact um3 n _ | exact um9 n _ | exact uZ0 n _ | exact vJ7 n _ | exact vb1 n _ | exact vS5 n _ | exact vN3 n _ | exact uW2 n _ | exact vV0 n _ | exact uj9 n _ | exact ih _ | exact OLe.refl _
def uh4 : Nat → wj9 → Option xM9
 | 0, _ => none
 | n + 1, .start n0 pairs1 =>
  uh4 n (.p56 n0 pairs1 ([] : List Int))
 | n + 1, .p56 n0 pairs1 B0 =>
  if (decide ((List.length B0 : Int) < n0)) = true then
   uh4 n (.p7252 n0 pairs1 (-1 : Int) (IntKind.wrap .i64 (n0 - (1 : Int))) B0)
  else
   some (((), (true, ())), (B0, ()))
 | n + 1, .p7252 n0 pairs1 next7 r8 B0 =>
  if (decide (r8 ≥ (0 : Int))) = true then
   (ud1 n (.start B0 r8)) >>= fun t1 =>
   uh4 n (.p1856660 n0 pairs1 next7 r8 (!t1.1.1) (0 : Int) B0)
  else
   if (decide (next7 < (0 : Int))) = true then
    some (((), (false, ())), (([] : List Int), ()))
   else
    if (fits (List.length B0) (List.length ([next7] : List Int)) 8) = true then
     uh4 n (.p56 n0 pairs1 (B0 ++ ([next7] : List Int)))
    else none
 | n + 1, .p1856660 n0 pairs1 next7 r8 free9 i10 B0 =>
  if (decide (i10 < (List.length pairs1 : Int))) = true then
   (idx pairs1 i10) >>= fun t1 =>
   if (t1.a1 == r8) = true then
    (idx pairs1 i10) >>= fun t2 =>
    (ud1 n (.start B0 t2.a0)) >>= fun t3 =>
    if (!t3.1.1) = true then
     uh4 n (.p1856660 n0 pairs1 next7 r8 false (IntKind.wrap .i64 (i10 + (1 : Int))) B0)
    else
     uh4 n (.p1856660 n0 pairs1 next7 r8 free9 (IntKind.wrap .i64 (i10 + (1 : Int))) B0)
   else
    uh4 n (.p1856660 n0 pairs1 next7 r8 free9 (IntKind.wrap .i64 (i10 + (1 : Int))) B0)
  else
   if free9 = true then
    uh4 n (.p7252 n0 pairs1 r8 (IntKind.wrap .i64 (r8 - (1 : Int))) B0)
   else
    uh4 n (.p7252 n0 pairs1 next7 (IntKind.wrap .i64 (r8 - (1 : Int))) B0)
theorem vR6 : ∀ (n : Nat) (p : wj9), OLe (uh4 n p) (ui0 p) := by
 intro n
 induction n with
 | zero => exact fun p r h => by cases h
 | succ n ih =>
  intro p
  cases p <;> rw [ui0, uh4] <;> repeat' with_reducible first | refine OLe.bind ?_ (fun _ => ?_) | refine OLe.ite ?_ ?_ | exact uj9 n _ | exact ih _ | exact OLe.refl _
def ui6 : Nat → ww7 → Option xI0
 | 0, _ => none
 | n + 1, .start d0_0 d0_1 d0_2 d0_3 d0_4 d0_5 d0_6 a1 b2 =>
  ui6 n (.p52 a1 b2 (0 : Int) d0_0 d0_1 d0_2 d0_3 d0_4 d0_5 d0_6)
 | n + 1, .p52 a1 b2 i7 C0 C1 C2 C3 C4 C5 C6 =>
  if (decide (i7 < (List.length C6 : Int))) = true then
   (idx C6 i7) >>= fun t1 =>
   if (t1.Kind == (1 : Int)) = true then
    (idx t1.Rules (0 : Int)) >>= fun t2 =>
    if (t2 == a1) = true then
     (span (List.length t1.Rules) (1 : Int) (List.length t1.Rules : Int)) >>= fun t3 =>
     (ud1 n (.start (cut t1.Rules t3) b2)) >>= fun t4 =>
     if t4.1.1 = true then
      some ((true, ()), ())
     else
      ui6 n (.p1683 a1 b2 i7 C0 C1 C2 C3 C4 C5 C6 t1.Kind t1.Rules)
    else
     ui6 n (.p1683 a1 b2 i7 C0 C1 C2 C3 C4 C5 C6 t1.Kind t1.Rules)
   else
    ui6 n (.p1683 a1 b2 i7 C0 C1 C2 C3 C4 C5 C6 t1.Kind t1.Rules)
  else
   some ((false, ()), ())
 | n + 1, .p1683 a1 b2 i7 C0 C1 C2 C3 C4 C5 C6 D0 D1 =>
  ui6 n (.p13468 a1 b2 i7 (1 : Int) C0 C1 C2 C3 C4 C5 C6 D0 D1)
 | n + 1, .p13468 a1 b2 i7 k9 C0 C1 C2 C3 C4 C5 C6 D0 D1 =>
  if (D0 == (0 : Int)) = true then
   if (decide (k9 < (List.length D1 : Int))) = true then
    ui6 n (.p26937 a1 b2 i7 k9 C0 C1 C2 C3 C4 C5 C6 D0 D1)
   else
    ui6 n (.p52 a1 b2 (IntKind.wrap .i64 (i7 + (1 : Int))) C0 C1 C2 C3 C4 C5 C6)
  else
   ui6 n (.p52 a1 b2 (IntKind.wrap .i64 (i7 + (1 : Int))) C0 C1 C2 C3 C4 C5 C6)
 | n + 1, .p26937 a1 b2 i7 k9 C0 C1 C2 C3 C4 C5 C6 D0 D1 =>
  (idx D1 (IntKind.wrap .i64 (k9 - (1 : Int)))) >>= fun t1 =>
  if (t1 == a1) = true then
   (idx D1 k9) >>= fun t2 =>
   if (t2 == b2) = true then
    some ((true, ()), ())
   else
    ui6 n (.p13468 a1 b2 i7 (IntKind.wrap .i64 (k9 + (1 : Int))) C0 C1 C2 C3 C4 C5 C6 D0 D1)
  else
   ui6 n (.p13468 a1 b2 i7 (IntKind.wrap .i64 (k9 + (1 : Int))) C0 C1 C2 C3 C4 C5 C6 D0 D1)
theorem vG1 : ∀ (n : Nat) (p : ww7), OLe (ui6 n p) (uj0 p) := by
 intro n
 induction n with
 | zero => exact fun p r h => by cases h
 | succ n ih =>
  intro p
  cases p <;> rw [uj0, ui6] <;> repeat' with_reducible first | refine OLe.bind ?_ (fun _ => ?_) | refine OLe.ite ?_ ?_ | exact uj9 n _ | exact ih _ | exact OLe.refl _
def ug2 : Nat → wo6 → Option xH9
 | 0, _ => none
 | n + 1, .start d0_0 d0_1 d0_2 d0_3 d0_4 d0_5 d0_6 rule1 =>
  ug2 n (.p116 rule1 (0 : Int) d0_0 d0_1 d0_2 d0_3 d0_4 d0_5 d0_6 ([] : List Int))
 | n + 1, .p116 rule1 k6 C0 C1 C2 C3 C4 C5 C6 B1 =>
  if (decide (k6 < (List.length C2 : Int))) = true then
   ug2 n (.p29844 rule1 k6 false (0 : Int) C0 C1 C2 C3 C4 C5 C6 B1)
  else
   some (((), ()), (B1, ()))
 | n + 1, .p29844 rule1 k6 is7 i8 C0 C1 C2 C3 C4 C5 C6 B1 =>
  (idx C4 rule1) >>= fun t1 =>
  if (decide (i8 < (List.length t1.Writes : Int))) = true then
   if is7 = true then
    ug2 n (.p29844 rule1 k6 true (IntKind.wrap .i64 (i8 + (1 : Int))) C0 C1 C2 C3 C4 C5 C6 B1)
   else
    (idx C4 rule1) >>= fun t2 =>
    (idx t2.Writes i8) >>= fun t3 =>
    ug2 n (.p29844 rule1 k6 (t3.Element == k6) (IntKind.wrap .i64 (i8 + (1 : Int))) C0 C1 C2 C3 C4 C5 C6 B1)
  else
   if is7 = true then
    if (fits (List.length B1) (List.length ([k6] : List Int)) 8) = true then
     ug2 n (.p116 rule1 (IntKind.wrap .i64 (k6 + (1 : Int))) C0 C1 C2 C3 C4 C5 C6 (B1 ++ ([k6] : List Int)))
    else none
   else
    ug2 n (.p116 rule1 (IntKind.wrap .i64 (k6 + (1 : Int))) C0 C1 C2 C3 C4 C5 C6 B1)
theorem uJ0 : ∀ (n : Nat) (p : wo6), OLe (ug2 n p) (ug9 p) := by
 intro n
 induction n with
 | zero => exact fun p r h => by cases h
 | succ n ih =>
  intro p
  cases p <;> rw [ug9, ug2] <;> repeat' with_reducible first | refine OLe.bind ?_ (fun _ => ?_) | refine OLe.ite ?_ ?_ | exact ih _ | exact OLe.refl _
def ul5 : Nat → wx6 → Option xG4
 | 0, _ => none
 | n + 1, .start nodes0 from1 =>
  if (uz7 (List.length nodes0 : Int) (List.length nodes0 : Int) 1) = true then
   ul5 n (.p116 nodes0 from1 (0 : Int) (List.replicate (Int.toNat (List.length nodes0 : Int)) false))
  else none
 | n + 1, .p116 nodes0 from1 i6 B0 =>
  if (decide (i6 < (List.length from1 : Int))) = true then
   (idx from1 i6) >>= fun t1 =>
   if (decide ((0 : Int) ≤ t1) && decide (t1 < (List.length B0 : Int))) = true then
    (idx B0 t1) >>= fun t2 =>
    ul5 n (.p116 nodes0 from1 (IntKind.wrap .i64 (i6 + (1 : Int))) (List.set B0 (Int.toNat t1) true))
   else none
  else
   ul5 n (.p244 nodes0 (IntKind.wrap .i64 ((List.length nodes0 : Int) - (1 : Int))) B0)
 | n + 1, .p244 nodes0 i7 B0 =>
  if (decide (i7 ≥ (0 : Int))) = true then
   ul5 n (.p15652 nodes0 i7 (0 : Int) B0)
  else
   some (((), ()), (B0, ()))
 | n + 1, .p15652 nodes0 i7 k8 B0 =>
  if (decide ((0 : Int) ≤ i7) && decide (i7 < (List.length B0 : Int))) = true then
   (idx B0 i7) >>= fun t1 =>
   if t1 = true then
    (idx nodes0 i7) >>= fun t2 =>
    if (decide (k8 < (List.length t2.Args : Int))) = true then
     ul5 n (.p31305 nodes0 i7 k8 B0)
    else
     ul5 n (.p244 nodes0 (IntKind.wrap .i64 (i7 - (1 : Int))) B0)
   else
    ul5 n (.p244 nodes0 (IntKind.wrap .i64 (i7 - (1 : Int))) B0)
  else none
 | n + 1, .p31305 nodes0 i7 k8 B0 =>
  (idx nodes0 i7) >>= fun t1 =>
  (idx t1.Args k8) >>= fun t2 =>
  if (decide ((0 : Int) ≤ t2) && decide (t2 < (List.length B0 : Int))) = true then
   (idx B0 t2) >>= fun t3 =>
   ul5 n (.p15652 nodes0 i7 (IntKind.wrap .i64 (k8 + (1 : Int))) (List.set B0 (Int.toNat t2) true))
  else none
theorem vN1 : ∀ (n : Nat) (p : wx6), OLe (ul5 n p) (ul3 p) := by
 intro n
 induction n with
 | zero => exact fun p r h => by cases h
 | succ n ih =>
  intro p
  cases p <;> rw [ul3, ul5] <;> repeat' with_reducible first | refine OLe.bind ?_ (fun _ => ?_) | refine OLe.ite ?_ ?_ | exact ih _ | exact OLe.refl _
def ul9 : Nat → wz8 → Option xN5
 | 0, _ => none
 | n + 1, .start nodes0 from1 leaves2 =>
  (ul5 n (.start nodes0 from1)) >>= fun t1 =>
  if (uz7 leaves2 leaves2 1) = true then
   ul9 n (.p244 nodes0 leaves2 (0 : Int) t1.2.1 (List.replicate (Int.toNat leaves2) false))
  else none
 | n + 1, .p244 nodes0 leaves2 i9 B0 B1 =>
  if (decide (i9 < (List.length nodes0 : Int))) = true then
   if (decide ((0 : Int) ≤ i9) && decide (i9 < (List.length B0 : Int))) = true then
    (idx B0 i9) >>= fun t1 =>
    if t1 = true then
     (idx nodes0 i9) >>= fun t2 =>
     ul9 n (.p3913 nodes0 leaves2 i9 (t2.Op == (1 : Int)) B0 B1)
    else
     ul9 n (.p3913 nodes0 leaves2 i9 false B0 B1)
   else none
  else
   ul9 n (.p1012 leaves2 (0 : Int) B1 ([] : List Int))
 | n + 1, .p3913 nodes0 leaves2 i9 s34 B0 B1 =>
  if s34 = true then
   (idx nodes0 i9) >>= fun t1 =>
   if (decide ((0 : Int) ≤ t1.Value) && decide (t1.Value < (List.length B1 : Int))) = true then
    (idx B1 t1.Value) >>= fun t2 =>
    ul9 n (.p244 nodes0 leaves2 (IntKind.wrap .i64 (i9 + (1 : Int))) B0 (List.set B1 (Int.toNat t1.Value) true))
   else none
  else
   ul9 n (.p244 nodes0 leaves2 (IntKind.wrap .i64 (i9 + (1 : Int))) B0 B1)
 | n + 1, .p1012 leaves2 i11 B0 B1 =>
  if (decide (i11 < leaves2)) = true then
   if (decide ((0 : Int) ≤ i11) && decide (i11 < (List.length B0 : Int))) = true then
    (idx B0 i11) >>= fun t1 =>
    if t1 = true then
     if (fits (List.length B1) (List.length ([i11] : List Int)) 8) = true then
      ul9 n (.p1012 leaves2 (IntKind.wrap .i64 (i11 + (1 : Int))) B0 (B1 ++ ([i11] : List Int)))
     else none
    else
     ul9 n (.p1012 leaves2 (IntKind.wrap .i64 (i11 + (1 : Int))) B0 B1)
   else none
  else
   some (((), ()), (B1, ()))
theorem vM4 : ∀ (n : Nat) (p : wz8), OLe (ul9 n p) (ul0 p) := by
 intro n
 induction n with
 | zero => exact fun p r h => by cases h
 | succ n ih =>
  intro p
  cases p <;> rw [ul0, ul9] <;> repeat' with_reducible first | refine OLe.bind ?_ (fun _ => ?_) | refine OLe.ite ?_ ?_ | exact vN1 n _ | exact ih _ | exact OLe.refl _
def uj5 : Nat → wI8 → Option xE4
 | 0, _ => none
 | n + 1, .start d0_0 d0_1 d0_2 d0_3 d0_4 d0_5 d0_6 rule1 =>
  (idx d0_4 rule1) >>= fun t1 =>
  uj5 n (.p244 (0 : Int) d0_0 d0_1 d0_2 d0_3 d0_4 d0_5 d0_6 t1.Name t1.Guard t1.Writes ([t1.Guard] : List Int))
 | n + 1, .p244 i7 C0 C1 C2 C3 C4 C5 C6 D0 D1 D2 B2 =>
  if (decide (i7 < (List.length D2 : Int))) = true then
   (idx D2 i7) >>= fun t1 =>
   (idx D2 i7) >>= fun t2 =>
   if (fits (List.length B2) (List.length ([t1.When, t2.Value] : List Int)) 8) = true then
    uj5 n (.p244 (IntKind.wrap .i64 (i7 + (1 : Int))) C0 C1 C2 C3 C4 C5 C6 D0 D1 D2 (B2 ++ ([t1.When, t2.Value] : List Int)))
   else none
  else
   (ul9 n (.start C3 B2 (IntKind.wrap .i64 ((List.length C1 : Int) + (List.length C2 : Int))))) >>= fun t3 =>
   uj5 n (.p2036 (0 : Int) C0 C1 C2 C3 C4 C5 C6 t3.2.1 ([] : List Int))
 | n + 1, .p2036 i10 C0 C1 C2 C3 C4 C5 C6 B1 B2 =>
  if (decide (i10 < (List.length B1 : Int))) = true then
   if (decide ((0 : Int) ≤ i10) && decide (i10 < (List.length B1 : Int))) = true then
    (idx B1 i10) >>= fun t1 =>
    if (decide (t1 ≥ (List.length C1 : Int))) = true then
     if (decide ((0 : Int) ≤ i10) && decide (i10 < (List.length B1 : Int))) = true then
      (idx B1 i10) >>= fun t2 =>
      if (fits (List.length B2) (List.length ([IntKind.wrap .i64 (t2 - (List.length C1 : Int))] : List Int)) 8) = true then
       uj5 n (.p2036 (IntKind.wrap .i64 (i10 + (1 : Int))) C0 C1 C2 C3 C4 C5 C6 B1 (B2 ++ ([IntKind.wrap .i64 (t2 - (List.length C1 : Int))] : List Int)))
      else none
     else none
    else
     uj5 n (.p2036 (IntKind.wrap .i64 (i10 + (1 : Int))) C0 C1 C2 C3 C4 C5 C6 B1 B2)
   else none
  else
   some (((), ()), (B2, ()))
theorem u30 : ∀ (n : Nat) (p : wI8), OLe (uj5 n p) (uj7 p) := by
 intro n
 induction n with
 | zero => exact fun p r h => by cases h
 | succ n ih =>
  intro p
  cases p <;> rw [uj7, uj5] <;> repeat' with_reducible first | refine OLe.bind ?_ (fun _ => ?_) | refine OLe.ite ?_ ?_ | exact vM4 n _ | exact ih _ | exact OLe.refl _
def uh3 : Nat → wn2 → Option xR1
 | 0, _ => none
 | n + 1, .start d0_0 d0_1 d0_2 d0_3 d0_4 d0_5 d0_6 a1 b2 =>
  uh3 n (.p52 a1 b2 (0 : Int) d0_0 d0_1 d0_2 d0_3 d0_4 d0_5 d0_6)
 | n + 1, .p52 a1 b2 k7 C0 C1 C2 C3 C4 C5 C6 =>
  if (decide (k7 < (List.length C2 : Int))) = true then
   (idx C2 k7) >>= fun t1 =>
   if (!(t1.Kind == (1 : Int))) = true then
    (ug2 n (.start C0 C1 C2 C3 C4 C5 C6 a1)) >>= fun t2 =>
    (ud1 n (.start t2.2.1 k7)) >>= fun t3 =>
    if t3.1.1 = true then
     (uj5 n (.start C0 C1 C2 C3 C4 C5 C6 b2)) >>= fun t4 =>
     (ud1 n (.start t4.2.1 k7)) >>= fun t5 =>
     if t5.1.1 = true then
      some ((false, ()), ())
     else
      if (t1.Kind == (1 : Int)) = true then
       (uj5 n (.start C0 C1 C2 C3 C4 C5 C6 a1)) >>= fun t6 =>
       (ud1 n (.start t6.2.1 k7)) >>= fun t7 =>
       if t7.1.1 = true then
        (ug2 n (.start C0 C1 C2 C3 C4 C5 C6 b2)) >>= fun t8 =>
        (ud1 n (.start t8.2.1 k7)) >>= fun t9 =>
        if t9.1.1 = true then
         some ((false, ()), ())
        else
         uh3 n (.p52 a1 b2 (IntKind.wrap .i64 (k7 + (1 : Int))) C0 C1 C2 C3 C4 C5 C6)
       else
        uh3 n (.p52 a1 b2 (IntKind.wrap .i64 (k7 + (1 : Int))) C0 C1 C2 C3 C4 C5 C6)
      else
       uh3 n (.p52 a1 b2 (IntKind.wrap .i64 (k7 + (1 : Int))) C0 C1 C2 C3 C4 C5 C6)
    else
     if (t1.Kind == (1 : Int)) = true then
      (uj5 n (.start C0 C1 C2 C3 C4 C5 C6 a1)) >>= fun t10 =>
      (ud1 n (.start t10.2.1 k7)) >>= fun t11 =>
      if t11.1.1 = true then
       (ug2 n (.start C0 C1 C2 C3 C4 C5 C6 b2)) >>= fun t12 =>
       (ud1 n (.start t12.2.1 k7)) >>= fun t13 =>
       if t13.1.1 = true then
        some ((false, ()), ())
       else
        uh3 n (.p52 a1 b2 (IntKind.wrap .i64 (k7 + (1 : Int))) C0 C1 C2 C3 C4 C5 C6)
      else
       uh3 n (.p52 a1 b2 (IntKind.wrap .i64 (k7 + (1 : Int))) C0 C1 C2 C3 C4 C5 C6)
     else
      uh3 n (.p52 a1 b2 (IntKind.wrap .i64 (k7 + (1 : Int))) C0 C1 C2 C3 C4 C5 C6)
   else
    if (t1.Kind == (1 : Int)) = true then
     (uj5 n (.start C0 C1 C2 C3 C4 C5 C6 a1)) >>= fun t14 =>
     (ud1 n (.start t14.2.1 k7)) >>= fun t15 =>
     if t15.1.1 = true then
      (ug2 n (.start C0 C1 C2 C3 C4 C5 C6 b2)) >>= fun t16 =>
      (ud1 n (.start t16.2.1 k7)) >>= fun t17 =>
      if t17.1.1 = true then
       some ((false, ()), ())
      else
       uh3 n (.p52 a1 b2 (IntKind.wrap .i64 (k7 + (1 : Int))) C0 C1 C2 C3 C4 C5 C6)
     else
      uh3 n (.p52 a1 b2 (IntKind.wrap .i64 (k7 + (1 : Int))) C0 C1 C2 C3 C4 C5 C6)
    else
     uh3 n (.p52 a1 b2 (IntKind.wrap .i64 (k7 + (1 : Int))) C0 C1 C2 C3 C4 C5 C6)
  else
   some ((true, ()), ())
theorem vK8 : ∀ (n : Nat) (p : wn2), OLe (uh3 n p) (ui1 p) := by
 intro n
 induction n with
 | zero => exact fun p r h => by cases h
 | succ n ih =>
  intro p
  cases p <;> rw [ui1, uh3] <;> repeat' with_reducible first | refine OLe.bind ?_ (fun _ => ?_) | refine OLe.ite ?_ ?_ | exact uj9 n _ | exact uJ0 n _ | exact u30 n _ | exact ih _ | exact OLe.refl _
def uw4 : Nat → wo5 → Option xE5
 | 0, _ => none
 | n + 1, .start d0_0 d0_1 d0_2 d0_3 d0_4 d0_5 d0_6 a1 b2 =>
  (uh3 n (.start d0_0 d0_1 d0_2 d0_3 d0_4 d0_5 d0_6 a1 b2)) >>= fun t1 =>
  (uh3 n (.start d0_0 d0_1 d0_2 d0_3 d0_4 d0_5 d0_6 b2 a1)) >>= fun t2 =>
  if t1.1.1 = true then
   uw4 n (.p29 a1 b2 t1.1.1 t2.1.1 t2.1.1 d0_0 d0_1 d0_2 d0_3 d0_4 d0_5 d0_6)
  else
   uw4 n (.p29 a1 b2 t1.1.1 t2.1.1 false d0_0 d0_1 d0_2 d0_3 d0_4 d0_5 d0_6)
 | n + 1, .p29 a1 b2 before7 after8 s22 C0 C1 C2 C3 C4 C5 C6 =>
  if s22 = true then
   (ug2 n (.start C0 C1 C2 C3 C4 C5 C6 b2)) >>= fun t1 =>
   uw4 n (.p1876 a1 (0 : Int) C0 C1 C2 C3 C4 C5 C6 t1.2.1)
  else
   if before7 = true then
    some (((2 : Int), ()), ())
   else
    if after8 = true then
     some (((3 : Int), ()), ())
    else
     some (((4 : Int), ()), ())
 | n + 1, .p1876 a1 i10 C0 C1 C2 C3 C4 C5 C6 B1 =>
  if (decide (i10 < (List.length B1 : Int))) = true then
   (ug2 n (.start C0 C1 C2 C3 C4 C5 C6 a1)) >>= fun t1 =>
   if (decide ((0 : Int) ≤ i10) && decide (i10 < (List.length B1 : Int))) = true then
    (idx B1 i10) >>= fun t2 =>
    (ud1 n (.start t1.2.1 t2)) >>= fun t3 =>
    if t3.1.1 = true then
     some (((1 : Int), ()), ())
    else
     uw4 n (.p1876 a1 (IntKind.wrap .i64 (i10 + (1 : Int))) C0 C1 C2 C3 C4 C5 C6 B1)
   else none
  else
   some (((0 : Int), ()), ())
theorem vE6 : ∀ (n : Nat) (p : wo5), OLe (uw4 n p) (ut3 p) := by
 intro n
 induction n with
 | zero => exact fun p r h => by cases h
 | succ n ih =>
  intro p
  cases p <;> rw [ut3, uw4] <;> repeat' with_reducible first | refine OLe.bind ?_ (fun _ => ?_) | refine OLe.ite ?_ ?_ | exact uj9 n _ | exact uJ0 n _ | exact vK8 n _ | exact ih _ | exact OLe.refl _
def uq0 : Nat → wv9 → Option xR0
 | 0, _ => none
 | n + 1, .start d0_0 d0_1 d0_2 d0_3 d0_4 d0_5 d0_6 a1 b2 =>
  uq0 n (.p52 a1 b2 (0 : Int) d0_0 d0_1 d0_2 d0_3 d0_4 d0_5 d0_6)
 | n + 1, .p52 a1 b2 i7 C0 C1 C2 C3 C4 C5 C6 =>
  if (decide (i7 < (List.length C6 : Int))) = true then
   (idx C6 i7) >>= fun t1 =>
   if (t1.Kind == (1 : Int)) = true then
    (idx t1.Rules (0 : Int)) >>= fun t2 =>
    if (t2 == a1) = true then
     (span (List.length t1.Rules) (1 : Int) (List.length t1.Rules : Int)) >>= fun t3 =>
     (ud1 n (.start (cut t1.Rules t3) b2)) >>= fun t4 =>
     if t4.1.1 = true then
      some ((true, ()), ())
     else
      (idx t1.Rules (0 : Int)) >>= fun t5 =>
      if (t5 == b2) = true then
       (span (List.length t1.Rules) (1 : Int) (List.length t1.Rules : Int)) >>= fun t6 =>
       (ud1 n (.start (cut t1.Rules t6) a1)) >>= fun t7 =>
       if t7.1.1 = true then
        some ((true, ()), ())
       else
        uq0 n (.p52 a1 b2 (IntKind.wrap .i64 (i7 + (1 : Int))) C0 C1 C2 C3 C4 C5 C6)
      else
       uq0 n (.p52 a1 b2 (IntKind.wrap .i64 (i7 + (1 : Int))) C0 C1 C2 C3 C4 C5 C6)
    else
     (idx t1.Rules (0 : Int)) >>= fun t8 =>
     if (t8 == b2) = true then
      (span (List.length t1.Rules) (1 : Int) (List.length t1.Rules : Int)) >>= fun t9 =>
      (ud1 n (.start (cut t1.Rules t9) a1)) >>= fun t10 =>
      if t10.1.1 = true then
       some ((true, ()), ())
      else
       uq0 n (.p52 a1 b2 (IntKind.wrap .i64 (i7 + (1 : Int))) C0 C1 C2 C3 C4 C5 C6)
     else
      uq0 n (.p52 a1 b2 (IntKind.wrap .i64 (i7 + (1 : Int))) C0 C1 C2 C3 C4 C5 C6)
   else
    uq0 n (.p52 a1 b2 (IntKind.wrap .i64 (i7 + (1 : Int))) C0 C1 C2 C3 C4 C5 C6)
  else
   some ((false, ()), ())
theorem vF0 : ∀ (n : Nat) (p : wv9), OLe (uq0 n p) (uo8 p) := by
 intro n
 induction n with
 | zero => exact fun p r h => by cases h
 | succ n ih =>
  intro p
  cases p <;> rw [uo8, uq0] <;> repeat' with_reducible first | refine OLe.bind ?_ (fun _ => ?_) | refine OLe.ite ?_ ?_ | exact uj9 n _ | exact ih _ | exact OLe.refl _
def uv1 : Nat → wF8 → Option xO9
 | 0, _ => none
 | n + 1, .start d0_0 d0_1 d0_2 d0_3 d0_4 d0_5 d0_6 a1 b2 =>
  uv1 n (.p52 a1 b2 (0 : Int) d0_0 d0_1 d0_2 d0_3 d0_4 d0_5 d0_6)
 | n + 1, .p52 a1 b2 k7 C0 C1 C2 C3 C4 C5 C6 =>
  if (decide (k7 < (List.length C2 : Int))) = true then
   (idx C2 k7) >>= fun t1 =>
   if (t1.Kind == (1 : Int)) = true then
    (ug2 n (.start C0 C1 C2 C3 C4 C5 C6 a1)) >>= fun t2 =>
    (ud1 n (.start t2.2.1 k7)) >>= fun t3 =>
    if t3.1.1 = true then
     (uj5 n (.start C0 C1 C2 C3 C4 C5 C6 b2)) >>= fun t4 =>
     (ud1 n (.start t4.2.1 k7)) >>= fun t5 =>
     if t5.1.1 = true then
      some ((true, ()), ())
     else
      uv1 n (.p52 a1 b2 (IntKind.wrap .i64 (k7 + (1 : Int))) C0 C1 C2 C3 C4 C5 C6)
    else
     uv1 n (.p52 a1 b2 (IntKind.wrap .i64 (k7 + (1 : Int))) C0 C1 C2 C3 C4 C5 C6)
   else
    uv1 n (.p52 a1 b2 (IntKind.wrap .i64 (k7 + (1 : Int))) C0 C1 C2 C3 C4 C5 C6)
  else
   some ((false, ()), ())
theorem vQ5 : ∀ (n : Nat) (p : wF8), OLe (uv1 n p) (ut5 p) := by
 intro n
 induction n with
 | zero => exact fun p r h => by cases h
 | succ n ih =>
  intro p
  cases p <;> rw [ut5, uv1] <;> repeat' with_reducible first | refine OLe.bind ?_ (fun _ => ?_) | refine OLe.ite ?_ ?_ | exact uj9 n _ | exact uJ0 n _ | exact u30 n _ | exact ih _ | exact OLe.refl _
def uc3 : Nat → wi8 → Option xM6
 | 0, _ => none
 | n + 1, .start d0_0 d0_1 d0_2 d0_3 d0_4 d0_5 d0_6 =>
  uc3 n (.p244 (List.length d0_4 : Int) (0 : Int) d0_0 d0_1 d0_2 d0_3 d0_4 d0_5 d0_6 ([] : List ub1))
 | n + 1, .p244 n4 a6 C0 C1 C2 C3 C4 C5 C6 B2 =>
  if (decide (a6 < n4)) = true then
   uc3 n (.p15652 n4 a6 (0 : Int) C0 C1 C2 C3 C4 C5 C6 B2)
  else
   (uh4 n (.start n4 B2)) >>= fun t1 =>
   if (!t1.1.2.1) = true then
    some ((([], ([], ([], ()))), (false, ())), ())
   else
    if (uz7 (IntKind.wrap .i64 (n4 * n4)) (IntKind.wrap .i64 (n4 * n4)) 1) = true then
     uc3 n (.p16372 n4 (0 : Int) C0 C1 C2 C3 C4 C5 C6 t1.2.1 ([] : List ub1) (List.replicate (Int.toNat (IntKind.wrap .i64 (n4 * n4))) false))
    else none
 | n + 1, .p15652 n4 a6 b7 C0 C1 C2 C3 C4 C5 C6 B2 =>
  if (decide (b7 < n4)) = true then
   (ui6 n (.start C0 C1 C2 C3 C4 C5 C6 a6 b7)) >>= fun t1 =>
   if t1.1.1 = true then
    if (fits (List.length B2) (List.length ([(⟨a6, b7⟩ : ub1)] : List ub1)) 16) = true then
     uc3 n (.p15652 n4 a6 (IntKind.wrap .i64 (b7 + (1 : Int))) C0 C1 C2 C3 C4 C5 C6 (B2 ++ ([(⟨a6, b7⟩ : ub1)] : List ub1)))
    else none
   else
    uc3 n (.p15652 n4 a6 (IntKind.wrap .i64 (b7 + (1 : Int))) C0 C1 C2 C3 C4 C5 C6 B2)
  else
   uc3 n (.p244 n4 (IntKind.wrap .i64 (a6 + (1 : Int))) C0 C1 C2 C3 C4 C5 C6 B2)
 | n + 1, .p16372 n4 i13 C0 C1 C2 C3 C4 C5 C6 B2 B4 B5 =>
  if (decide (i13 < n4)) = true then
   uc3 n (.p1047844 n4 i13 (0 : Int) C0 C1 C2 C3 C4 C5 C6 B2 B4 B5)
  else
   (uh4 n (.start n4 B4)) >>= fun t1 =>
   uc3 n (.p65524 n4 (0 : Int) B5 B2 t1.2.1 ([] : List ub1))
 | n + 1, .p1047844 n4 i13 k14 C0 C1 C2 C3 C4 C5 C6 B2 B4 B5 =>
  if (decide (k14 < i13)) = true then
   if (decide ((0 : Int) ≤ k14) && decide (k14 < (List.length B2 : Int))) = true then
    (idx B2 k14) >>= fun t1 =>
    if (decide ((0 : Int) ≤ i13) && decide (i13 < (List.length B2 : Int))) = true then
     (idx B2 i13) >>= fun t2 =>
     (uw4 n (.start C0 C1 C2 C3 C4 C5 C6 t1 t2)) >>= fun t3 =>
     (uq0 n (.start C0 C1 C2 C3 C4 C5 C6 t1 t2)) >>= fun t4 =>
     if t4.1.1 = true then
      uc3 n (.p134124109 n4 i13 k14 t1 t2 t3.1.1 true C0 C1 C2 C3 C4 C5 C6 B2 B4 B5)
     else
      if (t3.1.1 == (4 : Int)) = true then
       uc3 n (.p134124109 n4 i13 k14 t1 t2 t3.1.1 true C0 C1 C2 C3 C4 C5 C6 B2 B4 B5)
      else
       if (t3.1.1 == (3 : Int)) = true then
        (uv1 n (.start C0 C1 C2 C3 C4 C5 C6 t2 t1)) >>= fun t5 =>
        uc3 n (.p134124109 n4 i13 k14 t1 t2 t3.1.1 t5.1.1 C0 C1 C2 C3 C4 C5 C6 B2 B4 B5)
       else
        uc3 n (.p134124109 n4 i13 k14 t1 t2 t3.1.1 false C0 C1 C2 C3 C4 C5 C6 B2 B4 B5)
    else none
   else none
  else
   uc3 n (.p16372 n4 (IntKind.wrap .i64 (i13 + (1 : Int))) C0 C1 C2 C3 C4 C5 C6 B2 B4 B5)
 | n + 1, .p134124109 n4 i13 k14 q15 r16 relation17 s101 C0 C1 C2 C3 C4 C5 C6 B2 B4 B5 =>
  if s101 = true then
   if (decide ((0 : Int) ≤ (IntKind.wrap .i64 ((IntKind.wrap .i64 ((if r16 < q15 then r16 else q15) * n4)) + (if r16 > q15 then r16 else q15)))) && decide ((IntKind.wrap .i64 ((IntKind.wrap .i64 ((if r16 < q15 then r16 else q15) * n4)) + (if r16 > q15 then r16 else q15))) < (List.length B5 : Int))) = true then
    (idx B5 (IntKind.wrap .i64 ((IntKind.wrap .i64 ((if r16 < q15 then r16 else q15) * n4)) + (if r16 > q15 then r16 else q15)))) >>= fun t1 =>
    uc3 n (.p1047844 n4 i13 (IntKind.wrap .i64 (k14 + (1 : Int))) C0 C1 C2 C3 C4 C5 C6 B2 B4 (List.set B5 (Int.toNat (IntKind.wrap .i64 ((IntKind.wrap .i64 ((if r16 < q15 then r16 else q15) * n4)) + (if r16 > q15 then r16 else q15)))) true))
   else none
  else
   if (relation17 != (2 : Int)) = true then
    if (relation17 != (3 : Int)) = true then
     uc3 n (.p1047844 n4 i13 (IntKind.wrap .i64 (k14 + (1 : Int))) C0 C1 C2 C3 C4 C5 C6 B2 B4 B5)
    else
     uc3 n (.p134124111 n4 i13 k14 q15 r16 relation17 C0 C1 C2 C3 C4 C5 C6 B2 B4 B5)
   else
    uc3 n (.p134124111 n4 i13 k14 q15 r16 relation17 C0 C1 C2 C3 C4 C5 C6 B2 B4 B5)
 | n + 1, .p134124111 n4 i13 k14 q15 r16 relation17 C0 C1 C2 C3 C4 C5 C6 B2 B4 B5 =>
  if (relation17 == (3 : Int)) = true then
   uc3 n (.p536496447 n4 i13 k14 q15 r16 C0 C1 C2 C3 C4 C5 C6 B2 B4 B5 r16 q15)
  else
   uc3 n (.p536496447 n4 i13 k14 q15 r16 C0 C1 C2 C3 C4 C5 C6 B2 B4 B5 q15 r16)
 | n + 1, .p536496447 n4 i13 k14 q15 r16 C0 C1 C2 C3 C4 C5 C6 B2 B4 B5 L0 L1 =>
  if (fits (List.length ([] : List ub1)) (List.length B4) 16) = true then
   if (fits (List.length (([] : List ub1) ++ B4)) (List.length ([(⟨L0, L1⟩ : ub1)] : List ub1)) 16) = true then
    (uh4 n (.start n4 ((([] : List ub1) ++ B4) ++ ([(⟨L0, L1⟩ : ub1)] : List ub1)))) >>= fun t1 =>
    if t1.1.2.1 = true then
     uc3 n (.p1047844 n4 i13 (IntKind.wrap .i64 (k14 + (1 : Int))) C0 C1 C2 C3 C4 C5 C6 B2 ((([] : List ub1) ++ B4) ++ ([(⟨L0, L1⟩ : ub1)] : List ub1)) B5)
    else
     if (decide ((0 : Int) ≤ (IntKind.wrap .i64 ((IntKind.wrap .i64 ((if r16 < q15 then r16 else q15) * n4)) + (if r16 > q15 then r16 else q15)))) && decide ((IntKind.wrap .i64 ((IntKind.wrap .i64 ((if r16 < q15 then r16 else q15) * n4)) + (if r16 > q15 then r16 else q15))) < (List.length B5 : Int))) = true then
      (idx B5 (IntKind.wrap .i64 ((IntKind.wrap .i64 ((if r16 < q15 then r16 else q15) * n4)) + (if r16 > q15 then r16 else q15)))) >>= fun t2 =>
      uc3 n (.p1047844 n4 i13 (IntKind.wrap .i64 (k14 + (1 : Int))) C0 C1 C2 C3 C4 C5 C6 B2 B4 (List.set B5 (Int.toNat (IntKind.wrap .i64 ((IntKind.wrap .i64 ((if r16 < q15 then r16 else q15) * n4)) + (if r16 > q15 then r16 else q15)))) true))
     else none
   else none
  else none
 | n + 1, .p65524 n4 a22 B2 B3 B4 B5 =>
  if (decide (a22 < n4)) = true then
   uc3 n (.p4193572 n4 a22 (IntKind.wrap .i64 (a22 + (1 : Int))) B2 B3 B4 B5)
  else
   some (((B3, (B4, (B5, ()))), (true, ())), ())
 | n + 1, .p4193572 n4 a22 b23 B2 B3 B4 B5 =>
  if (decide (b23 < n4)) = true then
   if (decide ((0 : Int) ≤ (IntKind.wrap .i64 ((IntKind.wrap .i64 (a22 * n4)) + b23))) && decide ((IntKind.wrap .i64 ((IntKind.wrap .i64 (a22 * n4)) + b23)) < (List.length B2 : Int))) = true then
    (idx B2 (IntKind.wrap .i64 ((IntKind.wrap .i64 (a22 * n4)) + b23))) >>= fun t1 =>
    if t1 = true then
     if (fits (List.length B5) (List.length ([(⟨a22, b23⟩ : ub1)] : List ub1)) 16) = true then
      uc3 n (.p4193572 n4 a22 (IntKind.wrap .i64 (b23 + (1 : Int))) B2 B3 B4 (B5 ++ ([(⟨a22, b23⟩ : ub1)] : List ub1)))
     else none
    else
     uc3 n (.p4193572 n4 a22 (IntKind.wrap .i64 (b23 + (1 : Int))) B2 B3 B4 B5)
   else none
  else
   uc3 n (.p65524 n4 (IntKind.wrap .i64 (a22 + (1 : Int))) B2 B3 B4 B5)
theorem vT3 : ∀ (n : Nat) (p : wi8), OLe (uc3 n p) (uc6 p) := by
 intro n
 induction n with
 | zero => exact fun p r h => by cases h
 | succ n ih =>
  intro p
  cases p <;> rw [uc6, uc3] <;> repeat' with_reducible first | refine OLe.bind ?_ (fun _ => ?_) | refine OLe.ite ?_ ?_ | exact vR6 n _ | exact vG1 n _ | exact vE6 n _ | exact vF0 n _ | exact vQ5 n _ | exact ih _ | exact OLe.refl _
def uU5 : Nat → wo1 → Option xQ9
 | 0, _ => none
 | n + 1, .start d0_0 d0_1 d0_2 d0_3 d0_4 d0_5 d0_6 =>
  if (uz7 (List.length d0_2 : Int) (List.length d0_2 : Int) 8) = true then
   uU5 n (.p116 (0 : Int) d0_0 d0_1 d0_2 d0_3 d0_4 d0_5 d0_6 (List.replicate (Int.toNat (List.length d0_2 : Int)) (0 : Int)))
  else none
 | n + 1, .p116 i4 C0 C1 C2 C3 C4 C5 C6 B1 =>
  if (decide (i4 < (List.length C2 : Int))) = true then
   (idx C2 i4) >>= fun t1 =>
   if (decide ((0 : Int) ≤ i4) && decide (i4 < (List.length B1 : Int))) = true then
    (idx B1 i4) >>= fun t2 =>
    uU5 n (.p116 (IntKind.wrap .i64 (i4 + (1 : Int))) C0 C1 C2 C3 C4 C5 C6 (List.set B1 (Int.toNat i4) t1.Init))
   else none
  else
   some (((), ()), (B1, ()))
theorem vL6 : ∀ (n : Nat) (p : wo1), OLe (uU5 n p) (ux3 p) := by
 intro n
 induction n with
 | zero => exact fun p r h => by cases h
 | succ n ih =>
  intro p
  cases p <;> rw [ux3, uU5] <;> repeat' with_reducible first | refine OLe.bind ?_ (fun _ => ?_) | refine OLe.ite ?_ ?_ | exact ih _ | exact OLe.refl _
def wc9 : Nat → wu1 → Option xP4
 | 0, _ => none
 | n + 1, .start memory0 =>
  if (uz7 (4 : Int) (4 : Int) 8) = true then
   (vL3 n (.start memory0)) >>= fun t1 =>
   some ((((0 : Int), ((0 : Int), ((), ((), ())))), ()), (List.replicate (Int.toNat (4 : Int)) (0 : Int), (t1.2.1, ())))
  else none
theorem xF4 : ∀ (n : Nat) (p : wu1), OLe (wc9 n p) (uF2 p) := by
 intro n
 induction n with
 | zero => exact fun p r h => by cases h
 | succ n ih =>
  intro p
  cases p <;> rw [uF2, wc9] <;> repeat' with_reducible first | refine OLe.bind ?_ (fun _ => ?_) | refine OLe.ite ?_ ?_ | exact wn4 n _ | exact ih _ | exact OLe.refl _
def uU8 : Nat → wv1 → Option xE7
 | 0, _ => none
 | n + 1, .start s0_0 s0_1 s0_2 a1 b2 =>
  uU8 n (.p52 a1 b2 (0 : Int) s0_0 s0_1 s0_2)
 | n + 1, .p52 a1 b2 i7 C0 C1 C2 =>
  if (decide (i7 < (List.length C2 : Int))) = true then
   (idx C2 i7) >>= fun t1 =>
   if ((t1.a0 == (if b2 < a1 then b2 else a1)) && ((t1.a1 == (if b2 > a1 then b2 else a1)) && true)) = true then
    some ((true, ()), ())
   else
    uU8 n (.p52 a1 b2 (IntKind.wrap .i64 (i7 + (1 : Int))) C0 C1 C2)
  else
   some ((false, ()), ())
theorem vU6 : ∀ (n : Nat) (p : wv1), OLe (uU8 n p) (uv8 p) := by
 intro n
 induction n with
 | zero => exact fun p r h => by cases h
 | succ n ih =>
  intro p
  cases p <;> rw [uv8, uU8] <;> repeat' with_reducible first | refine OLe.bind ?_ (fun _ => ?_) | refine OLe.ite ?_ ?_ | exact ih _ | exact OLe.refl _
def uD0 : Nat → wr6 → Option xQ1
 | 0, _ => none
 | n + 1, .start l0 =>
  if (fits (List.length ([] : List Int)) (List.length l0) 8) = true then
   some (((), ()), (([] : List Int) ++ l0, ()))
  else none
theorem uv9 : ∀ (n : Nat) (p : wr6), OLe (uD0 n p) (uh0 p) := by
 intro n
 induction n with
 | zero => exact fun p r h => by cases h
 | succ n ih =>
  intro p
  cases p <;> rw [uh0, uD0] <;> repeat' with_reducible first | refine OLe.bind ?_ (fun _ => ?_) | refine OLe.ite ?_ ?_ | exact ih _ | exact OLe.refl _
def uw0 : Nat → wx3 → Option xH7
 | 0, _ => none
 | n + 1, .start d0_0 d0_1 d0_2 d0_3 d0_4 d0_5 d0_6 state1 =>
  (uD0 n (.start state1)) >>= fun t1 =>
  uw0 n (.p116 (0 : Int) d0_0 d0_1 d0_2 d0_3 d0_4 d0_5 d0_6 t1.2.1)
 | n + 1, .p116 i6 C0 C1 C2 C3 C4 C5 C6 B1 =>
  if (decide (i6 < (List.length C2 : Int))) = true then
   (idx C2 i6) >>= fun t1 =>
   if (t1.Kind == (1 : Int)) = true then
    (idx C2 i6) >>= fun t2 =>
    if (decide ((0 : Int) ≤ i6) && decide (i6 < (List.length B1 : Int))) = true then
     (idx B1 i6) >>= fun t3 =>
     uw0 n (.p116 (IntKind.wrap .i64 (i6 + (1 : Int))) C0 C1 C2 C3 C4 C5 C6 (List.set B1 (Int.toNat i6) t2.Init))
    else none
   else
    uw0 n (.p116 (IntKind.wrap .i64 (i6 + (1 : Int))) C0 C1 C2 C3 C4 C5 C6 B1)
  else
   some (((), ()), (B1, ()))
theorem uV0 : ∀ (n : Nat) (p : wx3), OLe (uw0 n p) (ur2 p) := by
 intro n
 induction n with
 | zero => exact fun p r h => by cases h
 | succ n ih =>
  intro p
  cases p <;> rw [ur2, uw0] <;> repeat' with_reducible first | refine OLe.bind ?_ (fun _ => ?_) | refine OLe.ite ?_ ?_ | exact uv9 n _ | exact ih _ | exact OLe.refl _
def vq2 : Nat → wp0 → Option xO1
 | 0, _ => none
 | n + 1, .start inputs0 state1 =>
  (uD0 n (.start inputs0)) >>= fun t1 =>
  if (fits (List.length t1.2.1) (List.length state1) 8) = true then
   some (((), ()), (t1.2.1 ++ state1, ()))
  else none
theorem vK4 : ∀ (n : Nat) (p : wp0), OLe (vq2 n p) (uo9 p) := by
 intro n
 induction n with
 | zero => exact fun p r h => by cases h
 | succ n ih =>
  intro p
  cases p <;> rw [uo9, vq2] <;> repeat' with_reducible first | refine OLe.bind ?_ (fun _ => ?_) | refine OLe.ite ?_ ?_ | exact uv9 n _ | exact ih _ | exact OLe.refl _
def uN8 : Nat → wo3 → Option xJ3
 | 0, _ => none
 | n + 1, .start is0 =>
  if is0 = true then
   some (((1 : Int), ()), ())
  else
   some (((0 : Int), ()), ())
theorem vS7 : ∀ (n : Nat) (p : wo3), OLe (uN8 n p) (uu9 p) := by
 intro n
 induction n with
 | zero => exact fun p r h => by cases h
 | succ n ih =>
  intro p
  cases p <;> rw [uu9, uN8] <;> repeat' with_reducible first | refine OLe.bind ?_ (fun _ => ?_) | refine OLe.ite ?_ ?_ | exact ih _ | exact OLe.refl _
def uK8 : Nat → wn8 → Option xQ2
 | 0, _ => none
 | n + 1, .start n0 width1 =>
  (un7 n (.start (IntKind.wrap .i64 (width1 - (1 : Int))))) >>= fun t1 =>
  if (decide (n0 ≥ t1.1.1)) = true then
   (un7 n (.start width1)) >>= fun t2 =>
   some ((IntKind.wrap .i64 (n0 - t2.1.1), ()), ())
  else
   some ((n0, ()), ())
theorem vR3 : ∀ (n : Nat) (p : wn8), OLe (uK8 n p) (uH8 p) := by
 intro n
 induction n with
 | zero => exact fun p r h => by cases h
 | succ n ih =>
  intro p
  cases p <;> rw [uH8, uK8] <;> repeat' with_reducible first | refine OLe.bind ?_ (fun _ => ?_) | refine OLe.ite ?_ ?_ | exact uG9 n _ | exact ih _ | exact OLe.refl _
def vl2 : Nat → ww5 → Option xH3
 | 0, _ => none
 | n + 1, .start x0_0 x0_1 x0_2 x0_3 a1 w2 leaves3 =>
  (un7 n (.start x0_1)) >>= fun t1 =>
  if (x0_0 == (0 : Int)) = true then
   some ((x0_3, ()), ())
  else
   if (x0_0 == (1 : Int)) = true then
    (idx leaves3 x0_3) >>= fun t2 =>
    some ((t2, ()), ())
   else
    if (x0_0 == (2 : Int)) = true then
     (idx a1 (0 : Int)) >>= fun t3 =>
     some ((IntKind.wrap .i64 ((IntKind.wrap .i64 (t1.1.1 - (1 : Int))) - t3), ()), ())
    else
     if (x0_0 == (3 : Int)) = true then
      (idx a1 (0 : Int)) >>= fun t4 =>
      (idx a1 (1 : Int)) >>= fun t5 =>
      some ((bits .and .i64 t4 t5, ()), ())
     else
      if (x0_0 == (4 : Int)) = true then
       (idx a1 (0 : Int)) >>= fun t6 =>
       (idx a1 (1 : Int)) >>= fun t7 =>
       some ((bits .or .i64 t6 t7, ()), ())
      else
       if (x0_0 == (5 : Int)) = true then
        (idx a1 (0 : Int)) >>= fun t8 =>
        (idx a1 (1 : Int)) >>= fun t9 =>
        some ((bits .xor .i64 t8 t9, ()), ())
       else
        if (x0_0 == (6 : Int)) = true then
         (idx a1 (0 : Int)) >>= fun t10 =>
         (idx a1 (1 : Int)) >>= fun t11 =>
         if (!(t1.1.1 == (0 : Int))) = true then
          some ((Int.tmod (IntKind.wrap .i64 (t10 + t11)) t1.1.1, ()), ())
         else none
        else
         if (x0_0 == (7 : Int)) = true then
          (idx a1 (0 : Int)) >>= fun t12 =>
          (idx a1 (1 : Int)) >>= fun t13 =>
          if (!(t1.1.1 == (0 : Int))) = true then
           some ((Int.tmod (IntKind.wrap .i64 ((IntKind.wrap .i64 (t12 - t13)) + t1.1.1)) t1.1.1, ()), ())
          else none
         else
          if (x0_0 == (8 : Int)) = true then
           (idx a1 (0 : Int)) >>= fun t14 =>
           (idx a1 (1 : Int)) >>= fun t15 =>
           if (!(t1.1.1 == (0 : Int))) = true then
            some ((Int.tmod (IntKind.wrap .i64 (t14 * t15)) t1.1.1, ()), ())
           else none
          else
           if (x0_0 == (9 : Int)) = true then
            (idx a1 (0 : Int)) >>= fun t16 =>
            (idx a1 (1 : Int)) >>= fun t17 =>
            (uN8 n (.start (t16 == t17))) >>= fun t18 =>
            some ((t18.1.1, ()), ())
           else
            if (x0_0 == (10 : Int)) = true then
             (idx a1 (0 : Int)) >>= fun t19 =>
             (idx a1 (1 : Int)) >>= fun t20 =>
             (uN8 n (.start (decide (t19 < t20)))) >>= fun t21 =>
             some ((t21.1.1, ()), ())
            else
             if (x0_0 == (11 : Int)) = true then
              (idx a1 (0 : Int)) >>= fun t22 =>
              (idx w2 (0 : Int)) >>= fun t23 =>
              (uK8 n (.start t22 t23)) >>= fun t24 =>
              (idx a1 (1 : Int)) >>= fun t25 =>
              (idx w2 (1 : Int)) >>= fun t26 =>
              (uK8 n (.start t25 t26)) >>= fun t27 =>
              (uN8 n (.start (decide (t24.1.1 < t27.1.1)))) >>= fun t28 =>
              some ((t28.1.1, ()), ())
             else
              if (x0_0 == (12 : Int)) = true then
               (idx a1 (0 : Int)) >>= fun t29 =>
               if (t29 == (1 : Int)) = true then
                (idx a1 (1 : Int)) >>= fun t30 =>
                some ((t30, ()), ())
               else
                (idx a1 (2 : Int)) >>= fun t31 =>
                some ((t31, ()), ())
              else
               if (x0_0 == (13 : Int)) = true then
                (idx a1 (0 : Int)) >>= fun t32 =>
                (idx w2 (1 : Int)) >>= fun t33 =>
                (un7 n (.start t33)) >>= fun t34 =>
                (idx a1 (1 : Int)) >>= fun t35 =>
                some ((IntKind.wrap .i64 ((IntKind.wrap .i64 (t32 * t34.1.1)) + t35), ()), ())
               else
                if (x0_0 == (14 : Int)) = true then
                 (idx a1 (0 : Int)) >>= fun t36 =>
                 (un7 n (.start x0_3)) >>= fun t37 =>
                 if (!(t37.1.1 == (0 : Int))) = true then
                  if (!(t1.1.1 == (0 : Int))) = true then
                   some ((Int.tmod (IntKind.wrap .i64 (Int.tdiv t36 t37.1.1)) t1.1.1, ()), ())
                  else none
                 else none
                else
                 if (x0_0 == (15 : Int)) = true then
                  (idx a1 (0 : Int)) >>= fun t38 =>
                  some ((t38, ()), ())
                 else
                  if (x0_0 == (16 : Int)) = true then
                   (idx a1 (0 : Int)) >>= fun t39 =>
                   (idx w2 (0 : Int)) >>= fun t40 =>
                   (uK8 n (.start t39 t40)) >>= fun t41 =>
                   if (!(t1.1.1 == (0 : Int))) = true then
                    some ((Int.tmod (IntKind.wrap .i64 (t41.1.1 + t1.1.1)) t1.1.1, ()), ())
                   else none
                  else
                   if (x0_0 == (17 : Int)) = true then
                    (idx a1 (1 : Int)) >>= fun t42 =>
                    if (decide (t42 ≥ x0_1)) = true then
                     some (((0 : Int), ()), ())
                    else
                     (idx a1 (0 : Int)) >>= fun t43 =>
                     (idx a1 (1 : Int)) >>= fun t44 =>
                     (un7 n (.start t44)) >>= fun t45 =>
                     if (!(t1.1.1 == (0 : Int))) = true then
                      some ((Int.tmod (IntKind.wrap .i64 (t43 * t45.1.1)) t1.1.1, ()), ())
                     else none
                   else
                    (idx a1 (1 : Int)) >>= fun t46 =>
                    if (decide (t46 ≥ x0_1)) = true then
                     some (((0 : Int), ()), ())
                    else
                     (idx a1 (0 : Int)) >>= fun t47 =>
                     (idx a1 (1 : Int)) >>= fun t48 =>
                     (un7 n (.start t48)) >>= fun t49 =>
                     if (!(t49.1.1 == (0 : Int))) = true then
                      some ((IntKind.wrap .i64 (Int.tdiv t47 t49.1.1), ()), ())
                     else none
theorem vG2 : ∀ (n : Nat) (p : ww5), OLe (vl2 n p) (uD6 p) := by
 intro n
 induction n with
 | zero => exact fun p r h => by cases h
 | succ n ih =>
  intro p
  cases p <;> rw [uD6, vl2] <;> repeat' with_reducible first | refine OLe.bind ?_ (fun _ => ?_) | refine OLe.ite ?_ ?_ | exact uG9 n _ | exact vS7 n _ | exact vR3 n _ | exact ih _ | exact OLe.refl _
def uy1 : Nat → wy3 → Option xI1
 | 0, _ => none
 | n + 1, .start nodes0 leaves1 =>
  if (uz7 (List.length nodes0 : Int) (List.length nodes0 : Int) 8) = true then
   uy1 n (.p116 nodes0 leaves1 (0 : Int) (List.replicate (Int.toNat (List.length nodes0 : Int)) (0 : Int)))
  else none
 | n + 1, .p116 nodes0 leaves1 i6 B0 =>
  if (decide (i6 < (List.length nodes0 : Int))) = true then
   uy1 n (.p29844 nodes0 leaves1 i6 (0 : Int) B0 ([] : List Int) ([] : List Int))
  else
   some (((), ()), (B0, ()))
 | n + 1, .p29844 nodes0 leaves1 i6 k9 B0 B1 B2 =>
  (idx nodes0 i6) >>= fun t1 =>
  if (decide (k9 < (List.length t1.Args : Int))) = true then
   (idx nodes0 i6) >>= fun t2 =>
   (idx t2.Args k9) >>= fun t3 =>
   if (decide ((0 : Int) ≤ t3) && decide (t3 < (List.length B0 : Int))) = true then
    (idx B0 t3) >>= fun t4 =>
    if (fits (List.length B1) (List.length ([t4] : List Int)) 8) = true then
     (idx nodes0 i6) >>= fun t5 =>
     (idx t5.Args k9) >>= fun t6 =>
     (idx nodes0 t6) >>= fun t7 =>
     if (fits (List.length B2) (List.length ([t7.Width] : List Int)) 8) = true then
      uy1 n (.p29844 nodes0 leaves1 i6 (IntKind.wrap .i64 (k9 + (1 : Int))) B0 (B1 ++ ([t4] : List Int)) (B2 ++ ([t7.Width] : List Int)))
     else none
    else none
   else none
  else
   (idx nodes0 i6) >>= fun t8 =>
   (vl2 n (.start t8.Op t8.Width t8.Args t8.Value B1 B2 leaves1)) >>= fun t9 =>
   if (decide ((0 : Int) ≤ i6) && decide (i6 < (List.length B0 : Int))) = true then
    (idx B0 i6) >>= fun t10 =>
    uy1 n (.p116 nodes0 leaves1 (IntKind.wrap .i64 (i6 + (1 : Int))) (List.set B0 (Int.toNat i6) t9.1.1))
   else none
theorem vM8 : ∀ (n : Nat) (p : wy3), OLe (uy1 n p) (ue6 p) := by
 intro n
 induction n with
 | zero => exact fun p r h => by cases h
 | succ n ih =>
  intro p
  cases p <;> rw [ue6, uy1] <;> repeat' with_reducible first | refine OLe.bind ?_ (fun _ => ?_) | refine OLe.ite ?_ ?_ | exact vG2 n _ | exact ih _ | exact OLe.refl _
def uB9 : Nat → wA1 → Option xK1
 | 0, _ => none
 | n + 1, .start d0_0 d0_1 d0_2 d0_3 d0_4 d0_5 d0_6 rule1 inputs2 state3 =>
  (vq2 n (.start inputs2 state3)) >>= fun t1 =>
  (uy1 n (.start d0_3 t1.2.1)) >>= fun t2 =>
  (uD0 n (.start state3)) >>= fun t3 =>
  (idx d0_4 rule1) >>= fun t4 =>
  uB9 n (.p500 t4.Writes (0 : Int) t2.2.1 t3.2.1)
 | n + 1, .p500 l11 i12 B0 B1 =>
  if (decide (i12 < (List.length l11 : Int))) = true then
   (idx l11 i12) >>= fun t1 =>
   if (decide ((0 : Int) ≤ t1.When) && decide (t1.When < (List.length B0 : Int))) = true then
    (idx B0 t1.When) >>= fun t2 =>
    if (t2 == (1 : Int)) = true then
     (idx l11 i12) >>= fun t3 =>
     (idx l11 i12) >>= fun t4 =>
     if (decide ((0 : Int) ≤ t4.Value) && decide (t4.Value < (List.length B0 : Int))) = true then
      (idx B0 t4.Value) >>= fun t5 =>
      if (decide ((0 : Int) ≤ t3.Element) && decide (t3.Element < (List.length B1 : Int))) = true then
       (idx B1 t3.Element) >>= fun t6 =>
       uB9 n (.p500 l11 (IntKind.wrap .i64 (i12 + (1 : Int))) B0 (List.set B1 (Int.toNat t3.Element) t5))
      else none
     else none
    else
     uB9 n (.p500 l11 (IntKind.wrap .i64 (i12 + (1 : Int))) B0 B1)
   else none
  else
   some (((), ()), (B1, ()))
theorem vV9 : ∀ (n : Nat) (p : wA1), OLe (uB9 n p) (ug1 p) := by
 intro n
 induction n with
 | zero => exact fun p r h => by cases h
 | succ n ih =>
  intro p
  cases p <;> rw [ug1, uB9] <;> repeat' with_reducible first | refine OLe.bind ?_ (fun _ => ?_) | refine OLe.ite ?_ ?_ | exact uv9 n _ | exact vK4 n _ | exact vM8 n _ | exact ih _ | exact OLe.refl _
def us2 : Nat → wH2 → Option xN3
 | 0, _ => none
 | n + 1, .start d0_0 d0_1 d0_2 d0_3 d0_4 d0_5 d0_6 s1_0 s1_1 s1_2 fires2 inputs3 state4 =>
  (uw0 n (.start d0_0 d0_1 d0_2 d0_3 d0_4 d0_5 d0_6 state4)) >>= fun t1 =>
  (uw0 n (.start d0_0 d0_1 d0_2 d0_3 d0_4 d0_5 d0_6 state4)) >>= fun t2 =>
  us2 n (.p244 fires2 inputs3 (0 : Int) d0_0 d0_1 d0_2 d0_3 d0_4 d0_5 d0_6 s1_0 s1_1 s1_2 t1.2.1 t2.2.1)
 | n + 1, .p244 fires2 inputs3 i13 C0 C1 C2 C3 C4 C5 C6 D0 D1 D2 B2 B3 =>
  if (decide (i13 < (List.length D1 : Int))) = true then
   (idx D1 i13) >>= fun t1 =>
   (idx fires2 t1) >>= fun t2 =>
   if (!t2) = true then
    us2 n (.p244 fires2 inputs3 (IntKind.wrap .i64 (i13 + (1 : Int))) C0 C1 C2 C3 C4 C5 C6 D0 D1 D2 B2 B3)
   else
    (uB9 n (.start C0 C1 C2 C3 C4 C5 C6 t1 inputs3 B2)) >>= fun t3 =>
    us2 n (.p125244 fires2 inputs3 i13 (0 : Int) C0 C1 C2 C3 C4 C5 C6 D0 D1 D2 B2 B3 t3.2.1)
  else
   some (((), ()), (B2, ()))
 | n + 1, .p125244 fires2 inputs3 i13 k16 C0 C1 C2 C3 C4 C5 C6 D0 D1 D2 B2 B3 B4 =>
  if (decide (k16 < (List.length B2 : Int))) = true then
   (idx C2 k16) >>= fun t1 =>
   if (t1.Kind == (1 : Int)) = true then
    if (decide ((0 : Int) ≤ k16) && decide (k16 < (List.length B4 : Int))) = true then
     (idx B4 k16) >>= fun t2 =>
     if (decide ((0 : Int) ≤ k16) && decide (k16 < (List.length B2 : Int))) = true then
      (idx B2 k16) >>= fun t3 =>
      us2 n (.p125244 fires2 inputs3 i13 (IntKind.wrap .i64 (k16 + (1 : Int))) C0 C1 C2 C3 C4 C5 C6 D0 D1 D2 (List.set B2 (Int.toNat k16) t2) B3 B4)
     else none
    else none
   else
    if (decide ((0 : Int) ≤ k16) && decide (k16 < (List.length B3 : Int))) = true then
     (idx B3 k16) >>= fun t4 =>
     if (decide ((0 : Int) ≤ k16) && decide (k16 < (List.length B2 : Int))) = true then
      (idx B2 k16) >>= fun t5 =>
      us2 n (.p125244 fires2 inputs3 i13 (IntKind.wrap .i64 (k16 + (1 : Int))) C0 C1 C2 C3 C4 C5 C6 D0 D1 D2 (List.set B2 (Int.toNat k16) t4) B3 B4)
     else none
    else none
  else
   us2 n (.p244 fires2 inputs3 (IntKind.wrap .i64 (i13 + (1 : Int))) C0 C1 C2 C3 C4 C5 C6 D0 D1 D2 B2 B3)
theorem uI5 : ∀ (n : Nat) (p : wH2), OLe (us2 n p) (ue4 p) := by
 intro n
 induction n with
 | zero => exact fun p r h => by cases h
 | succ n ih =>
  intro p
  cases p <;> rw [ue4, us2] <;> repeat' with_reducible first | refine OLe.bind ?_ (fun _ => ?_) | refine OLe.ite ?_ ?_ | exact uV0 n _ | exact vV9 n _ | exact ih _ | exact OLe.refl _
def uM5 : Nat → wl2 → Option xL8
 | 0, _ => none
 | n + 1, .start d0_0 d0_1 d0_2 d0_3 d0_4 d0_5 d0_6 state1 =>
  (uD0 n (.start state1)) >>= fun t1 =>
  uM5 n (.p116 (0 : Int) d0_0 d0_1 d0_2 d0_3 d0_4 d0_5 d0_6 t1.2.1)
 | n + 1, .p116 i6 C0 C1 C2 C3 C4 C5 C6 B1 =>
  if (decide (i6 < (List.length C2 : Int))) = true then
   (idx C2 i6) >>= fun t1 =>
   if (t1.Kind == (1 : Int)) = true then
    (idx C2 i6) >>= fun t2 =>
    if (decide ((0 : Int) ≤ i6) && decide (i6 < (List.length B1 : Int))) = true then
     (idx B1 i6) >>= fun t3 =>
     uM5 n (.p116 (IntKind.wrap .i64 (i6 + (1 : Int))) C0 C1 C2 C3 C4 C5 C6 (List.set B1 (Int.toNat i6) t2.Init))
    else none
   else
    uM5 n (.p116 (IntKind.wrap .i64 (i6 + (1 : Int))) C0 C1 C2 C3 C4 C5 C6 B1)
  else
   some (((), ()), (B1, ()))
theorem vO5 : ∀ (n : Nat) (p : wl2), OLe (uM5 n p) (us6 p) := by
 intro n
 induction n with
 | zero => exact fun p r h => by cases h
 | succ n ih =>
  intro p
  cases p <;> rw [us6, uM5] <;> repeat' with_reducible first | refine OLe.bind ?_ (fun _ => ?_) | refine OLe.ite ?_ ?_ | exact uv9 n _ | exact ih _ | exact OLe.refl _
end
end Go.Proofs.YtjededkgblbamaaGreatDoor.Ev.F
