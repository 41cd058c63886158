/- A part of the proof. -/
import Derived.Test.YtaennkkcnhfglaaGreatDoorSF1
import Derived.Test.YtaennkkcnhfglaaGreatDoorSEvFuel
set_option linter.unusedVariables false
set_option maxRecDepth 100000
namespace Go.Proofs.YtaennkkcnhfglaaGreatDoor.Ev.F
open Go.Proofs Go.Proofs.YtaennkkcnhfglaaGreatDoor.Ev
noncomputable section
def uF1 : Nat → P_z0 → Option (((List ua5) × Unit) × Unit)
 | 0, _ => none
 | n + 1, .start =>
  some ((([(⟨(⟨#[77, 97, 121, 98, 101]⟩ : ByteArray), ([(⟨#[97]⟩ : ByteArray)] : List ByteArray), ([(⟨(⟨#[78, 111, 110, 101]⟩ : ByteArray), []⟩ : ua2), (⟨(⟨#[83, 111, 109, 101]⟩ : ByteArray), ([(⟨(⟨#[118, 97, 108, 117, 101]⟩ : ByteArray), (⟨(0 : Int), (0 : Int), (⟨#[97]⟩ : ByteArray), []⟩ : ua3)⟩ : ua6)] : List ua6)⟩ : ua2)] : List ua2)⟩ : ua5), (⟨(⟨#[80, 97, 105, 114]⟩ : ByteArray), ([(⟨#[97]⟩ : ByteArray), (⟨#[98]⟩ : ByteArray)] : List ByteArray), ([(⟨(⟨#[80, 97, 105, 114]⟩ : ByteArray), ([(⟨(⟨#[108, 101, 102, 116]⟩ : ByteArray), (⟨(0 : Int), (0 : Int), (⟨#[97]⟩ : ByteArray), []⟩ : ua3)⟩ : ua6), (⟨(⟨#[114, 105, 103, 104, 116]⟩ : ByteArray), (⟨(0 : Int), (0 : Int), (⟨#[98]⟩ : ByteArray), []⟩ : ua3)⟩ : ua6)] : List ua6)⟩ : ua2)] : List ua2)⟩ : ua5), (⟨(⟨#[67, 111, 108, 111, 114]⟩ : ByteArray), [], ([(⟨(⟨#[82, 101, 100]⟩ : ByteArray), []⟩ : ua2), (⟨(⟨#[71, 114, 101, 101, 110]⟩ : ByteArray), []⟩ : ua2), (⟨(⟨#[66, 108, 117, 101]⟩ : ByteArray), []⟩ : ua2)] : List ua2)⟩ : ua5)] : List ua5), ()), ())
theorem vl7 : ∀ (n : Nat) (p : P_z0), OLe (uF1 n p) (uM8 p) := by
 intro n
 induction n with
 | zero => exact fun p r h => by cases h
 | succ n ih =>
  intro p
  cases p <;> rw [uM8, uF1] <;> repeat' with_reducible first | refine OLe.bind ?_ (fun _ => ?_) | refine OLe.ite ?_ ?_ | exact ih _ | exact OLe.refl _
def u83 : Nat → P_z1 → Option (((Int × (Int × (ByteArray × (Unit × Unit)))) × Unit) × Unit)
 | 0, _ => none
 | n + 1, .start n0 =>
  some ((((2 : Int), (n0, ((⟨#[]⟩ : ByteArray), ((), ())))), ()), ())
theorem vl8 : ∀ (n : Nat) (p : P_z1), OLe (u83 n p) (vg6 p) := by
 intro n
 induction n with
 | zero => exact fun p r h => by cases h
 | succ n ih =>
  intro p
  cases p <;> rw [vg6, u83] <;> repeat' with_reducible first | refine OLe.bind ?_ (fun _ => ?_) | refine OLe.ite ?_ ?_ | exact ih _ | exact OLe.refl _
def uo2 : Nat → P_z2 → Option (((Int × (Int × (ByteArray × ((List ua3) × Unit)))) × Unit) × Unit)
 | 0, _ => none
 | n + 1, .start name0 parts1 =>
  some ((((1 : Int), ((0 : Int), (name0, (parts1, ())))), ()), ())
theorem uS0 : ∀ (n : Nat) (p : P_z2), OLe (uo2 n p) (uu6 p) := by
 intro n
 induction n with
 | zero => exact fun p r h => by cases h
 | succ n ih =>
  intro p
  cases p <;> rw [uu6, uo2] <;> repeat' with_reducible first | refine OLe.bind ?_ (fun _ => ?_) | refine OLe.ite ?_ ?_ | exact ih _ | exact OLe.refl _
def uM4 : Nat → P_z3 → Option (((Int × (Int × (ByteArray × ((List ua3) × Unit)))) × Unit) × Unit)
 | 0, _ => none
 | n + 1, .start n0 =>
  (u83 n (.start n0)) >>= fun t1 =>
  (uo2 n (.start (⟨#[66, 105, 116]⟩ : ByteArray) ([(⟨t1.1.1.1, t1.1.1.2.1, t1.1.1.2.2.1, []⟩ : ua3)] : List ua3))) >>= fun t2 =>
  some (((t2.1.1.1, (t2.1.1.2.1, (t2.1.1.2.2.1, (t2.1.1.2.2.2.1, ())))), ()), ())
theorem vl9 : ∀ (n : Nat) (p : P_z3), OLe (uM4 n p) (uS2 p) := by
 intro n
 induction n with
 | zero => exact fun p r h => by cases h
 | succ n ih =>
  intro p
  cases p <;> rw [uS2, uM4] <;> repeat' with_reducible first | refine OLe.bind ?_ (fun _ => ?_) | refine OLe.ite ?_ ?_ | exact vl8 n _ | exact uS0 n _ | exact ih _ | exact OLe.refl _
def uW0 : Nat → P_z4 → Option (((List ByteArray) × Unit) × Unit)
 | 0, _ => none
 | n + 1, .start s0 =>
  (bif decide ((List.length s0 : Int) = (List.length s0 : Int)) then span (List.length s0) (0 : Int) (List.length s0 : Int) else none) >>= fun t1 =>
  some ((cut s0 t1, ()), ())
theorem vm0 : ∀ (n : Nat) (p : P_z4), OLe (uW0 n p) (u37 p) := by
 intro n
 induction n with
 | zero => exact fun p r h => by cases h
 | succ n ih =>
  intro p
  cases p <;> rw [u37, uW0] <;> repeat' with_reducible first | refine OLe.bind ?_ (fun _ => ?_) | refine OLe.ite ?_ ?_ | exact ih _ | exact OLe.refl _
def uf0 : Nat → P_z5 → Option ((Bool × Unit) × Unit)
 | 0, _ => none
 | n + 1, .start n0 lo1 hi2 =>
  if (decide (lo1 ≤ n0)) = true then
   some ((decide (n0 ≤ hi2), ()), ())
  else
   some ((false, ()), ())
theorem uc8 : ∀ (n : Nat) (p : P_z5), OLe (uf0 n p) (ug5 p) := by
 intro n
 induction n with
 | zero => exact fun p r h => by cases h
 | succ n ih =>
  intro p
  cases p <;> rw [ug5, uf0] <;> repeat' with_reducible first | refine OLe.bind ?_ (fun _ => ?_) | refine OLe.ite ?_ ?_ | exact ih _ | exact OLe.refl _
def ug6 : Nat → P_z6 → Option ((Bool × Unit) × Unit)
 | 0, _ => none
 | n + 1, .start s0 =>
  ug6 n (.p52 s0 (ua7 s0) (List.length (ua7 s0) : Int) (0 : Int))
 | n + 1, .p52 s0 s7 s8 s9 =>
  if (decide (s9 < s8)) = true then
   (idx s7 s9) >>= fun t1 =>
   if (decide ((97 : Int) ≤ t1)) = true then
    if (decide (t1 ≤ (122 : Int))) = true then
     ug6 n (.p3379 s0 s9 t1 true s7 s8 s9)
    else
     if (decide ((65 : Int) ≤ t1)) = true then
      ug6 n (.p3379 s0 s9 t1 (decide (t1 ≤ (90 : Int))) s7 s8 s9)
     else
      ug6 n (.p3379 s0 s9 t1 false s7 s8 s9)
   else
    if (decide ((65 : Int) ≤ t1)) = true then
     ug6 n (.p3379 s0 s9 t1 (decide (t1 ≤ (90 : Int))) s7 s8 s9)
    else
     ug6 n (.p3379 s0 s9 t1 false s7 s8 s9)
  else
   (uf0 n (.start (s0.size : Int) (1 : Int) (16 : Int))) >>= fun t2 =>
   some ((t2.1.1, ()), ())
 | n + 1, .p3379 s0 i3 c4 letter5 s7 s8 s9 =>
  if (!letter5) = true then
   if (i3 == (0 : Int)) = true then
    some ((false, ()), ())
   else
    if (c4 != (95 : Int)) = true then
     if (decide (c4 < (48 : Int))) = true then
      some ((false, ()), ())
     else
      if (decide (c4 > (57 : Int))) = true then
       some ((false, ()), ())
      else
       ug6 n (.p52 s0 s7 s8 (IntKind.wrap .i64 (s9 + (1 : Int))))
    else
     ug6 n (.p52 s0 s7 s8 (IntKind.wrap .i64 (s9 + (1 : Int))))
  else
   ug6 n (.p52 s0 s7 s8 (IntKind.wrap .i64 (s9 + (1 : Int))))
theorem uw1 : ∀ (n : Nat) (p : P_z6), OLe (ug6 n p) (ud9 p) := by
 intro n
 induction n with
 | zero => exact fun p r h => by cases h
 | succ n ih =>
  intro p
  cases p <;> rw [ud9, ug6] <;> repeat' with_reducible first | refine OLe.bind ?_ (fun _ => ?_) | refine OLe.ite ?_ ?_ | exact uc8 n _ | exact ih _ | exact OLe.refl _
def ub0 : Nat → P_z7 → Option ((Int × Unit) × Unit)
 | 0, _ => none
 | n + 1, .start is0 e1 =>
  if is0 = true then
   some (((0 : Int), ()), ())
  else
   some ((e1, ()), ())
theorem ud7 : ∀ (n : Nat) (p : P_z7), OLe (ub0 n p) (ub3 p) := by
 intro n
 induction n with
 | zero => exact fun p r h => by cases h
 | succ n ih =>
  intro p
  cases p <;> rw [ub3, ub0] <;> repeat' with_reducible first | refine OLe.bind ?_ (fun _ => ?_) | refine OLe.ite ?_ ?_ | exact ih _ | exact OLe.refl _
def uF2 : Nat → P_z8 → Option ((Int × Unit) × Unit)
 | 0, _ => none
 | n + 1, .start s0 v1 =>
  uF2 n (.p52 s0 v1 (List.length s0 : Int) (0 : Int))
 | n + 1, .p52 s0 v1 s7 s8 =>
  if (decide (s8 < s7)) = true then
   (idx s0 s8) >>= fun t1 =>
   if (seq v1 t1) = true then
    some ((s8, ()), ())
   else
    uF2 n (.p52 s0 v1 s7 (IntKind.wrap .i64 (s8 + (1 : Int))))
  else
   some (((-1 : Int), ()), ())
theorem uS1 : ∀ (n : Nat) (p : P_z8), OLe (uF2 n p) (uG7 p) := by
 intro n
 induction n with
 | zero => exact fun p r h => by cases h
 | succ n ih =>
  intro p
  cases p <;> rw [uG7, uF2] <;> repeat' with_reducible first | refine OLe.bind ?_ (fun _ => ?_) | refine OLe.ite ?_ ?_ | exact ih _ | exact OLe.refl _
def uX0 : Nat → P_z9 → Option ((Bool × Unit) × Unit)
 | 0, _ => none
 | n + 1, .start s0 v1 =>
  (uF2 n (.start s0 v1)) >>= fun t1 =>
  some ((decide (t1.1.1 ≥ (0 : Int)), ()), ())
theorem uw2 : ∀ (n : Nat) (p : P_z9), OLe (uX0 n p) (u38 p) := by
 intro n
 induction n with
 | zero => exact fun p r h => by cases h
 | succ n ih =>
  intro p
  cases p <;> rw [u38, uX0] <;> repeat' with_reducible first | refine OLe.bind ?_ (fun _ => ?_) | refine OLe.ite ?_ ?_ | exact uS1 n _ | exact ih _ | exact OLe.refl _
def uc4 : Nat → vu8 → Option ((Int × Unit) × Unit)
 | 0, _ => none
 | n + 1, .start l0 =>
  uc4 n (.p52 l0 (List.length l0 : Int) (0 : Int))
 | n + 1, .p52 s5 s6 s7 =>
  if (decide (s7 < s6)) = true then
   (idx s5 s7) >>= fun t1 =>
   if (t1 != (0 : Int)) = true then
    some ((t1, ()), ())
   else
    uc4 n (.p52 s5 s6 (IntKind.wrap .i64 (s7 + (1 : Int))))
  else
   some (((0 : Int), ()), ())
theorem ud2 : ∀ (n : Nat) (p : vu8), OLe (uc4 n p) (ub9 p) := by
 intro n
 induction n with
 | zero => exact fun p r h => by cases h
 | succ n ih =>
  intro p
  cases p <;> rw [ub9, uc4] <;> repeat' with_reducible first | refine OLe.bind ?_ (fun _ => ?_) | refine OLe.ite ?_ ?_ | exact ih _ | exact OLe.refl _
def uv6 : Nat → vu9 → Option ((Int × Unit) × Unit)
 | 0, _ => none
 | n + 1, .start name0 known1 =>
  (ug6 n (.start name0)) >>= fun t1 =>
  (ub0 n (.start t1.1.1 (4 : Int))) >>= fun t2 =>
  (uX0 n (.start known1 name0)) >>= fun t3 =>
  (ub0 n (.start (!t3.1.1) (5 : Int))) >>= fun t4 =>
  (uc4 n (.start ([t2.1.1, t4.1.1] : List Int))) >>= fun t5 =>
  some ((t5.1.1, ()), ())
theorem uq8 : ∀ (n : Nat) (p : vu9), OLe (uv6 n p) (uy9 p) := by
 intro n
 induction n with
 | zero => exact fun p r h => by cases h
 | succ n ih =>
  intro p
  cases p <;> rw [uy9, uv6] <;> repeat' with_reducible first | refine OLe.bind ?_ (fun _ => ?_) | refine OLe.ite ?_ ?_ | exact uw1 n _ | exact ud7 n _ | exact uw2 n _ | exact ud2 n _ | exact ih _ | exact OLe.refl _
def uV1 : Nat → vv0 → Option ((Int × Unit) × Unit)
 | 0, _ => none
 | n + 1, .start i0 p1 s2 =>
  (span (List.length s2.Params) (0 : Int) i0) >>= fun t1 =>
  (uv6 n (.start p1 (cut s2.Params t1))) >>= fun t2 =>
  some ((t2.1.1, ()), ())
theorem u84 : ∀ (n : Nat) (p : vv0), OLe (uV1 n p) (uX1 p) := by
 intro n
 induction n with
 | zero => exact fun p r h => by cases h
 | succ n ih =>
  intro p
  cases p <;> rw [uX1, uV1] <;> repeat' with_reducible first | refine OLe.bind ?_ (fun _ => ?_) | refine OLe.ite ?_ ?_ | exact uq8 n _ | exact ih _ | exact OLe.refl _
def uC0 : Nat → vv1 → Option ((Int × (Int × Unit)) × ((ByteArray × ((List ByteArray) × ((List ua2) × Unit))) × Unit))
 | 0, _ => none
 | n + 1, .start l0 C0 C1 C2 =>
  uC0 n (.p52 l0 (List.length l0 : Int) (0 : Int) C0 C1 C2)
 | n + 1, .p52 s9 s10 s11 C0 C1 C2 =>
  if (decide (s11 < s10)) = true then
   (idx s9 s11) >>= fun t1 =>
   (uV1 n (.start s11 t1 (⟨C0, C1, C2⟩ : ua5))) >>= fun t2 =>
   if (t2.1.1 != (0 : Int)) = true then
    some ((s11, (t2.1.1, ())), ((C0, (C1, (C2, ()))), ()))
   else
    uC0 n (.p52 s9 s10 (IntKind.wrap .i64 (s11 + (1 : Int))) C0 C1 C2)
  else
   some (((0 : Int), ((0 : Int), ())), ((C0, (C1, (C2, ()))), ()))
theorem u85 : ∀ (n : Nat) (p : vv1), OLe (uC0 n p) (uz0 p) := by
 intro n
 induction n with
 | zero => exact fun p r h => by cases h
 | succ n ih =>
  intro p
  cases p <;> rw [uz0, uC0] <;> repeat' with_reducible first | refine OLe.bind ?_ (fun _ => ?_) | refine OLe.ite ?_ ?_ | exact u84 n _ | exact ih _ | exact OLe.refl _
def uV2 : Nat → vv2 → Option (((List ua3) × Unit) × Unit)
 | 0, _ => none
 | n + 1, .start t0_0 t0_1 t0_2 t0_3 =>
  some ((t0_3, ()), ())
theorem u86 : ∀ (n : Nat) (p : vv2), OLe (uV2 n p) (uX2 p) := by
 intro n
 induction n with
 | zero => exact fun p r h => by cases h
 | succ n ih =>
  intro p
  cases p <;> rw [uX2, uV2] <;> repeat' with_reducible first | refine OLe.bind ?_ (fun _ => ?_) | refine OLe.ite ?_ ?_ | exact ih _ | exact OLe.refl _
def uq9 : Nat → vv3 → Option ((Bool × Unit) × ((Int × Unit) × ((Unit × Unit) × (((Unit × (Unit × (Unit × Unit))) × Unit) × Unit))))
 | 0, _ => none
 | n + 1, .start x0_0 x0_1 x0_2 x0_3 depth1 B0 =>
  if (decide ((IntKind.wrap .i64 (B0 + (1 : Int))) > (200 : Int))) = true then
   some ((false, ()), ((IntKind.wrap .i64 (B0 + (1 : Int)), ()), (((), ()), ((((), ((), ((), ()))), ()), ()))))
  else
   if (decide (depth1 > (40 : Int))) = true then
    some ((false, ()), ((IntKind.wrap .i64 (B0 + (1 : Int)), ()), (((), ()), ((((), ((), ((), ()))), ()), ()))))
   else
    uq9 n (.p15 depth1 (IntKind.wrap .i64 (B0 + (1 : Int))) x0_0 x0_1 x0_2 x0_3)
 | n + 1, .p15 depth1 B0 H0 H1 H2 H3 =>
  (uV2 n (.start H0 H1 H2 H3)) >>= fun t1 =>
  uq9 n (.p244 depth1 t1.1.1 (List.length t1.1.1 : Int) (0 : Int) B0)
 | n + 1, .p244 depth1 s20 s21 s22 B0 =>
  if (decide (s22 < s21)) = true then
   (idx s20 s22) >>= fun t1 =>
   (uq9 n (.start t1.Kind t1.Value t1.Name t1.Parts (IntKind.wrap .i64 (depth1 + (1 : Int))) B0)) >>= fun t2 =>
   if (!t2.1.1) = true then
    some ((false, ()), ((t2.2.1.1, ()), (((), ()), ((((), ((), ((), ()))), ()), ()))))
   else
    uq9 n (.p244 depth1 s20 s21 (IntKind.wrap .i64 (s22 + (1 : Int))) t2.2.1.1)
  else
   some ((true, ()), ((B0, ()), (((), ()), ((((), ((), ((), ()))), ()), ()))))
theorem u87 : ∀ (n : Nat) (p : vv3), OLe (uq9 n p) (ur8 p) := by
 intro n
 induction n with
 | zero => exact fun p r h => by cases h
 | succ n ih =>
  intro p
  cases p <;> rw [ur8, uq9] <;> repeat' with_reducible first | refine OLe.bind ?_ (fun _ => ?_) | refine OLe.ite ?_ ?_ | exact u86 n _ | exact ih _ | exact OLe.refl _
def uI3 : Nat → vv4 → Option ((Int × Unit) × Unit)
 | 0, _ => none
 | n + 1, .start root0_0 root0_1 root0_2 root0_3 =>
  (uq9 n (.start root0_0 root0_1 root0_2 root0_3 (1 : Int) (0 : Int))) >>= fun t1 =>
  (ub0 n (.start t1.1.1 (8 : Int))) >>= fun t2 =>
  some ((t2.1.1, ()), ())
theorem uM2 : ∀ (n : Nat) (p : vv4), OLe (uI3 n p) (uM9 p) := by
 intro n
 induction n with
 | zero => exact fun p r h => by cases h
 | succ n ih =>
  intro p
  cases p <;> rw [uM9, uI3] <;> repeat' with_reducible first | refine OLe.bind ?_ (fun _ => ?_) | refine OLe.ite ?_ ?_ | exact ud7 n _ | exact u87 n _ | exact ih _ | exact OLe.refl _
def uV3 : Nat → vv5 → Option ((Bool × Unit) × Unit)
 | 0, _ => none
 | n + 1, .start d0_0 d0_1 d0_2 s1 =>
  some ((seq d0_0 s1, ()), ())
theorem u88 : ∀ (n : Nat) (p : vv5), OLe (uV3 n p) (uX3 p) := by
 intro n
 induction n with
 | zero => exact fun p r h => by cases h
 | succ n ih =>
  intro p
  cases p <;> rw [uX3, uV3] <;> repeat' with_reducible first | refine OLe.bind ?_ (fun _ => ?_) | refine OLe.ite ?_ ?_ | exact ih _ | exact OLe.refl _
def uC1 : Nat → vv6 → Option ((Int × Unit) × ((ByteArray × Unit) × Unit))
 | 0, _ => none
 | n + 1, .start s0 B0 =>
  uC1 n (.p52 s0 (List.length s0 : Int) (0 : Int) B0)
 | n + 1, .p52 s0 s7 s8 B0 =>
  if (decide (s8 < s7)) = true then
   (idx s0 s8) >>= fun t1 =>
   (uV3 n (.start t1.Name t1.Params t1.Constructors B0)) >>= fun t2 =>
   if t2.1.1 = true then
    some ((s8, ()), ((B0, ()), ()))
   else
    uC1 n (.p52 s0 s7 (IntKind.wrap .i64 (s8 + (1 : Int))) B0)
  else
   some (((-1 : Int), ()), ((B0, ()), ()))
theorem u89 : ∀ (n : Nat) (p : vv6), OLe (uC1 n p) (uz1 p) := by
 intro n
 induction n with
 | zero => exact fun p r h => by cases h
 | succ n ih =>
  intro p
  cases p <;> rw [uz1, uC1] <;> repeat' with_reducible first | refine OLe.bind ?_ (fun _ => ?_) | refine OLe.ite ?_ ?_ | exact u88 n _ | exact ih _ | exact OLe.refl _
def uI4 : Nat → vv7 → Option (((ByteArray × ((List ByteArray) × ((List ua2) × Unit))) × (Bool × Unit)) × Unit)
 | 0, _ => none
 | n + 1, .start s0_0 s0_1 name1 =>
  (uC1 n (.start s0_0 name1)) >>= fun t1 =>
  if (decide (t1.1.1 < (0 : Int))) = true then
   some ((((⟨#[]⟩ : ByteArray), ([], ([], ()))), (false, ())), ())
  else
   (idx s0_0 t1.1.1) >>= fun t2 =>
   some (((t2.Name, (t2.Params, (t2.Constructors, ()))), (true, ())), ())
theorem ur0 : ∀ (n : Nat) (p : vv7), OLe (uI4 n p) (uN0 p) := by
 intro n
 induction n with
 | zero => exact fun p r h => by cases h
 | succ n ih =>
  intro p
  cases p <;> rw [uN0, uI4] <;> repeat' with_reducible first | refine OLe.bind ?_ (fun _ => ?_) | refine OLe.ite ?_ ?_ | exact u89 n _ | exact ih _ | exact OLe.refl _
mutual
def uV4 : Nat → vv8 → Option ((Int × Unit) × Unit)
 | 0, _ => none
 | n + 1, .start s0 x1_0 x1_1 x1_2 x1_3 s2 =>
  (runF_z21 n (.start s2.list s2.params x1_0 x1_1 x1_2 x1_3)) >>= fun t1 =>
  some ((t1.1.1, ()), ())
def uC2 : Nat → vv9 → Option ((Int × (Int × Unit)) × (((List ua5) × ((List ByteArray) × Unit)) × Unit))
 | 0, _ => none
 | n + 1, .start l0 C0 C1 =>
  uC2 n (.p52 l0 (List.length l0 : Int) (0 : Int) C0 C1)
 | n + 1, .p52 s9 s10 s11 C0 C1 =>
  if (decide (s11 < s10)) = true then
   (idx s9 s11) >>= fun t1 =>
   (uV4 n (.start s11 t1.Kind t1.Value t1.Name t1.Parts (⟨C0, C1⟩ : ul6))) >>= fun t2 =>
   if (t2.1.1 != (0 : Int)) = true then
    some ((s11, (t2.1.1, ())), ((C0, (C1, ())), ()))
   else
    uC2 n (.p52 s9 s10 (IntKind.wrap .i64 (s11 + (1 : Int))) C0 C1)
  else
   some (((0 : Int), ((0 : Int), ())), ((C0, (C1, ())), ()))
def runF_z21 : Nat → vn0 → Option ((Int × Unit) × Unit)
 | 0, _ => none
 | n + 1, .start s0_0 s0_1 t1_0 t1_1 t1_2 t1_3 =>
  if (t1_0 == (0 : Int)) = true then
   (uX0 n (.start s0_1 t1_2)) >>= fun t1 =>
   if (!t1.1.1) = true then
    some (((6 : Int), ()), ())
   else
    runF_z21 n (.p15 (0 : Int) s0_0 s0_1 t1_0 t1_1 t1_2 t1_3)
  else
   if (t1_0 == (1 : Int)) = true then
    (uI4 n (.start s0_0 s0_1 t1_2)) >>= fun t2 =>
    if t2.1.2.1 = true then
     runF_z21 n (.p15 (List.length t2.1.1.2.1 : Int) s0_0 s0_1 t1_0 t1_1 t1_2 t1_3)
    else
     if (seq t1_2 (⟨#[66, 105, 116]⟩ : ByteArray)) = true then
      runF_z21 n (.p15 (1 : Int) s0_0 s0_1 t1_0 t1_1 t1_2 t1_3)
     else
      if (!(seq t1_2 (⟨#[66, 111, 111, 108]⟩ : ByteArray))) = true then
       some (((6 : Int), ()), ())
      else
       runF_z21 n (.p15 (0 : Int) s0_0 s0_1 t1_0 t1_1 t1_2 t1_3)
   else
    if (t1_0 == (2 : Int)) = true then
     runF_z21 n (.p15 (0 : Int) s0_0 s0_1 t1_0 t1_1 t1_2 t1_3)
    else
     some (((15 : Int), ()), ())
 | n + 1, .p15 count5 C0 C1 D0 D1 D2 D3 =>
  if ((List.length D3 : Int) != count5) = true then
   some (((10 : Int), ()), ())
  else
   if (D0 == (2 : Int)) = true then
    (uf0 n (.start D1 (0 : Int) (1000000000 : Int))) >>= fun t1 =>
    if (!t1.1.1) = true then
     some (((2 : Int), ()), ())
    else
     runF_z21 n (.p63 C0 C1 D0 D1 D2 D3)
   else
    runF_z21 n (.p63 C0 C1 D0 D1 D2 D3)
 | n + 1, .p63 C0 C1 D0 D1 D2 D3 =>
  (uC2 n (.start D3 C0 C1)) >>= fun t1 =>
  some ((t1.1.2.1, ()), ())
end
theorem u34 : ∀ (n : Nat), (∀ p : vv8, OLe (uV4 n p) (uN1 p)) ∧ (∀ p : vv9, OLe (uC2 n p) (run_z22 p)) ∧ (∀ p : vn0, OLe (runF_z21 n p) (run_z21 p)) := by
  intro n
  induction n with
  | zero => exact ⟨(fun p r h => by cases h), (fun p r h => by cases h), (fun p r h => by cases h)⟩
  | succ n ih =>
    refine ⟨?_, ?_, ?_⟩
    · intro p
      cases p <;> rw [uN1, uV4] <;> repeat' with_reducible first | refine OLe.bind ?_ (fun _ => ?_) | refine OLe.ite ?_ ?_ | exact uc8 n _ | exact uw2 n _ | exact ur0 n _ | exact ih.1 _ | exact ih.2.1 _ | exact ih.2.2 _ | exact OLe.refl _
    · intro p
      cases p <;> rw [run_z22, uC2] <;> repeat' with_reducible first | refine OLe.bind ?_ (fun _ => ?_) | refine OLe.ite ?_ ?_ | exact uc8 n _ | exact uw2 n _ | exact ur0 n _ | exact ih.1 _ | exact ih.2.1 _ | exact ih.2.2 _ | exact OLe.refl _
    · intro p
      cases p <;> rw [run_z21, runF_z21] <;> repeat' with_reducible first | refine OLe.bind ?_ (fun _ => ?_) | refine OLe.ite ?_ ?_ | exact uc8 n _ | exact uw2 n _ | exact ur0 n _ | exact ih.1 _ | exact ih.2.1 _ | exact ih.2.2 _ | exact OLe.refl _
theorem u90 (n : Nat) : ∀ (p : vn0), OLe (runF_z21 n p) (run_z21 p) := (u34 n).2.2
def uI5 : Nat → vw0 → Option ((Int × Unit) × Unit)
 | 0, _ => none
 | n + 1, .start s0_0 s0_1 t1_0 t1_1 t1_2 t1_3 =>
  (uI3 n (.start t1_0 t1_1 t1_2 t1_3)) >>= fun t1 =>
  if (t1.1.1 != (0 : Int)) = true then
   some ((t1.1.1, ()), ())
  else
   (runF_z21 n (.start s0_0 s0_1 t1_0 t1_1 t1_2 t1_3)) >>= fun t2 =>
   some ((t2.1.1, ()), ())
theorem uM3 : ∀ (n : Nat) (p : vw0), OLe (uI5 n p) (uN2 p) := by
 intro n
 induction n with
 | zero => exact fun p r h => by cases h
 | succ n ih =>
  intro p
  cases p <;> rw [uN2, uI5] <;> repeat' with_reducible first | refine OLe.bind ?_ (fun _ => ?_) | refine OLe.ite ?_ ?_ | exact uM2 n _ | exact u90 n _ | exact ih _ | exact OLe.refl _
def uV5 : Nat → vw1 → Option ((Int × Unit) × ((Unit × Unit) × (((List ua5) × ((List ByteArray) × Unit)) × ((List ByteArray) × Unit))))
 | 0, _ => none
 | n + 1, .start s0 f1_0 f1_1 f1_2 f1_3 f1_4 D0 D1 B2 =>
  (uv6 n (.start f1_0 B2)) >>= fun t1 =>
  if (t1.1.1 != (0 : Int)) = true then
   some ((t1.1.1, ()), (((), ()), ((D0, (D1, ())), (B2, ()))))
  else
   if (fits (List.length B2) (List.length ([f1_0] : List ByteArray)) 16) = true then
    (uI5 n (.start D0 D1 f1_1 f1_2 f1_3 f1_4)) >>= fun t2 =>
    some ((t2.1.1, ()), (((), ()), ((D0, (D1, ())), (B2 ++ ([f1_0] : List ByteArray), ()))))
   else none
theorem u91 : ∀ (n : Nat) (p : vw1), OLe (uV5 n p) (uX4 p) := by
 intro n
 induction n with
 | zero => exact fun p r h => by cases h
 | succ n ih =>
  intro p
  cases p <;> rw [uX4, uV5] <;> repeat' with_reducible first | refine OLe.bind ?_ (fun _ => ?_) | refine OLe.ite ?_ ?_ | exact uq8 n _ | exact uM3 n _ | exact ih _ | exact OLe.refl _
def uC3 : Nat → vw2 → Option ((Int × (Int × Unit)) × ((Unit × Unit) × (((List ua5) × ((List ByteArray) × Unit)) × ((List ByteArray) × Unit))))
 | 0, _ => none
 | n + 1, .start l0 D0 D1 =>
  uC3 n (.p52 l0 (List.length l0 : Int) (0 : Int) D0 D1 ([] : List ByteArray))
 | n + 1, .p52 s9 s10 s11 D0 D1 B2 =>
  if (decide (s11 < s10)) = true then
   (idx s9 s11) >>= fun t1 =>
   (uV5 n (.start s11 t1.Name t1.Type_.Kind t1.Type_.Value t1.Type_.Name t1.Type_.Parts D0 D1 B2)) >>= fun t2 =>
   if (t2.1.1 != (0 : Int)) = true then
    some ((s11, (t2.1.1, ())), (((), ()), ((t2.2.2.1.1, (t2.2.2.1.2.1, ())), (t2.2.2.2.1, ()))))
   else
    uC3 n (.p52 s9 s10 (IntKind.wrap .i64 (s11 + (1 : Int))) t2.2.2.1.1 t2.2.2.1.2.1 t2.2.2.2.1)
  else
   some (((0 : Int), ((0 : Int), ())), (((), ()), ((D0, (D1, ())), (B2, ()))))
theorem u92 : ∀ (n : Nat) (p : vw2), OLe (uC3 n p) (uz2 p) := by
 intro n
 induction n with
 | zero => exact fun p r h => by cases h
 | succ n ih =>
  intro p
  cases p <;> rw [uz2, uC3] <;> repeat' with_reducible first | refine OLe.bind ?_ (fun _ => ?_) | refine OLe.ite ?_ ?_ | exact u91 n _ | exact ih _ | exact OLe.refl _
def uV6 : Nat → vw3 → Option ((Int × Unit) × ((Unit × Unit) × (((List ua5) × ((List ByteArray) × Unit)) × ((List ByteArray) × Unit))))
 | 0, _ => none
 | n + 1, .start s0 c1_0 c1_1 D0 D1 B2 =>
  (uv6 n (.start c1_0 B2)) >>= fun t1 =>
  (ub0 n (.start (decide ((List.length c1_1 : Int) ≤ (8 : Int))) (8 : Int))) >>= fun t2 =>
  (uc4 n (.start ([t1.1.1, t2.1.1] : List Int))) >>= fun t3 =>
  if (t3.1.1 != (0 : Int)) = true then
   some ((t3.1.1, ()), (((), ()), ((D0, (D1, ())), (B2, ()))))
  else
   if (fits (List.length B2) (List.length ([c1_0] : List ByteArray)) 16) = true then
    (uC3 n (.start c1_1 D0 D1)) >>= fun t4 =>
    some ((t4.1.2.1, ()), (((), ()), ((t4.2.2.1.1, (t4.2.2.1.2.1, ())), (B2 ++ ([c1_0] : List ByteArray), ()))))
   else none
theorem u93 : ∀ (n : Nat) (p : vw3), OLe (uV6 n p) (uX5 p) := by
 intro n
 induction n with
 | zero => exact fun p r h => by cases h
 | succ n ih =>
  intro p
  cases p <;> rw [uX5, uV6] <;> repeat' with_reducible first | refine OLe.bind ?_ (fun _ => ?_) | refine OLe.ite ?_ ?_ | exact ud7 n _ | exact ud2 n _ | exact uq8 n _ | exact u92 n _ | exact ih _ | exact OLe.refl _
def uC4 : Nat → vw4 → Option ((Int × (Int × Unit)) × ((Unit × Unit) × (((List ua5) × ((List ByteArray) × Unit)) × ((List ByteArray) × Unit))))
 | 0, _ => none
 | n + 1, .start l0 D0 D1 B2 =>
  uC4 n (.p52 l0 (List.length l0 : Int) (0 : Int) D0 D1 B2)
 | n + 1, .p52 s9 s10 s11 D0 D1 B2 =>
  if (decide (s11 < s10)) = true then
   (idx s9 s11) >>= fun t1 =>
   (uV6 n (.start s11 t1.Name t1.Fields D0 D1 B2)) >>= fun t2 =>
   if (t2.1.1 != (0 : Int)) = true then
    some ((s11, (t2.1.1, ())), (((), ()), ((t2.2.2.1.1, (t2.2.2.1.2.1, ())), (t2.2.2.2.1, ()))))
   else
    uC4 n (.p52 s9 s10 (IntKind.wrap .i64 (s11 + (1 : Int))) t2.2.2.1.1 t2.2.2.1.2.1 t2.2.2.2.1)
  else
   some (((0 : Int), ((0 : Int), ())), (((), ()), ((D0, (D1, ())), (B2, ()))))
theorem u94 : ∀ (n : Nat) (p : vw4), OLe (uC4 n p) (uz3 p) := by
 intro n
 induction n with
 | zero => exact fun p r h => by cases h
 | succ n ih =>
  intro p
  cases p <;> rw [uz3, uC4] <;> repeat' with_reducible first | refine OLe.bind ?_ (fun _ => ?_) | refine OLe.ite ?_ ?_ | exact u93 n _ | exact ih _ | exact OLe.refl _
def uC5 : Nat → vw5 → Option ((Int × Unit) × Unit)
 | 0, _ => none
 | n + 1, .start s0_0 s0_1 d1_0 d1_1 d1_2 names2 constructors3 =>
  if (fits (List.length names2) (List.length ([(⟨#[66, 105, 116]⟩ : ByteArray), (⟨#[66, 111, 111, 108]⟩ : ByteArray), (⟨#[73, 110, 116, 101, 103, 101, 114]⟩ : ByteArray)] : List ByteArray)) 16) = true then
   (uv6 n (.start d1_0 (names2 ++ ([(⟨#[66, 105, 116]⟩ : ByteArray), (⟨#[66, 111, 111, 108]⟩ : ByteArray), (⟨#[73, 110, 116, 101, 103, 101, 114]⟩ : ByteArray)] : List ByteArray)))) >>= fun t1 =>
   if (decide ((List.length d1_1 : Int) ≤ (4 : Int))) = true then
    (ub0 n (.start (decide ((List.length d1_2 : Int) ≤ (16 : Int))) (8 : Int))) >>= fun t2 =>
    (ub0 n (.start (decide ((List.length d1_2 : Int) > (0 : Int))) (10 : Int))) >>= fun t3 =>
    (uc4 n (.start ([t1.1.1, t2.1.1, t3.1.1] : List Int))) >>= fun t4 =>
    uC5 n (.p7 constructors3 t4.1.1 s0_0 s0_1 d1_0 d1_1 d1_2)
   else
    (ub0 n (.start false (8 : Int))) >>= fun t5 =>
    (ub0 n (.start (decide ((List.length d1_2 : Int) > (0 : Int))) (10 : Int))) >>= fun t6 =>
    (uc4 n (.start ([t1.1.1, t5.1.1, t6.1.1] : List Int))) >>= fun t7 =>
    uC5 n (.p7 constructors3 t7.1.1 s0_0 s0_1 d1_0 d1_1 d1_2)
  else none
 | n + 1, .p7 constructors3 e9 C0 C1 D0 D1 D2 =>
  if (e9 != (0 : Int)) = true then
   some ((e9, ()), ())
  else
   (uC0 n (.start D1 D0 D1 D2)) >>= fun t1 =>
   if (t1.1.2.1 != (0 : Int)) = true then
    some ((t1.1.2.1, ()), ())
   else
    if (fits (List.length constructors3) (List.length ([(⟨#[70, 97, 108, 115, 101]⟩ : ByteArray), (⟨#[84, 114, 117, 101]⟩ : ByteArray)] : List ByteArray)) 16) = true then
     (uC4 n (.start t1.2.1.2.2.1 C0 t1.2.1.2.1 (constructors3 ++ ([(⟨#[70, 97, 108, 115, 101]⟩ : ByteArray), (⟨#[84, 114, 117, 101]⟩ : ByteArray)] : List ByteArray)))) >>= fun t2 =>
     some ((t2.1.2.1, ()), ())
    else none
theorem u95 : ∀ (n : Nat) (p : vw5), OLe (uC5 n p) (uz4 p) := by
 intro n
 induction n with
 | zero => exact fun p r h => by cases h
 | succ n ih =>
  intro p
  cases p <;> rw [uz4, uC5] <;> repeat' with_reducible first | refine OLe.bind ?_ (fun _ => ?_) | refine OLe.ite ?_ ?_ | exact ud7 n _ | exact ud2 n _ | exact uq8 n _ | exact u85 n _ | exact u94 n _ | exact ih _ | exact OLe.refl _
def uC6 : Nat → vw6 → Option ((Int × Unit) × (((List ua5) × Unit) × ((Unit × Unit) × ((Unit × Unit) × ((List ByteArray) × ((List ByteArray) × Unit))))))
 | 0, _ => none
 | n + 1, .start i0 d1_0 d1_1 d1_2 B0 B3 B4 =>
  (span (List.length B0) (0 : Int) i0) >>= fun t1 =>
  (uW0 n (.start B3)) >>= fun t2 =>
  (uW0 n (.start B4)) >>= fun t3 =>
  (uC5 n (.start (cut B0 t1) ([]) d1_0 d1_1 d1_2 t2.1.1 t3.1.1)) >>= fun t4 =>
  if (fits (List.length B3) (List.length ([d1_0] : List ByteArray)) 16) = true then
   uC6 n (.p244 t4.1.1 d1_2 (List.length d1_2 : Int) (0 : Int) B0 (B3 ++ ([d1_0] : List ByteArray)) B4)
  else none
 | n + 1, .p244 e8 s27 s28 s29 B0 B3 B4 =>
  if (decide (s29 < s28)) = true then
   (idx s27 s29) >>= fun t1 =>
   if (fits (List.length B4) (List.length ([t1.Name] : List ByteArray)) 16) = true then
    uC6 n (.p244 e8 s27 s28 (IntKind.wrap .i64 (s29 + (1 : Int))) B0 B3 (B4 ++ ([t1.Name] : List ByteArray)))
   else none
  else
   some ((e8, ()), ((B0, ()), (((), ()), (((), ()), (B3, (B4, ()))))))
theorem u96 : ∀ (n : Nat) (p : vw6), OLe (uC6 n p) (uz5 p) := by
 intro n
 induction n with
 | zero => exact fun p r h => by cases h
 | succ n ih =>
  intro p
  cases p <;> rw [uz5, uC6] <;> repeat' with_reducible first | refine OLe.bind ?_ (fun _ => ?_) | refine OLe.ite ?_ ?_ | exact vm0 n _ | exact u95 n _ | exact ih _ | exact OLe.refl _
def uC7 : Nat → vw7 → Option ((Int × (Int × Unit)) × (((List ua5) × Unit) × ((Unit × Unit) × ((Unit × Unit) × ((List ByteArray) × ((List ByteArray) × Unit))))))
 | 0, _ => none
 | n + 1, .start l0 B0 =>
  uC7 n (.p52 l0 (List.length l0 : Int) (0 : Int) B0 ([] : List ByteArray) ([] : List ByteArray))
 | n + 1, .p52 s9 s10 s11 B0 B3 B4 =>
  if (decide (s11 < s10)) = true then
   (idx s9 s11) >>= fun t1 =>
   (uC6 n (.start s11 t1.Name t1.Params t1.Constructors B0 B3 B4)) >>= fun t2 =>
   if (t2.1.1 != (0 : Int)) = true then
    some ((s11, (t2.1.1, ())), ((t2.2.1.1, ()), (((), ()), (((), ()), (t2.2.2.2.2.1, (t2.2.2.2.2.2.1, ()))))))
   else
    uC7 n (.p52 s9 s10 (IntKind.wrap .i64 (s11 + (1 : Int))) t2.2.1.1 t2.2.2.2.2.1 t2.2.2.2.2.2.1)
  else
   some (((0 : Int), ((0 : Int), ())), ((B0, ()), (((), ()), (((), ()), (B3, (B4, ()))))))
theorem u97 : ∀ (n : Nat) (p : vw7), OLe (uC7 n p) (uz6 p) := by
 intro n
 induction n with
 | zero => exact fun p r h => by cases h
 | succ n ih =>
  intro p
  cases p <;> rw [uz6, uC7] <;> repeat' with_reducible first | refine OLe.bind ?_ (fun _ => ?_) | refine OLe.ite ?_ ?_ | exact u96 n _ | exact ih _ | exact OLe.refl _
def uV7 : Nat → vw8 → Option ((Int × (Int × Unit)) × Unit)
 | 0, _ => none
 | n + 1, .start l0 =>
  if (decide ((List.length l0 : Int) > (20 : Int))) = true then
   some (((0 : Int), ((8 : Int), ())), ())
  else
   (uC7 n (.start l0 l0)) >>= fun t1 =>
   some ((t1.1.1, (t1.1.2.1, ())), ())
theorem u98 : ∀ (n : Nat) (p : vw8), OLe (uV7 n p) (uX6 p) := by
 intro n
 induction n with
 | zero => exact fun p r h => by cases h
 | succ n ih =>
  intro p
  cases p <;> rw [uX6, uV7] <;> repeat' with_reducible first | refine OLe.bind ?_ (fun _ => ?_) | refine OLe.ite ?_ ?_ | exact u97 n _ | exact ih _ | exact OLe.refl _
def ul0 : Nat → vw9 → Option (((Int × (Int × (ByteArray × ((List ua3) × Unit)))) × Unit) × Unit)
 | 0, _ => none
 | n + 1, .start t0_0 t0_1 t0_2 t0_3 params1 args2 =>
  (uF2 n (.start params1 t0_2)) >>= fun t1 =>
  if (t0_0 == (0 : Int)) = true then
   ul0 n (.p27 params1 args2 t1.1.1 (decide (t1.1.1 ≥ (0 : Int))) t0_0 t0_1 t0_2 t0_3 (0 : Int) (0 : Int) (⟨#[]⟩ : ByteArray))
  else
   ul0 n (.p27 params1 args2 t1.1.1 false t0_0 t0_1 t0_2 t0_3 (0 : Int) (0 : Int) (⟨#[]⟩ : ByteArray))
 | n + 1, .p27 params1 args2 i7 s21 C0 C1 C2 C3 D0 D1 D2 =>
  if s21 = true then
   (idx args2 i7) >>= fun t1 =>
   (ul0 n (.start t1.Kind t1.Value t1.Name t1.Parts ([]) ([]))) >>= fun t2 =>
   some (((t2.1.1.1, (t2.1.1.2.1, (t2.1.1.2.2.1, (t2.1.1.2.2.2.1, ())))), ()), ())
  else
   ul0 n (.p500 params1 args2 C3 (List.length C3 : Int) (0 : Int) D0 D1 D2 C0 C1 C2 ([] : List ua3))
 | n + 1, .p500 params1 args2 s30 s31 s32 C0 C1 C2 D0 D1 D2 B2 =>
  if (decide (s32 < s31)) = true then
   (idx s30 s32) >>= fun t1 =>
   (ul0 n (.start t1.Kind t1.Value t1.Name t1.Parts params1 args2)) >>= fun t2 =>
   if (fits (List.length B2) (List.length ([(⟨t2.1.1.1, t2.1.1.2.1, t2.1.1.2.2.1, t2.1.1.2.2.2.1⟩ : ua3)] : List ua3)) 56) = true then
    ul0 n (.p500 params1 args2 s30 s31 (IntKind.wrap .i64 (s32 + (1 : Int))) C0 C1 C2 D0 D1 D2 (B2 ++ ([(⟨t2.1.1.1, t2.1.1.2.1, t2.1.1.2.2.1, t2.1.1.2.2.2.1⟩ : ua3)] : List ua3)))
   else none
  else
   some (((D0, (D1, (D2, (B2, ())))), ()), ())
theorem u99 : ∀ (n : Nat) (p : vw9), OLe (ul0 n p) (um4 p) := by
 intro n
 induction n with
 | zero => exact fun p r h => by cases h
 | succ n ih =>
  intro p
  cases p <;> rw [um4, ul0] <;> repeat' with_reducible first | refine OLe.bind ?_ (fun _ => ?_) | refine OLe.ite ?_ ?_ | exact uS1 n _ | exact ih _ | exact OLe.refl _
def ur1 : Nat → vx0 → Option ((Unit × Unit) × ((List data_variant) × Unit))
 | 0, _ => none
 | n + 1, .start s0_0 s0_1 t1_0 t1_1 t1_2 t1_3 =>
  (uI4 n (.start s0_0 s0_1 t1_2)) >>= fun t1 =>
  if (!t1.1.2.1) = true then
   some (((), ()), (([(⟨(⟨#[70, 97, 108, 115, 101]⟩ : ByteArray), [], none⟩ : data_variant), (⟨(⟨#[84, 114, 117, 101]⟩ : ByteArray), [], none⟩ : data_variant)] : List data_variant), ()))
  else
   ur1 n (.p500 t1.1.1.2.2.1 (List.length t1.1.1.2.2.1 : Int) (0 : Int) t1_0 t1_1 t1_2 t1_3 t1.1.1.1 t1.1.1.2.1 t1.1.1.2.2.1 ([] : List data_variant))
 | n + 1, .p500 s26 s27 s28 C0 C1 C2 C3 D0 D1 D2 B2 =>
  if (decide (s28 < s27)) = true then
   (idx s26 s28) >>= fun t1 =>
   ur1 n (.p512820 s26 s27 s28 t1.Fields (List.length t1.Fields : Int) (0 : Int) C0 C1 C2 C3 D0 D1 D2 B2 t1.Name ([] : List ua6))
  else
   some (((), ()), (B2, ()))
 | n + 1, .p512820 s26 s27 s28 s36 s37 s38 C0 C1 C2 C3 D0 D1 D2 B2 B3 B4 =>
  if (decide (s38 < s37)) = true then
   (idx s36 s38) >>= fun t1 =>
   (ul0 n (.start t1.Type_.Kind t1.Type_.Value t1.Type_.Name t1.Type_.Parts D1 C3)) >>= fun t2 =>
   if (fits (List.length B4) (List.length ([(⟨t1.Name, (⟨t2.1.1.1, t2.1.1.2.1, t2.1.1.2.2.1, t2.1.1.2.2.2.1⟩ : ua3)⟩ : ua6)] : List ua6)) 72) = true then
    ur1 n (.p512820 s26 s27 s28 s36 s37 (IntKind.wrap .i64 (s38 + (1 : Int))) C0 C1 C2 C3 D0 D1 D2 B2 B3 (B4 ++ ([(⟨t1.Name, (⟨t2.1.1.1, t2.1.1.2.1, t2.1.1.2.2.1, t2.1.1.2.2.2.1⟩ : ua3)⟩ : ua6)] : List ua6)))
   else none
  else
   if (fits (List.length B2) (List.length ([(⟨B3, B4, none⟩ : data_variant)] : List data_variant)) 64) = true then
    ur1 n (.p500 s26 s27 (IntKind.wrap .i64 (s28 + (1 : Int))) C0 C1 C2 C3 D0 D1 D2 (B2 ++ ([(⟨B3, B4, none⟩ : data_variant)] : List data_variant)))
   else none
theorem va0 : ∀ (n : Nat) (p : vx0), OLe (ur1 n p) (ur9 p) := by
 intro n
 induction n with
 | zero => exact fun p r h => by cases h
 | succ n ih =>
  intro p
  cases p <;> rw [ur9, ur1] <;> repeat' with_reducible first | refine OLe.bind ?_ (fun _ => ?_) | refine OLe.ite ?_ ?_ | exact ur0 n _ | exact u99 n _ | exact ih _ | exact OLe.refl _
def uj5 : Nat → vx1 → Option (((Option ua4) × (Int × Unit)) × ((Int × Unit) × Unit))
 | 0, _ => none
 | n + 1, .start s0_0 s0_1 t1_0 t1_1 t1_2 t1_3 deep3 B0 =>
  (uI3 n (.start t1_0 t1_1 t1_2 t1_3)) >>= fun t1 =>
  if (t1.1.1 != (0 : Int)) = true then
   some ((none, (t1.1.1, ())), ((B0, ()), ()))
  else
   if (decide ((IntKind.wrap .i64 (B0 + (1 : Int))) ≤ (200 : Int))) = true then
    (ub0 n (.start (decide (deep3 ≤ (40 : Int))) (8 : Int))) >>= fun t2 =>
    uj5 n (.p31 deep3 t2.1.1 (IntKind.wrap .i64 (B0 + (1 : Int))) s0_0 s0_1 t1_0 t1_1 t1_2 t1_3)
   else
    (ub0 n (.start false (8 : Int))) >>= fun t3 =>
    uj5 n (.p31 deep3 t3.1.1 (IntKind.wrap .i64 (B0 + (1 : Int))) s0_0 s0_1 t1_0 t1_1 t1_2 t1_3)
 | n + 1, .p31 deep3 few11 B0 D0 D1 G0 G1 G2 G3 =>
  if (G0 == (2 : Int)) = true then
   some ((none, ((26 : Int), ())), ((B0, ()), ()))
  else
   if (seq G2 (⟨#[66, 105, 116]⟩ : ByteArray)) = true then
    (idx G3 (0 : Int)) >>= fun t1 =>
    (ub0 n (.start (t1.Kind == (2 : Int)) (26 : Int))) >>= fun t2 =>
    (uf0 n (.start t1.Value (1 : Int) (16 : Int))) >>= fun t3 =>
    (ub0 n (.start t3.1.1 (25 : Int))) >>= fun t4 =>
    (uc4 n (.start ([t2.1.1, t4.1.1, few11] : List Int))) >>= fun t5 =>
    some ((some (⟨t1.Value, none⟩ : ua4), (t5.1.1, ())), ((B0, ()), ()))
   else
    if (few11 != (0 : Int)) = true then
     some ((none, (few11, ())), ((B0, ()), ()))
    else
     (ur1 n (.start D0 D1 G0 G1 G2 G3)) >>= fun t6 =>
     uj5 n (.p8180 deep3 (List.length t6.2.1 : Int) (0 : Int) B0 D0 D1 (0 : Int) t6.2.1)
 | n + 1, .p8180 deep3 s76 s77 B0 D0 D1 B2 B3 =>
  if (decide (s77 < s76)) = true then
   if (decide ((0 : Int) ≤ s77) && decide (s77 < (List.length B3 : Int))) = true then
    (idx B3 s77) >>= fun t1 =>
    if (Option.isNone t1.parts) = true then
     (if s77 = (Int.toNat s77 : Int) then B3[Int.toNat s77]? else none) >>= fun t2 =>
     uj5 n (.p4188572 deep3 s77 s76 s77 t2.fields (List.length t2.fields : Int) (0 : Int) B0 D0 D1 B2 (B3, Int.toNat s77) ([] : List (Option ua4)))
    else none
   else none
  else
   some ((some (⟨B2, (some B3)⟩ : ua4), ((0 : Int), ())), ((B0, ()), ()))
 | n + 1, .p4188572 deep3 v15 s76 s77 s89 s90 s91 B0 D0 D1 B2 B3 B4 =>
  if (decide (s91 < s90)) = true then
   (idx s89 s91) >>= fun t1 =>
   (uj5 n (.start D0 D1 t1.Type_.Kind t1.Type_.Value t1.Type_.Name t1.Type_.Parts (IntKind.wrap .i64 (deep3 + (1 : Int))) B0)) >>= fun t2 =>
   if (t2.1.2.1 != (0 : Int)) = true then
    some ((none, (t2.1.2.1, ())), ((t2.2.1.1, ()), ()))
   else
    (if v15 = (B3.2 : Int) then B3.1[B3.2]? else none) >>= fun t3 =>
    if (fits (List.length B4) (List.length ([t2.1.1] : List (Option ua4))) 8) = true then
     if v15 = (B3.2 : Int) then
      uj5 n (.p4188572 deep3 v15 s76 s77 s89 s90 (IntKind.wrap .i64 (s91 + (1 : Int))) t2.2.1.1 D0 D1 B2 (B3.1, B3.2) (B4 ++ ([t2.1.1] : List (Option ua4))))
     else none
    else none
  else
   uj5 n (.p8180 deep3 s76 (IntKind.wrap .i64 (s77 + (1 : Int))) B0 D0 D1 B2 (List.modify B3.1 B3.2 (fun y => (⟨y.name, y.fields, (some B4)⟩ : data_variant))))
theorem va1 : ∀ (n : Nat) (p : vx1), OLe (uj5 n p) (uk5 p) := by
 intro n
 induction n with
 | zero => exact fun p r h => by cases h
 | succ n ih =>
  intro p
  cases p <;> rw [uk5, uj5] <;> repeat' with_reducible first | refine OLe.bind ?_ (fun _ => ?_) | refine OLe.ite ?_ ?_ | exact uc8 n _ | exact ud7 n _ | exact ud2 n _ | exact uM2 n _ | exact va0 n _ | exact ih _ | exact OLe.refl _
def un5 : Nat → vx2 → Option ((Bool × Unit) × Unit)
 | 0, _ => none
 | n + 1, .start x0 =>
  x0 >>= fun t1 =>
  (vS0 t1.constructors) >>= fun t2 =>
  some ((t2, ()), ())
theorem ud3 : ∀ (n : Nat) (p : vx2), OLe (un5 n p) (us0 p) := by
 intro n
 induction n with
 | zero => exact fun p r h => by cases h
 | succ n ih =>
  intro p
  cases p <;> rw [us0, un5] <;> repeat' with_reducible first | refine OLe.bind ?_ (fun _ => ?_) | refine OLe.ite ?_ ?_ | exact ih _ | exact OLe.refl _
def ul1 : Nat → vx3 → Option ((Int × Unit) × Unit)
 | 0, _ => none
 | n + 1, .start x0 =>
  if (decide (x0 ≥ (4294967296 : Int))) = true then
   if (decide ((0 : Int) ≤ (32 : Int))) = true then
    ul1 n (.p7 (shr .u64 x0 (32 : Int)) (32 : Int))
   else none
  else
   ul1 n (.p7 x0 (0 : Int))
 | n + 1, .p7 x0 n2 =>
  if (decide (x0 ≥ (65536 : Int))) = true then
   if (decide ((0 : Int) ≤ (16 : Int))) = true then
    ul1 n (.p15 (shr .u64 x0 (16 : Int)) (IntKind.wrap .i64 (n2 + (16 : Int))))
   else none
  else
   ul1 n (.p15 x0 n2)
 | n + 1, .p15 x0 n2 =>
  if (decide (x0 ≥ (256 : Int))) = true then
   if (decide ((0 : Int) ≤ (8 : Int))) = true then
    ul1 n (.p31 (shr .u64 x0 (8 : Int)) (IntKind.wrap .i64 (n2 + (8 : Int))))
   else none
  else
   ul1 n (.p31 x0 n2)
 | n + 1, .p31 x0 n2 =>
  (sidx (⟨#[0, 1, 2, 2, 3, 3, 3, 3, 4, 4, 4, 4, 4, 4, 4, 4, 5, 5, 5, 5, 5, 5, 5, 5, 5, 5, 5, 5, 5, 5, 5, 5, 6, 6, 6, 6, 6, 6, 6, 6, 6, 6, 6, 6, 6, 6, 6, 6, 6, 6, 6, 6, 6, 6, 6, 6, 6, 6, 6, 6, 6, 6, 6, 6, 7, 7, 7, 7, 7, 7, 7, 7, 7, 7, 7, 7, 7, 7, 7, 7, 7, 7, 7, 7, 7, 7, 7, 7, 7, 7, 7, 7, 7, 7, 7, 7, 7, 7, 7, 7, 7, 7, 7, 7, 7, 7, 7, 7, 7, 7, 7, 7, 7, 7, 7, 7, 7, 7, 7, 7, 7, 7, 7, 7, 7, 7, 7, 7, 8, 8, 8, 8, 8, 8, 8, 8, 8, 8, 8, 8, 8, 8, 8, 8, 8, 8, 8, 8, 8, 8, 8, 8, 8, 8, 8, 8, 8, 8, 8, 8, 8, 8, 8, 8, 8, 8, 8, 8, 8, 8, 8, 8, 8, 8, 8, 8, 8, 8, 8, 8, 8, 8, 8, 8, 8, 8, 8, 8, 8, 8, 8, 8, 8, 8, 8, 8, 8, 8, 8, 8, 8, 8, 8, 8, 8, 8, 8, 8, 8, 8, 8, 8, 8, 8, 8, 8, 8, 8, 8, 8, 8, 8, 8, 8, 8, 8, 8, 8, 8, 8, 8, 8, 8, 8, 8, 8, 8, 8, 8, 8, 8, 8, 8, 8, 8, 8, 8, 8, 8, 8, 8, 8, 8, 8, 8, 8]⟩ : ByteArray) (IntKind.wrap .u8 x0)) >>= fun t1 =>
  some ((IntKind.wrap .i64 (n2 + (IntKind.wrap .i64 t1)), ()), ())
theorem va2 : ∀ (n : Nat) (p : vx3), OLe (ul1 n p) (um5 p) := by
 intro n
 induction n with
 | zero => exact fun p r h => by cases h
 | succ n ih =>
  intro p
  cases p <;> rw [um5, ul1] <;> repeat' with_reducible first | refine OLe.bind ?_ (fun _ => ?_) | refine OLe.ite ?_ ?_ | exact ih _ | exact OLe.refl _
def uV8 : Nat → vx4 → Option ((Int × Unit) × Unit)
 | 0, _ => none
 | n + 1, .start x0 =>
  (ul1 n (.start x0)) >>= fun t1 =>
  some ((t1.1.1, ()), ())
theorem va3 : ∀ (n : Nat) (p : vx4), OLe (uV8 n p) (uX7 p) := by
 intro n
 induction n with
 | zero => exact fun p r h => by cases h
 | succ n ih =>
  intro p
  cases p <;> rw [uX7, uV8] <;> repeat' with_reducible first | refine OLe.bind ?_ (fun _ => ?_) | refine OLe.ite ?_ ?_ | exact va2 n _ | exact ih _ | exact OLe.refl _
def uV9 : Nat → vx5 → Option ((Int × Unit) × Unit)
 | 0, _ => none
 | n + 1, .start x0 =>
  x0 >>= fun t1 =>
  (uV8 n (.start (IntKind.wrap .u64 (IntKind.wrap .i64 ((List.length (Option.getD t1.constructors []) : Int) - (1 : Int)))))) >>= fun t2 =>
  some ((t2.1.1, ()), ())
theorem uy8 : ∀ (n : Nat) (p : vx5), OLe (uV9 n p) (uX8 p) := by
 intro n
 induction n with
 | zero => exact fun p r h => by cases h
 | succ n ih =>
  intro p
  cases p <;> rw [uX8, uV9] <;> repeat' with_reducible first | refine OLe.bind ?_ (fun _ => ?_) | refine OLe.ite ?_ ?_ | exact va3 n _ | exact ih _ | exact OLe.refl _
mutual
def ur2 : Nat → vn1 → Option ((Int × Unit) × Unit)
 | 0, _ => none
 | n + 1, .start v0_0 v0_1 v0_2 =>
  ur2 n (.p116 (0 : Int) v0_2 (List.length (Option.getD v0_2 []) : Int) (0 : Int))
 | n + 1, .p116 sum3 s7 s8 s9 =>
  if (decide (s9 < s8)) = true then
   (idx (Option.getD s7 []) s9) >>= fun t1 =>
   (runF_z41 n (.start t1)) >>= fun t2 =>
   ur2 n (.p116 (IntKind.wrap .i64 (sum3 + t2.1.1)) s7 s8 (IntKind.wrap .i64 (s9 + (1 : Int))))
  else
   some ((sum3, ()), ())
def ul2 : Nat → vn3 → Option ((Int × Unit) × Unit)
 | 0, _ => none
 | n + 1, .start x0 =>
  x0 >>= fun t1 =>
  ul2 n (.p116 (0 : Int) t1.constructors (List.length (Option.getD t1.constructors []) : Int) (0 : Int))
 | n + 1, .p116 most3 s9 s10 s11 =>
  if (decide (s11 < s10)) = true then
   (idx (Option.getD s9 []) s11) >>= fun t1 =>
   (ur2 n (.start t1.name t1.fields t1.parts)) >>= fun t2 =>
   ul2 n (.p116 (if t2.1.1 > most3 then t2.1.1 else most3) s9 s10 (IntKind.wrap .i64 (s11 + (1 : Int))))
  else
   some ((most3, ()), ())
def runF_z41 : Nat → vn2 → Option ((Int × Unit) × Unit)
 | 0, _ => none
 | n + 1, .start x0 =>
  (un5 n (.start x0)) >>= fun t1 =>
  if t1.1.1 = true then
   x0 >>= fun t2 =>
   some ((t2.bits, ()), ())
  else
   (uV9 n (.start x0)) >>= fun t3 =>
   (ul2 n (.start x0)) >>= fun t4 =>
   some ((IntKind.wrap .i64 (t3.1.1 + t4.1.1), ()), ())
end
theorem uu5 : ∀ (n : Nat), (∀ p : vn1, OLe (ur2 n p) (us1 p)) ∧ (∀ p : vn3, OLe (ul2 n p) (run_z42 p)) ∧ (∀ p : vn2, OLe (runF_z41 n p) (run_z41 p)) := by
  intro n
  induction n with
  | zero => exact ⟨(fun p r h => by cases h), (fun p r h => by cases h), (fun p r h => by cases h)⟩
  | succ n ih =>
    refine ⟨?_, ?_, ?_⟩
    · intro p
      cases p <;> rw [us1, ur2] <;> repeat' with_reducible first | refine OLe.bind ?_ (fun _ => ?_) | refine OLe.ite ?_ ?_ | exact ud3 n _ | exact uy8 n _ | exact ih.1 _ | exact ih.2.1 _ | exact ih.2.2 _ | exact OLe.refl _
    · intro p
      cases p <;> rw [run_z42, ul2] <;> repeat' with_reducible first | refine OLe.bind ?_ (fun _ => ?_) | refine OLe.ite ?_ ?_ | exact ud3 n _ | exact uy8 n _ | exact ih.1 _ | exact ih.2.1 _ | exact ih.2.2 _ | exact OLe.refl _
    · intro p
      cases p <;> rw [run_z41, runF_z41] <;> repeat' with_reducible first | refine OLe.bind ?_ (fun _ => ?_) | refine OLe.ite ?_ ?_ | exact ud3 n _ | exact uy8 n _ | exact ih.1 _ | exact ih.2.1 _ | exact ih.2.2 _ | exact OLe.refl _
theorem va4 (n : Nat) : ∀ (p : vn1), OLe (ur2 n p) (us1 p) := (uu5 n).1
theorem uM5 (n : Nat) : ∀ (p : vn3), OLe (ul2 n p) (run_z42 p) := (uu5 n).2.1
theorem um3 (n : Nat) : ∀ (p : vn2), OLe (runF_z41 n p) (run_z41 p) := (uu5 n).2.2
def uv7 : Nat → vx6 → Option (((Option ua4) × (((List ua5) × (Unit × Unit)) × (Int × Unit))) × Unit)
 | 0, _ => none
 | n + 1, .start l0 t1_0 t1_1 t1_2 t1_3 =>
  (uV7 n (.start l0)) >>= fun t1 =>
  if (t1.1.2.1 != (0 : Int)) = true then
   some ((none, ((l0, ((), ())), (t1.1.2.1, ()))), ())
  else
   (uI5 n (.start l0 ([]) t1_0 t1_1 t1_2 t1_3)) >>= fun t2 =>
   if (t2.1.1 != (0 : Int)) = true then
    some ((none, ((l0, ((), ())), (t2.1.1, ()))), ())
   else
    (uj5 n (.start l0 ([]) t1_0 t1_1 t1_2 t1_3 (1 : Int) (0 : Int))) >>= fun t3 =>
    if (t3.1.2.1 == (0 : Int)) = true then
     (runF_z41 n (.start t3.1.1)) >>= fun t4 =>
     (uf0 n (.start t4.1.1 (1 : Int) (16 : Int))) >>= fun t5 =>
     if (!t5.1.1) = true then
      some ((t3.1.1, ((l0, ((), ())), ((25 : Int), ()))), ())
     else
      some ((t3.1.1, ((l0, ((), ())), (t3.1.2.1, ()))), ())
    else
     some ((t3.1.1, ((l0, ((), ())), (t3.1.2.1, ()))), ())
theorem ur3 : ∀ (n : Nat) (p : vx6), OLe (uv7 n p) (uz7 p) := by
 intro n
 induction n with
 | zero => exact fun p r h => by cases h
 | succ n ih =>
  intro p
  cases p <;> rw [uz7, uv7] <;> repeat' with_reducible first | refine OLe.bind ?_ (fun _ => ?_) | refine OLe.ite ?_ ?_ | exact uc8 n _ | exact uM3 n _ | exact u98 n _ | exact va1 n _ | exact um3 n _ | exact ih _ | exact OLe.refl _
def uW1 : Nat → vx7 → Option ((Int × (Int × Unit)) × Unit)
 | 0, _ => none
 | n + 1, .start l0 t1_0 t1_1 t1_2 t1_3 =>
  (uv7 n (.start l0 t1_0 t1_1 t1_2 t1_3)) >>= fun t1 =>
  if (t1.1.2.2.1 != (0 : Int)) = true then
   some (((0 : Int), (t1.1.2.2.1, ())), ())
  else
   (runF_z41 n (.start t1.1.1)) >>= fun t2 =>
   some ((t2.1.1, ((0 : Int), ())), ())
theorem va5 : ∀ (n : Nat) (p : vx7), OLe (uW1 n p) (uX9 p) := by
 intro n
 induction n with
 | zero => exact fun p r h => by cases h
 | succ n ih =>
  intro p
  cases p <;> rw [uX9, uW1] <;> repeat' with_reducible first | refine OLe.bind ?_ (fun _ => ?_) | refine OLe.ite ?_ ?_ | exact um3 n _ | exact ur3 n _ | exact ih _ | exact OLe.refl _
def ul3 : Nat → vx8 → Option (((ByteArray × (Int × ((List ua0) × Unit))) × Unit) × Unit)
 | 0, _ => none
 | n + 1, .start name0 parts1 =>
  some (((name0, ((0 : Int), (parts1, ()))), ()), ())
theorem va6 : ∀ (n : Nat) (p : vx8), OLe (ul3 n p) (uo3 p) := by
 intro n
 induction n with
 | zero => exact fun p r h => by cases h
 | succ n ih =>
  intro p
  cases p <;> rw [uo3, ul3] <;> repeat' with_reducible first | refine OLe.bind ?_ (fun _ => ?_) | refine OLe.ite ?_ ?_ | exact ih _ | exact OLe.refl _
def uW2 : Nat → vx9 → Option (((List ua0) × Unit) × Unit)
 | 0, _ => none
 | n + 1, .start v0_0 v0_1 v0_2 =>
  some ((v0_2, ()), ())
theorem va7 : ∀ (n : Nat) (p : vx9), OLe (uW2 n p) (uN3 p) := by
 intro n
 induction n with
 | zero => exact fun p r h => by cases h
 | succ n ih =>
  intro p
  cases p <;> rw [uN3, uW2] <;> repeat' with_reducible first | refine OLe.bind ?_ (fun _ => ?_) | refine OLe.ite ?_ ?_ | exact ih _ | exact OLe.refl _
def ur4 : Nat → vy0 → Option ((Bool × Unit) × ((Int × Unit) × ((Unit × Unit) × (((Unit × (Unit × (Unit × Unit))) × Unit) × Unit))))
 | 0, _ => none
 | n + 1, .start x0_0 x0_1 x0_2 depth1 B0 =>
  if (decide ((IntKind.wrap .i64 (B0 + (1 : Int))) > (200 : Int))) = true then
   some ((false, ()), ((IntKind.wrap .i64 (B0 + (1 : Int)), ()), (((), ()), ((((), ((), ((), ()))), ()), ()))))
  else
   if (decide (depth1 > (40 : Int))) = true then
    some ((false, ()), ((IntKind.wrap .i64 (B0 + (1 : Int)), ()), (((), ()), ((((), ((), ((), ()))), ()), ()))))
   else
    ur4 n (.p15 depth1 (IntKind.wrap .i64 (B0 + (1 : Int))) x0_0 x0_1 x0_2)
 | n + 1, .p15 depth1 B0 H0 H1 H2 =>
  (uW2 n (.start H0 H1 H2)) >>= fun t1 =>
  ur4 n (.p244 depth1 t1.1.1 (List.length t1.1.1 : Int) (0 : Int) B0)
 | n + 1, .p244 depth1 s20 s21 s22 B0 =>
  if (decide (s22 < s21)) = true then
   (idx s20 s22) >>= fun t1 =>
   (ur4 n (.start t1.Name t1.Number t1.Parts (IntKind.wrap .i64 (depth1 + (1 : Int))) B0)) >>= fun t2 =>
   if (!t2.1.1) = true then
    some ((false, ()), ((t2.2.1.1, ()), (((), ()), ((((), ((), ((), ()))), ()), ()))))
   else
    ur4 n (.p244 depth1 s20 s21 (IntKind.wrap .i64 (s22 + (1 : Int))) t2.2.1.1)
  else
   some ((true, ()), ((B0, ()), (((), ()), ((((), ((), ((), ()))), ()), ()))))
theorem va8 : ∀ (n : Nat) (p : vy0), OLe (ur4 n p) (ug7 p) := by
 intro n
 induction n with
 | zero => exact fun p r h => by cases h
 | succ n ih =>
  intro p
  cases p <;> rw [ug7, ur4] <;> repeat' with_reducible first | refine OLe.bind ?_ (fun _ => ?_) | refine OLe.ite ?_ ?_ | exact va7 n _ | exact ih _ | exact OLe.refl _
def uI6 : Nat → vy1 → Option ((Int × Unit) × Unit)
 | 0, _ => none
 | n + 1, .start root0_0 root0_1 root0_2 =>
  (ur4 n (.start root0_0 root0_1 root0_2 (1 : Int) (0 : Int))) >>= fun t1 =>
  (ub0 n (.start t1.1.1 (8 : Int))) >>= fun t2 =>
  some ((t2.1.1, ()), ())
theorem uM6 : ∀ (n : Nat) (p : vy1), OLe (uI6 n p) (uu7 p) := by
 intro n
 induction n with
 | zero => exact fun p r h => by cases h
 | succ n ih =>
  intro p
  cases p <;> rw [uu7, uI6] <;> repeat' with_reducible first | refine OLe.bind ?_ (fun _ => ?_) | refine OLe.ite ?_ ?_ | exact ud7 n _ | exact va8 n _ | exact ih _ | exact OLe.refl _
def uW3 : Nat → vy2 → Option ((Bool × Unit) × Unit)
 | 0, _ => none
 | n + 1, .start v0_0 v0_1 v0_2 s1 =>
  some ((seq v0_0 s1, ()), ())
theorem va9 : ∀ (n : Nat) (p : vy2), OLe (uW3 n p) (uY0 p) := by
 intro n
 induction n with
 | zero => exact fun p r h => by cases h
 | succ n ih =>
  intro p
  cases p <;> rw [uY0, uW3] <;> repeat' with_reducible first | refine OLe.bind ?_ (fun _ => ?_) | refine OLe.ite ?_ ?_ | exact ih _ | exact OLe.refl _
def uC8 : Nat → vy3 → Option ((Int × Unit) × ((ByteArray × Unit) × Unit))
 | 0, _ => none
 | n + 1, .start s0 B0 =>
  uC8 n (.p52 s0 (List.length (Option.getD s0 []) : Int) (0 : Int) B0)
 | n + 1, .p52 s0 s7 s8 B0 =>
  if (decide (s8 < s7)) = true then
   (idx (Option.getD s0 []) s8) >>= fun t1 =>
   (uW3 n (.start t1.name t1.fields t1.parts B0)) >>= fun t2 =>
   if t2.1.1 = true then
    some ((s8, ()), ((B0, ()), ()))
   else
    uC8 n (.p52 s0 s7 (IntKind.wrap .i64 (s8 + (1 : Int))) B0)
  else
   some (((-1 : Int), ()), ((B0, ()), ()))
theorem vb0 : ∀ (n : Nat) (p : vy3), OLe (uC8 n p) (uz8 p) := by
 intro n
 induction n with
 | zero => exact fun p r h => by cases h
 | succ n ih =>
  intro p
  cases p <;> rw [uz8, uC8] <;> repeat' with_reducible first | refine OLe.bind ?_ (fun _ => ?_) | refine OLe.ite ?_ ?_ | exact va9 n _ | exact ih _ | exact OLe.refl _
def uI7 : Nat → vy4 → Option ((Int × Unit) × Unit)
 | 0, _ => none
 | n + 1, .start x0 name1 =>
  x0 >>= fun t1 =>
  (uC8 n (.start t1.constructors name1)) >>= fun t2 =>
  some ((t2.1.1, ()), ())
theorem ur5 : ∀ (n : Nat) (p : vy4), OLe (uI7 n p) (uN4 p) := by
 intro n
 induction n with
 | zero => exact fun p r h => by cases h
 | succ n ih =>
  intro p
  cases p <;> rw [uN4, uI7] <;> repeat' with_reducible first | refine OLe.bind ?_ (fun _ => ?_) | refine OLe.ite ?_ ?_ | exact vb0 n _ | exact ih _ | exact OLe.refl _
mutual
def uW4 : Nat → vy5 → Option ((Int × Unit) × ((ByteArray × ((List ua6) × ((Option (List (Option ua4))) × Unit))) × Unit))
 | 0, _ => none
 | n + 1, .start i0 part1_0 part1_1 part1_2 C0 C1 C2 =>
  (idx (Option.getD C2 []) i0) >>= fun t1 =>
  (runF_z53 n (.start t1 part1_0 part1_1 part1_2)) >>= fun t2 =>
  some ((t2.1.1, ()), ((C0, (C1, (C2, ()))), ()))
def uC9 : Nat → vy6 → Option ((Int × (Int × Unit)) × ((ByteArray × ((List ua6) × ((Option (List (Option ua4))) × Unit))) × Unit))
 | 0, _ => none
 | n + 1, .start l0 C0 C1 C2 =>
  uC9 n (.p52 l0 (List.length l0 : Int) (0 : Int) C0 C1 C2)
 | n + 1, .p52 s9 s10 s11 C0 C1 C2 =>
  if (decide (s11 < s10)) = true then
   (idx s9 s11) >>= fun t1 =>
   (uW4 n (.start s11 t1.Name t1.Number t1.Parts C0 C1 C2)) >>= fun t2 =>
   if (t2.1.1 != (0 : Int)) = true then
    some ((s11, (t2.1.1, ())), ((t2.2.1.1, (t2.2.1.2.1, (t2.2.1.2.2.1, ()))), ()))
   else
    uC9 n (.p52 s9 s10 (IntKind.wrap .i64 (s11 + (1 : Int))) t2.2.1.1 t2.2.1.2.1 t2.2.1.2.2.1)
  else
   some (((0 : Int), ((0 : Int), ())), ((C0, (C1, (C2, ()))), ()))
def runF_z53 : Nat → vn4 → Option ((Int × Unit) × Unit)
 | 0, _ => none
 | n + 1, .start x0 v1_0 v1_1 v1_2 =>
  (un5 n (.start x0)) >>= fun t1 =>
  if t1.1.1 = true then
   if (seq v1_0 (⟨#[]⟩ : ByteArray)) = true then
    (ub0 n (.start ((List.length v1_2 : Int) == (0 : Int)) (3 : Int))) >>= fun t2 =>
    x0 >>= fun t3 =>
    if (decide ((0 : Int) ≤ t3.bits)) = true then
     (uf0 n (.start v1_1 (0 : Int) (IntKind.wrap .i64 ((shl .i64 (1 : Int) t3.bits) - (1 : Int))))) >>= fun t4 =>
     (ub0 n (.start t4.1.1 (2 : Int))) >>= fun t5 =>
     (uc4 n (.start ([t2.1.1, t5.1.1] : List Int))) >>= fun t6 =>
     some ((t6.1.1, ()), ())
    else none
   else
    (ub0 n (.start false (3 : Int))) >>= fun t7 =>
    x0 >>= fun t8 =>
    if (decide ((0 : Int) ≤ t8.bits)) = true then
     (uf0 n (.start v1_1 (0 : Int) (IntKind.wrap .i64 ((shl .i64 (1 : Int) t8.bits) - (1 : Int))))) >>= fun t9 =>
     (ub0 n (.start t9.1.1 (2 : Int))) >>= fun t10 =>
     (uc4 n (.start ([t7.1.1, t10.1.1] : List Int))) >>= fun t11 =>
     some ((t11.1.1, ()), ())
    else none
  else
   (uI7 n (.start x0 v1_0)) >>= fun t12 =>
   if (decide (t12.1.1 < (0 : Int))) = true then
    some (((6 : Int), ()), ())
   else
    x0 >>= fun t13 =>
    (idx (Option.getD t13.constructors []) t12.1.1) >>= fun t14 =>
    (ub0 n (.start (v1_1 == (0 : Int)) (3 : Int))) >>= fun t15 =>
    (ub0 n (.start ((List.length v1_2 : Int) == (List.length (Option.getD t14.parts []) : Int)) (10 : Int))) >>= fun t16 =>
    (uc4 n (.start ([t15.1.1, t16.1.1] : List Int))) >>= fun t17 =>
    if (t17.1.1 != (0 : Int)) = true then
     some ((t17.1.1, ()), ())
    else
     (uC9 n (.start v1_2 t14.name t14.fields t14.parts)) >>= fun t18 =>
     some ((t18.1.2.1, ()), ())
end
theorem u35 : ∀ (n : Nat), (∀ p : vy5, OLe (uW4 n p) (uN5 p)) ∧ (∀ p : vy6, OLe (uC9 n p) (run_z54 p)) ∧ (∀ p : vn4, OLe (runF_z53 n p) (run_z53 p)) := by
  intro n
  induction n with
  | zero => exact ⟨(fun p r h => by cases h), (fun p r h => by cases h), (fun p r h => by cases h)⟩
  | succ n ih =>
    refine ⟨?_, ?_, ?_⟩
    · intro p
      cases p <;> rw [uN5, uW4] <;> repeat' with_reducible first | refine OLe.bind ?_ (fun _ => ?_) | refine OLe.ite ?_ ?_ | exact uc8 n _ | exact ud7 n _ | exact ud2 n _ | exact ud3 n _ | exact ur5 n _ | exact ih.1 _ | exact ih.2.1 _ | exact ih.2.2 _ | exact OLe.refl _
    · intro p
      cases p <;> rw [run_z54, uC9] <;> repeat' with_reducible first | refine OLe.bind ?_ (fun _ => ?_) | refine OLe.ite ?_ ?_ | exact uc8 n _ | exact ud7 n _ | exact ud2 n _ | exact ud3 n _ | exact ur5 n _ | exact ih.1 _ | exact ih.2.1 _ | exact ih.2.2 _ | exact OLe.refl _
    · intro p
      cases p <;> rw [run_z53, runF_z53] <;> repeat' with_reducible first | refine OLe.bind ?_ (fun _ => ?_) | refine OLe.ite ?_ ?_ | exact uc8 n _ | exact ud7 n _ | exact ud2 n _ | exact ud3 n _ | exact ur5 n _ | exact ih.1 _ | exact ih.2.1 _ | exact ih.2.2 _ | exact OLe.refl _
theorem vb1 (n : Nat) : ∀ (p : vn4), OLe (runF_z53 n p) (run_z53 p) := (u35 n).2.2
def uD0 : Nat → vy7 → Option (((Option ua4) × (Int × Unit)) × Unit)
 | 0, _ => none
 | n + 1, .start l0 t1_0 t1_1 t1_2 t1_3 v2_0 v2_1 v2_2 =>
  (uv7 n (.start l0 t1_0 t1_1 t1_2 t1_3)) >>= fun t1 =>
  if (t1.1.2.2.1 == (0 : Int)) = true then
   (uI6 n (.start v2_0 v2_1 v2_2)) >>= fun t2 =>
   uD0 n (.p15 t1.1.1 t2.1.1 v2_0 v2_1 v2_2)
  else
   uD0 n (.p15 t1.1.1 t1.1.2.2.1 v2_0 v2_1 v2_2)
 | n + 1, .p15 x8 e10 C0 C1 C2 =>
  if (e10 == (0 : Int)) = true then
   (runF_z53 n (.start x8 C0 C1 C2)) >>= fun t1 =>
   some ((x8, (t1.1.1, ())), ())
  else
   some ((x8, (e10, ())), ())
theorem vb2 : ∀ (n : Nat) (p : vy7), OLe (uD0 n p) (uz9 p) := by
 intro n
 induction n with
 | zero => exact fun p r h => by cases h
 | succ n ih =>
  intro p
  cases p <;> rw [uz9, uD0] <;> repeat' with_reducible first | refine OLe.bind ?_ (fun _ => ?_) | refine OLe.ite ?_ ?_ | exact ur3 n _ | exact uM6 n _ | exact vb1 n _ | exact ih _ | exact OLe.refl _
def uv8 : Nat → vy8 → Option ((Int × Unit) × Unit)
 | 0, _ => none
 | n + 1, .start x0 v1_0 v1_1 v1_2 =>
  (un5 n (.start x0)) >>= fun t1 =>
  if t1.1.1 = true then
   some ((v1_1, ()), ())
  else
   (uI7 n (.start x0 v1_0)) >>= fun t2 =>
   x0 >>= fun t3 =>
   (idx (Option.getD t3.constructors []) t2.1.1) >>= fun t4 =>
   uv8 n (.p500 x0 t2.1.1 (0 : Int) t4.parts (List.length (Option.getD t4.parts []) : Int) (0 : Int) v1_0 v1_1 v1_2)
 | n + 1, .p500 x0 tag5 fields6 s24 s25 s26 C0 C1 C2 =>
  if (decide (s26 < s25)) = true then
   (idx (Option.getD s24 []) s26) >>= fun t1 =>
   (runF_z41 n (.start t1)) >>= fun t2 =>
   if (decide ((0 : Int) ≤ t2.1.1)) = true then
    (idx C2 s26) >>= fun t3 =>
    (uv8 n (.start t1 t3.Name t3.Number t3.Parts)) >>= fun t4 =>
    uv8 n (.p500 x0 tag5 (bits .or .i64 (shl .i64 fields6 t2.1.1) t4.1.1) s24 s25 (IntKind.wrap .i64 (s26 + (1 : Int))) C0 C1 C2)
   else none
  else
   (ul2 n (.start x0)) >>= fun t5 =>
   if (decide ((0 : Int) ≤ t5.1.1)) = true then
    some ((bits .or .i64 (shl .i64 tag5 t5.1.1) fields6, ()), ())
   else none
theorem vb3 : ∀ (n : Nat) (p : vy8), OLe (uv8 n p) (uu8 p) := by
 intro n
 induction n with
 | zero => exact fun p r h => by cases h
 | succ n ih =>
  intro p
  cases p <;> rw [uu8, uv8] <;> repeat' with_reducible first | refine OLe.bind ?_ (fun _ => ?_) | refine OLe.ite ?_ ?_ | exact ud3 n _ | exact uM5 n _ | exact um3 n _ | exact ur5 n _ | exact ih _ | exact OLe.refl _
def uW5 : Nat → vy9 → Option ((Int × (Int × Unit)) × Unit)
 | 0, _ => none
 | n + 1, .start l0 t1_0 t1_1 t1_2 t1_3 v2_0 v2_1 v2_2 =>
  (uD0 n (.start l0 t1_0 t1_1 t1_2 t1_3 v2_0 v2_1 v2_2)) >>= fun t1 =>
  if (t1.1.2.1 != (0 : Int)) = true then
   some (((0 : Int), (t1.1.2.1, ())), ())
  else
   (uv8 n (.start t1.1.1 v2_0 v2_1 v2_2)) >>= fun t2 =>
   some ((t2.1.1, ((0 : Int), ())), ())
theorem vb4 : ∀ (n : Nat) (p : vy9), OLe (uW5 n p) (uY1 p) := by
 intro n
 induction n with
 | zero => exact fun p r h => by cases h
 | succ n ih =>
  intro p
  cases p <;> rw [uY1, uW5] <;> repeat' with_reducible first | refine OLe.bind ?_ (fun _ => ?_) | refine OLe.ite ?_ ?_ | exact vb2 n _ | exact vb3 n _ | exact ih _ | exact OLe.refl _
def uv9 : Nat → vz0 → Option (((ByteArray × (Int × ((List ua0) × Unit))) × (Bool × Unit)) × Unit)
 | 0, _ => none
 | n + 1, .start x0 n1 =>
  (un5 n (.start x0)) >>= fun t1 =>
  if t1.1.1 = true then
   some ((((⟨#[]⟩ : ByteArray), (n1, ([], ()))), (true, ())), ())
  else
   (ul2 n (.start x0)) >>= fun t2 =>
   if (decide ((0 : Int) ≤ t2.1.1)) = true then
    (ul2 n (.start x0)) >>= fun t3 =>
    if (decide ((0 : Int) ≤ t3.1.1)) = true then
     x0 >>= fun t4 =>
     if (decide ((shr .i64 n1 t2.1.1) ≥ (List.length (Option.getD t4.constructors []) : Int))) = true then
      some ((((⟨#[]⟩ : ByteArray), ((0 : Int), ([], ()))), (false, ())), ())
     else
      x0 >>= fun t5 =>
      (idx (Option.getD t5.constructors []) (shr .i64 n1 t2.1.1)) >>= fun t6 =>
      (ur2 n (.start t6.name t6.fields t6.parts)) >>= fun t7 =>
      if (decide ((0 : Int) ≤ t7.1.1)) = true then
       if ((shr .i64 (bits .and .i64 n1 (IntKind.wrap .i64 ((shl .i64 (1 : Int) t3.1.1) - (1 : Int)))) t7.1.1) != (0 : Int)) = true then
        some ((((⟨#[]⟩ : ByteArray), ((0 : Int), ([], ()))), (false, ())), ())
       else
        uv9 n (.p8180 (bits .and .i64 n1 (IntKind.wrap .i64 ((shl .i64 (1 : Int) t3.1.1) - (1 : Int)))) t7.1.1 t6.parts (List.length (Option.getD t6.parts []) : Int) (0 : Int) t6.name (0 : Int) ([] : List ua0))
      else none
    else none
   else none
 | n + 1, .p8180 fields7 low9 s54 s55 s56 C0 C1 B1 =>
  if (decide (s56 < s55)) = true then
   (idx (Option.getD s54 []) s56) >>= fun t1 =>
   (runF_z41 n (.start t1)) >>= fun t2 =>
   if (decide ((0 : Int) ≤ (IntKind.wrap .i64 (low9 - t2.1.1)))) = true then
    (runF_z41 n (.start t1)) >>= fun t3 =>
    if (decide ((0 : Int) ≤ t3.1.1)) = true then
     (uv9 n (.start t1 (bits .and .i64 (shr .i64 fields7 (IntKind.wrap .i64 (low9 - t2.1.1))) (IntKind.wrap .i64 ((shl .i64 (1 : Int) t3.1.1) - (1 : Int)))))) >>= fun t4 =>
     if (!t4.1.2.1) = true then
      some (((C0, (C1, (B1, ()))), (false, ())), ())
     else
      if (fits (List.length B1) (List.length ([(⟨t4.1.1.1, t4.1.1.2.1, t4.1.1.2.2.1⟩ : ua0)] : List ua0)) 48) = true then
       uv9 n (.p8180 fields7 (IntKind.wrap .i64 (low9 - t2.1.1)) s54 s55 (IntKind.wrap .i64 (s56 + (1 : Int))) C0 C1 (B1 ++ ([(⟨t4.1.1.1, t4.1.1.2.1, t4.1.1.2.2.1⟩ : ua0)] : List ua0)))
      else none
    else none
   else none
  else
   some (((C0, (C1, (B1, ()))), (true, ())), ())
theorem vb5 : ∀ (n : Nat) (p : vz0), OLe (uv9 n p) (uu9 p) := by
 intro n
 induction n with
 | zero => exact fun p r h => by cases h
 | succ n ih =>
  intro p
  cases p <;> rw [uu9, uv9] <;> repeat' with_reducible first | refine OLe.bind ?_ (fun _ => ?_) | refine OLe.ite ?_ ?_ | exact ud3 n _ | exact va4 n _ | exact uM5 n _ | exact um3 n _ | exact ih _ | exact OLe.refl _
def uW6 : Nat → vz1 → Option (((ByteArray × (Int × ((List ua0) × Unit))) × (Int × Unit)) × Unit)
 | 0, _ => none
 | n + 1, .start l0 t1_0 t1_1 t1_2 t1_3 bits2 =>
  (uv7 n (.start l0 t1_0 t1_1 t1_2 t1_3)) >>= fun t1 =>
  (uc4 n (.start ([t1.1.2.2.1] : List Int))) >>= fun t2 =>
  if (t2.1.1 != (0 : Int)) = true then
   some ((((⟨#[]⟩ : ByteArray), ((0 : Int), ([], ()))), (t2.1.1, ())), ())
  else
   (runF_z41 n (.start t1.1.1)) >>= fun t3 =>
   if (decide ((0 : Int) ≤ t3.1.1)) = true then
    (uf0 n (.start bits2 (0 : Int) (IntKind.wrap .i64 ((shl .i64 (1 : Int) t3.1.1) - (1 : Int))))) >>= fun t4 =>
    if (!t4.1.1) = true then
     some ((((⟨#[]⟩ : ByteArray), ((0 : Int), ([], ()))), ((2 : Int), ())), ())
    else
     (uv9 n (.start t1.1.1 bits2)) >>= fun t5 =>
     if (!t5.1.2.1) = true then
      some ((((⟨#[]⟩ : ByteArray), ((0 : Int), ([], ()))), ((3 : Int), ())), ())
     else
      some (((t5.1.1.1, (t5.1.1.2.1, (t5.1.1.2.2.1, ()))), ((0 : Int), ())), ())
   else none
theorem vb6 : ∀ (n : Nat) (p : vz1), OLe (uW6 n p) (uY2 p) := by
 intro n
 induction n with
 | zero => exact fun p r h => by cases h
 | succ n ih =>
  intro p
  cases p <;> rw [uY2, uW6] <;> repeat' with_reducible first | refine OLe.bind ?_ (fun _ => ?_) | refine OLe.ite ?_ ?_ | exact uc8 n _ | exact ud2 n _ | exact um3 n _ | exact ur3 n _ | exact vb5 n _ | exact ih _ | exact OLe.refl _
mutual
def ur6 : Nat → vn5 → Option ((Int × Unit) × Unit)
 | 0, _ => none
 | n + 1, .start v0_0 v0_1 v0_2 =>
  ur6 n (.p116 (1 : Int) v0_2 (List.length (Option.getD v0_2 []) : Int) (0 : Int))
 | n + 1, .p116 n3 s7 s8 s9 =>
  if (decide (s9 < s8)) = true then
   (idx (Option.getD s7 []) s9) >>= fun t1 =>
   (runF_z61 n (.start t1)) >>= fun t2 =>
   ur6 n (.p116 (IntKind.wrap .i64 (n3 * t2.1.1)) s7 s8 (IntKind.wrap .i64 (s9 + (1 : Int))))
  else
   some ((n3, ()), ())
def runF_z61 : Nat → vn6 → Option ((Int × Unit) × Unit)
 | 0, _ => none
 | n + 1, .start x0 =>
  (un5 n (.start x0)) >>= fun t1 =>
  if t1.1.1 = true then
   x0 >>= fun t2 =>
   if (decide ((0 : Int) ≤ t2.bits)) = true then
    some ((shl .i64 (1 : Int) t2.bits, ()), ())
   else none
  else
   x0 >>= fun t3 =>
   runF_z61 n (.p244 (0 : Int) t3.constructors (List.length (Option.getD t3.constructors []) : Int) (0 : Int))
 | n + 1, .p244 sum3 s16 s17 s18 =>
  if (decide (s18 < s17)) = true then
   (idx (Option.getD s16 []) s18) >>= fun t1 =>
   (ur6 n (.start t1.name t1.fields t1.parts)) >>= fun t2 =>
   runF_z61 n (.p244 (IntKind.wrap .i64 (sum3 + t2.1.1)) s16 s17 (IntKind.wrap .i64 (s18 + (1 : Int))))
  else
   some ((sum3, ()), ())
end
theorem uG6 : ∀ (n : Nat), (∀ p : vn5, OLe (ur6 n p) (us2 p)) ∧ (∀ p : vn6, OLe (runF_z61 n p) (run_z61 p)) := by
  intro n
  induction n with
  | zero => exact ⟨(fun p r h => by cases h), (fun p r h => by cases h)⟩
  | succ n ih =>
    refine ⟨?_, ?_⟩
    · intro p
      cases p <;> rw [us2, ur6] <;> repeat' with_reducible first | refine OLe.bind ?_ (fun _ => ?_) | refine OLe.ite ?_ ?_ | exact ud3 n _ | exact ih.1 _ | exact ih.2 _ | exact OLe.refl _
    · intro p
      cases p <;> rw [run_z61, runF_z61] <;> repeat' with_reducible first | refine OLe.bind ?_ (fun _ => ?_) | refine OLe.ite ?_ ?_ | exact ud3 n _ | exact ih.1 _ | exact ih.2 _ | exact OLe.refl _
theorem vb7 (n : Nat) : ∀ (p : vn5), OLe (ur6 n p) (us2 p) := (uG6 n).1
theorem uM7 (n : Nat) : ∀ (p : vn6), OLe (runF_z61 n p) (run_z61 p) := (uG6 n).2
def un6 : Nat → vz2 → Option (((ByteArray × (Int × ((List ua0) × Unit))) × Unit) × Unit)
 | 0, _ => none
 | n + 1, .start x0 index1 =>
  (un5 n (.start x0)) >>= fun t1 =>
  if t1.1.1 = true then
   some ((((⟨#[]⟩ : ByteArray), (index1, ([], ()))), ()), ())
  else
   x0 >>= fun t2 =>
   un6 n (.p116 index1 t2.constructors (List.length (Option.getD t2.constructors []) : Int) (0 : Int) (⟨#[]⟩ : ByteArray) (0 : Int))
 | n + 1, .p116 index1 s18 s19 s20 C0 C1 =>
  if (decide (s20 < s19)) = true then
   (idx (Option.getD s18 []) s20) >>= fun t1 =>
   (ur6 n (.start t1.name t1.fields t1.parts)) >>= fun t2 =>
   if (decide (index1 ≥ t2.1.1)) = true then
    un6 n (.p116 (IntKind.wrap .i64 (index1 - t2.1.1)) s18 s19 (IntKind.wrap .i64 (s20 + (1 : Int))) C0 C1)
   else
    un6 n (.p478452 index1 t2.1.1 t1.parts (List.length (Option.getD t1.parts []) : Int) (0 : Int) C0 C1 t1.name (0 : Int) ([] : List ua0))
  else
   some ((((⟨#[]⟩ : ByteArray), ((0 : Int), ([], ()))), ()), ())
 | n + 1, .p478452 index1 n7 s36 s37 s38 C0 C1 D0 D1 B2 =>
  if (decide (s38 < s37)) = true then
   (idx (Option.getD s36 []) s38) >>= fun t1 =>
   (runF_z61 n (.start t1)) >>= fun t2 =>
   if (!(t2.1.1 == (0 : Int))) = true then
    if (!((IntKind.wrap .i64 (Int.tdiv n7 t2.1.1)) == (0 : Int))) = true then
     (un6 n (.start t1 (IntKind.wrap .i64 (Int.tdiv index1 (IntKind.wrap .i64 (Int.tdiv n7 t2.1.1)))))) >>= fun t3 =>
     if (fits (List.length B2) (List.length ([(⟨t3.1.1.1, t3.1.1.2.1, t3.1.1.2.2.1⟩ : ua0)] : List ua0)) 48) = true then
      if (!((IntKind.wrap .i64 (Int.tdiv n7 t2.1.1)) == (0 : Int))) = true then
       un6 n (.p478452 (Int.tmod index1 (IntKind.wrap .i64 (Int.tdiv n7 t2.1.1))) (IntKind.wrap .i64 (Int.tdiv n7 t2.1.1)) s36 s37 (IntKind.wrap .i64 (s38 + (1 : Int))) C0 C1 D0 D1 (B2 ++ ([(⟨t3.1.1.1, t3.1.1.2.1, t3.1.1.2.2.1⟩ : ua0)] : List ua0)))
      else none
     else none
    else none
   else none
  else
   some (((D0, (D1, (B2, ()))), ()), ())
theorem vb8 : ∀ (n : Nat) (p : vz2), OLe (un6 n p) (uo4 p) := by
 intro n
 induction n with
 | zero => exact fun p r h => by cases h
 | succ n ih =>
  intro p
  cases p <;> rw [uo4, un6] <;> repeat' with_reducible first | refine OLe.bind ?_ (fun _ => ?_) | refine OLe.ite ?_ ?_ | exact ud3 n _ | exact vb7 n _ | exact uM7 n _ | exact ih _ | exact OLe.refl _
def uW7 : Nat → vz3 → Option (((ByteArray × (Int × ((List ua0) × Unit))) × (Int × Unit)) × Unit)
 | 0, _ => none
 | n + 1, .start l0 t1_0 t1_1 t1_2 t1_3 index2 =>
  (uv7 n (.start l0 t1_0 t1_1 t1_2 t1_3)) >>= fun t1 =>
  if (t1.1.2.2.1 != (0 : Int)) = true then
   some ((((⟨#[]⟩ : ByteArray), ((0 : Int), ([], ()))), (t1.1.2.2.1, ())), ())
  else
   (runF_z61 n (.start t1.1.1)) >>= fun t2 =>
   (uf0 n (.start index2 (0 : Int) (IntKind.wrap .i64 (t2.1.1 - (1 : Int))))) >>= fun t3 =>
   if (!t3.1.1) = true then
    some ((((⟨#[]⟩ : ByteArray), ((0 : Int), ([], ()))), ((6 : Int), ())), ())
   else
    (un6 n (.start t1.1.1 index2)) >>= fun t4 =>
    some (((t4.1.1.1, (t4.1.1.2.1, (t4.1.1.2.2.1, ()))), ((0 : Int), ())), ())
theorem vb9 : ∀ (n : Nat) (p : vz3), OLe (uW7 n p) (uY3 p) := by
 intro n
 induction n with
 | zero => exact fun p r h => by cases h
 | succ n ih =>
  intro p
  cases p <;> rw [uY3, uW7] <;> repeat' with_reducible first | refine OLe.bind ?_ (fun _ => ?_) | refine OLe.ite ?_ ?_ | exact uc8 n _ | exact ur3 n _ | exact uM7 n _ | exact vb8 n _ | exact ih _ | exact OLe.refl _
mutual
def uW8 : Nat → vz4 → Option ((Int × Unit) × Unit)
 | 0, _ => none
 | n + 1, .start s0 x1_0 x1_1 x1_2 =>
  (runF_z65 n (.start x1_0 x1_1 x1_2)) >>= fun t1 =>
  some ((t1.1.1, ()), ())
def uD1 : Nat → vz5 → Option ((Int × (Int × Unit)) × Unit)
 | 0, _ => none
 | n + 1, .start l0 =>
  uD1 n (.p52 l0 (List.length l0 : Int) (0 : Int))
 | n + 1, .p52 s9 s10 s11 =>
  if (decide (s11 < s10)) = true then
   (idx s9 s11) >>= fun t1 =>
   (uW8 n (.start s11 t1.Name t1.Number t1.Parts)) >>= fun t2 =>
   if (t2.1.1 != (0 : Int)) = true then
    some ((s11, (t2.1.1, ())), ())
   else
    uD1 n (.p52 s9 s10 (IntKind.wrap .i64 (s11 + (1 : Int))))
  else
   some (((0 : Int), ((0 : Int), ())), ())
def runF_z65 : Nat → vn7 → Option ((Int × Unit) × Unit)
 | 0, _ => none
 | n + 1, .start v0_0 v0_1 v0_2 =>
  if (!(seq v0_0 (⟨#[]⟩ : ByteArray))) = true then
   (ub0 n (.start true (3 : Int))) >>= fun t1 =>
   if (seq v0_0 (⟨#[]⟩ : ByteArray)) = true then
    (ub0 n (.start true (3 : Int))) >>= fun t2 =>
    if (seq v0_0 (⟨#[]⟩ : ByteArray)) = true then
     (ub0 n (.start true (4 : Int))) >>= fun t3 =>
     (uf0 n (.start v0_1 (0 : Int) (99999 : Int))) >>= fun t4 =>
     (ub0 n (.start t4.1.1 (2 : Int))) >>= fun t5 =>
     (uc4 n (.start ([t1.1.1, t2.1.1, t3.1.1, t5.1.1] : List Int))) >>= fun t6 =>
     runF_z65 n (.p15 t6.1.1 v0_0 v0_1 v0_2)
    else
     (ug6 n (.start v0_0)) >>= fun t7 =>
     (ub0 n (.start t7.1.1 (4 : Int))) >>= fun t8 =>
     (uf0 n (.start v0_1 (0 : Int) (99999 : Int))) >>= fun t9 =>
     (ub0 n (.start t9.1.1 (2 : Int))) >>= fun t10 =>
     (uc4 n (.start ([t1.1.1, t2.1.1, t8.1.1, t10.1.1] : List Int))) >>= fun t11 =>
     runF_z65 n (.p15 t11.1.1 v0_0 v0_1 v0_2)
   else
    (ub0 n (.start (v0_1 == (0 : Int)) (3 : Int))) >>= fun t12 =>
    if (seq v0_0 (⟨#[]⟩ : ByteArray)) = true then
     (ub0 n (.start true (4 : Int))) >>= fun t13 =>
     (uf0 n (.start v0_1 (0 : Int) (99999 : Int))) >>= fun t14 =>
     (ub0 n (.start t14.1.1 (2 : Int))) >>= fun t15 =>
     (uc4 n (.start ([t1.1.1, t12.1.1, t13.1.1, t15.1.1] : List Int))) >>= fun t16 =>
     runF_z65 n (.p15 t16.1.1 v0_0 v0_1 v0_2)
    else
     (ug6 n (.start v0_0)) >>= fun t17 =>
     (ub0 n (.start t17.1.1 (4 : Int))) >>= fun t18 =>
     (uf0 n (.start v0_1 (0 : Int) (99999 : Int))) >>= fun t19 =>
     (ub0 n (.start t19.1.1 (2 : Int))) >>= fun t20 =>
     (uc4 n (.start ([t1.1.1, t12.1.1, t18.1.1, t20.1.1] : List Int))) >>= fun t21 =>
     runF_z65 n (.p15 t21.1.1 v0_0 v0_1 v0_2)
  else
   (ub0 n (.start ((List.length v0_2 : Int) == (0 : Int)) (3 : Int))) >>= fun t22 =>
   if (seq v0_0 (⟨#[]⟩ : ByteArray)) = true then
    (ub0 n (.start true (3 : Int))) >>= fun t23 =>
    if (seq v0_0 (⟨#[]⟩ : ByteArray)) = true then
     (ub0 n (.start true (4 : Int))) >>= fun t24 =>
     (uf0 n (.start v0_1 (0 : Int) (99999 : Int))) >>= fun t25 =>
     (ub0 n (.start t25.1.1 (2 : Int))) >>= fun t26 =>
     (uc4 n (.start ([t22.1.1, t23.1.1, t24.1.1, t26.1.1] : List Int))) >>= fun t27 =>
     runF_z65 n (.p15 t27.1.1 v0_0 v0_1 v0_2)
    else
     (ug6 n (.start v0_0)) >>= fun t28 =>
     (ub0 n (.start t28.1.1 (4 : Int))) >>= fun t29 =>
     (uf0 n (.start v0_1 (0 : Int) (99999 : Int))) >>= fun t30 =>
     (ub0 n (.start t30.1.1 (2 : Int))) >>= fun t31 =>
     (uc4 n (.start ([t22.1.1, t23.1.1, t29.1.1, t31.1.1] : List Int))) >>= fun t32 =>
     runF_z65 n (.p15 t32.1.1 v0_0 v0_1 v0_2)
   else
    (ub0 n (.start (v0_1 == (0 : Int)) (3 : Int))) >>= fun t33 =>
    if (seq v0_0 (⟨#[]⟩ : ByteArray)) = true then
     (ub0 n (.start true (4 : Int))) >>= fun t34 =>
     (uf0 n (.start v0_1 (0 : Int) (99999 : Int))) >>= fun t35 =>
     (ub0 n (.start t35.1.1 (2 : Int))) >>= fun t36 =>
     (uc4 n (.start ([t22.1.1, t33.1.1, t34.1.1, t36.1.1] : List Int))) >>= fun t37 =>
     runF_z65 n (.p15 t37.1.1 v0_0 v0_1 v0_2)
    else
     (ug6 n (.start v0_0)) >>= fun t38 =>
     (ub0 n (.start t38.1.1 (4 : Int))) >>= fun t39 =>
     (uf0 n (.start v0_1 (0 : Int) (99999 : Int))) >>= fun t40 =>
     (ub0 n (.start t40.1.1 (2 : Int))) >>= fun t41 =>
     (uc4 n (.start ([t22.1.1, t33.1.1, t39.1.1, t41.1.1] : List Int))) >>= fun t42 =>
     runF_z65 n (.p15 t42.1.1 v0_0 v0_1 v0_2)
 | n + 1, .p15 e4 C0 C1 C2 =>
  if (e4 != (0 : Int)) = true then
   some ((e4, ()), ())
  else
   (uD1 n (.start C2)) >>= fun t1 =>
   some ((t1.1.2.1, ()), ())
end
theorem u36 : ∀ (n : Nat), (∀ p : vz4, OLe (uW8 n p) (uF3 p)) ∧ (∀ p : vz5, OLe (uD1 n p) (run_z66 p)) ∧ (∀ p : vn7, OLe (runF_z65 n p) (run_z65 p)) := by
  intro n
  induction n with
  | zero => exact ⟨(fun p r h => by cases h), (fun p r h => by cases h), (fun p r h => by cases h)⟩
  | succ n ih =>
    refine ⟨?_, ?_, ?_⟩
    · intro p
      cases p <;> rw [uF3, uW8] <;> repeat' with_reducible first | refine OLe.bind ?_ (fun _ => ?_) | refine OLe.ite ?_ ?_ | exact uc8 n _ | exact uw1 n _ | exact ud7 n _ | exact ud2 n _ | exact ih.1 _ | exact ih.2.1 _ | exact ih.2.2 _ | exact OLe.refl _
    · intro p
      cases p <;> rw [run_z66, uD1] <;> repeat' with_reducible first | refine OLe.bind ?_ (fun _ => ?_) | refine OLe.ite ?_ ?_ | exact uc8 n _ | exact uw1 n _ | exact ud7 n _ | exact ud2 n _ | exact ih.1 _ | exact ih.2.1 _ | exact ih.2.2 _ | exact OLe.refl _
    · intro p
      cases p <;> rw [run_z65, runF_z65] <;> repeat' with_reducible first | refine OLe.bind ?_ (fun _ => ?_) | refine OLe.ite ?_ ?_ | exact uc8 n _ | exact uw1 n _ | exact ud7 n _ | exact ud2 n _ | exact ih.1 _ | exact ih.2.1 _ | exact ih.2.2 _ | exact OLe.refl _
theorem vc0 (n : Nat) : ∀ (p : vn7), OLe (runF_z65 n p) (run_z65 p) := (u36 n).2.2
def uw0 : Nat → vz6 → Option ((ByteArray × Unit) × Unit)
 | 0, _ => none
 | n + 1, .start v0_0 v0_1 v0_2 =>
  if (seq v0_0 (⟨#[]⟩ : ByteArray)) = true then
   (uy4 (v0_1, ()) ()) >>= fun t1 =>
   some ((t1.1.1, ()), ())
  else
   if ((List.length v0_2 : Int) == (0 : Int)) = true then
    some ((v0_0, ()), ())
   else
    uw0 n (.p500 v0_2 (List.length v0_2 : Int) (0 : Int) v0_0 v0_1 v0_2 ([] : List ByteArray))
 | n + 1, .p500 s19 s20 s21 C0 C1 C2 B1 =>
  if (decide (s21 < s20)) = true then
   (idx s19 s21) >>= fun t1 =>
   (uw0 n (.start t1.Name t1.Number t1.Parts)) >>= fun t2 =>
   if (fits (List.length B1) (List.length ([t2.1.1] : List ByteArray)) 16) = true then
    uw0 n (.p500 s19 s20 (IntKind.wrap .i64 (s21 + (1 : Int))) C0 C1 C2 (B1 ++ ([t2.1.1] : List ByteArray)))
   else none
  else
   if (Nat.ble (C0.size + (⟨#[40]⟩ : ByteArray).size) 9223372036854775807) = true then
    (uq5 (B1, (⟨#[44, 32]⟩ : ByteArray), ()) ()) >>= fun t3 =>
    if (Nat.ble ((C0 ++ (⟨#[40]⟩ : ByteArray)).size + t3.1.1.size) 9223372036854775807) = true then
     if (Nat.ble (((C0 ++ (⟨#[40]⟩ : ByteArray)) ++ t3.1.1).size + (⟨#[41]⟩ : ByteArray).size) 9223372036854775807) = true then
      some ((((C0 ++ (⟨#[40]⟩ : ByteArray)) ++ t3.1.1) ++ (⟨#[41]⟩ : ByteArray), ()), ())
     else none
    else none
   else none
theorem vc1 : ∀ (n : Nat) (p : vz6), OLe (uw0 n p) (uh5 p) := by
 intro n
 induction n with
 | zero => exact fun p r h => by cases h
 | succ n ih =>
  intro p
  cases p <;> rw [uh5, uw0] <;> repeat' with_reducible first | refine OLe.bind ?_ (fun _ => ?_) | refine OLe.ite ?_ ?_ | exact ih _ | exact OLe.refl _
def uW9 : Nat → vz7 → Option ((ByteArray × (Int × Unit)) × Unit)
 | 0, _ => none
 | n + 1, .start v0_0 v0_1 v0_2 =>
  (uI6 n (.start v0_0 v0_1 v0_2)) >>= fun t1 =>
  if (t1.1.1 != (0 : Int)) = true then
   some (((⟨#[]⟩ : ByteArray), (t1.1.1, ())), ())
  else
   (runF_z65 n (.start v0_0 v0_1 v0_2)) >>= fun t2 =>
   if (t2.1.1 != (0 : Int)) = true then
    some (((⟨#[]⟩ : ByteArray), (t2.1.1, ())), ())
   else
    (uw0 n (.start v0_0 v0_1 v0_2)) >>= fun t3 =>
    some ((t3.1.1, ((0 : Int), ())), ())
theorem vc2 : ∀ (n : Nat) (p : vz7), OLe (uW9 n p) (uA0 p) := by
 intro n
 induction n with
 | zero => exact fun p r h => by cases h
 | succ n ih =>
  intro p
  cases p <;> rw [uA0, uW9] <;> repeat' with_reducible first | refine OLe.bind ?_ (fun _ => ?_) | refine OLe.ite ?_ ?_ | exact uM6 n _ | exact vc0 n _ | exact vc1 n _ | exact ih _ | exact OLe.refl _
def ur7 : Nat → vz8 → Option ((Bool × Unit) × Unit)
 | 0, _ => none
 | n + 1, .start a0_0 a0_1 a0_2 b1_0 b1_1 b1_2 =>
  if (!(seq a0_0 b1_0)) = true then
   some ((false, ()), ())
  else
   if (a0_1 != b1_1) = true then
    some ((false, ()), ())
   else
    if ((List.length a0_2 : Int) != (List.length b1_2 : Int)) = true then
     some ((false, ()), ())
    else
     ur7 n (.p7 a0_0 a0_1 a0_2 b1_0 b1_1 b1_2)
 | n + 1, .p7 C0 C1 C2 D0 D1 D2 =>
  ur7 n (.p116 (0 : Int) C0 C1 C2 D0 D1 D2)
 | n + 1, .p116 i5 C0 C1 C2 D0 D1 D2 =>
  if (decide (i5 < (List.length C2 : Int))) = true then
   (idx C2 i5) >>= fun t1 =>
   (idx D2 i5) >>= fun t2 =>
   (ur7 n (.start t1.Name t1.Number t1.Parts t2.Name t2.Number t2.Parts)) >>= fun t3 =>
   if (!t3.1.1) = true then
    some ((false, ()), ())
   else
    ur7 n (.p116 (IntKind.wrap .i64 (i5 + (1 : Int))) C0 C1 C2 D0 D1 D2)
  else
   some ((true, ()), ())
theorem vc3 : ∀ (n : Nat) (p : vz8), OLe (ur7 n p) (uf1 p) := by
 intro n
 induction n with
 | zero => exact fun p r h => by cases h
 | succ n ih =>
  intro p
  cases p <;> rw [uf1, ur7] <;> repeat' with_reducible first | refine OLe.bind ?_ (fun _ => ?_) | refine OLe.ite ?_ ?_ | exact ih _ | exact OLe.refl _
def vg5 : Nat → vz9 → Option ((Bool × Unit) × Unit)
 | 0, _ => none
 | n + 1, .start =>
  (uF1 n .start) >>= fun t1 =>
  (uM4 n (.start (3 : Int))) >>= fun t2 =>
  (uo2 n (.start (⟨#[77, 97, 121, 98, 101]⟩ : ByteArray) ([(⟨t2.1.1.1, t2.1.1.2.1, t2.1.1.2.2.1, t2.1.1.2.2.2.1⟩ : ua3)] : List ua3))) >>= fun t3 =>
  (uW1 n (.start t1.1.1 t3.1.1.1 t3.1.1.2.1 t3.1.1.2.2.1 t3.1.1.2.2.2.1)) >>= fun t4 =>
  (uF1 n .start) >>= fun t5 =>
  (uM4 n (.start (2 : Int))) >>= fun t6 =>
  (uo2 n (.start (⟨#[67, 111, 108, 111, 114]⟩ : ByteArray) ([]))) >>= fun t7 =>
  (uo2 n (.start (⟨#[80, 97, 105, 114]⟩ : ByteArray) ([(⟨t6.1.1.1, t6.1.1.2.1, t6.1.1.2.2.1, t6.1.1.2.2.2.1⟩ : ua3), (⟨t7.1.1.1, t7.1.1.2.1, t7.1.1.2.2.1, t7.1.1.2.2.2.1⟩ : ua3)] : List ua3))) >>= fun t8 =>
  (ul3 n (.start (⟨#[66, 108, 117, 101]⟩ : ByteArray) ([]))) >>= fun t9 =>
  (ul3 n (.start (⟨#[80, 97, 105, 114]⟩ : ByteArray) ([(⟨(⟨#[]⟩ : ByteArray), (3 : Int), []⟩ : ua0), (⟨t9.1.1.1, t9.1.1.2.1, t9.1.1.2.2.1⟩ : ua0)] : List ua0))) >>= fun t10 =>
  (uW5 n (.start t5.1.1 t8.1.1.1 t8.1.1.2.1 t8.1.1.2.2.1 t8.1.1.2.2.2.1 t10.1.1.1 t10.1.1.2.1 t10.1.1.2.2.1)) >>= fun t11 =>
  (uF1 n .start) >>= fun t12 =>
  (uM4 n (.start (3 : Int))) >>= fun t13 =>
  (uo2 n (.start (⟨#[77, 97, 121, 98, 101]⟩ : ByteArray) ([(⟨t13.1.1.1, t13.1.1.2.1, t13.1.1.2.2.1, t13.1.1.2.2.2.1⟩ : ua3)] : List ua3))) >>= fun t14 =>
  (uW6 n (.start t12.1.1 t14.1.1.1 t14.1.1.2.1 t14.1.1.2.2.1 t14.1.1.2.2.2.1 (5 : Int))) >>= fun t15 =>
  (uF1 n .start) >>= fun t16 =>
  (uo2 n (.start (⟨#[67, 111, 108, 111, 114]⟩ : ByteArray) ([]))) >>= fun t17 =>
  (uo2 n (.start (⟨#[66, 111, 111, 108]⟩ : ByteArray) ([]))) >>= fun t18 =>
  (uo2 n (.start (⟨#[80, 97, 105, 114]⟩ : ByteArray) ([(⟨t17.1.1.1, t17.1.1.2.1, t17.1.1.2.2.1, t17.1.1.2.2.2.1⟩ : ua3), (⟨t18.1.1.1, t18.1.1.2.1, t18.1.1.2.2.1, t18.1.1.2.2.2.1⟩ : ua3)] : List ua3))) >>= fun t19 =>
  (uW7 n (.start t16.1.1 t19.1.1.1 t19.1.1.2.1 t19.1.1.2.2.1 t19.1.1.2.2.2.1 (3 : Int))) >>= fun t20 =>
  (ul3 n (.start (⟨#[66, 108, 117, 101]⟩ : ByteArray) ([]))) >>= fun t21 =>
  (ul3 n (.start (⟨#[80, 97, 105, 114]⟩ : ByteArray) ([(⟨(⟨#[]⟩ : ByteArray), (3 : Int), []⟩ : ua0), (⟨t21.1.1.1, t21.1.1.2.1, t21.1.1.2.2.1⟩ : ua0)] : List ua0))) >>= fun t22 =>
  (uW9 n (.start t22.1.1.1 t22.1.1.2.1 t22.1.1.2.2.1)) >>= fun t23 =>
  if (t4.1.2.1 == (0 : Int)) = true then
   if (t4.1.1 == (4 : Int)) = true then
    if (t11.1.2.1 == (0 : Int)) = true then
     if (t11.1.1 == (14 : Int)) = true then
      if (t15.1.2.1 == (3 : Int)) = true then
       if (t20.1.2.1 == (0 : Int)) = true then
        (ul3 n (.start (⟨#[71, 114, 101, 101, 110]⟩ : ByteArray) ([]))) >>= fun t24 =>
        (ul3 n (.start (⟨#[84, 114, 117, 101]⟩ : ByteArray) ([]))) >>= fun t25 =>
        (ul3 n (.start (⟨#[80, 97, 105, 114]⟩ : ByteArray) ([(⟨t24.1.1.1, t24.1.1.2.1, t24.1.1.2.2.1⟩ : ua0), (⟨t25.1.1.1, t25.1.1.2.1, t25.1.1.2.2.1⟩ : ua0)] : List ua0))) >>= fun t26 =>
        (ur7 n (.start t20.1.1.1 t20.1.1.2.1 t20.1.1.2.2.1 t26.1.1.1 t26.1.1.2.1 t26.1.1.2.2.1)) >>= fun t27 =>
        if t27.1.1 = true then
         if (t23.1.2.1 == (0 : Int)) = true then
          some ((seq t23.1.1 (⟨#[80, 97, 105, 114, 40, 51, 44, 32, 66, 108, 117, 101, 41]⟩ : ByteArray), ()), ())
         else
          some ((false, ()), ())
        else
         some ((false, ()), ())
       else
        some ((false, ()), ())
      else
       some ((false, ()), ())
     else
      some ((false, ()), ())
    else
     some ((false, ()), ())
   else
    some ((false, ()), ())
  else
   some ((false, ()), ())
theorem vc4 : ∀ (n : Nat) (p : vz9), OLe (vg5 n p) (uN6 p) := by
 intro n
 induction n with
 | zero => exact fun p r h => by cases h
 | succ n ih =>
  intro p
  cases p <;> rw [uN6, vg5] <;> repeat' with_reducible first | refine OLe.bind ?_ (fun _ => ?_) | refine OLe.ite ?_ ?_ | exact vl7 n _ | exact uS0 n _ | exact vl9 n _ | exact va5 n _ | exact va6 n _ | exact vb4 n _ | exact vb6 n _ | exact vb9 n _ | exact vc2 n _ | exact vc3 n _ | exact ih _ | exact OLe.refl _
end
end Go.Proofs.YtaennkkcnhfglaaGreatDoor.Ev.F
