/- A part of the proof. -/
import Derived.Test.YtaennkkcnhfglaaGreatDoorVF2
import Derived.Test.YtaennkkcnhfglaaGreatDoorVEvFuel
set_option linter.unusedVariables false
set_option maxRecDepth 100000
namespace Go.Proofs.YtaennkkcnhfglaaGreatDoor.Ev.F
open Go.Proofs Go.Proofs.YtaennkkcnhfglaaGreatDoor.Ev
noncomputable section
def uQ9 : Nat → P_z0 → Option (((List ua2) × Unit) × Unit)
 | 0, _ => none
 | n + 1, .start =>
  some ((([(⟨(⟨#[77, 97, 121, 98, 101]⟩ : ByteArray), ([(⟨#[97]⟩ : ByteArray)] : List ByteArray), ([(⟨(⟨#[78, 111, 110, 101]⟩ : ByteArray), []⟩ : ua1), (⟨(⟨#[83, 111, 109, 101]⟩ : ByteArray), ([(⟨(⟨#[118, 97, 108, 117, 101]⟩ : ByteArray), (⟨(0 : Int), (0 : Int), (⟨#[97]⟩ : ByteArray), []⟩ : ua3)⟩ : ua6)] : List ua6)⟩ : ua1)] : List ua1)⟩ : ua2), (⟨(⟨#[80, 97, 105, 114]⟩ : ByteArray), ([(⟨#[97]⟩ : ByteArray), (⟨#[98]⟩ : ByteArray)] : List ByteArray), ([(⟨(⟨#[80, 97, 105, 114]⟩ : ByteArray), ([(⟨(⟨#[108, 101, 102, 116]⟩ : ByteArray), (⟨(0 : Int), (0 : Int), (⟨#[97]⟩ : ByteArray), []⟩ : ua3)⟩ : ua6), (⟨(⟨#[114, 105, 103, 104, 116]⟩ : ByteArray), (⟨(0 : Int), (0 : Int), (⟨#[98]⟩ : ByteArray), []⟩ : ua3)⟩ : ua6)] : List ua6)⟩ : ua1)] : List ua1)⟩ : ua2), (⟨(⟨#[67, 111, 108, 111, 114]⟩ : ByteArray), [], ([(⟨(⟨#[82, 101, 100]⟩ : ByteArray), []⟩ : ua1), (⟨(⟨#[71, 114, 101, 101, 110]⟩ : ByteArray), []⟩ : ua1), (⟨(⟨#[66, 108, 117, 101]⟩ : ByteArray), []⟩ : ua1)] : List ua1)⟩ : ua2)] : List ua2), ()), ())
theorem vC5 : ∀ (n : Nat) (p : P_z0), OLe (uQ9 n p) (u08 p) := by
 intro n
 induction n with
 | zero => exact fun p r h => by cases h
 | succ n ih =>
  intro p
  cases p <;> rw [u08, uQ9] <;> repeat' with_reducible first | refine OLe.bind ?_ (fun _ => ?_) | refine OLe.ite ?_ ?_ | exact ih _ | exact OLe.refl _
def vo2 : Nat → P_z1 → Option (((Int × (Int × (ByteArray × (Unit × Unit)))) × Unit) × Unit)
 | 0, _ => none
 | n + 1, .start n0 =>
  some ((((2 : Int), (n0, ((⟨#[]⟩ : ByteArray), ((), ())))), ()), ())
theorem vC6 : ∀ (n : Nat) (p : P_z1), OLe (vo2 n p) (vx3 p) := by
 intro n
 induction n with
 | zero => exact fun p r h => by cases h
 | succ n ih =>
  intro p
  cases p <;> rw [vx3, vo2] <;> repeat' with_reducible first | refine OLe.bind ?_ (fun _ => ?_) | refine OLe.ite ?_ ?_ | exact ih _ | exact OLe.refl _
def uw0 : Nat → P_z2 → Option (((Int × (Int × (ByteArray × ((List ua3) × Unit)))) × Unit) × Unit)
 | 0, _ => none
 | n + 1, .start name0 parts1 =>
  some ((((1 : Int), ((0 : Int), (name0, (parts1, ())))), ()), ())
theorem u79 : ∀ (n : Nat) (p : P_z2), OLe (uw0 n p) (uC7 p) := by
 intro n
 induction n with
 | zero => exact fun p r h => by cases h
 | succ n ih =>
  intro p
  cases p <;> rw [uC7, uw0] <;> repeat' with_reducible first | refine OLe.bind ?_ (fun _ => ?_) | refine OLe.ite ?_ ?_ | exact ih _ | exact OLe.refl _
def u04 : Nat → P_z3 → Option (((Int × (Int × (ByteArray × ((List ua3) × Unit)))) × Unit) × Unit)
 | 0, _ => none
 | n + 1, .start n0 =>
  (vo2 n (.start n0)) >>= fun t1 =>
  (uw0 n (.start (⟨#[66, 105, 116]⟩ : ByteArray) ([(⟨t1.1.1.1, t1.1.1.2.1, t1.1.1.2.2.1, []⟩ : ua3)] : List ua3))) >>= fun t2 =>
  some (((t2.1.1.1, (t2.1.1.2.1, (t2.1.1.2.2.1, (t2.1.1.2.2.2.1, ())))), ()), ())
theorem vC7 : ∀ (n : Nat) (p : P_z3), OLe (u04 n p) (u81 p) := by
 intro n
 induction n with
 | zero => exact fun p r h => by cases h
 | succ n ih =>
  intro p
  cases p <;> rw [u81, u04] <;> repeat' with_reducible first | refine OLe.bind ?_ (fun _ => ?_) | refine OLe.ite ?_ ?_ | exact vC6 n _ | exact u79 n _ | exact ih _ | exact OLe.refl _
def vc8 : Nat → P_z4 → Option (((List ByteArray) × Unit) × Unit)
 | 0, _ => none
 | n + 1, .start s0 =>
  (bif decide ((List.length s0 : Int) = (List.length s0 : Int)) then span (List.length s0) (0 : Int) (List.length s0 : Int) else none) >>= fun t1 =>
  some ((cut s0 t1, ()), ())
theorem vC8 : ∀ (n : Nat) (p : P_z4), OLe (vc8 n p) (u15 p) := by
 intro n
 induction n with
 | zero => exact fun p r h => by cases h
 | succ n ih =>
  intro p
  cases p <;> rw [u15, vc8] <;> repeat' with_reducible first | refine OLe.bind ?_ (fun _ => ?_) | refine OLe.ite ?_ ?_ | exact ih _ | exact OLe.refl _
def uj5 : Nat → P_z5 → Option ((Bool × Unit) × Unit)
 | 0, _ => none
 | n + 1, .start n0 lo1 hi2 =>
  if (decide (lo1 ≤ n0)) = true then
   some ((decide (n0 ≤ hi2), ()), ())
  else
   some ((false, ()), ())
theorem ue7 : ∀ (n : Nat) (p : P_z5), OLe (uj5 n p) (ul9 p) := by
 intro n
 induction n with
 | zero => exact fun p r h => by cases h
 | succ n ih =>
  intro p
  cases p <;> rw [ul9, uj5] <;> repeat' with_reducible first | refine OLe.bind ?_ (fun _ => ?_) | refine OLe.ite ?_ ?_ | exact ih _ | exact OLe.refl _
def ul2 : Nat → P_z6 → Option ((Bool × Unit) × Unit)
 | 0, _ => none
 | n + 1, .start s0 =>
  ul2 n (.p52 s0 (ub4 s0) (List.length (ub4 s0) : Int) (0 : Int))
 | n + 1, .p52 s0 s7 s8 s9 =>
  if (decide (s9 < s8)) = true then
   (idx s7 s9) >>= fun t1 =>
   if (decide ((97 : Int) ≤ t1)) = true then
    if (decide (t1 ≤ (122 : Int))) = true then
     ul2 n (.p3379 s0 s9 t1 true s7 s8 s9)
    else
     if (decide ((65 : Int) ≤ t1)) = true then
      ul2 n (.p3379 s0 s9 t1 (decide (t1 ≤ (90 : Int))) s7 s8 s9)
     else
      ul2 n (.p3379 s0 s9 t1 false s7 s8 s9)
   else
    if (decide ((65 : Int) ≤ t1)) = true then
     ul2 n (.p3379 s0 s9 t1 (decide (t1 ≤ (90 : Int))) s7 s8 s9)
    else
     ul2 n (.p3379 s0 s9 t1 false s7 s8 s9)
  else
   (uj5 n (.start (s0.size : Int) (1 : Int) (16 : Int))) >>= fun t2 =>
   some ((t2.1.1, ()), ())
 | n + 1, .p3379 s0 i3 c4 letter5 s7 s8 s9 =>
  if (!letter5) = true then
   if (i3 == (0 : Int)) = true then
    some ((false, ()), ())
   else
    if (c4 != (95 : Int)) = true then
     if (decide (c4 < (48 : Int))) = true then
      some ((false, ()), ())
     else
      if (decide (c4 > (57 : Int))) = true then
       some ((false, ()), ())
      else
       ul2 n (.p52 s0 s7 s8 (IntKind.wrap .i64 (s9 + (1 : Int))))
    else
     ul2 n (.p52 s0 s7 s8 (IntKind.wrap .i64 (s9 + (1 : Int))))
  else
   ul2 n (.p52 s0 s7 s8 (IntKind.wrap .i64 (s9 + (1 : Int))))
theorem uF1 : ∀ (n : Nat) (p : P_z6), OLe (ul2 n p) (uh8 p) := by
 intro n
 induction n with
 | zero => exact fun p r h => by cases h
 | succ n ih =>
  intro p
  cases p <;> rw [uh8, ul2] <;> repeat' with_reducible first | refine OLe.bind ?_ (fun _ => ?_) | refine OLe.ite ?_ ?_ | exact ue7 n _ | exact ih _ | exact OLe.refl _
def ub6 : Nat → P_z7 → Option ((Int × Unit) × Unit)
 | 0, _ => none
 | n + 1, .start is0 e1 =>
  if is0 = true then
   some (((0 : Int), ()), ())
  else
   some ((e1, ()), ())
theorem ug4 : ∀ (n : Nat) (p : P_z7), OLe (ub6 n p) (uc2 p) := by
 intro n
 induction n with
 | zero => exact fun p r h => by cases h
 | succ n ih =>
  intro p
  cases p <;> rw [uc2, ub6] <;> repeat' with_reducible first | refine OLe.bind ?_ (fun _ => ?_) | refine OLe.ite ?_ ?_ | exact ih _ | exact OLe.refl _
def uR0 : Nat → P_z8 → Option ((Int × Unit) × Unit)
 | 0, _ => none
 | n + 1, .start s0 v1 =>
  uR0 n (.p52 s0 v1 (List.length s0 : Int) (0 : Int))
 | n + 1, .p52 s0 v1 s7 s8 =>
  if (decide (s8 < s7)) = true then
   (idx s0 s8) >>= fun t1 =>
   if (seq v1 t1) = true then
    some ((s8, ()), ())
   else
    uR0 n (.p52 s0 v1 s7 (IntKind.wrap .i64 (s8 + (1 : Int))))
  else
   some (((-1 : Int), ()), ())
theorem u80 : ∀ (n : Nat) (p : P_z8), OLe (uR0 n p) (uv6 p) := by
 intro n
 induction n with
 | zero => exact fun p r h => by cases h
 | succ n ih =>
  intro p
  cases p <;> rw [uv6, uR0] <;> repeat' with_reducible first | refine OLe.bind ?_ (fun _ => ?_) | refine OLe.ite ?_ ?_ | exact ih _ | exact OLe.refl _
def vd8 : Nat → P_z9 → Option ((Bool × Unit) × Unit)
 | 0, _ => none
 | n + 1, .start s0 v1 =>
  (uR0 n (.start s0 v1)) >>= fun t1 =>
  some ((decide (t1.1.1 ≥ (0 : Int)), ()), ())
theorem uF2 : ∀ (n : Nat) (p : P_z9), OLe (vd8 n p) (u21 p) := by
 intro n
 induction n with
 | zero => exact fun p r h => by cases h
 | succ n ih =>
  intro p
  cases p <;> rw [u21, vd8] <;> repeat' with_reducible first | refine OLe.bind ?_ (fun _ => ?_) | refine OLe.ite ?_ ?_ | exact u80 n _ | exact ih _ | exact OLe.refl _
def ud8 : Nat → vO5 → Option ((Int × Unit) × Unit)
 | 0, _ => none
 | n + 1, .start l0 =>
  ud8 n (.p52 l0 (List.length l0 : Int) (0 : Int))
 | n + 1, .p52 s5 s6 s7 =>
  if (decide (s7 < s6)) = true then
   (idx s5 s7) >>= fun t1 =>
   if (t1 != (0 : Int)) = true then
    some ((t1, ()), ())
   else
    ud8 n (.p52 s5 s6 (IntKind.wrap .i64 (s7 + (1 : Int))))
  else
   some (((0 : Int), ()), ())
theorem uf5 : ∀ (n : Nat) (p : vO5), OLe (ud8 n p) (uc9 p) := by
 intro n
 induction n with
 | zero => exact fun p r h => by cases h
 | succ n ih =>
  intro p
  cases p <;> rw [uc9, ud8] <;> repeat' with_reducible first | refine OLe.bind ?_ (fun _ => ?_) | refine OLe.ite ?_ ?_ | exact ih _ | exact OLe.refl _
def uE6 : Nat → vO6 → Option ((Int × Unit) × Unit)
 | 0, _ => none
 | n + 1, .start name0 known1 =>
  (ul2 n (.start name0)) >>= fun t1 =>
  (ub6 n (.start t1.1.1 (4 : Int))) >>= fun t2 =>
  (vd8 n (.start known1 name0)) >>= fun t3 =>
  (ub6 n (.start (!t3.1.1) (5 : Int))) >>= fun t4 =>
  (ud8 n (.start ([t2.1.1, t4.1.1] : List Int))) >>= fun t5 =>
  some ((t5.1.1, ()), ())
theorem uz2 : ∀ (n : Nat) (p : vO6), OLe (uE6 n p) (uA2 p) := by
 intro n
 induction n with
 | zero => exact fun p r h => by cases h
 | succ n ih =>
  intro p
  cases p <;> rw [uA2, uE6] <;> repeat' with_reducible first | refine OLe.bind ?_ (fun _ => ?_) | refine OLe.ite ?_ ?_ | exact uF1 n _ | exact ug4 n _ | exact uF2 n _ | exact uf5 n _ | exact ih _ | exact OLe.refl _
def vb9 : Nat → vO7 → Option ((Int × Unit) × Unit)
 | 0, _ => none
 | n + 1, .start i0 p1 s2 =>
  (span (List.length s2.Params) (0 : Int) i0) >>= fun t1 =>
  (uE6 n (.start p1 (cut s2.Params t1))) >>= fun t2 =>
  some ((t2.1.1, ()), ())
theorem vo3 : ∀ (n : Nat) (p : vO7), OLe (vb9 n p) (u09 p) := by
 intro n
 induction n with
 | zero => exact fun p r h => by cases h
 | succ n ih =>
  intro p
  cases p <;> rw [u09, vb9] <;> repeat' with_reducible first | refine OLe.bind ?_ (fun _ => ?_) | refine OLe.ite ?_ ?_ | exact uz2 n _ | exact ih _ | exact OLe.refl _
def uL7 : Nat → vO8 → Option ((Int × (Int × Unit)) × ((ByteArray × ((List ByteArray) × ((List ua1) × Unit))) × Unit))
 | 0, _ => none
 | n + 1, .start l0 C0 C1 C2 =>
  uL7 n (.p52 l0 (List.length l0 : Int) (0 : Int) C0 C1 C2)
 | n + 1, .p52 s9 s10 s11 C0 C1 C2 =>
  if (decide (s11 < s10)) = true then
   (idx s9 s11) >>= fun t1 =>
   (vb9 n (.start s11 t1 (⟨C0, C1, C2⟩ : ua2))) >>= fun t2 =>
   if (t2.1.1 != (0 : Int)) = true then
    some ((s11, (t2.1.1, ())), ((C0, (C1, (C2, ()))), ()))
   else
    uL7 n (.p52 s9 s10 (IntKind.wrap .i64 (s11 + (1 : Int))) C0 C1 C2)
  else
   some (((0 : Int), ((0 : Int), ())), ((C0, (C1, (C2, ()))), ()))
theorem vo4 : ∀ (n : Nat) (p : vO8), OLe (uL7 n p) (uo8 p) := by
 intro n
 induction n with
 | zero => exact fun p r h => by cases h
 | succ n ih =>
  intro p
  cases p <;> rw [uo8, uL7] <;> repeat' with_reducible first | refine OLe.bind ?_ (fun _ => ?_) | refine OLe.ite ?_ ?_ | exact vo3 n _ | exact ih _ | exact OLe.refl _
def vc0 : Nat → vO9 → Option (((List ua3) × Unit) × Unit)
 | 0, _ => none
 | n + 1, .start t0_0 t0_1 t0_2 t0_3 =>
  some ((t0_3, ()), ())
theorem vo5 : ∀ (n : Nat) (p : vO9), OLe (vc0 n p) (u10 p) := by
 intro n
 induction n with
 | zero => exact fun p r h => by cases h
 | succ n ih =>
  intro p
  cases p <;> rw [u10, vc0] <;> repeat' with_reducible first | refine OLe.bind ?_ (fun _ => ?_) | refine OLe.ite ?_ ?_ | exact ih _ | exact OLe.refl _
def uz3 : Nat → vP0 → Option ((Bool × Unit) × ((Int × Unit) × ((Unit × Unit) × (((Unit × (Unit × (Unit × Unit))) × Unit) × Unit))))
 | 0, _ => none
 | n + 1, .start x0_0 x0_1 x0_2 x0_3 depth1 B0 =>
  if (decide ((IntKind.wrap .i64 (B0 + (1 : Int))) > (200 : Int))) = true then
   some ((false, ()), ((IntKind.wrap .i64 (B0 + (1 : Int)), ()), (((), ()), ((((), ((), ((), ()))), ()), ()))))
  else
   if (decide (depth1 > (40 : Int))) = true then
    some ((false, ()), ((IntKind.wrap .i64 (B0 + (1 : Int)), ()), (((), ()), ((((), ((), ((), ()))), ()), ()))))
   else
    uz3 n (.p15 depth1 (IntKind.wrap .i64 (B0 + (1 : Int))) x0_0 x0_1 x0_2 x0_3)
 | n + 1, .p15 depth1 B0 H0 H1 H2 H3 =>
  (vc0 n (.start H0 H1 H2 H3)) >>= fun t1 =>
  uz3 n (.p244 depth1 t1.1.1 (List.length t1.1.1 : Int) (0 : Int) B0)
 | n + 1, .p244 depth1 s20 s21 s22 B0 =>
  if (decide (s22 < s21)) = true then
   (idx s20 s22) >>= fun t1 =>
   (uz3 n (.start t1.Kind t1.Value t1.Name t1.Parts (IntKind.wrap .i64 (depth1 + (1 : Int))) B0)) >>= fun t2 =>
   if (!t2.1.1) = true then
    some ((false, ()), ((t2.2.1.1, ()), (((), ()), ((((), ((), ((), ()))), ()), ()))))
   else
    uz3 n (.p244 depth1 s20 s21 (IntKind.wrap .i64 (s22 + (1 : Int))) t2.2.1.1)
  else
   some ((true, ()), ((B0, ()), (((), ()), ((((), ((), ((), ()))), ()), ()))))
theorem vo6 : ∀ (n : Nat) (p : vP0), OLe (uz3 n p) (ul3 p) := by
 intro n
 induction n with
 | zero => exact fun p r h => by cases h
 | succ n ih =>
  intro p
  cases p <;> rw [ul3, uz3] <;> repeat' with_reducible first | refine OLe.bind ?_ (fun _ => ?_) | refine OLe.ite ?_ ?_ | exact vo5 n _ | exact ih _ | exact OLe.refl _
def uU9 : Nat → vP1 → Option ((Int × Unit) × Unit)
 | 0, _ => none
 | n + 1, .start root0_0 root0_1 root0_2 root0_3 =>
  (uz3 n (.start root0_0 root0_1 root0_2 root0_3 (1 : Int) (0 : Int))) >>= fun t1 =>
  (ub6 n (.start t1.1.1 (8 : Int))) >>= fun t2 =>
  some ((t2.1.1, ()), ())
theorem u02 : ∀ (n : Nat) (p : vP1), OLe (uU9 n p) (uI0 p) := by
 intro n
 induction n with
 | zero => exact fun p r h => by cases h
 | succ n ih =>
  intro p
  cases p <;> rw [uI0, uU9] <;> repeat' with_reducible first | refine OLe.bind ?_ (fun _ => ?_) | refine OLe.ite ?_ ?_ | exact ug4 n _ | exact vo6 n _ | exact ih _ | exact OLe.refl _
def vc1 : Nat → vP2 → Option ((Bool × Unit) × Unit)
 | 0, _ => none
 | n + 1, .start d0_0 d0_1 d0_2 s1 =>
  some ((seq d0_0 s1, ()), ())
theorem vo7 : ∀ (n : Nat) (p : vP2), OLe (vc1 n p) (u11 p) := by
 intro n
 induction n with
 | zero => exact fun p r h => by cases h
 | succ n ih =>
  intro p
  cases p <;> rw [u11, vc1] <;> repeat' with_reducible first | refine OLe.bind ?_ (fun _ => ?_) | refine OLe.ite ?_ ?_ | exact ih _ | exact OLe.refl _
def uL8 : Nat → vP3 → Option ((Int × Unit) × ((ByteArray × Unit) × Unit))
 | 0, _ => none
 | n + 1, .start s0 B0 =>
  uL8 n (.p52 s0 (List.length s0 : Int) (0 : Int) B0)
 | n + 1, .p52 s0 s7 s8 B0 =>
  if (decide (s8 < s7)) = true then
   (idx s0 s8) >>= fun t1 =>
   (vc1 n (.start t1.Name t1.Params t1.Constructors B0)) >>= fun t2 =>
   if t2.1.1 = true then
    some ((s8, ()), ((B0, ()), ()))
   else
    uL8 n (.p52 s0 s7 (IntKind.wrap .i64 (s8 + (1 : Int))) B0)
  else
   some (((-1 : Int), ()), ((B0, ()), ()))
theorem vo8 : ∀ (n : Nat) (p : vP3), OLe (uL8 n p) (uo9 p) := by
 intro n
 induction n with
 | zero => exact fun p r h => by cases h
 | succ n ih =>
  intro p
  cases p <;> rw [uo9, uL8] <;> repeat' with_reducible first | refine OLe.bind ?_ (fun _ => ?_) | refine OLe.ite ?_ ?_ | exact vo7 n _ | exact ih _ | exact OLe.refl _
def uV0 : Nat → vP4 → Option (((ByteArray × ((List ByteArray) × ((List ua1) × Unit))) × (Bool × Unit)) × Unit)
 | 0, _ => none
 | n + 1, .start s0_0 s0_1 name1 =>
  (uL8 n (.start s0_0 name1)) >>= fun t1 =>
  if (decide (t1.1.1 < (0 : Int))) = true then
   some ((((⟨#[]⟩ : ByteArray), ([], ([], ()))), (false, ())), ())
  else
   (idx s0_0 t1.1.1) >>= fun t2 =>
   some (((t2.Name, (t2.Params, (t2.Constructors, ()))), (true, ())), ())
theorem uz4 : ∀ (n : Nat) (p : vP4), OLe (uV0 n p) (uI1 p) := by
 intro n
 induction n with
 | zero => exact fun p r h => by cases h
 | succ n ih =>
  intro p
  cases p <;> rw [uI1, uV0] <;> repeat' with_reducible first | refine OLe.bind ?_ (fun _ => ?_) | refine OLe.ite ?_ ?_ | exact vo8 n _ | exact ih _ | exact OLe.refl _
mutual
def vc2 : Nat → vP5 → Option ((Int × Unit) × Unit)
 | 0, _ => none
 | n + 1, .start s0 x1_0 x1_1 x1_2 x1_3 s2 =>
  (runF_z21 n (.start s2.list s2.params x1_0 x1_1 x1_2 x1_3)) >>= fun t1 =>
  some ((t1.1.1, ()), ())
def uL9 : Nat → vP6 → Option ((Int × (Int × Unit)) × (((List ua2) × ((List ByteArray) × Unit)) × Unit))
 | 0, _ => none
 | n + 1, .start l0 C0 C1 =>
  uL9 n (.p52 l0 (List.length l0 : Int) (0 : Int) C0 C1)
 | n + 1, .p52 s9 s10 s11 C0 C1 =>
  if (decide (s11 < s10)) = true then
   (idx s9 s11) >>= fun t1 =>
   (vc2 n (.start s11 t1.Kind t1.Value t1.Name t1.Parts (⟨C0, C1⟩ : us8))) >>= fun t2 =>
   if (t2.1.1 != (0 : Int)) = true then
    some ((s11, (t2.1.1, ())), ((C0, (C1, ())), ()))
   else
    uL9 n (.p52 s9 s10 (IntKind.wrap .i64 (s11 + (1 : Int))) C0 C1)
  else
   some (((0 : Int), ((0 : Int), ())), ((C0, (C1, ())), ()))
def runF_z21 : Nat → vE0 → Option ((Int × Unit) × Unit)
 | 0, _ => none
 | n + 1, .start s0_0 s0_1 t1_0 t1_1 t1_2 t1_3 =>
  if (t1_0 == (0 : Int)) = true then
   (vd8 n (.start s0_1 t1_2)) >>= fun t1 =>
   if (!t1.1.1) = true then
    some (((6 : Int), ()), ())
   else
    runF_z21 n (.p15 (0 : Int) s0_0 s0_1 t1_0 t1_1 t1_2 t1_3)
  else
   if (t1_0 == (1 : Int)) = true then
    (uV0 n (.start s0_0 s0_1 t1_2)) >>= fun t2 =>
    if t2.1.2.1 = true then
     runF_z21 n (.p15 (List.length t2.1.1.2.1 : Int) s0_0 s0_1 t1_0 t1_1 t1_2 t1_3)
    else
     if (seq t1_2 (⟨#[66, 105, 116]⟩ : ByteArray)) = true then
      runF_z21 n (.p15 (1 : Int) s0_0 s0_1 t1_0 t1_1 t1_2 t1_3)
     else
      if (!(seq t1_2 (⟨#[66, 111, 111, 108]⟩ : ByteArray))) = true then
       some (((6 : Int), ()), ())
      else
       runF_z21 n (.p15 (0 : Int) s0_0 s0_1 t1_0 t1_1 t1_2 t1_3)
   else
    if (t1_0 == (2 : Int)) = true then
     runF_z21 n (.p15 (0 : Int) s0_0 s0_1 t1_0 t1_1 t1_2 t1_3)
    else
     some (((15 : Int), ()), ())
 | n + 1, .p15 count5 C0 C1 D0 D1 D2 D3 =>
  if ((List.length D3 : Int) != count5) = true then
   some (((10 : Int), ()), ())
  else
   if (D0 == (2 : Int)) = true then
    (uj5 n (.start D1 (0 : Int) (1000000000 : Int))) >>= fun t1 =>
    if (!t1.1.1) = true then
     some (((2 : Int), ()), ())
    else
     runF_z21 n (.p63 C0 C1 D0 D1 D2 D3)
   else
    runF_z21 n (.p63 C0 C1 D0 D1 D2 D3)
 | n + 1, .p63 C0 C1 D0 D1 D2 D3 =>
  (uL9 n (.start D3 C0 C1)) >>= fun t1 =>
  some ((t1.1.2.1, ()), ())
end
theorem vk0 : ∀ (n : Nat), (∀ p : vP5, OLe (vc2 n p) (uR1 p)) ∧ (∀ p : vP6, OLe (uL9 n p) (run_z22 p)) ∧ (∀ p : vE0, OLe (runF_z21 n p) (run_z21 p)) := by
  intro n
  induction n with
  | zero => exact ⟨(fun p r h => by cases h), (fun p r h => by cases h), (fun p r h => by cases h)⟩
  | succ n ih =>
    refine ⟨?_, ?_, ?_⟩
    · intro p
      cases p <;> rw [uR1, vc2] <;> repeat' with_reducible first | refine OLe.bind ?_ (fun _ => ?_) | refine OLe.ite ?_ ?_ | exact ue7 n _ | exact uF2 n _ | exact uz4 n _ | exact ih.1 _ | exact ih.2.1 _ | exact ih.2.2 _ | exact OLe.refl _
    · intro p
      cases p <;> rw [run_z22, uL9] <;> repeat' with_reducible first | refine OLe.bind ?_ (fun _ => ?_) | refine OLe.ite ?_ ?_ | exact ue7 n _ | exact uF2 n _ | exact uz4 n _ | exact ih.1 _ | exact ih.2.1 _ | exact ih.2.2 _ | exact OLe.refl _
    · intro p
      cases p <;> rw [run_z21, runF_z21] <;> repeat' with_reducible first | refine OLe.bind ?_ (fun _ => ?_) | refine OLe.ite ?_ ?_ | exact ue7 n _ | exact uF2 n _ | exact uz4 n _ | exact ih.1 _ | exact ih.2.1 _ | exact ih.2.2 _ | exact OLe.refl _
theorem vo9 (n : Nat) : ∀ (p : vE0), OLe (runF_z21 n p) (run_z21 p) := (vk0 n).2.2
def uV1 : Nat → vP7 → Option ((Int × Unit) × Unit)
 | 0, _ => none
 | n + 1, .start s0_0 s0_1 t1_0 t1_1 t1_2 t1_3 =>
  (uU9 n (.start t1_0 t1_1 t1_2 t1_3)) >>= fun t1 =>
  if (t1.1.1 != (0 : Int)) = true then
   some ((t1.1.1, ()), ())
  else
   (runF_z21 n (.start s0_0 s0_1 t1_0 t1_1 t1_2 t1_3)) >>= fun t2 =>
   some ((t2.1.1, ()), ())
theorem u03 : ∀ (n : Nat) (p : vP7), OLe (uV1 n p) (uI2 p) := by
 intro n
 induction n with
 | zero => exact fun p r h => by cases h
 | succ n ih =>
  intro p
  cases p <;> rw [uI2, uV1] <;> repeat' with_reducible first | refine OLe.bind ?_ (fun _ => ?_) | refine OLe.ite ?_ ?_ | exact u02 n _ | exact vo9 n _ | exact ih _ | exact OLe.refl _
def vc3 : Nat → vP8 → Option ((Int × Unit) × ((Unit × Unit) × (((List ua2) × ((List ByteArray) × Unit)) × ((List ByteArray) × Unit))))
 | 0, _ => none
 | n + 1, .start s0 f1_0 f1_1 f1_2 f1_3 f1_4 D0 D1 B2 =>
  (uE6 n (.start f1_0 B2)) >>= fun t1 =>
  if (t1.1.1 != (0 : Int)) = true then
   some ((t1.1.1, ()), (((), ()), ((D0, (D1, ())), (B2, ()))))
  else
   if (fits (List.length B2) (List.length ([f1_0] : List ByteArray)) 16) = true then
    (uV1 n (.start D0 D1 f1_1 f1_2 f1_3 f1_4)) >>= fun t2 =>
    some ((t2.1.1, ()), (((), ()), ((D0, (D1, ())), (B2 ++ ([f1_0] : List ByteArray), ()))))
   else none
theorem vp0 : ∀ (n : Nat) (p : vP8), OLe (vc3 n p) (u12 p) := by
 intro n
 induction n with
 | zero => exact fun p r h => by cases h
 | succ n ih =>
  intro p
  cases p <;> rw [u12, vc3] <;> repeat' with_reducible first | refine OLe.bind ?_ (fun _ => ?_) | refine OLe.ite ?_ ?_ | exact uz2 n _ | exact u03 n _ | exact ih _ | exact OLe.refl _
def uM0 : Nat → vP9 → Option ((Int × (Int × Unit)) × ((Unit × Unit) × (((List ua2) × ((List ByteArray) × Unit)) × ((List ByteArray) × Unit))))
 | 0, _ => none
 | n + 1, .start l0 D0 D1 =>
  uM0 n (.p52 l0 (List.length l0 : Int) (0 : Int) D0 D1 ([] : List ByteArray))
 | n + 1, .p52 s9 s10 s11 D0 D1 B2 =>
  if (decide (s11 < s10)) = true then
   (idx s9 s11) >>= fun t1 =>
   (vc3 n (.start s11 t1.Name t1.Type_.Kind t1.Type_.Value t1.Type_.Name t1.Type_.Parts D0 D1 B2)) >>= fun t2 =>
   if (t2.1.1 != (0 : Int)) = true then
    some ((s11, (t2.1.1, ())), (((), ()), ((t2.2.2.1.1, (t2.2.2.1.2.1, ())), (t2.2.2.2.1, ()))))
   else
    uM0 n (.p52 s9 s10 (IntKind.wrap .i64 (s11 + (1 : Int))) t2.2.2.1.1 t2.2.2.1.2.1 t2.2.2.2.1)
  else
   some (((0 : Int), ((0 : Int), ())), (((), ()), ((D0, (D1, ())), (B2, ()))))
theorem vp1 : ∀ (n : Nat) (p : vP9), OLe (uM0 n p) (up0 p) := by
 intro n
 induction n with
 | zero => exact fun p r h => by cases h
 | succ n ih =>
  intro p
  cases p <;> rw [up0, uM0] <;> repeat' with_reducible first | refine OLe.bind ?_ (fun _ => ?_) | refine OLe.ite ?_ ?_ | exact vp0 n _ | exact ih _ | exact OLe.refl _
def vc4 : Nat → vQ0 → Option ((Int × Unit) × ((Unit × Unit) × (((List ua2) × ((List ByteArray) × Unit)) × ((List ByteArray) × Unit))))
 | 0, _ => none
 | n + 1, .start s0 c1_0 c1_1 D0 D1 B2 =>
  (uE6 n (.start c1_0 B2)) >>= fun t1 =>
  (ub6 n (.start (decide ((List.length c1_1 : Int) ≤ (8 : Int))) (8 : Int))) >>= fun t2 =>
  (ud8 n (.start ([t1.1.1, t2.1.1] : List Int))) >>= fun t3 =>
  if (t3.1.1 != (0 : Int)) = true then
   some ((t3.1.1, ()), (((), ()), ((D0, (D1, ())), (B2, ()))))
  else
   if (fits (List.length B2) (List.length ([c1_0] : List ByteArray)) 16) = true then
    (uM0 n (.start c1_1 D0 D1)) >>= fun t4 =>
    some ((t4.1.2.1, ()), (((), ()), ((t4.2.2.1.1, (t4.2.2.1.2.1, ())), (B2 ++ ([c1_0] : List ByteArray), ()))))
   else none
theorem vp2 : ∀ (n : Nat) (p : vQ0), OLe (vc4 n p) (u13 p) := by
 intro n
 induction n with
 | zero => exact fun p r h => by cases h
 | succ n ih =>
  intro p
  cases p <;> rw [u13, vc4] <;> repeat' with_reducible first | refine OLe.bind ?_ (fun _ => ?_) | refine OLe.ite ?_ ?_ | exact ug4 n _ | exact uf5 n _ | exact uz2 n _ | exact vp1 n _ | exact ih _ | exact OLe.refl _
def uM1 : Nat → vQ1 → Option ((Int × (Int × Unit)) × ((Unit × Unit) × (((List ua2) × ((List ByteArray) × Unit)) × ((List ByteArray) × Unit))))
 | 0, _ => none
 | n + 1, .start l0 D0 D1 B2 =>
  uM1 n (.p52 l0 (List.length l0 : Int) (0 : Int) D0 D1 B2)
 | n + 1, .p52 s9 s10 s11 D0 D1 B2 =>
  if (decide (s11 < s10)) = true then
   (idx s9 s11) >>= fun t1 =>
   (vc4 n (.start s11 t1.Name t1.Fields D0 D1 B2)) >>= fun t2 =>
   if (t2.1.1 != (0 : Int)) = true then
    some ((s11, (t2.1.1, ())), (((), ()), ((t2.2.2.1.1, (t2.2.2.1.2.1, ())), (t2.2.2.2.1, ()))))
   else
    uM1 n (.p52 s9 s10 (IntKind.wrap .i64 (s11 + (1 : Int))) t2.2.2.1.1 t2.2.2.1.2.1 t2.2.2.2.1)
  else
   some (((0 : Int), ((0 : Int), ())), (((), ()), ((D0, (D1, ())), (B2, ()))))
theorem vp3 : ∀ (n : Nat) (p : vQ1), OLe (uM1 n p) (up1 p) := by
 intro n
 induction n with
 | zero => exact fun p r h => by cases h
 | succ n ih =>
  intro p
  cases p <;> rw [up1, uM1] <;> repeat' with_reducible first | refine OLe.bind ?_ (fun _ => ?_) | refine OLe.ite ?_ ?_ | exact vp2 n _ | exact ih _ | exact OLe.refl _
def uM2 : Nat → vQ2 → Option ((Int × Unit) × Unit)
 | 0, _ => none
 | n + 1, .start s0_0 s0_1 d1_0 d1_1 d1_2 names2 constructors3 =>
  if (fits (List.length names2) (List.length ([(⟨#[66, 105, 116]⟩ : ByteArray), (⟨#[66, 111, 111, 108]⟩ : ByteArray), (⟨#[73, 110, 116, 101, 103, 101, 114]⟩ : ByteArray)] : List ByteArray)) 16) = true then
   (uE6 n (.start d1_0 (names2 ++ ([(⟨#[66, 105, 116]⟩ : ByteArray), (⟨#[66, 111, 111, 108]⟩ : ByteArray), (⟨#[73, 110, 116, 101, 103, 101, 114]⟩ : ByteArray)] : List ByteArray)))) >>= fun t1 =>
   if (decide ((List.length d1_1 : Int) ≤ (4 : Int))) = true then
    (ub6 n (.start (decide ((List.length d1_2 : Int) ≤ (16 : Int))) (8 : Int))) >>= fun t2 =>
    (ub6 n (.start (decide ((List.length d1_2 : Int) > (0 : Int))) (10 : Int))) >>= fun t3 =>
    (ud8 n (.start ([t1.1.1, t2.1.1, t3.1.1] : List Int))) >>= fun t4 =>
    uM2 n (.p7 constructors3 t4.1.1 s0_0 s0_1 d1_0 d1_1 d1_2)
   else
    (ub6 n (.start false (8 : Int))) >>= fun t5 =>
    (ub6 n (.start (decide ((List.length d1_2 : Int) > (0 : Int))) (10 : Int))) >>= fun t6 =>
    (ud8 n (.start ([t1.1.1, t5.1.1, t6.1.1] : List Int))) >>= fun t7 =>
    uM2 n (.p7 constructors3 t7.1.1 s0_0 s0_1 d1_0 d1_1 d1_2)
  else none
 | n + 1, .p7 constructors3 e9 C0 C1 D0 D1 D2 =>
  if (e9 != (0 : Int)) = true then
   some ((e9, ()), ())
  else
   (uL7 n (.start D1 D0 D1 D2)) >>= fun t1 =>
   if (t1.1.2.1 != (0 : Int)) = true then
    some ((t1.1.2.1, ()), ())
   else
    if (fits (List.length constructors3) (List.length ([(⟨#[70, 97, 108, 115, 101]⟩ : ByteArray), (⟨#[84, 114, 117, 101]⟩ : ByteArray)] : List ByteArray)) 16) = true then
     (uM1 n (.start t1.2.1.2.2.1 C0 t1.2.1.2.1 (constructors3 ++ ([(⟨#[70, 97, 108, 115, 101]⟩ : ByteArray), (⟨#[84, 114, 117, 101]⟩ : ByteArray)] : List ByteArray)))) >>= fun t2 =>
     some ((t2.1.2.1, ()), ())
    else none
theorem vp4 : ∀ (n : Nat) (p : vQ2), OLe (uM2 n p) (ut8 p) := by
 intro n
 induction n with
 | zero => exact fun p r h => by cases h
 | succ n ih =>
  intro p
  cases p <;> rw [ut8, uM2] <;> repeat' with_reducible first | refine OLe.bind ?_ (fun _ => ?_) | refine OLe.ite ?_ ?_ | exact ug4 n _ | exact uf5 n _ | exact uz2 n _ | exact vo4 n _ | exact vp3 n _ | exact ih _ | exact OLe.refl _
def uM3 : Nat → vQ3 → Option ((Int × Unit) × (((List ua2) × Unit) × ((Unit × Unit) × ((Unit × Unit) × ((List ByteArray) × ((List ByteArray) × Unit))))))
 | 0, _ => none
 | n + 1, .start i0 d1_0 d1_1 d1_2 B0 B3 B4 =>
  (span (List.length B0) (0 : Int) i0) >>= fun t1 =>
  (vc8 n (.start B3)) >>= fun t2 =>
  (vc8 n (.start B4)) >>= fun t3 =>
  (uM2 n (.start (cut B0 t1) ([]) d1_0 d1_1 d1_2 t2.1.1 t3.1.1)) >>= fun t4 =>
  if (fits (List.length B3) (List.length ([d1_0] : List ByteArray)) 16) = true then
   uM3 n (.p244 t4.1.1 d1_2 (List.length d1_2 : Int) (0 : Int) B0 (B3 ++ ([d1_0] : List ByteArray)) B4)
  else none
 | n + 1, .p244 e8 s27 s28 s29 B0 B3 B4 =>
  if (decide (s29 < s28)) = true then
   (idx s27 s29) >>= fun t1 =>
   if (fits (List.length B4) (List.length ([t1.Name] : List ByteArray)) 16) = true then
    uM3 n (.p244 e8 s27 s28 (IntKind.wrap .i64 (s29 + (1 : Int))) B0 B3 (B4 ++ ([t1.Name] : List ByteArray)))
   else none
  else
   some ((e8, ()), ((B0, ()), (((), ()), (((), ()), (B3, (B4, ()))))))
theorem vp5 : ∀ (n : Nat) (p : vQ3), OLe (uM3 n p) (up2 p) := by
 intro n
 induction n with
 | zero => exact fun p r h => by cases h
 | succ n ih =>
  intro p
  cases p <;> rw [up2, uM3] <;> repeat' with_reducible first | refine OLe.bind ?_ (fun _ => ?_) | refine OLe.ite ?_ ?_ | exact vC8 n _ | exact vp4 n _ | exact ih _ | exact OLe.refl _
def uM4 : Nat → vQ4 → Option ((Int × (Int × Unit)) × (((List ua2) × Unit) × ((Unit × Unit) × ((Unit × Unit) × ((List ByteArray) × ((List ByteArray) × Unit))))))
 | 0, _ => none
 | n + 1, .start l0 B0 =>
  uM4 n (.p52 l0 (List.length l0 : Int) (0 : Int) B0 ([] : List ByteArray) ([] : List ByteArray))
 | n + 1, .p52 s9 s10 s11 B0 B3 B4 =>
  if (decide (s11 < s10)) = true then
   (idx s9 s11) >>= fun t1 =>
   (uM3 n (.start s11 t1.Name t1.Params t1.Constructors B0 B3 B4)) >>= fun t2 =>
   if (t2.1.1 != (0 : Int)) = true then
    some ((s11, (t2.1.1, ())), ((t2.2.1.1, ()), (((), ()), (((), ()), (t2.2.2.2.2.1, (t2.2.2.2.2.2.1, ()))))))
   else
    uM4 n (.p52 s9 s10 (IntKind.wrap .i64 (s11 + (1 : Int))) t2.2.1.1 t2.2.2.2.2.1 t2.2.2.2.2.2.1)
  else
   some (((0 : Int), ((0 : Int), ())), ((B0, ()), (((), ()), (((), ()), (B3, (B4, ()))))))
theorem vp6 : ∀ (n : Nat) (p : vQ4), OLe (uM4 n p) (ur1 p) := by
 intro n
 induction n with
 | zero => exact fun p r h => by cases h
 | succ n ih =>
  intro p
  cases p <;> rw [ur1, uM4] <;> repeat' with_reducible first | refine OLe.bind ?_ (fun _ => ?_) | refine OLe.ite ?_ ?_ | exact vp5 n _ | exact ih _ | exact OLe.refl _
def vc5 : Nat → vQ5 → Option ((Int × (Int × Unit)) × Unit)
 | 0, _ => none
 | n + 1, .start l0 =>
  if (decide ((List.length l0 : Int) > (20 : Int))) = true then
   some (((0 : Int), ((8 : Int), ())), ())
  else
   (uM4 n (.start l0 l0)) >>= fun t1 =>
   some ((t1.1.1, (t1.1.2.1, ())), ())
theorem vp7 : ∀ (n : Nat) (p : vQ5), OLe (vc5 n p) (uR2 p) := by
 intro n
 induction n with
 | zero => exact fun p r h => by cases h
 | succ n ih =>
  intro p
  cases p <;> rw [uR2, vc5] <;> repeat' with_reducible first | refine OLe.bind ?_ (fun _ => ?_) | refine OLe.ite ?_ ?_ | exact vp6 n _ | exact ih _ | exact OLe.refl _
def us1 : Nat → vQ6 → Option (((Int × (Int × (ByteArray × ((List ua3) × Unit)))) × Unit) × Unit)
 | 0, _ => none
 | n + 1, .start t0_0 t0_1 t0_2 t0_3 params1 args2 =>
  (uR0 n (.start params1 t0_2)) >>= fun t1 =>
  if (t0_0 == (0 : Int)) = true then
   us1 n (.p27 params1 args2 t1.1.1 (decide (t1.1.1 ≥ (0 : Int))) t0_0 t0_1 t0_2 t0_3 (0 : Int) (0 : Int) (⟨#[]⟩ : ByteArray))
  else
   us1 n (.p27 params1 args2 t1.1.1 false t0_0 t0_1 t0_2 t0_3 (0 : Int) (0 : Int) (⟨#[]⟩ : ByteArray))
 | n + 1, .p27 params1 args2 i7 s21 C0 C1 C2 C3 D0 D1 D2 =>
  if s21 = true then
   (idx args2 i7) >>= fun t1 =>
   (us1 n (.start t1.Kind t1.Value t1.Name t1.Parts ([]) ([]))) >>= fun t2 =>
   some (((t2.1.1.1, (t2.1.1.2.1, (t2.1.1.2.2.1, (t2.1.1.2.2.2.1, ())))), ()), ())
  else
   us1 n (.p500 params1 args2 C3 (List.length C3 : Int) (0 : Int) D0 D1 D2 C0 C1 C2 ([] : List ua3))
 | n + 1, .p500 params1 args2 s30 s31 s32 C0 C1 C2 D0 D1 D2 B2 =>
  if (decide (s32 < s31)) = true then
   (idx s30 s32) >>= fun t1 =>
   (us1 n (.start t1.Kind t1.Value t1.Name t1.Parts params1 args2)) >>= fun t2 =>
   if (fits (List.length B2) (List.length ([(⟨t2.1.1.1, t2.1.1.2.1, t2.1.1.2.2.1, t2.1.1.2.2.2.1⟩ : ua3)] : List ua3)) 56) = true then
    us1 n (.p500 params1 args2 s30 s31 (IntKind.wrap .i64 (s32 + (1 : Int))) C0 C1 C2 D0 D1 D2 (B2 ++ ([(⟨t2.1.1.1, t2.1.1.2.1, t2.1.1.2.2.1, t2.1.1.2.2.2.1⟩ : ua3)] : List ua3)))
   else none
  else
   some (((D0, (D1, (D2, (B2, ())))), ()), ())
theorem vp8 : ∀ (n : Nat) (p : vQ6), OLe (us1 n p) (ug2 p) := by
 intro n
 induction n with
 | zero => exact fun p r h => by cases h
 | succ n ih =>
  intro p
  cases p <;> rw [ug2, us1] <;> repeat' with_reducible first | refine OLe.bind ?_ (fun _ => ?_) | refine OLe.ite ?_ ?_ | exact u80 n _ | exact ih _ | exact OLe.refl _
def uz5 : Nat → vQ7 → Option ((Unit × Unit) × ((List data_variant) × Unit))
 | 0, _ => none
 | n + 1, .start s0_0 s0_1 t1_0 t1_1 t1_2 t1_3 =>
  (uV0 n (.start s0_0 s0_1 t1_2)) >>= fun t1 =>
  if (!t1.1.2.1) = true then
   some (((), ()), (([(⟨(⟨#[70, 97, 108, 115, 101]⟩ : ByteArray), [], none⟩ : data_variant), (⟨(⟨#[84, 114, 117, 101]⟩ : ByteArray), [], none⟩ : data_variant)] : List data_variant), ()))
  else
   uz5 n (.p500 t1.1.1.2.2.1 (List.length t1.1.1.2.2.1 : Int) (0 : Int) t1_0 t1_1 t1_2 t1_3 t1.1.1.1 t1.1.1.2.1 t1.1.1.2.2.1 ([] : List data_variant))
 | n + 1, .p500 s26 s27 s28 C0 C1 C2 C3 D0 D1 D2 B2 =>
  if (decide (s28 < s27)) = true then
   (idx s26 s28) >>= fun t1 =>
   uz5 n (.p512820 s26 s27 s28 t1.Fields (List.length t1.Fields : Int) (0 : Int) C0 C1 C2 C3 D0 D1 D2 B2 t1.Name ([] : List ua6))
  else
   some (((), ()), (B2, ()))
 | n + 1, .p512820 s26 s27 s28 s36 s37 s38 C0 C1 C2 C3 D0 D1 D2 B2 B3 B4 =>
  if (decide (s38 < s37)) = true then
   (idx s36 s38) >>= fun t1 =>
   (us1 n (.start t1.Type_.Kind t1.Type_.Value t1.Type_.Name t1.Type_.Parts D1 C3)) >>= fun t2 =>
   if (fits (List.length B4) (List.length ([(⟨t1.Name, (⟨t2.1.1.1, t2.1.1.2.1, t2.1.1.2.2.1, t2.1.1.2.2.2.1⟩ : ua3)⟩ : ua6)] : List ua6)) 72) = true then
    uz5 n (.p512820 s26 s27 s28 s36 s37 (IntKind.wrap .i64 (s38 + (1 : Int))) C0 C1 C2 C3 D0 D1 D2 B2 B3 (B4 ++ ([(⟨t1.Name, (⟨t2.1.1.1, t2.1.1.2.1, t2.1.1.2.2.1, t2.1.1.2.2.2.1⟩ : ua3)⟩ : ua6)] : List ua6)))
   else none
  else
   if (fits (List.length B2) (List.length ([(⟨B3, B4, none⟩ : data_variant)] : List data_variant)) 64) = true then
    uz5 n (.p500 s26 s27 (IntKind.wrap .i64 (s28 + (1 : Int))) C0 C1 C2 C3 D0 D1 D2 (B2 ++ ([(⟨B3, B4, none⟩ : data_variant)] : List data_variant)))
   else none
theorem vp9 : ∀ (n : Nat) (p : vQ7), OLe (uz5 n p) (ui6 p) := by
 intro n
 induction n with
 | zero => exact fun p r h => by cases h
 | succ n ih =>
  intro p
  cases p <;> rw [ui6, uz5] <;> repeat' with_reducible first | refine OLe.bind ?_ (fun _ => ?_) | refine OLe.ite ?_ ?_ | exact uz4 n _ | exact vp8 n _ | exact ih _ | exact OLe.refl _
def up8 : Nat → vQ8 → Option (((Option ua5) × (Int × Unit)) × ((Int × Unit) × Unit))
 | 0, _ => none
 | n + 1, .start s0_0 s0_1 t1_0 t1_1 t1_2 t1_3 deep3 B0 =>
  (uU9 n (.start t1_0 t1_1 t1_2 t1_3)) >>= fun t1 =>
  if (t1.1.1 != (0 : Int)) = true then
   some ((none, (t1.1.1, ())), ((B0, ()), ()))
  else
   if (decide ((IntKind.wrap .i64 (B0 + (1 : Int))) ≤ (200 : Int))) = true then
    (ub6 n (.start (decide (deep3 ≤ (40 : Int))) (8 : Int))) >>= fun t2 =>
    up8 n (.p31 deep3 t2.1.1 (IntKind.wrap .i64 (B0 + (1 : Int))) s0_0 s0_1 t1_0 t1_1 t1_2 t1_3)
   else
    (ub6 n (.start false (8 : Int))) >>= fun t3 =>
    up8 n (.p31 deep3 t3.1.1 (IntKind.wrap .i64 (B0 + (1 : Int))) s0_0 s0_1 t1_0 t1_1 t1_2 t1_3)
 | n + 1, .p31 deep3 few11 B0 D0 D1 G0 G1 G2 G3 =>
  if (G0 == (2 : Int)) = true then
   some ((none, ((26 : Int), ())), ((B0, ()), ()))
  else
   if (seq G2 (⟨#[66, 105, 116]⟩ : ByteArray)) = true then
    (idx G3 (0 : Int)) >>= fun t1 =>
    (ub6 n (.start (t1.Kind == (2 : Int)) (26 : Int))) >>= fun t2 =>
    (uj5 n (.start t1.Value (1 : Int) (16 : Int))) >>= fun t3 =>
    (ub6 n (.start t3.1.1 (25 : Int))) >>= fun t4 =>
    (ud8 n (.start ([t2.1.1, t4.1.1, few11] : List Int))) >>= fun t5 =>
    some ((some (⟨t1.Value, none⟩ : ua5), (t5.1.1, ())), ((B0, ()), ()))
   else
    if (few11 != (0 : Int)) = true then
     some ((none, (few11, ())), ((B0, ()), ()))
    else
     (uz5 n (.start D0 D1 G0 G1 G2 G3)) >>= fun t6 =>
     up8 n (.p8180 deep3 (List.length t6.2.1 : Int) (0 : Int) B0 D0 D1 (0 : Int) t6.2.1)
 | n + 1, .p8180 deep3 s76 s77 B0 D0 D1 B2 B3 =>
  if (decide (s77 < s76)) = true then
   if (decide ((0 : Int) ≤ s77) && decide (s77 < (List.length B3 : Int))) = true then
    (idx B3 s77) >>= fun t1 =>
    if (Option.isNone t1.parts) = true then
     (if s77 = (Int.toNat s77 : Int) then B3[Int.toNat s77]? else none) >>= fun t2 =>
     up8 n (.p4188572 deep3 s77 s76 s77 t2.fields (List.length t2.fields : Int) (0 : Int) B0 D0 D1 B2 (B3, Int.toNat s77) ([] : List (Option ua5)))
    else none
   else none
  else
   some ((some (⟨B2, (some B3)⟩ : ua5), ((0 : Int), ())), ((B0, ()), ()))
 | n + 1, .p4188572 deep3 v15 s76 s77 s89 s90 s91 B0 D0 D1 B2 B3 B4 =>
  if (decide (s91 < s90)) = true then
   (idx s89 s91) >>= fun t1 =>
   (up8 n (.start D0 D1 t1.Type_.Kind t1.Type_.Value t1.Type_.Name t1.Type_.Parts (IntKind.wrap .i64 (deep3 + (1 : Int))) B0)) >>= fun t2 =>
   if (t2.1.2.1 != (0 : Int)) = true then
    some ((none, (t2.1.2.1, ())), ((t2.2.1.1, ()), ()))
   else
    (if v15 = (B3.2 : Int) then B3.1[B3.2]? else none) >>= fun t3 =>
    if (fits (List.length B4) (List.length ([t2.1.1] : List (Option ua5))) 8) = true then
     if v15 = (B3.2 : Int) then
      up8 n (.p4188572 deep3 v15 s76 s77 s89 s90 (IntKind.wrap .i64 (s91 + (1 : Int))) t2.2.1.1 D0 D1 B2 (B3.1, B3.2) (B4 ++ ([t2.1.1] : List (Option ua5))))
     else none
    else none
  else
   up8 n (.p8180 deep3 s76 (IntKind.wrap .i64 (s77 + (1 : Int))) B0 D0 D1 B2 (List.modify B3.1 B3.2 (fun y => (⟨y.name, y.fields, (some B4)⟩ : data_variant))))
theorem vq0 : ∀ (n : Nat) (p : vQ8), OLe (up8 n p) (uc6 p) := by
 intro n
 induction n with
 | zero => exact fun p r h => by cases h
 | succ n ih =>
  intro p
  cases p <;> rw [uc6, up8] <;> repeat' with_reducible first | refine OLe.bind ?_ (fun _ => ?_) | refine OLe.ite ?_ ?_ | exact ue7 n _ | exact ug4 n _ | exact uf5 n _ | exact u02 n _ | exact vp9 n _ | exact ih _ | exact OLe.refl _
def uv4 : Nat → vQ9 → Option ((Bool × Unit) × Unit)
 | 0, _ => none
 | n + 1, .start x0 =>
  x0 >>= fun t1 =>
  (wg6 t1.constructors) >>= fun t2 =>
  some ((t2, ()), ())
theorem uf6 : ∀ (n : Nat) (p : vQ9), OLe (uv4 n p) (ur2 p) := by
 intro n
 induction n with
 | zero => exact fun p r h => by cases h
 | succ n ih =>
  intro p
  cases p <;> rw [ur2, uv4] <;> repeat' with_reducible first | refine OLe.bind ?_ (fun _ => ?_) | refine OLe.ite ?_ ?_ | exact ih _ | exact OLe.refl _
def us2 : Nat → vR0 → Option ((Int × Unit) × Unit)
 | 0, _ => none
 | n + 1, .start x0 =>
  if (decide (x0 ≥ (4294967296 : Int))) = true then
   if (decide ((0 : Int) ≤ (32 : Int))) = true then
    us2 n (.p7 (shr .u64 x0 (32 : Int)) (32 : Int))
   else none
  else
   us2 n (.p7 x0 (0 : Int))
 | n + 1, .p7 x0 n2 =>
  if (decide (x0 ≥ (65536 : Int))) = true then
   if (decide ((0 : Int) ≤ (16 : Int))) = true then
    us2 n (.p15 (shr .u64 x0 (16 : Int)) (IntKind.wrap .i64 (n2 + (16 : Int))))
   else none
  else
   us2 n (.p15 x0 n2)
 | n + 1, .p15 x0 n2 =>
  if (decide (x0 ≥ (256 : Int))) = true then
   if (decide ((0 : Int) ≤ (8 : Int))) = true then
    us2 n (.p31 (shr .u64 x0 (8 : Int)) (IntKind.wrap .i64 (n2 + (8 : Int))))
   else none
  else
   us2 n (.p31 x0 n2)
 | n + 1, .p31 x0 n2 =>
  (sidx (⟨#[0, 1, 2, 2, 3, 3, 3, 3, 4, 4, 4, 4, 4, 4, 4, 4, 5, 5, 5, 5, 5, 5, 5, 5, 5, 5, 5, 5, 5, 5, 5, 5, 6, 6, 6, 6, 6, 6, 6, 6, 6, 6, 6, 6, 6, 6, 6, 6, 6, 6, 6, 6, 6, 6, 6, 6, 6, 6, 6, 6, 6, 6, 6, 6, 7, 7, 7, 7, 7, 7, 7, 7, 7, 7, 7, 7, 7, 7, 7, 7, 7, 7, 7, 7, 7, 7, 7, 7, 7, 7, 7, 7, 7, 7, 7, 7, 7, 7, 7, 7, 7, 7, 7, 7, 7, 7, 7, 7, 7, 7, 7, 7, 7, 7, 7, 7, 7, 7, 7, 7, 7, 7, 7, 7, 7, 7, 7, 7, 8, 8, 8, 8, 8, 8, 8, 8, 8, 8, 8, 8, 8, 8, 8, 8, 8, 8, 8, 8, 8, 8, 8, 8, 8, 8, 8, 8, 8, 8, 8, 8, 8, 8, 8, 8, 8, 8, 8, 8, 8, 8, 8, 8, 8, 8, 8, 8, 8, 8, 8, 8, 8, 8, 8, 8, 8, 8, 8, 8, 8, 8, 8, 8, 8, 8, 8, 8, 8, 8, 8, 8, 8, 8, 8, 8, 8, 8, 8, 8, 8, 8, 8, 8, 8, 8, 8, 8, 8, 8, 8, 8, 8, 8, 8, 8, 8, 8, 8, 8, 8, 8, 8, 8, 8, 8, 8, 8, 8, 8, 8, 8, 8, 8, 8, 8, 8, 8, 8, 8, 8, 8, 8, 8, 8, 8, 8, 8]⟩ : ByteArray) (IntKind.wrap .u8 x0)) >>= fun t1 =>
  some ((IntKind.wrap .i64 (n2 + (IntKind.wrap .i64 t1)), ()), ())
theorem vq1 : ∀ (n : Nat) (p : vR0), OLe (us2 n p) (ul4 p) := by
 intro n
 induction n with
 | zero => exact fun p r h => by cases h
 | succ n ih =>
  intro p
  cases p <;> rw [ul4, us2] <;> repeat' with_reducible first | refine OLe.bind ?_ (fun _ => ?_) | refine OLe.ite ?_ ?_ | exact ih _ | exact OLe.refl _
def vc6 : Nat → vR1 → Option ((Int × Unit) × Unit)
 | 0, _ => none
 | n + 1, .start x0 =>
  (us2 n (.start x0)) >>= fun t1 =>
  some ((t1.1.1, ()), ())
theorem vq2 : ∀ (n : Nat) (p : vR1), OLe (vc6 n p) (u14 p) := by
 intro n
 induction n with
 | zero => exact fun p r h => by cases h
 | succ n ih =>
  intro p
  cases p <;> rw [u14, vc6] <;> repeat' with_reducible first | refine OLe.bind ?_ (fun _ => ?_) | refine OLe.ite ?_ ?_ | exact vq1 n _ | exact ih _ | exact OLe.refl _
def vc7 : Nat → vR2 → Option ((Int × Unit) × Unit)
 | 0, _ => none
 | n + 1, .start x0 =>
  x0 >>= fun t1 =>
  (vc6 n (.start (IntKind.wrap .u64 (IntKind.wrap .i64 ((List.length (Option.getD t1.constructors []) : Int) - (1 : Int)))))) >>= fun t2 =>
  some ((t2.1.1, ()), ())
theorem uH9 : ∀ (n : Nat) (p : vR2), OLe (vc7 n p) (uR3 p) := by
 intro n
 induction n with
 | zero => exact fun p r h => by cases h
 | succ n ih =>
  intro p
  cases p <;> rw [uR3, vc7] <;> repeat' with_reducible first | refine OLe.bind ?_ (fun _ => ?_) | refine OLe.ite ?_ ?_ | exact vq2 n _ | exact ih _ | exact OLe.refl _
mutual
def uz6 : Nat → vE1 → Option ((Int × Unit) × Unit)
 | 0, _ => none
 | n + 1, .start v0_0 v0_1 v0_2 =>
  uz6 n (.p116 (0 : Int) v0_2 (List.length (Option.getD v0_2 []) : Int) (0 : Int))
 | n + 1, .p116 sum3 s7 s8 s9 =>
  if (decide (s9 < s8)) = true then
   (idx (Option.getD s7 []) s9) >>= fun t1 =>
   (runF_z41 n (.start t1)) >>= fun t2 =>
   uz6 n (.p116 (IntKind.wrap .i64 (sum3 + t2.1.1)) s7 s8 (IntKind.wrap .i64 (s9 + (1 : Int))))
  else
   some ((sum3, ()), ())
def us3 : Nat → vE3 → Option ((Int × Unit) × Unit)
 | 0, _ => none
 | n + 1, .start x0 =>
  x0 >>= fun t1 =>
  us3 n (.p116 (0 : Int) t1.constructors (List.length (Option.getD t1.constructors []) : Int) (0 : Int))
 | n + 1, .p116 most3 s9 s10 s11 =>
  if (decide (s11 < s10)) = true then
   (idx (Option.getD s9 []) s11) >>= fun t1 =>
   (uz6 n (.start t1.name t1.fields t1.parts)) >>= fun t2 =>
   us3 n (.p116 (if t2.1.1 > most3 then t2.1.1 else most3) s9 s10 (IntKind.wrap .i64 (s11 + (1 : Int))))
  else
   some ((most3, ()), ())
def runF_z41 : Nat → vE2 → Option ((Int × Unit) × Unit)
 | 0, _ => none
 | n + 1, .start x0 =>
  (uv4 n (.start x0)) >>= fun t1 =>
  if t1.1.1 = true then
   x0 >>= fun t2 =>
   some ((t2.bits, ()), ())
  else
   (vc7 n (.start x0)) >>= fun t3 =>
   (us3 n (.start x0)) >>= fun t4 =>
   some ((IntKind.wrap .i64 (t3.1.1 + t4.1.1), ()), ())
end
theorem uC6 : ∀ (n : Nat), (∀ p : vE1, OLe (uz6 n p) (um6 p)) ∧ (∀ p : vE3, OLe (us3 n p) (run_z42 p)) ∧ (∀ p : vE2, OLe (runF_z41 n p) (run_z41 p)) := by
  intro n
  induction n with
  | zero => exact ⟨(fun p r h => by cases h), (fun p r h => by cases h), (fun p r h => by cases h)⟩
  | succ n ih =>
    refine ⟨?_, ?_, ?_⟩
    · intro p
      cases p <;> rw [um6, uz6] <;> repeat' with_reducible first | refine OLe.bind ?_ (fun _ => ?_) | refine OLe.ite ?_ ?_ | exact uf6 n _ | exact uH9 n _ | exact ih.1 _ | exact ih.2.1 _ | exact ih.2.2 _ | exact OLe.refl _
    · intro p
      cases p <;> rw [run_z42, us3] <;> repeat' with_reducible first | refine OLe.bind ?_ (fun _ => ?_) | refine OLe.ite ?_ ?_ | exact uf6 n _ | exact uH9 n _ | exact ih.1 _ | exact ih.2.1 _ | exact ih.2.2 _ | exact OLe.refl _
    · intro p
      cases p <;> rw [run_z41, runF_z41] <;> repeat' with_reducible first | refine OLe.bind ?_ (fun _ => ?_) | refine OLe.ite ?_ ?_ | exact uf6 n _ | exact uH9 n _ | exact ih.1 _ | exact ih.2.1 _ | exact ih.2.2 _ | exact OLe.refl _
theorem vq3 (n : Nat) : ∀ (p : vE1), OLe (uz6 n p) (um6 p) := (uC6 n).1
theorem u05 (n : Nat) : ∀ (p : vE3), OLe (us3 n p) (run_z42 p) := (uC6 n).2.1
theorem ut7 (n : Nat) : ∀ (p : vE2), OLe (runF_z41 n p) (run_z41 p) := (uC6 n).2.2
def uE7 : Nat → vR3 → Option (((Option ua5) × (((List ua2) × (Unit × Unit)) × (Int × Unit))) × Unit)
 | 0, _ => none
 | n + 1, .start l0 t1_0 t1_1 t1_2 t1_3 =>
  (vc5 n (.start l0)) >>= fun t1 =>
  if (t1.1.2.1 != (0 : Int)) = true then
   some ((none, ((l0, ((), ())), (t1.1.2.1, ()))), ())
  else
   (uV1 n (.start l0 ([]) t1_0 t1_1 t1_2 t1_3)) >>= fun t2 =>
   if (t2.1.1 != (0 : Int)) = true then
    some ((none, ((l0, ((), ())), (t2.1.1, ()))), ())
   else
    (up8 n (.start l0 ([]) t1_0 t1_1 t1_2 t1_3 (1 : Int) (0 : Int))) >>= fun t3 =>
    if (t3.1.2.1 == (0 : Int)) = true then
     (runF_z41 n (.start t3.1.1)) >>= fun t4 =>
     (uj5 n (.start t4.1.1 (1 : Int) (16 : Int))) >>= fun t5 =>
     if (!t5.1.1) = true then
      some ((t3.1.1, ((l0, ((), ())), ((25 : Int), ()))), ())
     else
      some ((t3.1.1, ((l0, ((), ())), (t3.1.2.1, ()))), ())
    else
     some ((t3.1.1, ((l0, ((), ())), (t3.1.2.1, ()))), ())
theorem uz7 : ∀ (n : Nat) (p : vR3), OLe (uE7 n p) (uA3 p) := by
 intro n
 induction n with
 | zero => exact fun p r h => by cases h
 | succ n ih =>
  intro p
  cases p <;> rw [uA3, uE7] <;> repeat' with_reducible first | refine OLe.bind ?_ (fun _ => ?_) | refine OLe.ite ?_ ?_ | exact ue7 n _ | exact u03 n _ | exact vp7 n _ | exact vq0 n _ | exact ut7 n _ | exact ih _ | exact OLe.refl _
def vc9 : Nat → vR4 → Option ((Int × (Int × Unit)) × Unit)
 | 0, _ => none
 | n + 1, .start l0 t1_0 t1_1 t1_2 t1_3 =>
  (uE7 n (.start l0 t1_0 t1_1 t1_2 t1_3)) >>= fun t1 =>
  if (t1.1.2.2.1 != (0 : Int)) = true then
   some (((0 : Int), (t1.1.2.2.1, ())), ())
  else
   (runF_z41 n (.start t1.1.1)) >>= fun t2 =>
   some ((t2.1.1, ((0 : Int), ())), ())
theorem vq4 : ∀ (n : Nat) (p : vR4), OLe (vc9 n p) (ve0 p) := by
 intro n
 induction n with
 | zero => exact fun p r h => by cases h
 | succ n ih =>
  intro p
  cases p <;> rw [ve0, vc9] <;> repeat' with_reducible first | refine OLe.bind ?_ (fun _ => ?_) | refine OLe.ite ?_ ?_ | exact ut7 n _ | exact uz7 n _ | exact ih _ | exact OLe.refl _
def us4 : Nat → vR5 → Option (((ByteArray × (Int × ((List ua4) × Unit))) × Unit) × Unit)
 | 0, _ => none
 | n + 1, .start name0 parts1 =>
  some (((name0, ((0 : Int), (parts1, ()))), ()), ())
theorem vq5 : ∀ (n : Nat) (p : vR5), OLe (us4 n p) (uw1 p) := by
 intro n
 induction n with
 | zero => exact fun p r h => by cases h
 | succ n ih =>
  intro p
  cases p <;> rw [uw1, us4] <;> repeat' with_reducible first | refine OLe.bind ?_ (fun _ => ?_) | refine OLe.ite ?_ ?_ | exact ih _ | exact OLe.refl _
def vd0 : Nat → vR6 → Option (((List ua4) × Unit) × Unit)
 | 0, _ => none
 | n + 1, .start v0_0 v0_1 v0_2 =>
  some ((v0_2, ()), ())
theorem vq6 : ∀ (n : Nat) (p : vR6), OLe (vd0 n p) (u16 p) := by
 intro n
 induction n with
 | zero => exact fun p r h => by cases h
 | succ n ih =>
  intro p
  cases p <;> rw [u16, vd0] <;> repeat' with_reducible first | refine OLe.bind ?_ (fun _ => ?_) | refine OLe.ite ?_ ?_ | exact ih _ | exact OLe.refl _
def uz8 : Nat → vR7 → Option ((Bool × Unit) × ((Int × Unit) × ((Unit × Unit) × (((Unit × (Unit × (Unit × Unit))) × Unit) × Unit))))
 | 0, _ => none
 | n + 1, .start x0_0 x0_1 x0_2 depth1 B0 =>
  if (decide ((IntKind.wrap .i64 (B0 + (1 : Int))) > (200 : Int))) = true then
   some ((false, ()), ((IntKind.wrap .i64 (B0 + (1 : Int)), ()), (((), ()), ((((), ((), ((), ()))), ()), ()))))
  else
   if (decide (depth1 > (40 : Int))) = true then
    some ((false, ()), ((IntKind.wrap .i64 (B0 + (1 : Int)), ()), (((), ()), ((((), ((), ((), ()))), ()), ()))))
   else
    uz8 n (.p15 depth1 (IntKind.wrap .i64 (B0 + (1 : Int))) x0_0 x0_1 x0_2)
 | n + 1, .p15 depth1 B0 H0 H1 H2 =>
  (vd0 n (.start H0 H1 H2)) >>= fun t1 =>
  uz8 n (.p244 depth1 t1.1.1 (List.length t1.1.1 : Int) (0 : Int) B0)
 | n + 1, .p244 depth1 s20 s21 s22 B0 =>
  if (decide (s22 < s21)) = true then
   (idx s20 s22) >>= fun t1 =>
   (uz8 n (.start t1.Name t1.Number t1.Parts (IntKind.wrap .i64 (depth1 + (1 : Int))) B0)) >>= fun t2 =>
   if (!t2.1.1) = true then
    some ((false, ()), ((t2.2.1.1, ()), (((), ()), ((((), ((), ((), ()))), ()), ()))))
   else
    uz8 n (.p244 depth1 s20 s21 (IntKind.wrap .i64 (s22 + (1 : Int))) t2.2.1.1)
  else
   some ((true, ()), ((B0, ()), (((), ()), ((((), ((), ((), ()))), ()), ()))))
theorem vq7 : ∀ (n : Nat) (p : vR7), OLe (uz8 n p) (ul5 p) := by
 intro n
 induction n with
 | zero => exact fun p r h => by cases h
 | succ n ih =>
  intro p
  cases p <;> rw [ul5, uz8] <;> repeat' with_reducible first | refine OLe.bind ?_ (fun _ => ?_) | refine OLe.ite ?_ ?_ | exact vq6 n _ | exact ih _ | exact OLe.refl _
def uV2 : Nat → vR8 → Option ((Int × Unit) × Unit)
 | 0, _ => none
 | n + 1, .start root0_0 root0_1 root0_2 =>
  (uz8 n (.start root0_0 root0_1 root0_2 (1 : Int) (0 : Int))) >>= fun t1 =>
  (ub6 n (.start t1.1.1 (8 : Int))) >>= fun t2 =>
  some ((t2.1.1, ()), ())
theorem u06 : ∀ (n : Nat) (p : vR8), OLe (uV2 n p) (uI3 p) := by
 intro n
 induction n with
 | zero => exact fun p r h => by cases h
 | succ n ih =>
  intro p
  cases p <;> rw [uI3, uV2] <;> repeat' with_reducible first | refine OLe.bind ?_ (fun _ => ?_) | refine OLe.ite ?_ ?_ | exact ug4 n _ | exact vq7 n _ | exact ih _ | exact OLe.refl _
def vd1 : Nat → vR9 → Option ((Bool × Unit) × Unit)
 | 0, _ => none
 | n + 1, .start v0_0 v0_1 v0_2 s1 =>
  some ((seq v0_0 s1, ()), ())
theorem vq8 : ∀ (n : Nat) (p : vR9), OLe (vd1 n p) (u17 p) := by
 intro n
 induction n with
 | zero => exact fun p r h => by cases h
 | succ n ih =>
  intro p
  cases p <;> rw [u17, vd1] <;> repeat' with_reducible first | refine OLe.bind ?_ (fun _ => ?_) | refine OLe.ite ?_ ?_ | exact ih _ | exact OLe.refl _
def uM5 : Nat → vS0 → Option ((Int × Unit) × ((ByteArray × Unit) × Unit))
 | 0, _ => none
 | n + 1, .start s0 B0 =>
  uM5 n (.p52 s0 (List.length (Option.getD s0 []) : Int) (0 : Int) B0)
 | n + 1, .p52 s0 s7 s8 B0 =>
  if (decide (s8 < s7)) = true then
   (idx (Option.getD s0 []) s8) >>= fun t1 =>
   (vd1 n (.start t1.name t1.fields t1.parts B0)) >>= fun t2 =>
   if t2.1.1 = true then
    some ((s8, ()), ((B0, ()), ()))
   else
    uM5 n (.p52 s0 s7 (IntKind.wrap .i64 (s8 + (1 : Int))) B0)
  else
   some (((-1 : Int), ()), ((B0, ()), ()))
theorem vq9 : ∀ (n : Nat) (p : vS0), OLe (uM5 n p) (up3 p) := by
 intro n
 induction n with
 | zero => exact fun p r h => by cases h
 | succ n ih =>
  intro p
  cases p <;> rw [up3, uM5] <;> repeat' with_reducible first | refine OLe.bind ?_ (fun _ => ?_) | refine OLe.ite ?_ ?_ | exact vq8 n _ | exact ih _ | exact OLe.refl _
def uV3 : Nat → vS1 → Option ((Int × Unit) × Unit)
 | 0, _ => none
 | n + 1, .start x0 name1 =>
  x0 >>= fun t1 =>
  (uM5 n (.start t1.constructors name1)) >>= fun t2 =>
  some ((t2.1.1, ()), ())
theorem uz9 : ∀ (n : Nat) (p : vS1), OLe (uV3 n p) (uI4 p) := by
 intro n
 induction n with
 | zero => exact fun p r h => by cases h
 | succ n ih =>
  intro p
  cases p <;> rw [uI4, uV3] <;> repeat' with_reducible first | refine OLe.bind ?_ (fun _ => ?_) | refine OLe.ite ?_ ?_ | exact vq9 n _ | exact ih _ | exact OLe.refl _
mutual
def vd2 : Nat → vS2 → Option ((Int × Unit) × ((ByteArray × ((List ua6) × ((Option (List (Option ua5))) × Unit))) × Unit))
 | 0, _ => none
 | n + 1, .start i0 part1_0 part1_1 part1_2 C0 C1 C2 =>
  (idx (Option.getD C2 []) i0) >>= fun t1 =>
  (runF_z53 n (.start t1 part1_0 part1_1 part1_2)) >>= fun t2 =>
  some ((t2.1.1, ()), ((C0, (C1, (C2, ()))), ()))
def uM6 : Nat → vS3 → Option ((Int × (Int × Unit)) × ((ByteArray × ((List ua6) × ((Option (List (Option ua5))) × Unit))) × Unit))
 | 0, _ => none
 | n + 1, .start l0 C0 C1 C2 =>
  uM6 n (.p52 l0 (List.length l0 : Int) (0 : Int) C0 C1 C2)
 | n + 1, .p52 s9 s10 s11 C0 C1 C2 =>
  if (decide (s11 < s10)) = true then
   (idx s9 s11) >>= fun t1 =>
   (vd2 n (.start s11 t1.Name t1.Number t1.Parts C0 C1 C2)) >>= fun t2 =>
   if (t2.1.1 != (0 : Int)) = true then
    some ((s11, (t2.1.1, ())), ((t2.2.1.1, (t2.2.1.2.1, (t2.2.1.2.2.1, ()))), ()))
   else
    uM6 n (.p52 s9 s10 (IntKind.wrap .i64 (s11 + (1 : Int))) t2.2.1.1 t2.2.1.2.1 t2.2.1.2.2.1)
  else
   some (((0 : Int), ((0 : Int), ())), ((C0, (C1, (C2, ()))), ()))
def runF_z53 : Nat → vE4 → Option ((Int × Unit) × Unit)
 | 0, _ => none
 | n + 1, .start x0 v1_0 v1_1 v1_2 =>
  (uv4 n (.start x0)) >>= fun t1 =>
  if t1.1.1 = true then
   if (seq v1_0 (⟨#[]⟩ : ByteArray)) = true then
    (ub6 n (.start ((List.length v1_2 : Int) == (0 : Int)) (3 : Int))) >>= fun t2 =>
    x0 >>= fun t3 =>
    if (decide ((0 : Int) ≤ t3.bits)) = true then
     (uj5 n (.start v1_1 (0 : Int) (IntKind.wrap .i64 ((shl .i64 (1 : Int) t3.bits) - (1 : Int))))) >>= fun t4 =>
     (ub6 n (.start t4.1.1 (2 : Int))) >>= fun t5 =>
     (ud8 n (.start ([t2.1.1, t5.1.1] : List Int))) >>= fun t6 =>
     some ((t6.1.1, ()), ())
    else none
   else
    (ub6 n (.start false (3 : Int))) >>= fun t7 =>
    x0 >>= fun t8 =>
    if (decide ((0 : Int) ≤ t8.bits)) = true then
     (uj5 n (.start v1_1 (0 : Int) (IntKind.wrap .i64 ((shl .i64 (1 : Int) t8.bits) - (1 : Int))))) >>= fun t9 =>
     (ub6 n (.start t9.1.1 (2 : Int))) >>= fun t10 =>
     (ud8 n (.start ([t7.1.1, t10.1.1] : List Int))) >>= fun t11 =>
     some ((t11.1.1, ()), ())
    else none
  else
   (uV3 n (.start x0 v1_0)) >>= fun t12 =>
   if (decide (t12.1.1 < (0 : Int))) = true then
    some (((6 : Int), ()), ())
   else
    x0 >>= fun t13 =>
    (idx (Option.getD t13.constructors []) t12.1.1) >>= fun t14 =>
    (ub6 n (.start (v1_1 == (0 : Int)) (3 : Int))) >>= fun t15 =>
    (ub6 n (.start ((List.length v1_2 : Int) == (List.length (Option.getD t14.parts []) : Int)) (10 : Int))) >>= fun t16 =>
    (ud8 n (.start ([t15.1.1, t16.1.1] : List Int))) >>= fun t17 =>
    if (t17.1.1 != (0 : Int)) = true then
     some ((t17.1.1, ()), ())
    else
     (uM6 n (.start v1_2 t14.name t14.fields t14.parts)) >>= fun t18 =>
     some ((t18.1.2.1, ()), ())
end
theorem vk1 : ∀ (n : Nat), (∀ p : vS2, OLe (vd2 n p) (uR4 p)) ∧ (∀ p : vS3, OLe (uM6 n p) (run_z54 p)) ∧ (∀ p : vE4, OLe (runF_z53 n p) (run_z53 p)) := by
  intro n
  induction n with
  | zero => exact ⟨(fun p r h => by cases h), (fun p r h => by cases h), (fun p r h => by cases h)⟩
  | succ n ih =>
    refine ⟨?_, ?_, ?_⟩
    · intro p
      cases p <;> rw [uR4, vd2] <;> repeat' with_reducible first | refine OLe.bind ?_ (fun _ => ?_) | refine OLe.ite ?_ ?_ | exact ue7 n _ | exact ug4 n _ | exact uf5 n _ | exact uf6 n _ | exact uz9 n _ | exact ih.1 _ | exact ih.2.1 _ | exact ih.2.2 _ | exact OLe.refl _
    · intro p
      cases p <;> rw [run_z54, uM6] <;> repeat' with_reducible first | refine OLe.bind ?_ (fun _ => ?_) | refine OLe.ite ?_ ?_ | exact ue7 n _ | exact ug4 n _ | exact uf5 n _ | exact uf6 n _ | exact uz9 n _ | exact ih.1 _ | exact ih.2.1 _ | exact ih.2.2 _ | exact OLe.refl _
    · intro p
      cases p <;> rw [run_z53, runF_z53] <;> repeat' with_reducible first | refine OLe.bind ?_ (fun _ => ?_) | refine OLe.ite ?_ ?_ | exact ue7 n _ | exact ug4 n _ | exact uf5 n _ | exact uf6 n _ | exact uz9 n _ | exact ih.1 _ | exact ih.2.1 _ | exact ih.2.2 _ | exact OLe.refl _
theorem vr0 (n : Nat) : ∀ (p : vE4), OLe (runF_z53 n p) (run_z53 p) := (vk1 n).2.2
def uM7 : Nat → vS4 → Option (((Option ua5) × (Int × Unit)) × Unit)
 | 0, _ => none
 | n + 1, .start l0 t1_0 t1_1 t1_2 t1_3 v2_0 v2_1 v2_2 =>
  (uE7 n (.start l0 t1_0 t1_1 t1_2 t1_3)) >>= fun t1 =>
  if (t1.1.2.2.1 == (0 : Int)) = true then
   (uV2 n (.start v2_0 v2_1 v2_2)) >>= fun t2 =>
   uM7 n (.p15 t1.1.1 t2.1.1 v2_0 v2_1 v2_2)
  else
   uM7 n (.p15 t1.1.1 t1.1.2.2.1 v2_0 v2_1 v2_2)
 | n + 1, .p15 x8 e10 C0 C1 C2 =>
  if (e10 == (0 : Int)) = true then
   (runF_z53 n (.start x8 C0 C1 C2)) >>= fun t1 =>
   some ((x8, (t1.1.1, ())), ())
  else
   some ((x8, (e10, ())), ())
theorem vr1 : ∀ (n : Nat) (p : vS4), OLe (uM7 n p) (un9 p) := by
 intro n
 induction n with
 | zero => exact fun p r h => by cases h
 | succ n ih =>
  intro p
  cases p <;> rw [un9, uM7] <;> repeat' with_reducible first | refine OLe.bind ?_ (fun _ => ?_) | refine OLe.ite ?_ ?_ | exact uz7 n _ | exact u06 n _ | exact vr0 n _ | exact ih _ | exact OLe.refl _
def uE8 : Nat → vS5 → Option ((Int × Unit) × Unit)
 | 0, _ => none
 | n + 1, .start x0 v1_0 v1_1 v1_2 =>
  (uv4 n (.start x0)) >>= fun t1 =>
  if t1.1.1 = true then
   some ((v1_1, ()), ())
  else
   (uV3 n (.start x0 v1_0)) >>= fun t2 =>
   x0 >>= fun t3 =>
   (idx (Option.getD t3.constructors []) t2.1.1) >>= fun t4 =>
   uE8 n (.p500 x0 t2.1.1 (0 : Int) t4.parts (List.length (Option.getD t4.parts []) : Int) (0 : Int) v1_0 v1_1 v1_2)
 | n + 1, .p500 x0 tag5 fields6 s24 s25 s26 C0 C1 C2 =>
  if (decide (s26 < s25)) = true then
   (idx (Option.getD s24 []) s26) >>= fun t1 =>
   (runF_z41 n (.start t1)) >>= fun t2 =>
   if (decide ((0 : Int) ≤ t2.1.1)) = true then
    (idx C2 s26) >>= fun t3 =>
    (uE8 n (.start t1 t3.Name t3.Number t3.Parts)) >>= fun t4 =>
    uE8 n (.p500 x0 tag5 (bits .or .i64 (shl .i64 fields6 t2.1.1) t4.1.1) s24 s25 (IntKind.wrap .i64 (s26 + (1 : Int))) C0 C1 C2)
   else none
  else
   (us3 n (.start x0)) >>= fun t5 =>
   if (decide ((0 : Int) ≤ t5.1.1)) = true then
    some ((bits .or .i64 (shl .i64 tag5 t5.1.1) fields6, ()), ())
   else none
theorem vr2 : ∀ (n : Nat) (p : vS5), OLe (uE8 n p) (um7 p) := by
 intro n
 induction n with
 | zero => exact fun p r h => by cases h
 | succ n ih =>
  intro p
  cases p <;> rw [um7, uE8] <;> repeat' with_reducible first | refine OLe.bind ?_ (fun _ => ?_) | refine OLe.ite ?_ ?_ | exact uf6 n _ | exact u05 n _ | exact ut7 n _ | exact uz9 n _ | exact ih _ | exact OLe.refl _
def vd3 : Nat → vS6 → Option ((Int × (Int × Unit)) × Unit)
 | 0, _ => none
 | n + 1, .start l0 t1_0 t1_1 t1_2 t1_3 v2_0 v2_1 v2_2 =>
  (uM7 n (.start l0 t1_0 t1_1 t1_2 t1_3 v2_0 v2_1 v2_2)) >>= fun t1 =>
  if (t1.1.2.1 != (0 : Int)) = true then
   some (((0 : Int), (t1.1.2.1, ())), ())
  else
   (uE8 n (.start t1.1.1 v2_0 v2_1 v2_2)) >>= fun t2 =>
   some ((t2.1.1, ((0 : Int), ())), ())
theorem vr3 : ∀ (n : Nat) (p : vS6), OLe (vd3 n p) (uI5 p) := by
 intro n
 induction n with
 | zero => exact fun p r h => by cases h
 | succ n ih =>
  intro p
  cases p <;> rw [uI5, vd3] <;> repeat' with_reducible first | refine OLe.bind ?_ (fun _ => ?_) | refine OLe.ite ?_ ?_ | exact vr1 n _ | exact vr2 n _ | exact ih _ | exact OLe.refl _
def uE9 : Nat → vS7 → Option (((ByteArray × (Int × ((List ua4) × Unit))) × (Bool × Unit)) × Unit)
 | 0, _ => none
 | n + 1, .start x0 n1 =>
  (uv4 n (.start x0)) >>= fun t1 =>
  if t1.1.1 = true then
   some ((((⟨#[]⟩ : ByteArray), (n1, ([], ()))), (true, ())), ())
  else
   (us3 n (.start x0)) >>= fun t2 =>
   if (decide ((0 : Int) ≤ t2.1.1)) = true then
    (us3 n (.start x0)) >>= fun t3 =>
    if (decide ((0 : Int) ≤ t3.1.1)) = true then
     x0 >>= fun t4 =>
     if (decide ((shr .i64 n1 t2.1.1) ≥ (List.length (Option.getD t4.constructors []) : Int))) = true then
      some ((((⟨#[]⟩ : ByteArray), ((0 : Int), ([], ()))), (false, ())), ())
     else
      x0 >>= fun t5 =>
      (idx (Option.getD t5.constructors []) (shr .i64 n1 t2.1.1)) >>= fun t6 =>
      (uz6 n (.start t6.name t6.fields t6.parts)) >>= fun t7 =>
      if (decide ((0 : Int) ≤ t7.1.1)) = true then
       if ((shr .i64 (bits .and .i64 n1 (IntKind.wrap .i64 ((shl .i64 (1 : Int) t3.1.1) - (1 : Int)))) t7.1.1) != (0 : Int)) = true then
        some ((((⟨#[]⟩ : ByteArray), ((0 : Int), ([], ()))), (false, ())), ())
       else
        uE9 n (.p8180 (bits .and .i64 n1 (IntKind.wrap .i64 ((shl .i64 (1 : Int) t3.1.1) - (1 : Int)))) t7.1.1 t6.parts (List.length (Option.getD t6.parts []) : Int) (0 : Int) t6.name (0 : Int) ([] : List ua4))
      else none
    else none
   else none
 | n + 1, .p8180 fields7 low9 s54 s55 s56 C0 C1 B1 =>
  if (decide (s56 < s55)) = true then
   (idx (Option.getD s54 []) s56) >>= fun t1 =>
   (runF_z41 n (.start t1)) >>= fun t2 =>
   if (decide ((0 : Int) ≤ (IntKind.wrap .i64 (low9 - t2.1.1)))) = true then
    (runF_z41 n (.start t1)) >>= fun t3 =>
    if (decide ((0 : Int) ≤ t3.1.1)) = true then
     (uE9 n (.start t1 (bits .and .i64 (shr .i64 fields7 (IntKind.wrap .i64 (low9 - t2.1.1))) (IntKind.wrap .i64 ((shl .i64 (1 : Int) t3.1.1) - (1 : Int)))))) >>= fun t4 =>
     if (!t4.1.2.1) = true then
      some (((C0, (C1, (B1, ()))), (false, ())), ())
     else
      if (fits (List.length B1) (List.length ([(⟨t4.1.1.1, t4.1.1.2.1, t4.1.1.2.2.1⟩ : ua4)] : List ua4)) 48) = true then
       uE9 n (.p8180 fields7 (IntKind.wrap .i64 (low9 - t2.1.1)) s54 s55 (IntKind.wrap .i64 (s56 + (1 : Int))) C0 C1 (B1 ++ ([(⟨t4.1.1.1, t4.1.1.2.1, t4.1.1.2.2.1⟩ : ua4)] : List ua4)))
      else none
    else none
   else none
  else
   some (((C0, (C1, (B1, ()))), (true, ())), ())
theorem vr4 : ∀ (n : Nat) (p : vS7), OLe (uE9 n p) (um8 p) := by
 intro n
 induction n with
 | zero => exact fun p r h => by cases h
 | succ n ih =>
  intro p
  cases p <;> rw [um8, uE9] <;> repeat' with_reducible first | refine OLe.bind ?_ (fun _ => ?_) | refine OLe.ite ?_ ?_ | exact uf6 n _ | exact vq3 n _ | exact u05 n _ | exact ut7 n _ | exact ih _ | exact OLe.refl _
def vd4 : Nat → vS8 → Option (((ByteArray × (Int × ((List ua4) × Unit))) × (Int × Unit)) × Unit)
 | 0, _ => none
 | n + 1, .start l0 t1_0 t1_1 t1_2 t1_3 bits2 =>
  (uE7 n (.start l0 t1_0 t1_1 t1_2 t1_3)) >>= fun t1 =>
  (ud8 n (.start ([t1.1.2.2.1] : List Int))) >>= fun t2 =>
  if (t2.1.1 != (0 : Int)) = true then
   some ((((⟨#[]⟩ : ByteArray), ((0 : Int), ([], ()))), (t2.1.1, ())), ())
  else
   (runF_z41 n (.start t1.1.1)) >>= fun t3 =>
   if (decide ((0 : Int) ≤ t3.1.1)) = true then
    (uj5 n (.start bits2 (0 : Int) (IntKind.wrap .i64 ((shl .i64 (1 : Int) t3.1.1) - (1 : Int))))) >>= fun t4 =>
    if (!t4.1.1) = true then
     some ((((⟨#[]⟩ : ByteArray), ((0 : Int), ([], ()))), ((2 : Int), ())), ())
    else
     (uE9 n (.start t1.1.1 bits2)) >>= fun t5 =>
     if (!t5.1.2.1) = true then
      some ((((⟨#[]⟩ : ByteArray), ((0 : Int), ([], ()))), ((3 : Int), ())), ())
     else
      some (((t5.1.1.1, (t5.1.1.2.1, (t5.1.1.2.2.1, ()))), ((0 : Int), ())), ())
   else none
theorem vr5 : ∀ (n : Nat) (p : vS8), OLe (vd4 n p) (uC8 p) := by
 intro n
 induction n with
 | zero => exact fun p r h => by cases h
 | succ n ih =>
  intro p
  cases p <;> rw [uC8, vd4] <;> repeat' with_reducible first | refine OLe.bind ?_ (fun _ => ?_) | refine OLe.ite ?_ ?_ | exact ue7 n _ | exact uf5 n _ | exact ut7 n _ | exact uz7 n _ | exact vr4 n _ | exact ih _ | exact OLe.refl _
mutual
def uA0 : Nat → vE5 → Option ((Int × Unit) × Unit)
 | 0, _ => none
 | n + 1, .start v0_0 v0_1 v0_2 =>
  uA0 n (.p116 (1 : Int) v0_2 (List.length (Option.getD v0_2 []) : Int) (0 : Int))
 | n + 1, .p116 n3 s7 s8 s9 =>
  if (decide (s9 < s8)) = true then
   (idx (Option.getD s7 []) s9) >>= fun t1 =>
   (runF_z61 n (.start t1)) >>= fun t2 =>
   uA0 n (.p116 (IntKind.wrap .i64 (n3 * t2.1.1)) s7 s8 (IntKind.wrap .i64 (s9 + (1 : Int))))
  else
   some ((n3, ()), ())
def runF_z61 : Nat → vE6 → Option ((Int × Unit) × Unit)
 | 0, _ => none
 | n + 1, .start x0 =>
  (uv4 n (.start x0)) >>= fun t1 =>
  if t1.1.1 = true then
   x0 >>= fun t2 =>
   if (decide ((0 : Int) ≤ t2.bits)) = true then
    some ((shl .i64 (1 : Int) t2.bits, ()), ())
   else none
  else
   x0 >>= fun t3 =>
   runF_z61 n (.p244 (0 : Int) t3.constructors (List.length (Option.getD t3.constructors []) : Int) (0 : Int))
 | n + 1, .p244 sum3 s16 s17 s18 =>
  if (decide (s18 < s17)) = true then
   (idx (Option.getD s16 []) s18) >>= fun t1 =>
   (uA0 n (.start t1.name t1.fields t1.parts)) >>= fun t2 =>
   runF_z61 n (.p244 (IntKind.wrap .i64 (sum3 + t2.1.1)) s16 s17 (IntKind.wrap .i64 (s18 + (1 : Int))))
  else
   some ((sum3, ()), ())
end
theorem uS9 : ∀ (n : Nat), (∀ p : vE5, OLe (uA0 n p) (ul6 p)) ∧ (∀ p : vE6, OLe (runF_z61 n p) (run_z61 p)) := by
  intro n
  induction n with
  | zero => exact ⟨(fun p r h => by cases h), (fun p r h => by cases h)⟩
  | succ n ih =>
    refine ⟨?_, ?_⟩
    · intro p
      cases p <;> rw [ul6, uA0] <;> repeat' with_reducible first | refine OLe.bind ?_ (fun _ => ?_) | refine OLe.ite ?_ ?_ | exact uf6 n _ | exact ih.1 _ | exact ih.2 _ | exact OLe.refl _
    · intro p
      cases p <;> rw [run_z61, runF_z61] <;> repeat' with_reducible first | refine OLe.bind ?_ (fun _ => ?_) | refine OLe.ite ?_ ?_ | exact uf6 n _ | exact ih.1 _ | exact ih.2 _ | exact OLe.refl _
theorem vr6 (n : Nat) : ∀ (p : vE5), OLe (uA0 n p) (ul6 p) := (uS9 n).1
theorem u07 (n : Nat) : ∀ (p : vE6), OLe (runF_z61 n p) (run_z61 p) := (uS9 n).2
def uv5 : Nat → vS9 → Option (((ByteArray × (Int × ((List ua4) × Unit))) × Unit) × Unit)
 | 0, _ => none
 | n + 1, .start x0 index1 =>
  (uv4 n (.start x0)) >>= fun t1 =>
  if t1.1.1 = true then
   some ((((⟨#[]⟩ : ByteArray), (index1, ([], ()))), ()), ())
  else
   x0 >>= fun t2 =>
   uv5 n (.p116 index1 t2.constructors (List.length (Option.getD t2.constructors []) : Int) (0 : Int) (⟨#[]⟩ : ByteArray) (0 : Int))
 | n + 1, .p116 index1 s18 s19 s20 C0 C1 =>
  if (decide (s20 < s19)) = true then
   (idx (Option.getD s18 []) s20) >>= fun t1 =>
   (uA0 n (.start t1.name t1.fields t1.parts)) >>= fun t2 =>
   if (decide (index1 ≥ t2.1.1)) = true then
    uv5 n (.p116 (IntKind.wrap .i64 (index1 - t2.1.1)) s18 s19 (IntKind.wrap .i64 (s20 + (1 : Int))) C0 C1)
   else
    uv5 n (.p478452 index1 t2.1.1 t1.parts (List.length (Option.getD t1.parts []) : Int) (0 : Int) C0 C1 t1.name (0 : Int) ([] : List ua4))
  else
   some ((((⟨#[]⟩ : ByteArray), ((0 : Int), ([], ()))), ()), ())
 | n + 1, .p478452 index1 n7 s36 s37 s38 C0 C1 D0 D1 B2 =>
  if (decide (s38 < s37)) = true then
   (idx (Option.getD s36 []) s38) >>= fun t1 =>
   (runF_z61 n (.start t1)) >>= fun t2 =>
   if (!(t2.1.1 == (0 : Int))) = true then
    if (!((IntKind.wrap .i64 (Int.tdiv n7 t2.1.1)) == (0 : Int))) = true then
     (uv5 n (.start t1 (IntKind.wrap .i64 (Int.tdiv index1 (IntKind.wrap .i64 (Int.tdiv n7 t2.1.1)))))) >>= fun t3 =>
     if (fits (List.length B2) (List.length ([(⟨t3.1.1.1, t3.1.1.2.1, t3.1.1.2.2.1⟩ : ua4)] : List ua4)) 48) = true then
      if (!((IntKind.wrap .i64 (Int.tdiv n7 t2.1.1)) == (0 : Int))) = true then
       uv5 n (.p478452 (Int.tmod index1 (IntKind.wrap .i64 (Int.tdiv n7 t2.1.1))) (IntKind.wrap .i64 (Int.tdiv n7 t2.1.1)) s36 s37 (IntKind.wrap .i64 (s38 + (1 : Int))) C0 C1 D0 D1 (B2 ++ ([(⟨t3.1.1.1, t3.1.1.2.1, t3.1.1.2.2.1⟩ : ua4)] : List ua4)))
      else none
     else none
    else none
   else none
  else
   some (((D0, (D1, (B2, ()))), ()), ())
theorem vr7 : ∀ (n : Nat) (p : vS9), OLe (uv5 n p) (uh9 p) := by
 intro n
 induction n with
 | zero => exact fun p r h => by cases h
 | succ n ih =>
  intro p
  cases p <;> rw [uh9, uv5] <;> repeat' with_reducible first | refine OLe.bind ?_ (fun _ => ?_) | refine OLe.ite ?_ ?_ | exact uf6 n _ | exact vr6 n _ | exact u07 n _ | exact ih _ | exact OLe.refl _
def vd5 : Nat → vT0 → Option (((ByteArray × (Int × ((List ua4) × Unit))) × (Int × Unit)) × Unit)
 | 0, _ => none
 | n + 1, .start l0 t1_0 t1_1 t1_2 t1_3 index2 =>
  (uE7 n (.start l0 t1_0 t1_1 t1_2 t1_3)) >>= fun t1 =>
  if (t1.1.2.2.1 != (0 : Int)) = true then
   some ((((⟨#[]⟩ : ByteArray), ((0 : Int), ([], ()))), (t1.1.2.2.1, ())), ())
  else
   (runF_z61 n (.start t1.1.1)) >>= fun t2 =>
   (uj5 n (.start index2 (0 : Int) (IntKind.wrap .i64 (t2.1.1 - (1 : Int))))) >>= fun t3 =>
   if (!t3.1.1) = true then
    some ((((⟨#[]⟩ : ByteArray), ((0 : Int), ([], ()))), ((6 : Int), ())), ())
   else
    (uv5 n (.start t1.1.1 index2)) >>= fun t4 =>
    some (((t4.1.1.1, (t4.1.1.2.1, (t4.1.1.2.2.1, ()))), ((0 : Int), ())), ())
theorem vr8 : ∀ (n : Nat) (p : vT0), OLe (vd5 n p) (uI6 p) := by
 intro n
 induction n with
 | zero => exact fun p r h => by cases h
 | succ n ih =>
  intro p
  cases p <;> rw [uI6, vd5] <;> repeat' with_reducible first | refine OLe.bind ?_ (fun _ => ?_) | refine OLe.ite ?_ ?_ | exact ue7 n _ | exact uz7 n _ | exact u07 n _ | exact vr7 n _ | exact ih _ | exact OLe.refl _
mutual
def vd6 : Nat → vT1 → Option ((Int × Unit) × Unit)
 | 0, _ => none
 | n + 1, .start s0 x1_0 x1_1 x1_2 =>
  (runF_z65 n (.start x1_0 x1_1 x1_2)) >>= fun t1 =>
  some ((t1.1.1, ()), ())
def uM8 : Nat → vT2 → Option ((Int × (Int × Unit)) × Unit)
 | 0, _ => none
 | n + 1, .start l0 =>
  uM8 n (.p52 l0 (List.length l0 : Int) (0 : Int))
 | n + 1, .p52 s9 s10 s11 =>
  if (decide (s11 < s10)) = true then
   (idx s9 s11) >>= fun t1 =>
   (vd6 n (.start s11 t1.Name t1.Number t1.Parts)) >>= fun t2 =>
   if (t2.1.1 != (0 : Int)) = true then
    some ((s11, (t2.1.1, ())), ())
   else
    uM8 n (.p52 s9 s10 (IntKind.wrap .i64 (s11 + (1 : Int))))
  else
   some (((0 : Int), ((0 : Int), ())), ())
def runF_z65 : Nat → vE7 → Option ((Int × Unit) × Unit)
 | 0, _ => none
 | n + 1, .start v0_0 v0_1 v0_2 =>
  if (!(seq v0_0 (⟨#[]⟩ : ByteArray))) = true then
   (ub6 n (.start true (3 : Int))) >>= fun t1 =>
   if (seq v0_0 (⟨#[]⟩ : ByteArray)) = true then
    (ub6 n (.start true (3 : Int))) >>= fun t2 =>
    if (seq v0_0 (⟨#[]⟩ : ByteArray)) = true then
     (ub6 n (.start true (4 : Int))) >>= fun t3 =>
     (uj5 n (.start v0_1 (0 : Int) (99999 : Int))) >>= fun t4 =>
     (ub6 n (.start t4.1.1 (2 : Int))) >>= fun t5 =>
     (ud8 n (.start ([t1.1.1, t2.1.1, t3.1.1, t5.1.1] : List Int))) >>= fun t6 =>
     runF_z65 n (.p15 t6.1.1 v0_0 v0_1 v0_2)
    else
     (ul2 n (.start v0_0)) >>= fun t7 =>
     (ub6 n (.start t7.1.1 (4 : Int))) >>= fun t8 =>
     (uj5 n (.start v0_1 (0 : Int) (99999 : Int))) >>= fun t9 =>
     (ub6 n (.start t9.1.1 (2 : Int))) >>= fun t10 =>
     (ud8 n (.start ([t1.1.1, t2.1.1, t8.1.1, t10.1.1] : List Int))) >>= fun t11 =>
     runF_z65 n (.p15 t11.1.1 v0_0 v0_1 v0_2)
   else
    (ub6 n (.start (v0_1 == (0 : Int)) (3 : Int))) >>= fun t12 =>
    if (seq v0_0 (⟨#[]⟩ : ByteArray)) = true then
     (ub6 n (.start true (4 : Int))) >>= fun t13 =>
     (uj5 n (.start v0_1 (0 : Int) (99999 : Int))) >>= fun t14 =>
     (ub6 n (.start t14.1.1 (2 : Int))) >>= fun t15 =>
     (ud8 n (.start ([t1.1.1, t12.1.1, t13.1.1, t15.1.1] : List Int))) >>= fun t16 =>
     runF_z65 n (.p15 t16.1.1 v0_0 v0_1 v0_2)
    else
     (ul2 n (.start v0_0)) >>= fun t17 =>
     (ub6 n (.start t17.1.1 (4 : Int))) >>= fun t18 =>
     (uj5 n (.start v0_1 (0 : Int) (99999 : Int))) >>= fun t19 =>
     (ub6 n (.start t19.1.1 (2 : Int))) >>= fun t20 =>
     (ud8 n (.start ([t1.1.1, t12.1.1, t18.1.1, t20.1.1] : List Int))) >>= fun t21 =>
     runF_z65 n (.p15 t21.1.1 v0_0 v0_1 v0_2)
  else
   (ub6 n (.start ((List.length v0_2 : Int) == (0 : Int)) (3 : Int))) >>= fun t22 =>
   if (seq v0_0 (⟨#[]⟩ : ByteArray)) = true then
    (ub6 n (.start true (3 : Int))) >>= fun t23 =>
    if (seq v0_0 (⟨#[]⟩ : ByteArray)) = true then
     (ub6 n (.start true (4 : Int))) >>= fun t24 =>
     (uj5 n (.start v0_1 (0 : Int) (99999 : Int))) >>= fun t25 =>
     (ub6 n (.start t25.1.1 (2 : Int))) >>= fun t26 =>
     (ud8 n (.start ([t22.1.1, t23.1.1, t24.1.1, t26.1.1] : List Int))) >>= fun t27 =>
     runF_z65 n (.p15 t27.1.1 v0_0 v0_1 v0_2)
    else
     (ul2 n (.start v0_0)) >>= fun t28 =>
     (ub6 n (.start t28.1.1 (4 : Int))) >>= fun t29 =>
     (uj5 n (.start v0_1 (0 : Int) (99999 : Int))) >>= fun t30 =>
     (ub6 n (.start t30.1.1 (2 : Int))) >>= fun t31 =>
     (ud8 n (.start ([t22.1.1, t23.1.1, t29.1.1, t31.1.1] : List Int))) >>= fun t32 =>
     runF_z65 n (.p15 t32.1.1 v0_0 v0_1 v0_2)
   else
    (ub6 n (.start (v0_1 == (0 : Int)) (3 : Int))) >>= fun t33 =>
    if (seq v0_0 (⟨#[]⟩ : ByteArray)) = true then
     (ub6 n (.start true (4 : Int))) >>= fun t34 =>
     (uj5 n (.start v0_1 (0 : Int) (99999 : Int))) >>= fun t35 =>
     (ub6 n (.start t35.1.1 (2 : Int))) >>= fun t36 =>
     (ud8 n (.start ([t22.1.1, t33.1.1, t34.1.1, t36.1.1] : List Int))) >>= fun t37 =>
     runF_z65 n (.p15 t37.1.1 v0_0 v0_1 v0_2)
    else
     (ul2 n (.start v0_0)) >>= fun t38 =>
     (ub6 n (.start t38.1.1 (4 : Int))) >>= fun t39 =>
     (uj5 n (.start v0_1 (0 : Int) (99999 : Int))) >>= fun t40 =>
     (ub6 n (.start t40.1.1 (2 : Int))) >>= fun t41 =>
     (ud8 n (.start ([t22.1.1, t33.1.1, t39.1.1, t41.1.1] : List Int))) >>= fun t42 =>
     runF_z65 n (.p15 t42.1.1 v0_0 v0_1 v0_2)
 | n + 1, .p15 e4 C0 C1 C2 =>
  if (e4 != (0 : Int)) = true then
   some ((e4, ()), ())
  else
   (uM8 n (.start C2)) >>= fun t1 =>
   some ((t1.1.2.1, ()), ())
end
theorem vk2 : ∀ (n : Nat), (∀ p : vT1, OLe (vd6 n p) (u18 p)) ∧ (∀ p : vT2, OLe (uM8 n p) (run_z66 p)) ∧ (∀ p : vE7, OLe (runF_z65 n p) (run_z65 p)) := by
  intro n
  induction n with
  | zero => exact ⟨(fun p r h => by cases h), (fun p r h => by cases h), (fun p r h => by cases h)⟩
  | succ n ih =>
    refine ⟨?_, ?_, ?_⟩
    · intro p
      cases p <;> rw [u18, vd6] <;> repeat' with_reducible first | refine OLe.bind ?_ (fun _ => ?_) | refine OLe.ite ?_ ?_ | exact ue7 n _ | exact uF1 n _ | exact ug4 n _ | exact uf5 n _ | exact ih.1 _ | exact ih.2.1 _ | exact ih.2.2 _ | exact OLe.refl _
    · intro p
      cases p <;> rw [run_z66, uM8] <;> repeat' with_reducible first | refine OLe.bind ?_ (fun _ => ?_) | refine OLe.ite ?_ ?_ | exact ue7 n _ | exact uF1 n _ | exact ug4 n _ | exact uf5 n _ | exact ih.1 _ | exact ih.2.1 _ | exact ih.2.2 _ | exact OLe.refl _
    · intro p
      cases p <;> rw [run_z65, runF_z65] <;> repeat' with_reducible first | refine OLe.bind ?_ (fun _ => ?_) | refine OLe.ite ?_ ?_ | exact ue7 n _ | exact uF1 n _ | exact ug4 n _ | exact uf5 n _ | exact ih.1 _ | exact ih.2.1 _ | exact ih.2.2 _ | exact OLe.refl _
theorem vr9 (n : Nat) : ∀ (p : vE7), OLe (runF_z65 n p) (run_z65 p) := (vk2 n).2.2
def uF0 : Nat → vT3 → Option ((ByteArray × Unit) × Unit)
 | 0, _ => none
 | n + 1, .start v0_0 v0_1 v0_2 =>
  if (seq v0_0 (⟨#[]⟩ : ByteArray)) = true then
   (vn1 (v0_1, ()) ()) >>= fun t1 =>
   some ((t1.1.1, ()), ())
  else
   if ((List.length v0_2 : Int) == (0 : Int)) = true then
    some ((v0_0, ()), ())
   else
    uF0 n (.p500 v0_2 (List.length v0_2 : Int) (0 : Int) v0_0 v0_1 v0_2 ([] : List ByteArray))
 | n + 1, .p500 s19 s20 s21 C0 C1 C2 B1 =>
  if (decide (s21 < s20)) = true then
   (idx s19 s21) >>= fun t1 =>
   (uF0 n (.start t1.Name t1.Number t1.Parts)) >>= fun t2 =>
   if (fits (List.length B1) (List.length ([t2.1.1] : List ByteArray)) 16) = true then
    uF0 n (.p500 s19 s20 (IntKind.wrap .i64 (s21 + (1 : Int))) C0 C1 C2 (B1 ++ ([t2.1.1] : List ByteArray)))
   else none
  else
   if (Nat.ble (C0.size + (⟨#[40]⟩ : ByteArray).size) 9223372036854775807) = true then
    (uH1 (B1, (⟨#[44, 32]⟩ : ByteArray), ()) ()) >>= fun t3 =>
    if (Nat.ble ((C0 ++ (⟨#[40]⟩ : ByteArray)).size + t3.1.1.size) 9223372036854775807) = true then
     if (Nat.ble (((C0 ++ (⟨#[40]⟩ : ByteArray)) ++ t3.1.1).size + (⟨#[41]⟩ : ByteArray).size) 9223372036854775807) = true then
      some ((((C0 ++ (⟨#[40]⟩ : ByteArray)) ++ t3.1.1) ++ (⟨#[41]⟩ : ByteArray), ()), ())
     else none
    else none
   else none
theorem vs0 : ∀ (n : Nat) (p : vT3), OLe (uF0 n p) (uC9 p) := by
 intro n
 induction n with
 | zero => exact fun p r h => by cases h
 | succ n ih =>
  intro p
  cases p <;> rw [uC9, uF0] <;> repeat' with_reducible first | refine OLe.bind ?_ (fun _ => ?_) | refine OLe.ite ?_ ?_ | exact ih _ | exact OLe.refl _
def vd7 : Nat → vT4 → Option ((ByteArray × (Int × Unit)) × Unit)
 | 0, _ => none
 | n + 1, .start v0_0 v0_1 v0_2 =>
  (uV2 n (.start v0_0 v0_1 v0_2)) >>= fun t1 =>
  if (t1.1.1 != (0 : Int)) = true then
   some (((⟨#[]⟩ : ByteArray), (t1.1.1, ())), ())
  else
   (runF_z65 n (.start v0_0 v0_1 v0_2)) >>= fun t2 =>
   if (t2.1.1 != (0 : Int)) = true then
    some (((⟨#[]⟩ : ByteArray), (t2.1.1, ())), ())
   else
    (uF0 n (.start v0_0 v0_1 v0_2)) >>= fun t3 =>
    some ((t3.1.1, ((0 : Int), ())), ())
theorem vs1 : ∀ (n : Nat) (p : vT4), OLe (vd7 n p) (ve1 p) := by
 intro n
 induction n with
 | zero => exact fun p r h => by cases h
 | succ n ih =>
  intro p
  cases p <;> rw [ve1, vd7] <;> repeat' with_reducible first | refine OLe.bind ?_ (fun _ => ?_) | refine OLe.ite ?_ ?_ | exact u06 n _ | exact vr9 n _ | exact vs0 n _ | exact ih _ | exact OLe.refl _
def uA1 : Nat → vT5 → Option ((Bool × Unit) × Unit)
 | 0, _ => none
 | n + 1, .start a0_0 a0_1 a0_2 b1_0 b1_1 b1_2 =>
  if (!(seq a0_0 b1_0)) = true then
   some ((false, ()), ())
  else
   if (a0_1 != b1_1) = true then
    some ((false, ()), ())
   else
    if ((List.length a0_2 : Int) != (List.length b1_2 : Int)) = true then
     some ((false, ()), ())
    else
     uA1 n (.p7 a0_0 a0_1 a0_2 b1_0 b1_1 b1_2)
 | n + 1, .p7 C0 C1 C2 D0 D1 D2 =>
  uA1 n (.p116 (0 : Int) C0 C1 C2 D0 D1 D2)
 | n + 1, .p116 i5 C0 C1 C2 D0 D1 D2 =>
  if (decide (i5 < (List.length C2 : Int))) = true then
   (idx C2 i5) >>= fun t1 =>
   (idx D2 i5) >>= fun t2 =>
   (uA1 n (.start t1.Name t1.Number t1.Parts t2.Name t2.Number t2.Parts)) >>= fun t3 =>
   if (!t3.1.1) = true then
    some ((false, ()), ())
   else
    uA1 n (.p116 (IntKind.wrap .i64 (i5 + (1 : Int))) C0 C1 C2 D0 D1 D2)
  else
   some ((true, ()), ())
theorem vs2 : ∀ (n : Nat) (p : vT5), OLe (uA1 n p) (uf1 p) := by
 intro n
 induction n with
 | zero => exact fun p r h => by cases h
 | succ n ih =>
  intro p
  cases p <;> rw [uf1, uA1] <;> repeat' with_reducible first | refine OLe.bind ?_ (fun _ => ?_) | refine OLe.ite ?_ ?_ | exact ih _ | exact OLe.refl _
def vx2 : Nat → vT6 → Option ((Bool × Unit) × Unit)
 | 0, _ => none
 | n + 1, .start =>
  (uQ9 n .start) >>= fun t1 =>
  (u04 n (.start (3 : Int))) >>= fun t2 =>
  (uw0 n (.start (⟨#[77, 97, 121, 98, 101]⟩ : ByteArray) ([(⟨t2.1.1.1, t2.1.1.2.1, t2.1.1.2.2.1, t2.1.1.2.2.2.1⟩ : ua3)] : List ua3))) >>= fun t3 =>
  (vc9 n (.start t1.1.1 t3.1.1.1 t3.1.1.2.1 t3.1.1.2.2.1 t3.1.1.2.2.2.1)) >>= fun t4 =>
  (uQ9 n .start) >>= fun t5 =>
  (u04 n (.start (2 : Int))) >>= fun t6 =>
  (uw0 n (.start (⟨#[67, 111, 108, 111, 114]⟩ : ByteArray) ([]))) >>= fun t7 =>
  (uw0 n (.start (⟨#[80, 97, 105, 114]⟩ : ByteArray) ([(⟨t6.1.1.1, t6.1.1.2.1, t6.1.1.2.2.1, t6.1.1.2.2.2.1⟩ : ua3), (⟨t7.1.1.1, t7.1.1.2.1, t7.1.1.2.2.1, t7.1.1.2.2.2.1⟩ : ua3)] : List ua3))) >>= fun t8 =>
  (us4 n (.start (⟨#[66, 108, 117, 101]⟩ : ByteArray) ([]))) >>= fun t9 =>
  (us4 n (.start (⟨#[80, 97, 105, 114]⟩ : ByteArray) ([(⟨(⟨#[]⟩ : ByteArray), (3 : Int), []⟩ : ua4), (⟨t9.1.1.1, t9.1.1.2.1, t9.1.1.2.2.1⟩ : ua4)] : List ua4))) >>= fun t10 =>
  (vd3 n (.start t5.1.1 t8.1.1.1 t8.1.1.2.1 t8.1.1.2.2.1 t8.1.1.2.2.2.1 t10.1.1.1 t10.1.1.2.1 t10.1.1.2.2.1)) >>= fun t11 =>
  (uQ9 n .start) >>= fun t12 =>
  (u04 n (.start (3 : Int))) >>= fun t13 =>
  (uw0 n (.start (⟨#[77, 97, 121, 98, 101]⟩ : ByteArray) ([(⟨t13.1.1.1, t13.1.1.2.1, t13.1.1.2.2.1, t13.1.1.2.2.2.1⟩ : ua3)] : List ua3))) >>= fun t14 =>
  (vd4 n (.start t12.1.1 t14.1.1.1 t14.1.1.2.1 t14.1.1.2.2.1 t14.1.1.2.2.2.1 (5 : Int))) >>= fun t15 =>
  (uQ9 n .start) >>= fun t16 =>
  (uw0 n (.start (⟨#[67, 111, 108, 111, 114]⟩ : ByteArray) ([]))) >>= fun t17 =>
  (uw0 n (.start (⟨#[66, 111, 111, 108]⟩ : ByteArray) ([]))) >>= fun t18 =>
  (uw0 n (.start (⟨#[80, 97, 105, 114]⟩ : ByteArray) ([(⟨t17.1.1.1, t17.1.1.2.1, t17.1.1.2.2.1, t17.1.1.2.2.2.1⟩ : ua3), (⟨t18.1.1.1, t18.1.1.2.1, t18.1.1.2.2.1, t18.1.1.2.2.2.1⟩ : ua3)] : List ua3))) >>= fun t19 =>
  (vd5 n (.start t16.1.1 t19.1.1.1 t19.1.1.2.1 t19.1.1.2.2.1 t19.1.1.2.2.2.1 (3 : Int))) >>= fun t20 =>
  (us4 n (.start (⟨#[66, 108, 117, 101]⟩ : ByteArray) ([]))) >>= fun t21 =>
  (us4 n (.start (⟨#[80, 97, 105, 114]⟩ : ByteArray) ([(⟨(⟨#[]⟩ : ByteArray), (3 : Int), []⟩ : ua4), (⟨t21.1.1.1, t21.1.1.2.1, t21.1.1.2.2.1⟩ : ua4)] : List ua4))) >>= fun t22 =>
  (vd7 n (.start t22.1.1.1 t22.1.1.2.1 t22.1.1.2.2.1)) >>= fun t23 =>
  if (t4.1.2.1 == (0 : Int)) = true then
   if (t4.1.1 == (4 : Int)) = true then
    if (t11.1.2.1 == (0 : Int)) = true then
     if (t11.1.1 == (14 : Int)) = true then
      if (t15.1.2.1 == (3 : Int)) = true then
       if (t20.1.2.1 == (0 : Int)) = true then
        (us4 n (.start (⟨#[71, 114, 101, 101, 110]⟩ : ByteArray) ([]))) >>= fun t24 =>
        (us4 n (.start (⟨#[84, 114, 117, 101]⟩ : ByteArray) ([]))) >>= fun t25 =>
        (us4 n (.start (⟨#[80, 97, 105, 114]⟩ : ByteArray) ([(⟨t24.1.1.1, t24.1.1.2.1, t24.1.1.2.2.1⟩ : ua4), (⟨t25.1.1.1, t25.1.1.2.1, t25.1.1.2.2.1⟩ : ua4)] : List ua4))) >>= fun t26 =>
        (uA1 n (.start t20.1.1.1 t20.1.1.2.1 t20.1.1.2.2.1 t26.1.1.1 t26.1.1.2.1 t26.1.1.2.2.1)) >>= fun t27 =>
        if t27.1.1 = true then
         if (t23.1.2.1 == (0 : Int)) = true then
          some ((seq t23.1.1 (⟨#[80, 97, 105, 114, 40, 51, 44, 32, 66, 108, 117, 101, 41]⟩ : ByteArray), ()), ())
         else
          some ((false, ()), ())
        else
         some ((false, ()), ())
       else
        some ((false, ()), ())
      else
       some ((false, ()), ())
     else
      some ((false, ()), ())
    else
     some ((false, ()), ())
   else
    some ((false, ()), ())
  else
   some ((false, ()), ())
theorem vs3 : ∀ (n : Nat) (p : vT6), OLe (vx2 n p) (u19 p) := by
 intro n
 induction n with
 | zero => exact fun p r h => by cases h
 | succ n ih =>
  intro p
  cases p <;> rw [u19, vx2] <;> repeat' with_reducible first | refine OLe.bind ?_ (fun _ => ?_) | refine OLe.ite ?_ ?_ | exact vC5 n _ | exact u79 n _ | exact vC7 n _ | exact vq4 n _ | exact vq5 n _ | exact vr3 n _ | exact vr5 n _ | exact vr8 n _ | exact vs1 n _ | exact vs2 n _ | exact ih _ | exact OLe.refl _
end
end Go.Proofs.YtaennkkcnhfglaaGreatDoor.Ev.F
