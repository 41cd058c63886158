/- A part of the proof. -/
import Derived.Test.YtaennkkcnhfglaaGreatDoorOF2
import Derived.Test.YtaennkkcnhfglaaGreatDoorOEvFuel
set_option linter.unusedVariables false
set_option maxRecDepth 100000
namespace Go.Proofs.YtaennkkcnhfglaaGreatDoor.Ev.F
open Go.Proofs Go.Proofs.YtaennkkcnhfglaaGreatDoor.Ev
noncomputable section
def uP7 : Nat → P_z0 → Option (((List ua3) × Unit) × Unit)
 | 0, _ => none
 | n + 1, .start =>
  some ((([(⟨(⟨#[77, 97, 121, 98, 101]⟩ : ByteArray), ([(⟨#[97]⟩ : ByteArray)] : List ByteArray), ([(⟨(⟨#[78, 111, 110, 101]⟩ : ByteArray), []⟩ : ua2), (⟨(⟨#[83, 111, 109, 101]⟩ : ByteArray), ([(⟨(⟨#[118, 97, 108, 117, 101]⟩ : ByteArray), (⟨(0 : Int), (0 : Int), (⟨#[97]⟩ : ByteArray), []⟩ : ua1)⟩ : ua6)] : List ua6)⟩ : ua2)] : List ua2)⟩ : ua3), (⟨(⟨#[80, 97, 105, 114]⟩ : ByteArray), ([(⟨#[97]⟩ : ByteArray), (⟨#[98]⟩ : ByteArray)] : List ByteArray), ([(⟨(⟨#[80, 97, 105, 114]⟩ : ByteArray), ([(⟨(⟨#[108, 101, 102, 116]⟩ : ByteArray), (⟨(0 : Int), (0 : Int), (⟨#[97]⟩ : ByteArray), []⟩ : ua1)⟩ : ua6), (⟨(⟨#[114, 105, 103, 104, 116]⟩ : ByteArray), (⟨(0 : Int), (0 : Int), (⟨#[98]⟩ : ByteArray), []⟩ : ua1)⟩ : ua6)] : List ua6)⟩ : ua2)] : List ua2)⟩ : ua3), (⟨(⟨#[67, 111, 108, 111, 114]⟩ : ByteArray), [], ([(⟨(⟨#[82, 101, 100]⟩ : ByteArray), []⟩ : ua2), (⟨(⟨#[71, 114, 101, 101, 110]⟩ : ByteArray), []⟩ : ua2), (⟨(⟨#[66, 108, 117, 101]⟩ : ByteArray), []⟩ : ua2)] : List ua2)⟩ : ua3)] : List ua3), ()), ())
theorem vA2 : ∀ (n : Nat) (p : P_z0), OLe (uP7 n p) (uZ5 p) := by
 intro n
 induction n with
 | zero => exact fun p r h => by cases h
 | succ n ih =>
  intro p
  cases p <;> rw [uZ5, uP7] <;> repeat' with_reducible first | refine OLe.bind ?_ (fun _ => ?_) | refine OLe.ite ?_ ?_ | exact ih _ | exact OLe.refl _
def vm0 : Nat → P_z1 → Option (((Int × (Int × (ByteArray × (Unit × Unit)))) × Unit) × Unit)
 | 0, _ => none
 | n + 1, .start n0 =>
  some ((((2 : Int), (n0, ((⟨#[]⟩ : ByteArray), ((), ())))), ()), ())
theorem vA3 : ∀ (n : Nat) (p : P_z1), OLe (vm0 n p) (vu9 p) := by
 intro n
 induction n with
 | zero => exact fun p r h => by cases h
 | succ n ih =>
  intro p
  cases p <;> rw [vu9, vm0] <;> repeat' with_reducible first | refine OLe.bind ?_ (fun _ => ?_) | refine OLe.ite ?_ ?_ | exact ih _ | exact OLe.refl _
def uu1 : Nat → P_z2 → Option (((Int × (Int × (ByteArray × ((List ua1) × Unit)))) × Unit) × Unit)
 | 0, _ => none
 | n + 1, .start name0 parts1 =>
  some ((((1 : Int), ((0 : Int), (name0, (parts1, ())))), ()), ())
theorem u53 : ∀ (n : Nat) (p : P_z2), OLe (uu1 n p) (uB0 p) := by
 intro n
 induction n with
 | zero => exact fun p r h => by cases h
 | succ n ih =>
  intro p
  cases p <;> rw [uB0, uu1] <;> repeat' with_reducible first | refine OLe.bind ?_ (fun _ => ?_) | refine OLe.ite ?_ ?_ | exact ih _ | exact OLe.refl _
def uZ1 : Nat → P_z3 → Option (((Int × (Int × (ByteArray × ((List ua1) × Unit)))) × Unit) × Unit)
 | 0, _ => none
 | n + 1, .start n0 =>
  (vm0 n (.start n0)) >>= fun t1 =>
  (uu1 n (.start (⟨#[66, 105, 116]⟩ : ByteArray) ([(⟨t1.1.1.1, t1.1.1.2.1, t1.1.1.2.2.1, []⟩ : ua1)] : List ua1))) >>= fun t2 =>
  some (((t2.1.1.1, (t2.1.1.2.1, (t2.1.1.2.2.1, (t2.1.1.2.2.2.1, ())))), ()), ())
theorem vA4 : ∀ (n : Nat) (p : P_z3), OLe (uZ1 n p) (u55 p) := by
 intro n
 induction n with
 | zero => exact fun p r h => by cases h
 | succ n ih =>
  intro p
  cases p <;> rw [u55, uZ1] <;> repeat' with_reducible first | refine OLe.bind ?_ (fun _ => ?_) | refine OLe.ite ?_ ?_ | exact vA3 n _ | exact u53 n _ | exact ih _ | exact OLe.refl _
def va4 : Nat → P_z4 → Option (((List ByteArray) × Unit) × Unit)
 | 0, _ => none
 | n + 1, .start s0 =>
  (bif decide ((List.length s0 : Int) = (List.length s0 : Int)) then span (List.length s0) (0 : Int) (List.length s0 : Int) else none) >>= fun t1 =>
  some ((cut s0 t1, ()), ())
theorem vA5 : ∀ (n : Nat) (p : P_z4), OLe (va4 n p) (u02 p) := by
 intro n
 induction n with
 | zero => exact fun p r h => by cases h
 | succ n ih =>
  intro p
  cases p <;> rw [u02, va4] <;> repeat' with_reducible first | refine OLe.bind ?_ (fun _ => ?_) | refine OLe.ite ?_ ?_ | exact ih _ | exact OLe.refl _
def ui2 : Nat → P_z5 → Option ((Bool × Unit) × Unit)
 | 0, _ => none
 | n + 1, .start n0 lo1 hi2 =>
  if (decide (lo1 ≤ n0)) = true then
   some ((decide (n0 ≤ hi2), ()), ())
  else
   some ((false, ()), ())
theorem ue0 : ∀ (n : Nat) (p : P_z5), OLe (ui2 n p) (uk6 p) := by
 intro n
 induction n with
 | zero => exact fun p r h => by cases h
 | succ n ih =>
  intro p
  cases p <;> rw [uk6, ui2] <;> repeat' with_reducible first | refine OLe.bind ?_ (fun _ => ?_) | refine OLe.ite ?_ ?_ | exact ih _ | exact OLe.refl _
def uj6 : Nat → P_z6 → Option ((Bool × Unit) × Unit)
 | 0, _ => none
 | n + 1, .start s0 =>
  uj6 n (.p52 s0 (ub3 s0) (List.length (ub3 s0) : Int) (0 : Int))
 | n + 1, .p52 s0 s7 s8 s9 =>
  if (decide (s9 < s8)) = true then
   (idx s7 s9) >>= fun t1 =>
   if (decide ((97 : Int) ≤ t1)) = true then
    if (decide (t1 ≤ (122 : Int))) = true then
     uj6 n (.p3379 s0 s9 t1 true s7 s8 s9)
    else
     if (decide ((65 : Int) ≤ t1)) = true then
      uj6 n (.p3379 s0 s9 t1 (decide (t1 ≤ (90 : Int))) s7 s8 s9)
     else
      uj6 n (.p3379 s0 s9 t1 false s7 s8 s9)
   else
    if (decide ((65 : Int) ≤ t1)) = true then
     uj6 n (.p3379 s0 s9 t1 (decide (t1 ≤ (90 : Int))) s7 s8 s9)
    else
     uj6 n (.p3379 s0 s9 t1 false s7 s8 s9)
  else
   (ui2 n (.start (s0.size : Int) (1 : Int) (16 : Int))) >>= fun t2 =>
   some ((t2.1.1, ()), ())
 | n + 1, .p3379 s0 i3 c4 letter5 s7 s8 s9 =>
  if (!letter5) = true then
   if (i3 == (0 : Int)) = true then
    some ((false, ()), ())
   else
    if (c4 != (95 : Int)) = true then
     if (decide (c4 < (48 : Int))) = true then
      some ((false, ()), ())
     else
      if (decide (c4 > (57 : Int))) = true then
       some ((false, ()), ())
      else
       uj6 n (.p52 s0 s7 s8 (IntKind.wrap .i64 (s9 + (1 : Int))))
    else
     uj6 n (.p52 s0 s7 s8 (IntKind.wrap .i64 (s9 + (1 : Int))))
  else
   uj6 n (.p52 s0 s7 s8 (IntKind.wrap .i64 (s9 + (1 : Int))))
theorem uE1 : ∀ (n : Nat) (p : P_z6), OLe (uj6 n p) (ug8 p) := by
 intro n
 induction n with
 | zero => exact fun p r h => by cases h
 | succ n ih =>
  intro p
  cases p <;> rw [ug8, uj6] <;> repeat' with_reducible first | refine OLe.bind ?_ (fun _ => ?_) | refine OLe.ite ?_ ?_ | exact ue0 n _ | exact ih _ | exact OLe.refl _
def ub6 : Nat → P_z7 → Option ((Int × Unit) × Unit)
 | 0, _ => none
 | n + 1, .start is0 e1 =>
  if is0 = true then
   some (((0 : Int), ()), ())
  else
   some ((e1, ()), ())
theorem uf5 : ∀ (n : Nat) (p : P_z7), OLe (ub6 n p) (uc2 p) := by
 intro n
 induction n with
 | zero => exact fun p r h => by cases h
 | succ n ih =>
  intro p
  cases p <;> rw [uc2, ub6] <;> repeat' with_reducible first | refine OLe.bind ?_ (fun _ => ?_) | refine OLe.ite ?_ ?_ | exact ih _ | exact OLe.refl _
def uP8 : Nat → P_z8 → Option ((Int × Unit) × Unit)
 | 0, _ => none
 | n + 1, .start s0 v1 =>
  uP8 n (.p52 s0 v1 (List.length s0 : Int) (0 : Int))
 | n + 1, .p52 s0 v1 s7 s8 =>
  if (decide (s8 < s7)) = true then
   (idx s0 s8) >>= fun t1 =>
   if (seq v1 t1) = true then
    some ((s8, ()), ())
   else
    uP8 n (.p52 s0 v1 s7 (IntKind.wrap .i64 (s8 + (1 : Int))))
  else
   some (((-1 : Int), ()), ())
theorem u54 : ∀ (n : Nat) (p : P_z8), OLe (uP8 n p) (ut6 p) := by
 intro n
 induction n with
 | zero => exact fun p r h => by cases h
 | succ n ih =>
  intro p
  cases p <;> rw [ut6, uP8] <;> repeat' with_reducible first | refine OLe.bind ?_ (fun _ => ?_) | refine OLe.ite ?_ ?_ | exact ih _ | exact OLe.refl _
def vb4 : Nat → P_z9 → Option ((Bool × Unit) × Unit)
 | 0, _ => none
 | n + 1, .start s0 v1 =>
  (uP8 n (.start s0 v1)) >>= fun t1 =>
  some ((decide (t1.1.1 ≥ (0 : Int)), ()), ())
theorem uE2 : ∀ (n : Nat) (p : P_z9), OLe (vb4 n p) (u08 p) := by
 intro n
 induction n with
 | zero => exact fun p r h => by cases h
 | succ n ih =>
  intro p
  cases p <;> rw [u08, vb4] <;> repeat' with_reducible first | refine OLe.bind ?_ (fun _ => ?_) | refine OLe.ite ?_ ?_ | exact u54 n _ | exact ih _ | exact OLe.refl _
def ud4 : Nat → vM6 → Option ((Int × Unit) × Unit)
 | 0, _ => none
 | n + 1, .start l0 =>
  ud4 n (.p52 l0 (List.length l0 : Int) (0 : Int))
 | n + 1, .p52 s5 s6 s7 =>
  if (decide (s7 < s6)) = true then
   (idx s5 s7) >>= fun t1 =>
   if (t1 != (0 : Int)) = true then
    some ((t1, ()), ())
   else
    ud4 n (.p52 s5 s6 (IntKind.wrap .i64 (s7 + (1 : Int))))
  else
   some (((0 : Int), ()), ())
theorem ue7 : ∀ (n : Nat) (p : vM6), OLe (ud4 n p) (uc8 p) := by
 intro n
 induction n with
 | zero => exact fun p r h => by cases h
 | succ n ih =>
  intro p
  cases p <;> rw [uc8, ud4] <;> repeat' with_reducible first | refine OLe.bind ?_ (fun _ => ?_) | refine OLe.ite ?_ ?_ | exact ih _ | exact OLe.refl _
def uD6 : Nat → vM7 → Option ((Int × Unit) × Unit)
 | 0, _ => none
 | n + 1, .start name0 known1 =>
  (uj6 n (.start name0)) >>= fun t1 =>
  (ub6 n (.start t1.1.1 (4 : Int))) >>= fun t2 =>
  (vb4 n (.start known1 name0)) >>= fun t3 =>
  (ub6 n (.start (!t3.1.1) (5 : Int))) >>= fun t4 =>
  (ud4 n (.start ([t2.1.1, t4.1.1] : List Int))) >>= fun t5 =>
  some ((t5.1.1, ()), ())
theorem ux6 : ∀ (n : Nat) (p : vM7), OLe (uD6 n p) (uy6 p) := by
 intro n
 induction n with
 | zero => exact fun p r h => by cases h
 | succ n ih =>
  intro p
  cases p <;> rw [uy6, uD6] <;> repeat' with_reducible first | refine OLe.bind ?_ (fun _ => ?_) | refine OLe.ite ?_ ?_ | exact uE1 n _ | exact uf5 n _ | exact uE2 n _ | exact ue7 n _ | exact ih _ | exact OLe.refl _
def u95 : Nat → vM8 → Option ((Int × Unit) × Unit)
 | 0, _ => none
 | n + 1, .start i0 p1 s2 =>
  (span (List.length s2.Params) (0 : Int) i0) >>= fun t1 =>
  (uD6 n (.start p1 (cut s2.Params t1))) >>= fun t2 =>
  some ((t2.1.1, ()), ())
theorem vm1 : ∀ (n : Nat) (p : vM8), OLe (u95 n p) (uZ6 p) := by
 intro n
 induction n with
 | zero => exact fun p r h => by cases h
 | succ n ih =>
  intro p
  cases p <;> rw [uZ6, u95] <;> repeat' with_reducible first | refine OLe.bind ?_ (fun _ => ?_) | refine OLe.ite ?_ ?_ | exact ux6 n _ | exact ih _ | exact OLe.refl _
def uK8 : Nat → vM9 → Option ((Int × (Int × Unit)) × ((ByteArray × ((List ByteArray) × ((List ua2) × Unit))) × Unit))
 | 0, _ => none
 | n + 1, .start l0 C0 C1 C2 =>
  uK8 n (.p52 l0 (List.length l0 : Int) (0 : Int) C0 C1 C2)
 | n + 1, .p52 s9 s10 s11 C0 C1 C2 =>
  if (decide (s11 < s10)) = true then
   (idx s9 s11) >>= fun t1 =>
   (u95 n (.start s11 t1 (⟨C0, C1, C2⟩ : ua3))) >>= fun t2 =>
   if (t2.1.1 != (0 : Int)) = true then
    some ((s11, (t2.1.1, ())), ((C0, (C1, (C2, ()))), ()))
   else
    uK8 n (.p52 s9 s10 (IntKind.wrap .i64 (s11 + (1 : Int))) C0 C1 C2)
  else
   some (((0 : Int), ((0 : Int), ())), ((C0, (C1, (C2, ()))), ()))
theorem vm2 : ∀ (n : Nat) (p : vM9), OLe (uK8 n p) (un6 p) := by
 intro n
 induction n with
 | zero => exact fun p r h => by cases h
 | succ n ih =>
  intro p
  cases p <;> rw [un6, uK8] <;> repeat' with_reducible first | refine OLe.bind ?_ (fun _ => ?_) | refine OLe.ite ?_ ?_ | exact vm1 n _ | exact ih _ | exact OLe.refl _
def u96 : Nat → vN0 → Option (((List ua1) × Unit) × Unit)
 | 0, _ => none
 | n + 1, .start t0_0 t0_1 t0_2 t0_3 =>
  some ((t0_3, ()), ())
theorem vm3 : ∀ (n : Nat) (p : vN0), OLe (u96 n p) (uZ7 p) := by
 intro n
 induction n with
 | zero => exact fun p r h => by cases h
 | succ n ih =>
  intro p
  cases p <;> rw [uZ7, u96] <;> repeat' with_reducible first | refine OLe.bind ?_ (fun _ => ?_) | refine OLe.ite ?_ ?_ | exact ih _ | exact OLe.refl _
def ux7 : Nat → vN1 → Option ((Bool × Unit) × ((Int × Unit) × ((Unit × Unit) × (((Unit × (Unit × (Unit × Unit))) × Unit) × Unit))))
 | 0, _ => none
 | n + 1, .start x0_0 x0_1 x0_2 x0_3 depth1 B0 =>
  if (decide ((IntKind.wrap .i64 (B0 + (1 : Int))) > (200 : Int))) = true then
   some ((false, ()), ((IntKind.wrap .i64 (B0 + (1 : Int)), ()), (((), ()), ((((), ((), ((), ()))), ()), ()))))
  else
   if (decide (depth1 > (40 : Int))) = true then
    some ((false, ()), ((IntKind.wrap .i64 (B0 + (1 : Int)), ()), (((), ()), ((((), ((), ((), ()))), ()), ()))))
   else
    ux7 n (.p15 depth1 (IntKind.wrap .i64 (B0 + (1 : Int))) x0_0 x0_1 x0_2 x0_3)
 | n + 1, .p15 depth1 B0 H0 H1 H2 H3 =>
  (u96 n (.start H0 H1 H2 H3)) >>= fun t1 =>
  ux7 n (.p244 depth1 t1.1.1 (List.length t1.1.1 : Int) (0 : Int) B0)
 | n + 1, .p244 depth1 s20 s21 s22 B0 =>
  if (decide (s22 < s21)) = true then
   (idx s20 s22) >>= fun t1 =>
   (ux7 n (.start t1.Kind t1.Value t1.Name t1.Parts (IntKind.wrap .i64 (depth1 + (1 : Int))) B0)) >>= fun t2 =>
   if (!t2.1.1) = true then
    some ((false, ()), ((t2.2.1.1, ()), (((), ()), ((((), ((), ((), ()))), ()), ()))))
   else
    ux7 n (.p244 depth1 s20 s21 (IntKind.wrap .i64 (s22 + (1 : Int))) t2.2.1.1)
  else
   some ((true, ()), ((B0, ()), (((), ()), ((((), ((), ((), ()))), ()), ()))))
theorem vm4 : ∀ (n : Nat) (p : vN1), OLe (ux7 n p) (uj7 p) := by
 intro n
 induction n with
 | zero => exact fun p r h => by cases h
 | succ n ih =>
  intro p
  cases p <;> rw [uj7, ux7] <;> repeat' with_reducible first | refine OLe.bind ?_ (fun _ => ?_) | refine OLe.ite ?_ ?_ | exact vm3 n _ | exact ih _ | exact OLe.refl _
def uT8 : Nat → vN2 → Option ((Int × Unit) × Unit)
 | 0, _ => none
 | n + 1, .start root0_0 root0_1 root0_2 root0_3 =>
  (ux7 n (.start root0_0 root0_1 root0_2 root0_3 (1 : Int) (0 : Int))) >>= fun t1 =>
  (ub6 n (.start t1.1.1 (8 : Int))) >>= fun t2 =>
  some ((t2.1.1, ()), ())
theorem uY9 : ∀ (n : Nat) (p : vN2), OLe (uT8 n p) (uG9 p) := by
 intro n
 induction n with
 | zero => exact fun p r h => by cases h
 | succ n ih =>
  intro p
  cases p <;> rw [uG9, uT8] <;> repeat' with_reducible first | refine OLe.bind ?_ (fun _ => ?_) | refine OLe.ite ?_ ?_ | exact uf5 n _ | exact vm4 n _ | exact ih _ | exact OLe.refl _
def u97 : Nat → vN3 → Option ((Bool × Unit) × Unit)
 | 0, _ => none
 | n + 1, .start d0_0 d0_1 d0_2 s1 =>
  some ((seq d0_0 s1, ()), ())
theorem vm5 : ∀ (n : Nat) (p : vN3), OLe (u97 n p) (uZ8 p) := by
 intro n
 induction n with
 | zero => exact fun p r h => by cases h
 | succ n ih =>
  intro p
  cases p <;> rw [uZ8, u97] <;> repeat' with_reducible first | refine OLe.bind ?_ (fun _ => ?_) | refine OLe.ite ?_ ?_ | exact ih _ | exact OLe.refl _
def uK9 : Nat → vN4 → Option ((Int × Unit) × ((ByteArray × Unit) × Unit))
 | 0, _ => none
 | n + 1, .start s0 B0 =>
  uK9 n (.p52 s0 (List.length s0 : Int) (0 : Int) B0)
 | n + 1, .p52 s0 s7 s8 B0 =>
  if (decide (s8 < s7)) = true then
   (idx s0 s8) >>= fun t1 =>
   (u97 n (.start t1.Name t1.Params t1.Constructors B0)) >>= fun t2 =>
   if t2.1.1 = true then
    some ((s8, ()), ((B0, ()), ()))
   else
    uK9 n (.p52 s0 s7 (IntKind.wrap .i64 (s8 + (1 : Int))) B0)
  else
   some (((-1 : Int), ()), ((B0, ()), ()))
theorem vm6 : ∀ (n : Nat) (p : vN4), OLe (uK9 n p) (un7 p) := by
 intro n
 induction n with
 | zero => exact fun p r h => by cases h
 | succ n ih =>
  intro p
  cases p <;> rw [un7, uK9] <;> repeat' with_reducible first | refine OLe.bind ?_ (fun _ => ?_) | refine OLe.ite ?_ ?_ | exact vm5 n _ | exact ih _ | exact OLe.refl _
def uT9 : Nat → vN5 → Option (((ByteArray × ((List ByteArray) × ((List ua2) × Unit))) × (Bool × Unit)) × Unit)
 | 0, _ => none
 | n + 1, .start s0_0 s0_1 name1 =>
  (uK9 n (.start s0_0 name1)) >>= fun t1 =>
  if (decide (t1.1.1 < (0 : Int))) = true then
   some ((((⟨#[]⟩ : ByteArray), ([], ([], ()))), (false, ())), ())
  else
   (idx s0_0 t1.1.1) >>= fun t2 =>
   some (((t2.Name, (t2.Params, (t2.Constructors, ()))), (true, ())), ())
theorem ux8 : ∀ (n : Nat) (p : vN5), OLe (uT9 n p) (uH0 p) := by
 intro n
 induction n with
 | zero => exact fun p r h => by cases h
 | succ n ih =>
  intro p
  cases p <;> rw [uH0, uT9] <;> repeat' with_reducible first | refine OLe.bind ?_ (fun _ => ?_) | refine OLe.ite ?_ ?_ | exact vm6 n _ | exact ih _ | exact OLe.refl _
mutual
def u98 : Nat → vN6 → Option ((Int × Unit) × Unit)
 | 0, _ => none
 | n + 1, .start s0 x1_0 x1_1 x1_2 x1_3 s2 =>
  (runF_z21 n (.start s2.list s2.params x1_0 x1_1 x1_2 x1_3)) >>= fun t1 =>
  some ((t1.1.1, ()), ())
def uL0 : Nat → vN7 → Option ((Int × (Int × Unit)) × (((List ua3) × ((List ByteArray) × Unit)) × Unit))
 | 0, _ => none
 | n + 1, .start l0 C0 C1 =>
  uL0 n (.p52 l0 (List.length l0 : Int) (0 : Int) C0 C1)
 | n + 1, .p52 s9 s10 s11 C0 C1 =>
  if (decide (s11 < s10)) = true then
   (idx s9 s11) >>= fun t1 =>
   (u98 n (.start s11 t1.Kind t1.Value t1.Name t1.Parts (⟨C0, C1⟩ : ur2))) >>= fun t2 =>
   if (t2.1.1 != (0 : Int)) = true then
    some ((s11, (t2.1.1, ())), ((C0, (C1, ())), ()))
   else
    uL0 n (.p52 s9 s10 (IntKind.wrap .i64 (s11 + (1 : Int))) C0 C1)
  else
   some (((0 : Int), ((0 : Int), ())), ((C0, (C1, ())), ()))
def runF_z21 : Nat → vB6 → Option ((Int × Unit) × Unit)
 | 0, _ => none
 | n + 1, .start s0_0 s0_1 t1_0 t1_1 t1_2 t1_3 =>
  if (t1_0 == (0 : Int)) = true then
   (vb4 n (.start s0_1 t1_2)) >>= fun t1 =>
   if (!t1.1.1) = true then
    some (((6 : Int), ()), ())
   else
    runF_z21 n (.p15 (0 : Int) s0_0 s0_1 t1_0 t1_1 t1_2 t1_3)
  else
   if (t1_0 == (1 : Int)) = true then
    (uT9 n (.start s0_0 s0_1 t1_2)) >>= fun t2 =>
    if t2.1.2.1 = true then
     runF_z21 n (.p15 (List.length t2.1.1.2.1 : Int) s0_0 s0_1 t1_0 t1_1 t1_2 t1_3)
    else
     if (seq t1_2 (⟨#[66, 105, 116]⟩ : ByteArray)) = true then
      runF_z21 n (.p15 (1 : Int) s0_0 s0_1 t1_0 t1_1 t1_2 t1_3)
     else
      if (!(seq t1_2 (⟨#[66, 111, 111, 108]⟩ : ByteArray))) = true then
       some (((6 : Int), ()), ())
      else
       runF_z21 n (.p15 (0 : Int) s0_0 s0_1 t1_0 t1_1 t1_2 t1_3)
   else
    if (t1_0 == (2 : Int)) = true then
     runF_z21 n (.p15 (0 : Int) s0_0 s0_1 t1_0 t1_1 t1_2 t1_3)
    else
     some (((15 : Int), ()), ())
 | n + 1, .p15 count5 C0 C1 D0 D1 D2 D3 =>
  if ((List.length D3 : Int) != count5) = true then
   some (((10 : Int), ()), ())
  else
   if (D0 == (2 : Int)) = true then
    (ui2 n (.start D1 (0 : Int) (1000000000 : Int))) >>= fun t1 =>
    if (!t1.1.1) = true then
     some (((2 : Int), ()), ())
    else
     runF_z21 n (.p63 C0 C1 D0 D1 D2 D3)
   else
    runF_z21 n (.p63 C0 C1 D0 D1 D2 D3)
 | n + 1, .p63 C0 C1 D0 D1 D2 D3 =>
  (uL0 n (.start D3 C0 C1)) >>= fun t1 =>
  some ((t1.1.2.1, ()), ())
end
theorem vh3 : ∀ (n : Nat), (∀ p : vN6, OLe (u98 n p) (uP9 p)) ∧ (∀ p : vN7, OLe (uL0 n p) (run_z22 p)) ∧ (∀ p : vB6, OLe (runF_z21 n p) (run_z21 p)) := by
  intro n
  induction n with
  | zero => exact ⟨(fun p r h => by cases h), (fun p r h => by cases h), (fun p r h => by cases h)⟩
  | succ n ih =>
    refine ⟨?_, ?_, ?_⟩
    · intro p
      cases p <;> rw [uP9, u98] <;> repeat' with_reducible first | refine OLe.bind ?_ (fun _ => ?_) | refine OLe.ite ?_ ?_ | exact ue0 n _ | exact uE2 n _ | exact ux8 n _ | exact ih.1 _ | exact ih.2.1 _ | exact ih.2.2 _ | exact OLe.refl _
    · intro p
      cases p <;> rw [run_z22, uL0] <;> repeat' with_reducible first | refine OLe.bind ?_ (fun _ => ?_) | refine OLe.ite ?_ ?_ | exact ue0 n _ | exact uE2 n _ | exact ux8 n _ | exact ih.1 _ | exact ih.2.1 _ | exact ih.2.2 _ | exact OLe.refl _
    · intro p
      cases p <;> rw [run_z21, runF_z21] <;> repeat' with_reducible first | refine OLe.bind ?_ (fun _ => ?_) | refine OLe.ite ?_ ?_ | exact ue0 n _ | exact uE2 n _ | exact ux8 n _ | exact ih.1 _ | exact ih.2.1 _ | exact ih.2.2 _ | exact OLe.refl _
theorem vm7 (n : Nat) : ∀ (p : vB6), OLe (runF_z21 n p) (run_z21 p) := (vh3 n).2.2
def uU0 : Nat → vN8 → Option ((Int × Unit) × Unit)
 | 0, _ => none
 | n + 1, .start s0_0 s0_1 t1_0 t1_1 t1_2 t1_3 =>
  (uT8 n (.start t1_0 t1_1 t1_2 t1_3)) >>= fun t1 =>
  if (t1.1.1 != (0 : Int)) = true then
   some ((t1.1.1, ()), ())
  else
   (runF_z21 n (.start s0_0 s0_1 t1_0 t1_1 t1_2 t1_3)) >>= fun t2 =>
   some ((t2.1.1, ()), ())
theorem uZ0 : ∀ (n : Nat) (p : vN8), OLe (uU0 n p) (uH1 p) := by
 intro n
 induction n with
 | zero => exact fun p r h => by cases h
 | succ n ih =>
  intro p
  cases p <;> rw [uH1, uU0] <;> repeat' with_reducible first | refine OLe.bind ?_ (fun _ => ?_) | refine OLe.ite ?_ ?_ | exact uY9 n _ | exact vm7 n _ | exact ih _ | exact OLe.refl _
def u99 : Nat → vN9 → Option ((Int × Unit) × ((Unit × Unit) × (((List ua3) × ((List ByteArray) × Unit)) × ((List ByteArray) × Unit))))
 | 0, _ => none
 | n + 1, .start s0 f1_0 f1_1 f1_2 f1_3 f1_4 D0 D1 B2 =>
  (uD6 n (.start f1_0 B2)) >>= fun t1 =>
  if (t1.1.1 != (0 : Int)) = true then
   some ((t1.1.1, ()), (((), ()), ((D0, (D1, ())), (B2, ()))))
  else
   if (fits (List.length B2) (List.length ([f1_0] : List ByteArray)) 16) = true then
    (uU0 n (.start D0 D1 f1_1 f1_2 f1_3 f1_4)) >>= fun t2 =>
    some ((t2.1.1, ()), (((), ()), ((D0, (D1, ())), (B2 ++ ([f1_0] : List ByteArray), ()))))
   else none
theorem vm8 : ∀ (n : Nat) (p : vN9), OLe (u99 n p) (uZ9 p) := by
 intro n
 induction n with
 | zero => exact fun p r h => by cases h
 | succ n ih =>
  intro p
  cases p <;> rw [uZ9, u99] <;> repeat' with_reducible first | refine OLe.bind ?_ (fun _ => ?_) | refine OLe.ite ?_ ?_ | exact ux6 n _ | exact uZ0 n _ | exact ih _ | exact OLe.refl _
def uL1 : Nat → vO0 → Option ((Int × (Int × Unit)) × ((Unit × Unit) × (((List ua3) × ((List ByteArray) × Unit)) × ((List ByteArray) × Unit))))
 | 0, _ => none
 | n + 1, .start l0 D0 D1 =>
  uL1 n (.p52 l0 (List.length l0 : Int) (0 : Int) D0 D1 ([] : List ByteArray))
 | n + 1, .p52 s9 s10 s11 D0 D1 B2 =>
  if (decide (s11 < s10)) = true then
   (idx s9 s11) >>= fun t1 =>
   (u99 n (.start s11 t1.Name t1.Type_.Kind t1.Type_.Value t1.Type_.Name t1.Type_.Parts D0 D1 B2)) >>= fun t2 =>
   if (t2.1.1 != (0 : Int)) = true then
    some ((s11, (t2.1.1, ())), (((), ()), ((t2.2.2.1.1, (t2.2.2.1.2.1, ())), (t2.2.2.2.1, ()))))
   else
    uL1 n (.p52 s9 s10 (IntKind.wrap .i64 (s11 + (1 : Int))) t2.2.2.1.1 t2.2.2.1.2.1 t2.2.2.2.1)
  else
   some (((0 : Int), ((0 : Int), ())), (((), ()), ((D0, (D1, ())), (B2, ()))))
theorem vm9 : ∀ (n : Nat) (p : vO0), OLe (uL1 n p) (un8 p) := by
 intro n
 induction n with
 | zero => exact fun p r h => by cases h
 | succ n ih =>
  intro p
  cases p <;> rw [un8, uL1] <;> repeat' with_reducible first | refine OLe.bind ?_ (fun _ => ?_) | refine OLe.ite ?_ ?_ | exact vm8 n _ | exact ih _ | exact OLe.refl _
def va0 : Nat → vO1 → Option ((Int × Unit) × ((Unit × Unit) × (((List ua3) × ((List ByteArray) × Unit)) × ((List ByteArray) × Unit))))
 | 0, _ => none
 | n + 1, .start s0 c1_0 c1_1 D0 D1 B2 =>
  (uD6 n (.start c1_0 B2)) >>= fun t1 =>
  (ub6 n (.start (decide ((List.length c1_1 : Int) ≤ (8 : Int))) (8 : Int))) >>= fun t2 =>
  (ud4 n (.start ([t1.1.1, t2.1.1] : List Int))) >>= fun t3 =>
  if (t3.1.1 != (0 : Int)) = true then
   some ((t3.1.1, ()), (((), ()), ((D0, (D1, ())), (B2, ()))))
  else
   if (fits (List.length B2) (List.length ([c1_0] : List ByteArray)) 16) = true then
    (uL1 n (.start c1_1 D0 D1)) >>= fun t4 =>
    some ((t4.1.2.1, ()), (((), ()), ((t4.2.2.1.1, (t4.2.2.1.2.1, ())), (B2 ++ ([c1_0] : List ByteArray), ()))))
   else none
theorem vn0 : ∀ (n : Nat) (p : vO1), OLe (va0 n p) (u00 p) := by
 intro n
 induction n with
 | zero => exact fun p r h => by cases h
 | succ n ih =>
  intro p
  cases p <;> rw [u00, va0] <;> repeat' with_reducible first | refine OLe.bind ?_ (fun _ => ?_) | refine OLe.ite ?_ ?_ | exact uf5 n _ | exact ue7 n _ | exact ux6 n _ | exact vm9 n _ | exact ih _ | exact OLe.refl _
def uL2 : Nat → vO2 → Option ((Int × (Int × Unit)) × ((Unit × Unit) × (((List ua3) × ((List ByteArray) × Unit)) × ((List ByteArray) × Unit))))
 | 0, _ => none
 | n + 1, .start l0 D0 D1 B2 =>
  uL2 n (.p52 l0 (List.length l0 : Int) (0 : Int) D0 D1 B2)
 | n + 1, .p52 s9 s10 s11 D0 D1 B2 =>
  if (decide (s11 < s10)) = true then
   (idx s9 s11) >>= fun t1 =>
   (va0 n (.start s11 t1.Name t1.Fields D0 D1 B2)) >>= fun t2 =>
   if (t2.1.1 != (0 : Int)) = true then
    some ((s11, (t2.1.1, ())), (((), ()), ((t2.2.2.1.1, (t2.2.2.1.2.1, ())), (t2.2.2.2.1, ()))))
   else
    uL2 n (.p52 s9 s10 (IntKind.wrap .i64 (s11 + (1 : Int))) t2.2.2.1.1 t2.2.2.1.2.1 t2.2.2.2.1)
  else
   some (((0 : Int), ((0 : Int), ())), (((), ()), ((D0, (D1, ())), (B2, ()))))
theorem vn1 : ∀ (n : Nat) (p : vO2), OLe (uL2 n p) (un9 p) := by
 intro n
 induction n with
 | zero => exact fun p r h => by cases h
 | succ n ih =>
  intro p
  cases p <;> rw [un9, uL2] <;> repeat' with_reducible first | refine OLe.bind ?_ (fun _ => ?_) | refine OLe.ite ?_ ?_ | exact vn0 n _ | exact ih _ | exact OLe.refl _
def uL3 : Nat → vO3 → Option ((Int × Unit) × Unit)
 | 0, _ => none
 | n + 1, .start s0_0 s0_1 d1_0 d1_1 d1_2 names2 constructors3 =>
  if (fits (List.length names2) (List.length ([(⟨#[66, 105, 116]⟩ : ByteArray), (⟨#[66, 111, 111, 108]⟩ : ByteArray), (⟨#[73, 110, 116, 101, 103, 101, 114]⟩ : ByteArray)] : List ByteArray)) 16) = true then
   (uD6 n (.start d1_0 (names2 ++ ([(⟨#[66, 105, 116]⟩ : ByteArray), (⟨#[66, 111, 111, 108]⟩ : ByteArray), (⟨#[73, 110, 116, 101, 103, 101, 114]⟩ : ByteArray)] : List ByteArray)))) >>= fun t1 =>
   if (decide ((List.length d1_1 : Int) ≤ (4 : Int))) = true then
    (ub6 n (.start (decide ((List.length d1_2 : Int) ≤ (16 : Int))) (8 : Int))) >>= fun t2 =>
    (ub6 n (.start (decide ((List.length d1_2 : Int) > (0 : Int))) (10 : Int))) >>= fun t3 =>
    (ud4 n (.start ([t1.1.1, t2.1.1, t3.1.1] : List Int))) >>= fun t4 =>
    uL3 n (.p7 constructors3 t4.1.1 s0_0 s0_1 d1_0 d1_1 d1_2)
   else
    (ub6 n (.start false (8 : Int))) >>= fun t5 =>
    (ub6 n (.start (decide ((List.length d1_2 : Int) > (0 : Int))) (10 : Int))) >>= fun t6 =>
    (ud4 n (.start ([t1.1.1, t5.1.1, t6.1.1] : List Int))) >>= fun t7 =>
    uL3 n (.p7 constructors3 t7.1.1 s0_0 s0_1 d1_0 d1_1 d1_2)
  else none
 | n + 1, .p7 constructors3 e9 C0 C1 D0 D1 D2 =>
  if (e9 != (0 : Int)) = true then
   some ((e9, ()), ())
  else
   (uK8 n (.start D1 D0 D1 D2)) >>= fun t1 =>
   if (t1.1.2.1 != (0 : Int)) = true then
    some ((t1.1.2.1, ()), ())
   else
    if (fits (List.length constructors3) (List.length ([(⟨#[70, 97, 108, 115, 101]⟩ : ByteArray), (⟨#[84, 114, 117, 101]⟩ : ByteArray)] : List ByteArray)) 16) = true then
     (uL2 n (.start t1.2.1.2.2.1 C0 t1.2.1.2.1 (constructors3 ++ ([(⟨#[70, 97, 108, 115, 101]⟩ : ByteArray), (⟨#[84, 114, 117, 101]⟩ : ByteArray)] : List ByteArray)))) >>= fun t2 =>
     some ((t2.1.2.1, ()), ())
    else none
theorem vn2 : ∀ (n : Nat) (p : vO3), OLe (uL3 n p) (us1 p) := by
 intro n
 induction n with
 | zero => exact fun p r h => by cases h
 | succ n ih =>
  intro p
  cases p <;> rw [us1, uL3] <;> repeat' with_reducible first | refine OLe.bind ?_ (fun _ => ?_) | refine OLe.ite ?_ ?_ | exact uf5 n _ | exact ue7 n _ | exact ux6 n _ | exact vm2 n _ | exact vn1 n _ | exact ih _ | exact OLe.refl _
def uL4 : Nat → vO4 → Option ((Int × Unit) × (((List ua3) × Unit) × ((Unit × Unit) × ((Unit × Unit) × ((List ByteArray) × ((List ByteArray) × Unit))))))
 | 0, _ => none
 | n + 1, .start i0 d1_0 d1_1 d1_2 B0 B3 B4 =>
  (span (List.length B0) (0 : Int) i0) >>= fun t1 =>
  (va4 n (.start B3)) >>= fun t2 =>
  (va4 n (.start B4)) >>= fun t3 =>
  (uL3 n (.start (cut B0 t1) ([]) d1_0 d1_1 d1_2 t2.1.1 t3.1.1)) >>= fun t4 =>
  if (fits (List.length B3) (List.length ([d1_0] : List ByteArray)) 16) = true then
   uL4 n (.p244 t4.1.1 d1_2 (List.length d1_2 : Int) (0 : Int) B0 (B3 ++ ([d1_0] : List ByteArray)) B4)
  else none
 | n + 1, .p244 e8 s27 s28 s29 B0 B3 B4 =>
  if (decide (s29 < s28)) = true then
   (idx s27 s29) >>= fun t1 =>
   if (fits (List.length B4) (List.length ([t1.Name] : List ByteArray)) 16) = true then
    uL4 n (.p244 e8 s27 s28 (IntKind.wrap .i64 (s29 + (1 : Int))) B0 B3 (B4 ++ ([t1.Name] : List ByteArray)))
   else none
  else
   some ((e8, ()), ((B0, ()), (((), ()), (((), ()), (B3, (B4, ()))))))
theorem vn3 : ∀ (n : Nat) (p : vO4), OLe (uL4 n p) (uo0 p) := by
 intro n
 induction n with
 | zero => exact fun p r h => by cases h
 | succ n ih =>
  intro p
  cases p <;> rw [uo0, uL4] <;> repeat' with_reducible first | refine OLe.bind ?_ (fun _ => ?_) | refine OLe.ite ?_ ?_ | exact vA5 n _ | exact vn2 n _ | exact ih _ | exact OLe.refl _
def uL5 : Nat → vO5 → Option ((Int × (Int × Unit)) × (((List ua3) × Unit) × ((Unit × Unit) × ((Unit × Unit) × ((List ByteArray) × ((List ByteArray) × Unit))))))
 | 0, _ => none
 | n + 1, .start l0 B0 =>
  uL5 n (.p52 l0 (List.length l0 : Int) (0 : Int) B0 ([] : List ByteArray) ([] : List ByteArray))
 | n + 1, .p52 s9 s10 s11 B0 B3 B4 =>
  if (decide (s11 < s10)) = true then
   (idx s9 s11) >>= fun t1 =>
   (uL4 n (.start s11 t1.Name t1.Params t1.Constructors B0 B3 B4)) >>= fun t2 =>
   if (t2.1.1 != (0 : Int)) = true then
    some ((s11, (t2.1.1, ())), ((t2.2.1.1, ()), (((), ()), (((), ()), (t2.2.2.2.2.1, (t2.2.2.2.2.2.1, ()))))))
   else
    uL5 n (.p52 s9 s10 (IntKind.wrap .i64 (s11 + (1 : Int))) t2.2.1.1 t2.2.2.2.2.1 t2.2.2.2.2.2.1)
  else
   some (((0 : Int), ((0 : Int), ())), ((B0, ()), (((), ()), (((), ()), (B3, (B4, ()))))))
theorem vn4 : ∀ (n : Nat) (p : vO5), OLe (uL5 n p) (up6 p) := by
 intro n
 induction n with
 | zero => exact fun p r h => by cases h
 | succ n ih =>
  intro p
  cases p <;> rw [up6, uL5] <;> repeat' with_reducible first | refine OLe.bind ?_ (fun _ => ?_) | refine OLe.ite ?_ ?_ | exact vn3 n _ | exact ih _ | exact OLe.refl _
def va1 : Nat → vO6 → Option ((Int × (Int × Unit)) × Unit)
 | 0, _ => none
 | n + 1, .start l0 =>
  if (decide ((List.length l0 : Int) > (20 : Int))) = true then
   some (((0 : Int), ((8 : Int), ())), ())
  else
   (uL5 n (.start l0 l0)) >>= fun t1 =>
   some ((t1.1.1, (t1.1.2.1, ())), ())
theorem vn5 : ∀ (n : Nat) (p : vO6), OLe (va1 n p) (uQ0 p) := by
 intro n
 induction n with
 | zero => exact fun p r h => by cases h
 | succ n ih =>
  intro p
  cases p <;> rw [uQ0, va1] <;> repeat' with_reducible first | refine OLe.bind ?_ (fun _ => ?_) | refine OLe.ite ?_ ?_ | exact vn4 n _ | exact ih _ | exact OLe.refl _
def uq5 : Nat → vO7 → Option (((Int × (Int × (ByteArray × ((List ua1) × Unit)))) × Unit) × Unit)
 | 0, _ => none
 | n + 1, .start t0_0 t0_1 t0_2 t0_3 params1 args2 =>
  (uP8 n (.start params1 t0_2)) >>= fun t1 =>
  if (t0_0 == (0 : Int)) = true then
   uq5 n (.p27 params1 args2 t1.1.1 (decide (t1.1.1 ≥ (0 : Int))) t0_0 t0_1 t0_2 t0_3 (0 : Int) (0 : Int) (⟨#[]⟩ : ByteArray))
  else
   uq5 n (.p27 params1 args2 t1.1.1 false t0_0 t0_1 t0_2 t0_3 (0 : Int) (0 : Int) (⟨#[]⟩ : ByteArray))
 | n + 1, .p27 params1 args2 i7 s21 C0 C1 C2 C3 D0 D1 D2 =>
  if s21 = true then
   (idx args2 i7) >>= fun t1 =>
   (uq5 n (.start t1.Kind t1.Value t1.Name t1.Parts ([]) ([]))) >>= fun t2 =>
   some (((t2.1.1.1, (t2.1.1.2.1, (t2.1.1.2.2.1, (t2.1.1.2.2.2.1, ())))), ()), ())
  else
   uq5 n (.p500 params1 args2 C3 (List.length C3 : Int) (0 : Int) D0 D1 D2 C0 C1 C2 ([] : List ua1))
 | n + 1, .p500 params1 args2 s30 s31 s32 C0 C1 C2 D0 D1 D2 B2 =>
  if (decide (s32 < s31)) = true then
   (idx s30 s32) >>= fun t1 =>
   (uq5 n (.start t1.Kind t1.Value t1.Name t1.Parts params1 args2)) >>= fun t2 =>
   if (fits (List.length B2) (List.length ([(⟨t2.1.1.1, t2.1.1.2.1, t2.1.1.2.2.1, t2.1.1.2.2.2.1⟩ : ua1)] : List ua1)) 56) = true then
    uq5 n (.p500 params1 args2 s30 s31 (IntKind.wrap .i64 (s32 + (1 : Int))) C0 C1 C2 D0 D1 D2 (B2 ++ ([(⟨t2.1.1.1, t2.1.1.2.1, t2.1.1.2.2.1, t2.1.1.2.2.2.1⟩ : ua1)] : List ua1)))
   else none
  else
   some (((D0, (D1, (D2, (B2, ())))), ()), ())
theorem vn6 : ∀ (n : Nat) (p : vO7), OLe (uq5 n p) (uf3 p) := by
 intro n
 induction n with
 | zero => exact fun p r h => by cases h
 | succ n ih =>
  intro p
  cases p <;> rw [uf3, uq5] <;> repeat' with_reducible first | refine OLe.bind ?_ (fun _ => ?_) | refine OLe.ite ?_ ?_ | exact u54 n _ | exact ih _ | exact OLe.refl _
def ux9 : Nat → vO8 → Option ((Unit × Unit) × ((List data_variant) × Unit))
 | 0, _ => none
 | n + 1, .start s0_0 s0_1 t1_0 t1_1 t1_2 t1_3 =>
  (uT9 n (.start s0_0 s0_1 t1_2)) >>= fun t1 =>
  if (!t1.1.2.1) = true then
   some (((), ()), (([(⟨(⟨#[70, 97, 108, 115, 101]⟩ : ByteArray), [], none⟩ : data_variant), (⟨(⟨#[84, 114, 117, 101]⟩ : ByteArray), [], none⟩ : data_variant)] : List data_variant), ()))
  else
   ux9 n (.p500 t1.1.1.2.2.1 (List.length t1.1.1.2.2.1 : Int) (0 : Int) t1_0 t1_1 t1_2 t1_3 t1.1.1.1 t1.1.1.2.1 t1.1.1.2.2.1 ([] : List data_variant))
 | n + 1, .p500 s26 s27 s28 C0 C1 C2 C3 D0 D1 D2 B2 =>
  if (decide (s28 < s27)) = true then
   (idx s26 s28) >>= fun t1 =>
   ux9 n (.p512820 s26 s27 s28 t1.Fields (List.length t1.Fields : Int) (0 : Int) C0 C1 C2 C3 D0 D1 D2 B2 t1.Name ([] : List ua6))
  else
   some (((), ()), (B2, ()))
 | n + 1, .p512820 s26 s27 s28 s36 s37 s38 C0 C1 C2 C3 D0 D1 D2 B2 B3 B4 =>
  if (decide (s38 < s37)) = true then
   (idx s36 s38) >>= fun t1 =>
   (uq5 n (.start t1.Type_.Kind t1.Type_.Value t1.Type_.Name t1.Type_.Parts D1 C3)) >>= fun t2 =>
   if (fits (List.length B4) (List.length ([(⟨t1.Name, (⟨t2.1.1.1, t2.1.1.2.1, t2.1.1.2.2.1, t2.1.1.2.2.2.1⟩ : ua1)⟩ : ua6)] : List ua6)) 72) = true then
    ux9 n (.p512820 s26 s27 s28 s36 s37 (IntKind.wrap .i64 (s38 + (1 : Int))) C0 C1 C2 C3 D0 D1 D2 B2 B3 (B4 ++ ([(⟨t1.Name, (⟨t2.1.1.1, t2.1.1.2.1, t2.1.1.2.2.1, t2.1.1.2.2.2.1⟩ : ua1)⟩ : ua6)] : List ua6)))
   else none
  else
   if (fits (List.length B2) (List.length ([(⟨B3, B4, none⟩ : data_variant)] : List data_variant)) 64) = true then
    ux9 n (.p500 s26 s27 (IntKind.wrap .i64 (s28 + (1 : Int))) C0 C1 C2 C3 D0 D1 D2 (B2 ++ ([(⟨B3, B4, none⟩ : data_variant)] : List data_variant)))
   else none
theorem vn7 : ∀ (n : Nat) (p : vO8), OLe (ux9 n p) (uh7 p) := by
 intro n
 induction n with
 | zero => exact fun p r h => by cases h
 | succ n ih =>
  intro p
  cases p <;> rw [uh7, ux9] <;> repeat' with_reducible first | refine OLe.bind ?_ (fun _ => ?_) | refine OLe.ite ?_ ?_ | exact ux8 n _ | exact vn6 n _ | exact ih _ | exact OLe.refl _
def uo5 : Nat → vO9 → Option (((Option ua4) × (Int × Unit)) × ((Int × Unit) × Unit))
 | 0, _ => none
 | n + 1, .start s0_0 s0_1 t1_0 t1_1 t1_2 t1_3 deep3 B0 =>
  (uT8 n (.start t1_0 t1_1 t1_2 t1_3)) >>= fun t1 =>
  if (t1.1.1 != (0 : Int)) = true then
   some ((none, (t1.1.1, ())), ((B0, ()), ()))
  else
   if (decide ((IntKind.wrap .i64 (B0 + (1 : Int))) ≤ (200 : Int))) = true then
    (ub6 n (.start (decide (deep3 ≤ (40 : Int))) (8 : Int))) >>= fun t2 =>
    uo5 n (.p31 deep3 t2.1.1 (IntKind.wrap .i64 (B0 + (1 : Int))) s0_0 s0_1 t1_0 t1_1 t1_2 t1_3)
   else
    (ub6 n (.start false (8 : Int))) >>= fun t3 =>
    uo5 n (.p31 deep3 t3.1.1 (IntKind.wrap .i64 (B0 + (1 : Int))) s0_0 s0_1 t1_0 t1_1 t1_2 t1_3)
 | n + 1, .p31 deep3 few11 B0 D0 D1 G0 G1 G2 G3 =>
  if (G0 == (2 : Int)) = true then
   some ((none, ((26 : Int), ())), ((B0, ()), ()))
  else
   if (seq G2 (⟨#[66, 105, 116]⟩ : ByteArray)) = true then
    (idx G3 (0 : Int)) >>= fun t1 =>
    (ub6 n (.start (t1.Kind == (2 : Int)) (26 : Int))) >>= fun t2 =>
    (ui2 n (.start t1.Value (1 : Int) (16 : Int))) >>= fun t3 =>
    (ub6 n (.start t3.1.1 (25 : Int))) >>= fun t4 =>
    (ud4 n (.start ([t2.1.1, t4.1.1, few11] : List Int))) >>= fun t5 =>
    some ((some (⟨t1.Value, none⟩ : ua4), (t5.1.1, ())), ((B0, ()), ()))
   else
    if (few11 != (0 : Int)) = true then
     some ((none, (few11, ())), ((B0, ()), ()))
    else
     (ux9 n (.start D0 D1 G0 G1 G2 G3)) >>= fun t6 =>
     uo5 n (.p8180 deep3 (List.length t6.2.1 : Int) (0 : Int) B0 D0 D1 (0 : Int) t6.2.1)
 | n + 1, .p8180 deep3 s76 s77 B0 D0 D1 B2 B3 =>
  if (decide (s77 < s76)) = true then
   if (decide ((0 : Int) ≤ s77) && decide (s77 < (List.length B3 : Int))) = true then
    (idx B3 s77) >>= fun t1 =>
    if (Option.isNone t1.parts) = true then
     (if s77 = (Int.toNat s77 : Int) then B3[Int.toNat s77]? else none) >>= fun t2 =>
     uo5 n (.p4188572 deep3 s77 s76 s77 t2.fields (List.length t2.fields : Int) (0 : Int) B0 D0 D1 B2 (B3, Int.toNat s77) ([] : List (Option ua4)))
    else none
   else none
  else
   some ((some (⟨B2, (some B3)⟩ : ua4), ((0 : Int), ())), ((B0, ()), ()))
 | n + 1, .p4188572 deep3 v15 s76 s77 s89 s90 s91 B0 D0 D1 B2 B3 B4 =>
  if (decide (s91 < s90)) = true then
   (idx s89 s91) >>= fun t1 =>
   (uo5 n (.start D0 D1 t1.Type_.Kind t1.Type_.Value t1.Type_.Name t1.Type_.Parts (IntKind.wrap .i64 (deep3 + (1 : Int))) B0)) >>= fun t2 =>
   if (t2.1.2.1 != (0 : Int)) = true then
    some ((none, (t2.1.2.1, ())), ((t2.2.1.1, ()), ()))
   else
    (if v15 = (B3.2 : Int) then B3.1[B3.2]? else none) >>= fun t3 =>
    if (fits (List.length B4) (List.length ([t2.1.1] : List (Option ua4))) 8) = true then
     if v15 = (B3.2 : Int) then
      uo5 n (.p4188572 deep3 v15 s76 s77 s89 s90 (IntKind.wrap .i64 (s91 + (1 : Int))) t2.2.1.1 D0 D1 B2 (B3.1, B3.2) (B4 ++ ([t2.1.1] : List (Option ua4))))
     else none
    else none
  else
   uo5 n (.p8180 deep3 s76 (IntKind.wrap .i64 (s77 + (1 : Int))) B0 D0 D1 B2 (List.modify B3.1 B3.2 (fun y => (⟨y.name, y.fields, (some B4)⟩ : data_variant))))
theorem vn8 : ∀ (n : Nat) (p : vO9), OLe (uo5 n p) (uc4 p) := by
 intro n
 induction n with
 | zero => exact fun p r h => by cases h
 | succ n ih =>
  intro p
  cases p <;> rw [uc4, uo5] <;> repeat' with_reducible first | refine OLe.bind ?_ (fun _ => ?_) | refine OLe.ite ?_ ?_ | exact ue0 n _ | exact uf5 n _ | exact ue7 n _ | exact uY9 n _ | exact vn7 n _ | exact ih _ | exact OLe.refl _
def ut3 : Nat → vP0 → Option ((Bool × Unit) × Unit)
 | 0, _ => none
 | n + 1, .start x0 =>
  x0 >>= fun t1 =>
  (we8 t1.constructors) >>= fun t2 =>
  some ((t2, ()), ())
theorem ue8 : ∀ (n : Nat) (p : vP0), OLe (ut3 n p) (up7 p) := by
 intro n
 induction n with
 | zero => exact fun p r h => by cases h
 | succ n ih =>
  intro p
  cases p <;> rw [up7, ut3] <;> repeat' with_reducible first | refine OLe.bind ?_ (fun _ => ?_) | refine OLe.ite ?_ ?_ | exact ih _ | exact OLe.refl _
def uq6 : Nat → vP1 → Option ((Int × Unit) × Unit)
 | 0, _ => none
 | n + 1, .start x0 =>
  if (decide (x0 ≥ (4294967296 : Int))) = true then
   if (decide ((0 : Int) ≤ (32 : Int))) = true then
    uq6 n (.p7 (shr .u64 x0 (32 : Int)) (32 : Int))
   else none
  else
   uq6 n (.p7 x0 (0 : Int))
 | n + 1, .p7 x0 n2 =>
  if (decide (x0 ≥ (65536 : Int))) = true then
   if (decide ((0 : Int) ≤ (16 : Int))) = true then
    uq6 n (.p15 (shr .u64 x0 (16 : Int)) (IntKind.wrap .i64 (n2 + (16 : Int))))
   else none
  else
   uq6 n (.p15 x0 n2)
 | n + 1, .p15 x0 n2 =>
  if (decide (x0 ≥ (256 : Int))) = true then
   if (decide ((0 : Int) ≤ (8 : Int))) = true then
    uq6 n (.p31 (shr .u64 x0 (8 : Int)) (IntKind.wrap .i64 (n2 + (8 : Int))))
   else none
  else
   uq6 n (.p31 x0 n2)
 | n + 1, .p31 x0 n2 =>
  (sidx (⟨#[0, 1, 2, 2, 3, 3, 3, 3, 4, 4, 4, 4, 4, 4, 4, 4, 5, 5, 5, 5, 5, 5, 5, 5, 5, 5, 5, 5, 5, 5, 5, 5, 6, 6, 6, 6, 6, 6, 6, 6, 6, 6, 6, 6, 6, 6, 6, 6, 6, 6, 6, 6, 6, 6, 6, 6, 6, 6, 6, 6, 6, 6, 6, 6, 7, 7, 7, 7, 7, 7, 7, 7, 7, 7, 7, 7, 7, 7, 7, 7, 7, 7, 7, 7, 7, 7, 7, 7, 7, 7, 7, 7, 7, 7, 7, 7, 7, 7, 7, 7, 7, 7, 7, 7, 7, 7, 7, 7, 7, 7, 7, 7, 7, 7, 7, 7, 7, 7, 7, 7, 7, 7, 7, 7, 7, 7, 7, 7, 8, 8, 8, 8, 8, 8, 8, 8, 8, 8, 8, 8, 8, 8, 8, 8, 8, 8, 8, 8, 8, 8, 8, 8, 8, 8, 8, 8, 8, 8, 8, 8, 8, 8, 8, 8, 8, 8, 8, 8, 8, 8, 8, 8, 8, 8, 8, 8, 8, 8, 8, 8, 8, 8, 8, 8, 8, 8, 8, 8, 8, 8, 8, 8, 8, 8, 8, 8, 8, 8, 8, 8, 8, 8, 8, 8, 8, 8, 8, 8, 8, 8, 8, 8, 8, 8, 8, 8, 8, 8, 8, 8, 8, 8, 8, 8, 8, 8, 8, 8, 8, 8, 8, 8, 8, 8, 8, 8, 8, 8, 8, 8, 8, 8, 8, 8, 8, 8, 8, 8, 8, 8, 8, 8, 8, 8, 8, 8]⟩ : ByteArray) (IntKind.wrap .u8 x0)) >>= fun t1 =>
  some ((IntKind.wrap .i64 (n2 + (IntKind.wrap .i64 t1)), ()), ())
theorem vn9 : ∀ (n : Nat) (p : vP1), OLe (uq6 n p) (uj8 p) := by
 intro n
 induction n with
 | zero => exact fun p r h => by cases h
 | succ n ih =>
  intro p
  cases p <;> rw [uj8, uq6] <;> repeat' with_reducible first | refine OLe.bind ?_ (fun _ => ?_) | refine OLe.ite ?_ ?_ | exact ih _ | exact OLe.refl _
def va2 : Nat → vP2 → Option ((Int × Unit) × Unit)
 | 0, _ => none
 | n + 1, .start x0 =>
  (uq6 n (.start x0)) >>= fun t1 =>
  some ((t1.1.1, ()), ())
theorem vo0 : ∀ (n : Nat) (p : vP2), OLe (va2 n p) (u01 p) := by
 intro n
 induction n with
 | zero => exact fun p r h => by cases h
 | succ n ih =>
  intro p
  cases p <;> rw [u01, va2] <;> repeat' with_reducible first | refine OLe.bind ?_ (fun _ => ?_) | refine OLe.ite ?_ ?_ | exact vn9 n _ | exact ih _ | exact OLe.refl _
def va3 : Nat → vP3 → Option ((Int × Unit) × Unit)
 | 0, _ => none
 | n + 1, .start x0 =>
  x0 >>= fun t1 =>
  (va2 n (.start (IntKind.wrap .u64 (IntKind.wrap .i64 ((List.length (Option.getD t1.constructors []) : Int) - (1 : Int)))))) >>= fun t2 =>
  some ((t2.1.1, ()), ())
theorem uG8 : ∀ (n : Nat) (p : vP3), OLe (va3 n p) (uQ1 p) := by
 intro n
 induction n with
 | zero => exact fun p r h => by cases h
 | succ n ih =>
  intro p
  cases p <;> rw [uQ1, va3] <;> repeat' with_reducible first | refine OLe.bind ?_ (fun _ => ?_) | refine OLe.ite ?_ ?_ | exact vo0 n _ | exact ih _ | exact OLe.refl _
mutual
def uy0 : Nat → vB7 → Option ((Int × Unit) × Unit)
 | 0, _ => none
 | n + 1, .start v0_0 v0_1 v0_2 =>
  uy0 n (.p116 (0 : Int) v0_2 (List.length (Option.getD v0_2 []) : Int) (0 : Int))
 | n + 1, .p116 sum3 s7 s8 s9 =>
  if (decide (s9 < s8)) = true then
   (idx (Option.getD s7 []) s9) >>= fun t1 =>
   (runF_z41 n (.start t1)) >>= fun t2 =>
   uy0 n (.p116 (IntKind.wrap .i64 (sum3 + t2.1.1)) s7 s8 (IntKind.wrap .i64 (s9 + (1 : Int))))
  else
   some ((sum3, ()), ())
def uq7 : Nat → vB9 → Option ((Int × Unit) × Unit)
 | 0, _ => none
 | n + 1, .start x0 =>
  x0 >>= fun t1 =>
  uq7 n (.p116 (0 : Int) t1.constructors (List.length (Option.getD t1.constructors []) : Int) (0 : Int))
 | n + 1, .p116 most3 s9 s10 s11 =>
  if (decide (s11 < s10)) = true then
   (idx (Option.getD s9 []) s11) >>= fun t1 =>
   (uy0 n (.start t1.name t1.fields t1.parts)) >>= fun t2 =>
   uq7 n (.p116 (if t2.1.1 > most3 then t2.1.1 else most3) s9 s10 (IntKind.wrap .i64 (s11 + (1 : Int))))
  else
   some ((most3, ()), ())
def runF_z41 : Nat → vB8 → Option ((Int × Unit) × Unit)
 | 0, _ => none
 | n + 1, .start x0 =>
  (ut3 n (.start x0)) >>= fun t1 =>
  if t1.1.1 = true then
   x0 >>= fun t2 =>
   some ((t2.bits, ()), ())
  else
   (va3 n (.start x0)) >>= fun t3 =>
   (uq7 n (.start x0)) >>= fun t4 =>
   some ((IntKind.wrap .i64 (t3.1.1 + t4.1.1), ()), ())
end
theorem uA9 : ∀ (n : Nat), (∀ p : vB7, OLe (uy0 n p) (ul3 p)) ∧ (∀ p : vB9, OLe (uq7 n p) (run_z42 p)) ∧ (∀ p : vB8, OLe (runF_z41 n p) (run_z41 p)) := by
  intro n
  induction n with
  | zero => exact ⟨(fun p r h => by cases h), (fun p r h => by cases h), (fun p r h => by cases h)⟩
  | succ n ih =>
    refine ⟨?_, ?_, ?_⟩
    · intro p
      cases p <;> rw [ul3, uy0] <;> repeat' with_reducible first | refine OLe.bind ?_ (fun _ => ?_) | refine OLe.ite ?_ ?_ | exact ue8 n _ | exact uG8 n _ | exact ih.1 _ | exact ih.2.1 _ | exact ih.2.2 _ | exact OLe.refl _
    · intro p
      cases p <;> rw [run_z42, uq7] <;> repeat' with_reducible first | refine OLe.bind ?_ (fun _ => ?_) | refine OLe.ite ?_ ?_ | exact ue8 n _ | exact uG8 n _ | exact ih.1 _ | exact ih.2.1 _ | exact ih.2.2 _ | exact OLe.refl _
    · intro p
      cases p <;> rw [run_z41, runF_z41] <;> repeat' with_reducible first | refine OLe.bind ?_ (fun _ => ?_) | refine OLe.ite ?_ ?_ | exact ue8 n _ | exact uG8 n _ | exact ih.1 _ | exact ih.2.1 _ | exact ih.2.2 _ | exact OLe.refl _
theorem vo1 (n : Nat) : ∀ (p : vB7), OLe (uy0 n p) (ul3 p) := (uA9 n).1
theorem uZ2 (n : Nat) : ∀ (p : vB9), OLe (uq7 n p) (run_z42 p) := (uA9 n).2.1
theorem us0 (n : Nat) : ∀ (p : vB8), OLe (runF_z41 n p) (run_z41 p) := (uA9 n).2.2
def uD7 : Nat → vP4 → Option (((Option ua4) × (((List ua3) × (Unit × Unit)) × (Int × Unit))) × Unit)
 | 0, _ => none
 | n + 1, .start l0 t1_0 t1_1 t1_2 t1_3 =>
  (va1 n (.start l0)) >>= fun t1 =>
  if (t1.1.2.1 != (0 : Int)) = true then
   some ((none, ((l0, ((), ())), (t1.1.2.1, ()))), ())
  else
   (uU0 n (.start l0 ([]) t1_0 t1_1 t1_2 t1_3)) >>= fun t2 =>
   if (t2.1.1 != (0 : Int)) = true then
    some ((none, ((l0, ((), ())), (t2.1.1, ()))), ())
   else
    (uo5 n (.start l0 ([]) t1_0 t1_1 t1_2 t1_3 (1 : Int) (0 : Int))) >>= fun t3 =>
    if (t3.1.2.1 == (0 : Int)) = true then
     (runF_z41 n (.start t3.1.1)) >>= fun t4 =>
     (ui2 n (.start t4.1.1 (1 : Int) (16 : Int))) >>= fun t5 =>
     if (!t5.1.1) = true then
      some ((t3.1.1, ((l0, ((), ())), ((25 : Int), ()))), ())
     else
      some ((t3.1.1, ((l0, ((), ())), (t3.1.2.1, ()))), ())
    else
     some ((t3.1.1, ((l0, ((), ())), (t3.1.2.1, ()))), ())
theorem uy1 : ∀ (n : Nat) (p : vP4), OLe (uD7 n p) (uu2 p) := by
 intro n
 induction n with
 | zero => exact fun p r h => by cases h
 | succ n ih =>
  intro p
  cases p <;> rw [uu2, uD7] <;> repeat' with_reducible first | refine OLe.bind ?_ (fun _ => ?_) | refine OLe.ite ?_ ?_ | exact ue0 n _ | exact uZ0 n _ | exact vn5 n _ | exact vn8 n _ | exact us0 n _ | exact ih _ | exact OLe.refl _
def va5 : Nat → vP5 → Option ((Int × (Int × Unit)) × Unit)
 | 0, _ => none
 | n + 1, .start l0 t1_0 t1_1 t1_2 t1_3 =>
  (uD7 n (.start l0 t1_0 t1_1 t1_2 t1_3)) >>= fun t1 =>
  if (t1.1.2.2.1 != (0 : Int)) = true then
   some (((0 : Int), (t1.1.2.2.1, ())), ())
  else
   (runF_z41 n (.start t1.1.1)) >>= fun t2 =>
   some ((t2.1.1, ((0 : Int), ())), ())
theorem vo2 : ∀ (n : Nat) (p : vP5), OLe (va5 n p) (uH2 p) := by
 intro n
 induction n with
 | zero => exact fun p r h => by cases h
 | succ n ih =>
  intro p
  cases p <;> rw [uH2, va5] <;> repeat' with_reducible first | refine OLe.bind ?_ (fun _ => ?_) | refine OLe.ite ?_ ?_ | exact us0 n _ | exact uy1 n _ | exact ih _ | exact OLe.refl _
def uq8 : Nat → vP6 → Option (((ByteArray × (Int × ((List ua5) × Unit))) × Unit) × Unit)
 | 0, _ => none
 | n + 1, .start name0 parts1 =>
  some (((name0, ((0 : Int), (parts1, ()))), ()), ())
theorem vo3 : ∀ (n : Nat) (p : vP6), OLe (uq8 n p) (uu3 p) := by
 intro n
 induction n with
 | zero => exact fun p r h => by cases h
 | succ n ih =>
  intro p
  cases p <;> rw [uu3, uq8] <;> repeat' with_reducible first | refine OLe.bind ?_ (fun _ => ?_) | refine OLe.ite ?_ ?_ | exact ih _ | exact OLe.refl _
def va6 : Nat → vP7 → Option (((List ua5) × Unit) × Unit)
 | 0, _ => none
 | n + 1, .start v0_0 v0_1 v0_2 =>
  some ((v0_2, ()), ())
theorem vo4 : ∀ (n : Nat) (p : vP7), OLe (va6 n p) (u03 p) := by
 intro n
 induction n with
 | zero => exact fun p r h => by cases h
 | succ n ih =>
  intro p
  cases p <;> rw [u03, va6] <;> repeat' with_reducible first | refine OLe.bind ?_ (fun _ => ?_) | refine OLe.ite ?_ ?_ | exact ih _ | exact OLe.refl _
def uy2 : Nat → vP8 → Option ((Bool × Unit) × ((Int × Unit) × ((Unit × Unit) × (((Unit × (Unit × (Unit × Unit))) × Unit) × Unit))))
 | 0, _ => none
 | n + 1, .start x0_0 x0_1 x0_2 depth1 B0 =>
  if (decide ((IntKind.wrap .i64 (B0 + (1 : Int))) > (200 : Int))) = true then
   some ((false, ()), ((IntKind.wrap .i64 (B0 + (1 : Int)), ()), (((), ()), ((((), ((), ((), ()))), ()), ()))))
  else
   if (decide (depth1 > (40 : Int))) = true then
    some ((false, ()), ((IntKind.wrap .i64 (B0 + (1 : Int)), ()), (((), ()), ((((), ((), ((), ()))), ()), ()))))
   else
    uy2 n (.p15 depth1 (IntKind.wrap .i64 (B0 + (1 : Int))) x0_0 x0_1 x0_2)
 | n + 1, .p15 depth1 B0 H0 H1 H2 =>
  (va6 n (.start H0 H1 H2)) >>= fun t1 =>
  uy2 n (.p244 depth1 t1.1.1 (List.length t1.1.1 : Int) (0 : Int) B0)
 | n + 1, .p244 depth1 s20 s21 s22 B0 =>
  if (decide (s22 < s21)) = true then
   (idx s20 s22) >>= fun t1 =>
   (uy2 n (.start t1.Name t1.Number t1.Parts (IntKind.wrap .i64 (depth1 + (1 : Int))) B0)) >>= fun t2 =>
   if (!t2.1.1) = true then
    some ((false, ()), ((t2.2.1.1, ()), (((), ()), ((((), ((), ((), ()))), ()), ()))))
   else
    uy2 n (.p244 depth1 s20 s21 (IntKind.wrap .i64 (s22 + (1 : Int))) t2.2.1.1)
  else
   some ((true, ()), ((B0, ()), (((), ()), ((((), ((), ((), ()))), ()), ()))))
theorem vo5 : ∀ (n : Nat) (p : vP8), OLe (uy2 n p) (uj9 p) := by
 intro n
 induction n with
 | zero => exact fun p r h => by cases h
 | succ n ih =>
  intro p
  cases p <;> rw [uj9, uy2] <;> repeat' with_reducible first | refine OLe.bind ?_ (fun _ => ?_) | refine OLe.ite ?_ ?_ | exact vo4 n _ | exact ih _ | exact OLe.refl _
def uU1 : Nat → vP9 → Option ((Int × Unit) × Unit)
 | 0, _ => none
 | n + 1, .start root0_0 root0_1 root0_2 =>
  (uy2 n (.start root0_0 root0_1 root0_2 (1 : Int) (0 : Int))) >>= fun t1 =>
  (ub6 n (.start t1.1.1 (8 : Int))) >>= fun t2 =>
  some ((t2.1.1, ()), ())
theorem uZ3 : ∀ (n : Nat) (p : vP9), OLe (uU1 n p) (uH3 p) := by
 intro n
 induction n with
 | zero => exact fun p r h => by cases h
 | succ n ih =>
  intro p
  cases p <;> rw [uH3, uU1] <;> repeat' with_reducible first | refine OLe.bind ?_ (fun _ => ?_) | refine OLe.ite ?_ ?_ | exact uf5 n _ | exact vo5 n _ | exact ih _ | exact OLe.refl _
def va7 : Nat → vQ0 → Option ((Bool × Unit) × Unit)
 | 0, _ => none
 | n + 1, .start v0_0 v0_1 v0_2 s1 =>
  some ((seq v0_0 s1, ()), ())
theorem vo6 : ∀ (n : Nat) (p : vQ0), OLe (va7 n p) (u04 p) := by
 intro n
 induction n with
 | zero => exact fun p r h => by cases h
 | succ n ih =>
  intro p
  cases p <;> rw [u04, va7] <;> repeat' with_reducible first | refine OLe.bind ?_ (fun _ => ?_) | refine OLe.ite ?_ ?_ | exact ih _ | exact OLe.refl _
def uL6 : Nat → vQ1 → Option ((Int × Unit) × ((ByteArray × Unit) × Unit))
 | 0, _ => none
 | n + 1, .start s0 B0 =>
  uL6 n (.p52 s0 (List.length (Option.getD s0 []) : Int) (0 : Int) B0)
 | n + 1, .p52 s0 s7 s8 B0 =>
  if (decide (s8 < s7)) = true then
   (idx (Option.getD s0 []) s8) >>= fun t1 =>
   (va7 n (.start t1.name t1.fields t1.parts B0)) >>= fun t2 =>
   if t2.1.1 = true then
    some ((s8, ()), ((B0, ()), ()))
   else
    uL6 n (.p52 s0 s7 (IntKind.wrap .i64 (s8 + (1 : Int))) B0)
  else
   some (((-1 : Int), ()), ((B0, ()), ()))
theorem vo7 : ∀ (n : Nat) (p : vQ1), OLe (uL6 n p) (uo1 p) := by
 intro n
 induction n with
 | zero => exact fun p r h => by cases h
 | succ n ih =>
  intro p
  cases p <;> rw [uo1, uL6] <;> repeat' with_reducible first | refine OLe.bind ?_ (fun _ => ?_) | refine OLe.ite ?_ ?_ | exact vo6 n _ | exact ih _ | exact OLe.refl _
def uU2 : Nat → vQ2 → Option ((Int × Unit) × Unit)
 | 0, _ => none
 | n + 1, .start x0 name1 =>
  x0 >>= fun t1 =>
  (uL6 n (.start t1.constructors name1)) >>= fun t2 =>
  some ((t2.1.1, ()), ())
theorem uy3 : ∀ (n : Nat) (p : vQ2), OLe (uU2 n p) (uH4 p) := by
 intro n
 induction n with
 | zero => exact fun p r h => by cases h
 | succ n ih =>
  intro p
  cases p <;> rw [uH4, uU2] <;> repeat' with_reducible first | refine OLe.bind ?_ (fun _ => ?_) | refine OLe.ite ?_ ?_ | exact vo7 n _ | exact ih _ | exact OLe.refl _
mutual
def va8 : Nat → vQ3 → Option ((Int × Unit) × ((ByteArray × ((List ua6) × ((Option (List (Option ua4))) × Unit))) × Unit))
 | 0, _ => none
 | n + 1, .start i0 part1_0 part1_1 part1_2 C0 C1 C2 =>
  (idx (Option.getD C2 []) i0) >>= fun t1 =>
  (runF_z53 n (.start t1 part1_0 part1_1 part1_2)) >>= fun t2 =>
  some ((t2.1.1, ()), ((C0, (C1, (C2, ()))), ()))
def uL7 : Nat → vQ4 → Option ((Int × (Int × Unit)) × ((ByteArray × ((List ua6) × ((Option (List (Option ua4))) × Unit))) × Unit))
 | 0, _ => none
 | n + 1, .start l0 C0 C1 C2 =>
  uL7 n (.p52 l0 (List.length l0 : Int) (0 : Int) C0 C1 C2)
 | n + 1, .p52 s9 s10 s11 C0 C1 C2 =>
  if (decide (s11 < s10)) = true then
   (idx s9 s11) >>= fun t1 =>
   (va8 n (.start s11 t1.Name t1.Number t1.Parts C0 C1 C2)) >>= fun t2 =>
   if (t2.1.1 != (0 : Int)) = true then
    some ((s11, (t2.1.1, ())), ((t2.2.1.1, (t2.2.1.2.1, (t2.2.1.2.2.1, ()))), ()))
   else
    uL7 n (.p52 s9 s10 (IntKind.wrap .i64 (s11 + (1 : Int))) t2.2.1.1 t2.2.1.2.1 t2.2.1.2.2.1)
  else
   some (((0 : Int), ((0 : Int), ())), ((C0, (C1, (C2, ()))), ()))
def runF_z53 : Nat → vC0 → Option ((Int × Unit) × Unit)
 | 0, _ => none
 | n + 1, .start x0 v1_0 v1_1 v1_2 =>
  (ut3 n (.start x0)) >>= fun t1 =>
  if t1.1.1 = true then
   if (seq v1_0 (⟨#[]⟩ : ByteArray)) = true then
    (ub6 n (.start ((List.length v1_2 : Int) == (0 : Int)) (3 : Int))) >>= fun t2 =>
    x0 >>= fun t3 =>
    if (decide ((0 : Int) ≤ t3.bits)) = true then
     (ui2 n (.start v1_1 (0 : Int) (IntKind.wrap .i64 ((shl .i64 (1 : Int) t3.bits) - (1 : Int))))) >>= fun t4 =>
     (ub6 n (.start t4.1.1 (2 : Int))) >>= fun t5 =>
     (ud4 n (.start ([t2.1.1, t5.1.1] : List Int))) >>= fun t6 =>
     some ((t6.1.1, ()), ())
    else none
   else
    (ub6 n (.start false (3 : Int))) >>= fun t7 =>
    x0 >>= fun t8 =>
    if (decide ((0 : Int) ≤ t8.bits)) = true then
     (ui2 n (.start v1_1 (0 : Int) (IntKind.wrap .i64 ((shl .i64 (1 : Int) t8.bits) - (1 : Int))))) >>= fun t9 =>
     (ub6 n (.start t9.1.1 (2 : Int))) >>= fun t10 =>
     (ud4 n (.start ([t7.1.1, t10.1.1] : List Int))) >>= fun t11 =>
     some ((t11.1.1, ()), ())
    else none
  else
   (uU2 n (.start x0 v1_0)) >>= fun t12 =>
   if (decide (t12.1.1 < (0 : Int))) = true then
    some (((6 : Int), ()), ())
   else
    x0 >>= fun t13 =>
    (idx (Option.getD t13.constructors []) t12.1.1) >>= fun t14 =>
    (ub6 n (.start (v1_1 == (0 : Int)) (3 : Int))) >>= fun t15 =>
    (ub6 n (.start ((List.length v1_2 : Int) == (List.length (Option.getD t14.parts []) : Int)) (10 : Int))) >>= fun t16 =>
    (ud4 n (.start ([t15.1.1, t16.1.1] : List Int))) >>= fun t17 =>
    if (t17.1.1 != (0 : Int)) = true then
     some ((t17.1.1, ()), ())
    else
     (uL7 n (.start v1_2 t14.name t14.fields t14.parts)) >>= fun t18 =>
     some ((t18.1.2.1, ()), ())
end
theorem vh4 : ∀ (n : Nat), (∀ p : vQ3, OLe (va8 n p) (uQ2 p)) ∧ (∀ p : vQ4, OLe (uL7 n p) (run_z54 p)) ∧ (∀ p : vC0, OLe (runF_z53 n p) (run_z53 p)) := by
  intro n
  induction n with
  | zero => exact ⟨(fun p r h => by cases h), (fun p r h => by cases h), (fun p r h => by cases h)⟩
  | succ n ih =>
    refine ⟨?_, ?_, ?_⟩
    · intro p
      cases p <;> rw [uQ2, va8] <;> repeat' with_reducible first | refine OLe.bind ?_ (fun _ => ?_) | refine OLe.ite ?_ ?_ | exact ue0 n _ | exact uf5 n _ | exact ue7 n _ | exact ue8 n _ | exact uy3 n _ | exact ih.1 _ | exact ih.2.1 _ | exact ih.2.2 _ | exact OLe.refl _
    · intro p
      cases p <;> rw [run_z54, uL7] <;> repeat' with_reducible first | refine OLe.bind ?_ (fun _ => ?_) | refine OLe.ite ?_ ?_ | exact ue0 n _ | exact uf5 n _ | exact ue7 n _ | exact ue8 n _ | exact uy3 n _ | exact ih.1 _ | exact ih.2.1 _ | exact ih.2.2 _ | exact OLe.refl _
    · intro p
      cases p <;> rw [run_z53, runF_z53] <;> repeat' with_reducible first | refine OLe.bind ?_ (fun _ => ?_) | refine OLe.ite ?_ ?_ | exact ue0 n _ | exact uf5 n _ | exact ue7 n _ | exact ue8 n _ | exact uy3 n _ | exact ih.1 _ | exact ih.2.1 _ | exact ih.2.2 _ | exact OLe.refl _
theorem vo8 (n : Nat) : ∀ (p : vC0), OLe (runF_z53 n p) (run_z53 p) := (vh4 n).2.2
def uL8 : Nat → vQ5 → Option (((Option ua4) × (Int × Unit)) × Unit)
 | 0, _ => none
 | n + 1, .start l0 t1_0 t1_1 t1_2 t1_3 v2_0 v2_1 v2_2 =>
  (uD7 n (.start l0 t1_0 t1_1 t1_2 t1_3)) >>= fun t1 =>
  if (t1.1.2.2.1 == (0 : Int)) = true then
   (uU1 n (.start v2_0 v2_1 v2_2)) >>= fun t2 =>
   uL8 n (.p15 t1.1.1 t2.1.1 v2_0 v2_1 v2_2)
  else
   uL8 n (.p15 t1.1.1 t1.1.2.2.1 v2_0 v2_1 v2_2)
 | n + 1, .p15 x8 e10 C0 C1 C2 =>
  if (e10 == (0 : Int)) = true then
   (runF_z53 n (.start x8 C0 C1 C2)) >>= fun t1 =>
   some ((x8, (t1.1.1, ())), ())
  else
   some ((x8, (e10, ())), ())
theorem vo9 : ∀ (n : Nat) (p : vQ5), OLe (uL8 n p) (uk0 p) := by
 intro n
 induction n with
 | zero => exact fun p r h => by cases h
 | succ n ih =>
  intro p
  cases p <;> rw [uk0, uL8] <;> repeat' with_reducible first | refine OLe.bind ?_ (fun _ => ?_) | refine OLe.ite ?_ ?_ | exact uy1 n _ | exact uZ3 n _ | exact vo8 n _ | exact ih _ | exact OLe.refl _
def uD8 : Nat → vQ6 → Option ((Int × Unit) × Unit)
 | 0, _ => none
 | n + 1, .start x0 v1_0 v1_1 v1_2 =>
  (ut3 n (.start x0)) >>= fun t1 =>
  if t1.1.1 = true then
   some ((v1_1, ()), ())
  else
   (uU2 n (.start x0 v1_0)) >>= fun t2 =>
   x0 >>= fun t3 =>
   (idx (Option.getD t3.constructors []) t2.1.1) >>= fun t4 =>
   uD8 n (.p500 x0 t2.1.1 (0 : Int) t4.parts (List.length (Option.getD t4.parts []) : Int) (0 : Int) v1_0 v1_1 v1_2)
 | n + 1, .p500 x0 tag5 fields6 s24 s25 s26 C0 C1 C2 =>
  if (decide (s26 < s25)) = true then
   (idx (Option.getD s24 []) s26) >>= fun t1 =>
   (runF_z41 n (.start t1)) >>= fun t2 =>
   if (decide ((0 : Int) ≤ t2.1.1)) = true then
    (idx C2 s26) >>= fun t3 =>
    (uD8 n (.start t1 t3.Name t3.Number t3.Parts)) >>= fun t4 =>
    uD8 n (.p500 x0 tag5 (bits .or .i64 (shl .i64 fields6 t2.1.1) t4.1.1) s24 s25 (IntKind.wrap .i64 (s26 + (1 : Int))) C0 C1 C2)
   else none
  else
   (uq7 n (.start x0)) >>= fun t5 =>
   if (decide ((0 : Int) ≤ t5.1.1)) = true then
    some ((bits .or .i64 (shl .i64 tag5 t5.1.1) fields6, ()), ())
   else none
theorem vp0 : ∀ (n : Nat) (p : vQ6), OLe (uD8 n p) (ul4 p) := by
 intro n
 induction n with
 | zero => exact fun p r h => by cases h
 | succ n ih =>
  intro p
  cases p <;> rw [ul4, uD8] <;> repeat' with_reducible first | refine OLe.bind ?_ (fun _ => ?_) | refine OLe.ite ?_ ?_ | exact ue8 n _ | exact uZ2 n _ | exact us0 n _ | exact uy3 n _ | exact ih _ | exact OLe.refl _
def va9 : Nat → vQ7 → Option ((Int × (Int × Unit)) × Unit)
 | 0, _ => none
 | n + 1, .start l0 t1_0 t1_1 t1_2 t1_3 v2_0 v2_1 v2_2 =>
  (uL8 n (.start l0 t1_0 t1_1 t1_2 t1_3 v2_0 v2_1 v2_2)) >>= fun t1 =>
  if (t1.1.2.1 != (0 : Int)) = true then
   some (((0 : Int), (t1.1.2.1, ())), ())
  else
   (uD8 n (.start t1.1.1 v2_0 v2_1 v2_2)) >>= fun t2 =>
   some ((t2.1.1, ((0 : Int), ())), ())
theorem vp1 : ∀ (n : Nat) (p : vQ7), OLe (va9 n p) (uB1 p) := by
 intro n
 induction n with
 | zero => exact fun p r h => by cases h
 | succ n ih =>
  intro p
  cases p <;> rw [uB1, va9] <;> repeat' with_reducible first | refine OLe.bind ?_ (fun _ => ?_) | refine OLe.ite ?_ ?_ | exact vo9 n _ | exact vp0 n _ | exact ih _ | exact OLe.refl _
def uD9 : Nat → vQ8 → Option (((ByteArray × (Int × ((List ua5) × Unit))) × (Bool × Unit)) × Unit)
 | 0, _ => none
 | n + 1, .start x0 n1 =>
  (ut3 n (.start x0)) >>= fun t1 =>
  if t1.1.1 = true then
   some ((((⟨#[]⟩ : ByteArray), (n1, ([], ()))), (true, ())), ())
  else
   (uq7 n (.start x0)) >>= fun t2 =>
   if (decide ((0 : Int) ≤ t2.1.1)) = true then
    (uq7 n (.start x0)) >>= fun t3 =>
    if (decide ((0 : Int) ≤ t3.1.1)) = true then
     x0 >>= fun t4 =>
     if (decide ((shr .i64 n1 t2.1.1) ≥ (List.length (Option.getD t4.constructors []) : Int))) = true then
      some ((((⟨#[]⟩ : ByteArray), ((0 : Int), ([], ()))), (false, ())), ())
     else
      x0 >>= fun t5 =>
      (idx (Option.getD t5.constructors []) (shr .i64 n1 t2.1.1)) >>= fun t6 =>
      (uy0 n (.start t6.name t6.fields t6.parts)) >>= fun t7 =>
      if (decide ((0 : Int) ≤ t7.1.1)) = true then
       if ((shr .i64 (bits .and .i64 n1 (IntKind.wrap .i64 ((shl .i64 (1 : Int) t3.1.1) - (1 : Int)))) t7.1.1) != (0 : Int)) = true then
        some ((((⟨#[]⟩ : ByteArray), ((0 : Int), ([], ()))), (false, ())), ())
       else
        uD9 n (.p8180 (bits .and .i64 n1 (IntKind.wrap .i64 ((shl .i64 (1 : Int) t3.1.1) - (1 : Int)))) t7.1.1 t6.parts (List.length (Option.getD t6.parts []) : Int) (0 : Int) t6.name (0 : Int) ([] : List ua5))
      else none
    else none
   else none
 | n + 1, .p8180 fields7 low9 s54 s55 s56 C0 C1 B1 =>
  if (decide (s56 < s55)) = true then
   (idx (Option.getD s54 []) s56) >>= fun t1 =>
   (runF_z41 n (.start t1)) >>= fun t2 =>
   if (decide ((0 : Int) ≤ (IntKind.wrap .i64 (low9 - t2.1.1)))) = true then
    (runF_z41 n (.start t1)) >>= fun t3 =>
    if (decide ((0 : Int) ≤ t3.1.1)) = true then
     (uD9 n (.start t1 (bits .and .i64 (shr .i64 fields7 (IntKind.wrap .i64 (low9 - t2.1.1))) (IntKind.wrap .i64 ((shl .i64 (1 : Int) t3.1.1) - (1 : Int)))))) >>= fun t4 =>
     if (!t4.1.2.1) = true then
      some (((C0, (C1, (B1, ()))), (false, ())), ())
     else
      if (fits (List.length B1) (List.length ([(⟨t4.1.1.1, t4.1.1.2.1, t4.1.1.2.2.1⟩ : ua5)] : List ua5)) 48) = true then
       uD9 n (.p8180 fields7 (IntKind.wrap .i64 (low9 - t2.1.1)) s54 s55 (IntKind.wrap .i64 (s56 + (1 : Int))) C0 C1 (B1 ++ ([(⟨t4.1.1.1, t4.1.1.2.1, t4.1.1.2.2.1⟩ : ua5)] : List ua5)))
      else none
    else none
   else none
  else
   some (((C0, (C1, (B1, ()))), (true, ())), ())
theorem vp2 : ∀ (n : Nat) (p : vQ8), OLe (uD9 n p) (ul5 p) := by
 intro n
 induction n with
 | zero => exact fun p r h => by cases h
 | succ n ih =>
  intro p
  cases p <;> rw [ul5, uD9] <;> repeat' with_reducible first | refine OLe.bind ?_ (fun _ => ?_) | refine OLe.ite ?_ ?_ | exact ue8 n _ | exact vo1 n _ | exact uZ2 n _ | exact us0 n _ | exact ih _ | exact OLe.refl _
def vb0 : Nat → vQ9 → Option (((ByteArray × (Int × ((List ua5) × Unit))) × (Int × Unit)) × Unit)
 | 0, _ => none
 | n + 1, .start l0 t1_0 t1_1 t1_2 t1_3 bits2 =>
  (uD7 n (.start l0 t1_0 t1_1 t1_2 t1_3)) >>= fun t1 =>
  (ud4 n (.start ([t1.1.2.2.1] : List Int))) >>= fun t2 =>
  if (t2.1.1 != (0 : Int)) = true then
   some ((((⟨#[]⟩ : ByteArray), ((0 : Int), ([], ()))), (t2.1.1, ())), ())
  else
   (runF_z41 n (.start t1.1.1)) >>= fun t3 =>
   if (decide ((0 : Int) ≤ t3.1.1)) = true then
    (ui2 n (.start bits2 (0 : Int) (IntKind.wrap .i64 ((shl .i64 (1 : Int) t3.1.1) - (1 : Int))))) >>= fun t4 =>
    if (!t4.1.1) = true then
     some ((((⟨#[]⟩ : ByteArray), ((0 : Int), ([], ()))), ((2 : Int), ())), ())
    else
     (uD9 n (.start t1.1.1 bits2)) >>= fun t5 =>
     if (!t5.1.2.1) = true then
      some ((((⟨#[]⟩ : ByteArray), ((0 : Int), ([], ()))), ((3 : Int), ())), ())
     else
      some (((t5.1.1.1, (t5.1.1.2.1, (t5.1.1.2.2.1, ()))), ((0 : Int), ())), ())
   else none
theorem vp3 : ∀ (n : Nat) (p : vQ9), OLe (vb0 n p) (uB2 p) := by
 intro n
 induction n with
 | zero => exact fun p r h => by cases h
 | succ n ih =>
  intro p
  cases p <;> rw [uB2, vb0] <;> repeat' with_reducible first | refine OLe.bind ?_ (fun _ => ?_) | refine OLe.ite ?_ ?_ | exact ue0 n _ | exact ue7 n _ | exact us0 n _ | exact uy1 n _ | exact vp2 n _ | exact ih _ | exact OLe.refl _
mutual
def uy4 : Nat → vC1 → Option ((Int × Unit) × Unit)
 | 0, _ => none
 | n + 1, .start v0_0 v0_1 v0_2 =>
  uy4 n (.p116 (1 : Int) v0_2 (List.length (Option.getD v0_2 []) : Int) (0 : Int))
 | n + 1, .p116 n3 s7 s8 s9 =>
  if (decide (s9 < s8)) = true then
   (idx (Option.getD s7 []) s9) >>= fun t1 =>
   (runF_z61 n (.start t1)) >>= fun t2 =>
   uy4 n (.p116 (IntKind.wrap .i64 (n3 * t2.1.1)) s7 s8 (IntKind.wrap .i64 (s9 + (1 : Int))))
  else
   some ((n3, ()), ())
def runF_z61 : Nat → vC2 → Option ((Int × Unit) × Unit)
 | 0, _ => none
 | n + 1, .start x0 =>
  (ut3 n (.start x0)) >>= fun t1 =>
  if t1.1.1 = true then
   x0 >>= fun t2 =>
   if (decide ((0 : Int) ≤ t2.bits)) = true then
    some ((shl .i64 (1 : Int) t2.bits, ()), ())
   else none
  else
   x0 >>= fun t3 =>
   runF_z61 n (.p244 (0 : Int) t3.constructors (List.length (Option.getD t3.constructors []) : Int) (0 : Int))
 | n + 1, .p244 sum3 s16 s17 s18 =>
  if (decide (s18 < s17)) = true then
   (idx (Option.getD s16 []) s18) >>= fun t1 =>
   (uy4 n (.start t1.name t1.fields t1.parts)) >>= fun t2 =>
   runF_z61 n (.p244 (IntKind.wrap .i64 (sum3 + t2.1.1)) s16 s17 (IntKind.wrap .i64 (s18 + (1 : Int))))
  else
   some ((sum3, ()), ())
end
theorem uS1 : ∀ (n : Nat), (∀ p : vC1, OLe (uy4 n p) (uk1 p)) ∧ (∀ p : vC2, OLe (runF_z61 n p) (run_z61 p)) := by
  intro n
  induction n with
  | zero => exact ⟨(fun p r h => by cases h), (fun p r h => by cases h)⟩
  | succ n ih =>
    refine ⟨?_, ?_⟩
    · intro p
      cases p <;> rw [uk1, uy4] <;> repeat' with_reducible first | refine OLe.bind ?_ (fun _ => ?_) | refine OLe.ite ?_ ?_ | exact ue8 n _ | exact ih.1 _ | exact ih.2 _ | exact OLe.refl _
    · intro p
      cases p <;> rw [run_z61, runF_z61] <;> repeat' with_reducible first | refine OLe.bind ?_ (fun _ => ?_) | refine OLe.ite ?_ ?_ | exact ue8 n _ | exact ih.1 _ | exact ih.2 _ | exact OLe.refl _
theorem vp4 (n : Nat) : ∀ (p : vC1), OLe (uy4 n p) (uk1 p) := (uS1 n).1
theorem uZ4 (n : Nat) : ∀ (p : vC2), OLe (runF_z61 n p) (run_z61 p) := (uS1 n).2
def ut4 : Nat → vR0 → Option (((ByteArray × (Int × ((List ua5) × Unit))) × Unit) × Unit)
 | 0, _ => none
 | n + 1, .start x0 index1 =>
  (ut3 n (.start x0)) >>= fun t1 =>
  if t1.1.1 = true then
   some ((((⟨#[]⟩ : ByteArray), (index1, ([], ()))), ()), ())
  else
   x0 >>= fun t2 =>
   ut4 n (.p116 index1 t2.constructors (List.length (Option.getD t2.constructors []) : Int) (0 : Int) (⟨#[]⟩ : ByteArray) (0 : Int))
 | n + 1, .p116 index1 s18 s19 s20 C0 C1 =>
  if (decide (s20 < s19)) = true then
   (idx (Option.getD s18 []) s20) >>= fun t1 =>
   (uy4 n (.start t1.name t1.fields t1.parts)) >>= fun t2 =>
   if (decide (index1 ≥ t2.1.1)) = true then
    ut4 n (.p116 (IntKind.wrap .i64 (index1 - t2.1.1)) s18 s19 (IntKind.wrap .i64 (s20 + (1 : Int))) C0 C1)
   else
    ut4 n (.p478452 index1 t2.1.1 t1.parts (List.length (Option.getD t1.parts []) : Int) (0 : Int) C0 C1 t1.name (0 : Int) ([] : List ua5))
  else
   some ((((⟨#[]⟩ : ByteArray), ((0 : Int), ([], ()))), ()), ())
 | n + 1, .p478452 index1 n7 s36 s37 s38 C0 C1 D0 D1 B2 =>
  if (decide (s38 < s37)) = true then
   (idx (Option.getD s36 []) s38) >>= fun t1 =>
   (runF_z61 n (.start t1)) >>= fun t2 =>
   if (!(t2.1.1 == (0 : Int))) = true then
    if (!((IntKind.wrap .i64 (Int.tdiv n7 t2.1.1)) == (0 : Int))) = true then
     (ut4 n (.start t1 (IntKind.wrap .i64 (Int.tdiv index1 (IntKind.wrap .i64 (Int.tdiv n7 t2.1.1)))))) >>= fun t3 =>
     if (fits (List.length B2) (List.length ([(⟨t3.1.1.1, t3.1.1.2.1, t3.1.1.2.2.1⟩ : ua5)] : List ua5)) 48) = true then
      if (!((IntKind.wrap .i64 (Int.tdiv n7 t2.1.1)) == (0 : Int))) = true then
       ut4 n (.p478452 (Int.tmod index1 (IntKind.wrap .i64 (Int.tdiv n7 t2.1.1))) (IntKind.wrap .i64 (Int.tdiv n7 t2.1.1)) s36 s37 (IntKind.wrap .i64 (s38 + (1 : Int))) C0 C1 D0 D1 (B2 ++ ([(⟨t3.1.1.1, t3.1.1.2.1, t3.1.1.2.2.1⟩ : ua5)] : List ua5)))
      else none
     else none
    else none
   else none
  else
   some (((D0, (D1, (B2, ()))), ()), ())
theorem vp5 : ∀ (n : Nat) (p : vR0), OLe (ut4 n p) (ug9 p) := by
 intro n
 induction n with
 | zero => exact fun p r h => by cases h
 | succ n ih =>
  intro p
  cases p <;> rw [ug9, ut4] <;> repeat' with_reducible first | refine OLe.bind ?_ (fun _ => ?_) | refine OLe.ite ?_ ?_ | exact ue8 n _ | exact vp4 n _ | exact uZ4 n _ | exact ih _ | exact OLe.refl _
def vb1 : Nat → vR1 → Option (((ByteArray × (Int × ((List ua5) × Unit))) × (Int × Unit)) × Unit)
 | 0, _ => none
 | n + 1, .start l0 t1_0 t1_1 t1_2 t1_3 index2 =>
  (uD7 n (.start l0 t1_0 t1_1 t1_2 t1_3)) >>= fun t1 =>
  if (t1.1.2.2.1 != (0 : Int)) = true then
   some ((((⟨#[]⟩ : ByteArray), ((0 : Int), ([], ()))), (t1.1.2.2.1, ())), ())
  else
   (runF_z61 n (.start t1.1.1)) >>= fun t2 =>
   (ui2 n (.start index2 (0 : Int) (IntKind.wrap .i64 (t2.1.1 - (1 : Int))))) >>= fun t3 =>
   if (!t3.1.1) = true then
    some ((((⟨#[]⟩ : ByteArray), ((0 : Int), ([], ()))), ((6 : Int), ())), ())
   else
    (ut4 n (.start t1.1.1 index2)) >>= fun t4 =>
    some (((t4.1.1.1, (t4.1.1.2.1, (t4.1.1.2.2.1, ()))), ((0 : Int), ())), ())
theorem vp6 : ∀ (n : Nat) (p : vR1), OLe (vb1 n p) (um9 p) := by
 intro n
 induction n with
 | zero => exact fun p r h => by cases h
 | succ n ih =>
  intro p
  cases p <;> rw [um9, vb1] <;> repeat' with_reducible first | refine OLe.bind ?_ (fun _ => ?_) | refine OLe.ite ?_ ?_ | exact ue0 n _ | exact uy1 n _ | exact uZ4 n _ | exact vp5 n _ | exact ih _ | exact OLe.refl _
mutual
def vb2 : Nat → vR2 → Option ((Int × Unit) × Unit)
 | 0, _ => none
 | n + 1, .start s0 x1_0 x1_1 x1_2 =>
  (runF_z65 n (.start x1_0 x1_1 x1_2)) >>= fun t1 =>
  some ((t1.1.1, ()), ())
def uL9 : Nat → vR3 → Option ((Int × (Int × Unit)) × Unit)
 | 0, _ => none
 | n + 1, .start l0 =>
  uL9 n (.p52 l0 (List.length l0 : Int) (0 : Int))
 | n + 1, .p52 s9 s10 s11 =>
  if (decide (s11 < s10)) = true then
   (idx s9 s11) >>= fun t1 =>
   (vb2 n (.start s11 t1.Name t1.Number t1.Parts)) >>= fun t2 =>
   if (t2.1.1 != (0 : Int)) = true then
    some ((s11, (t2.1.1, ())), ())
   else
    uL9 n (.p52 s9 s10 (IntKind.wrap .i64 (s11 + (1 : Int))))
  else
   some (((0 : Int), ((0 : Int), ())), ())
def runF_z65 : Nat → vC3 → Option ((Int × Unit) × Unit)
 | 0, _ => none
 | n + 1, .start v0_0 v0_1 v0_2 =>
  if (!(seq v0_0 (⟨#[]⟩ : ByteArray))) = true then
   (ub6 n (.start true (3 : Int))) >>= fun t1 =>
   if (seq v0_0 (⟨#[]⟩ : ByteArray)) = true then
    (ub6 n (.start true (3 : Int))) >>= fun t2 =>
    if (seq v0_0 (⟨#[]⟩ : ByteArray)) = true then
     (ub6 n (.start true (4 : Int))) >>= fun t3 =>
     (ui2 n (.start v0_1 (0 : Int) (99999 : Int))) >>= fun t4 =>
     (ub6 n (.start t4.1.1 (2 : Int))) >>= fun t5 =>
     (ud4 n (.start ([t1.1.1, t2.1.1, t3.1.1, t5.1.1] : List Int))) >>= fun t6 =>
     runF_z65 n (.p15 t6.1.1 v0_0 v0_1 v0_2)
    else
     (uj6 n (.start v0_0)) >>= fun t7 =>
     (ub6 n (.start t7.1.1 (4 : Int))) >>= fun t8 =>
     (ui2 n (.start v0_1 (0 : Int) (99999 : Int))) >>= fun t9 =>
     (ub6 n (.start t9.1.1 (2 : Int))) >>= fun t10 =>
     (ud4 n (.start ([t1.1.1, t2.1.1, t8.1.1, t10.1.1] : List Int))) >>= fun t11 =>
     runF_z65 n (.p15 t11.1.1 v0_0 v0_1 v0_2)
   else
    (ub6 n (.start (v0_1 == (0 : Int)) (3 : Int))) >>= fun t12 =>
    if (seq v0_0 (⟨#[]⟩ : ByteArray)) = true then
     (ub6 n (.start true (4 : Int))) >>= fun t13 =>
     (ui2 n (.start v0_1 (0 : Int) (99999 : Int))) >>= fun t14 =>
     (ub6 n (.start t14.1.1 (2 : Int))) >>= fun t15 =>
     (ud4 n (.start ([t1.1.1, t12.1.1, t13.1.1, t15.1.1] : List Int))) >>= fun t16 =>
     runF_z65 n (.p15 t16.1.1 v0_0 v0_1 v0_2)
    else
     (uj6 n (.start v0_0)) >>= fun t17 =>
     (ub6 n (.start t17.1.1 (4 : Int))) >>= fun t18 =>
     (ui2 n (.start v0_1 (0 : Int) (99999 : Int))) >>= fun t19 =>
     (ub6 n (.start t19.1.1 (2 : Int))) >>= fun t20 =>
     (ud4 n (.start ([t1.1.1, t12.1.1, t18.1.1, t20.1.1] : List Int))) >>= fun t21 =>
     runF_z65 n (.p15 t21.1.1 v0_0 v0_1 v0_2)
  else
   (ub6 n (.start ((List.length v0_2 : Int) == (0 : Int)) (3 : Int))) >>= fun t22 =>
   if (seq v0_0 (⟨#[]⟩ : ByteArray)) = true then
    (ub6 n (.start true (3 : Int))) >>= fun t23 =>
    if (seq v0_0 (⟨#[]⟩ : ByteArray)) = true then
     (ub6 n (.start true (4 : Int))) >>= fun t24 =>
     (ui2 n (.start v0_1 (0 : Int) (99999 : Int))) >>= fun t25 =>
     (ub6 n (.start t25.1.1 (2 : Int))) >>= fun t26 =>
     (ud4 n (.start ([t22.1.1, t23.1.1, t24.1.1, t26.1.1] : List Int))) >>= fun t27 =>
     runF_z65 n (.p15 t27.1.1 v0_0 v0_1 v0_2)
    else
     (uj6 n (.start v0_0)) >>= fun t28 =>
     (ub6 n (.start t28.1.1 (4 : Int))) >>= fun t29 =>
     (ui2 n (.start v0_1 (0 : Int) (99999 : Int))) >>= fun t30 =>
     (ub6 n (.start t30.1.1 (2 : Int))) >>= fun t31 =>
     (ud4 n (.start ([t22.1.1, t23.1.1, t29.1.1, t31.1.1] : List Int))) >>= fun t32 =>
     runF_z65 n (.p15 t32.1.1 v0_0 v0_1 v0_2)
   else
    (ub6 n (.start (v0_1 == (0 : Int)) (3 : Int))) >>= fun t33 =>
    if (seq v0_0 (⟨#[]⟩ : ByteArray)) = true then
     (ub6 n (.start true (4 : Int))) >>= fun t34 =>
     (ui2 n (.start v0_1 (0 : Int) (99999 : Int))) >>= fun t35 =>
     (ub6 n (.start t35.1.1 (2 : Int))) >>= fun t36 =>
     (ud4 n (.start ([t22.1.1, t33.1.1, t34.1.1, t36.1.1] : List Int))) >>= fun t37 =>
     runF_z65 n (.p15 t37.1.1 v0_0 v0_1 v0_2)
    else
     (uj6 n (.start v0_0)) >>= fun t38 =>
     (ub6 n (.start t38.1.1 (4 : Int))) >>= fun t39 =>
     (ui2 n (.start v0_1 (0 : Int) (99999 : Int))) >>= fun t40 =>
     (ub6 n (.start t40.1.1 (2 : Int))) >>= fun t41 =>
     (ud4 n (.start ([t22.1.1, t33.1.1, t39.1.1, t41.1.1] : List Int))) >>= fun t42 =>
     runF_z65 n (.p15 t42.1.1 v0_0 v0_1 v0_2)
 | n + 1, .p15 e4 C0 C1 C2 =>
  if (e4 != (0 : Int)) = true then
   some ((e4, ()), ())
  else
   (uL9 n (.start C2)) >>= fun t1 =>
   some ((t1.1.2.1, ()), ())
end
theorem vh5 : ∀ (n : Nat), (∀ p : vR2, OLe (vb2 n p) (u05 p)) ∧ (∀ p : vR3, OLe (uL9 n p) (run_z66 p)) ∧ (∀ p : vC3, OLe (runF_z65 n p) (run_z65 p)) := by
  intro n
  induction n with
  | zero => exact ⟨(fun p r h => by cases h), (fun p r h => by cases h), (fun p r h => by cases h)⟩
  | succ n ih =>
    refine ⟨?_, ?_, ?_⟩
    · intro p
      cases p <;> rw [u05, vb2] <;> repeat' with_reducible first | refine OLe.bind ?_ (fun _ => ?_) | refine OLe.ite ?_ ?_ | exact ue0 n _ | exact uE1 n _ | exact uf5 n _ | exact ue7 n _ | exact ih.1 _ | exact ih.2.1 _ | exact ih.2.2 _ | exact OLe.refl _
    · intro p
      cases p <;> rw [run_z66, uL9] <;> repeat' with_reducible first | refine OLe.bind ?_ (fun _ => ?_) | refine OLe.ite ?_ ?_ | exact ue0 n _ | exact uE1 n _ | exact uf5 n _ | exact ue7 n _ | exact ih.1 _ | exact ih.2.1 _ | exact ih.2.2 _ | exact OLe.refl _
    · intro p
      cases p <;> rw [run_z65, runF_z65] <;> repeat' with_reducible first | refine OLe.bind ?_ (fun _ => ?_) | refine OLe.ite ?_ ?_ | exact ue0 n _ | exact uE1 n _ | exact uf5 n _ | exact ue7 n _ | exact ih.1 _ | exact ih.2.1 _ | exact ih.2.2 _ | exact OLe.refl _
theorem vp7 (n : Nat) : ∀ (p : vC3), OLe (runF_z65 n p) (run_z65 p) := (vh5 n).2.2
def uE0 : Nat → vR4 → Option ((ByteArray × Unit) × Unit)
 | 0, _ => none
 | n + 1, .start v0_0 v0_1 v0_2 =>
  if (seq v0_0 (⟨#[]⟩ : ByteArray)) = true then
   (vk5 (v0_1, ()) ()) >>= fun t1 =>
   some ((t1.1.1, ()), ())
  else
   if ((List.length v0_2 : Int) == (0 : Int)) = true then
    some ((v0_0, ()), ())
   else
    uE0 n (.p500 v0_2 (List.length v0_2 : Int) (0 : Int) v0_0 v0_1 v0_2 ([] : List ByteArray))
 | n + 1, .p500 s19 s20 s21 C0 C1 C2 B1 =>
  if (decide (s21 < s20)) = true then
   (idx s19 s21) >>= fun t1 =>
   (uE0 n (.start t1.Name t1.Number t1.Parts)) >>= fun t2 =>
   if (fits (List.length B1) (List.length ([t2.1.1] : List ByteArray)) 16) = true then
    uE0 n (.p500 s19 s20 (IntKind.wrap .i64 (s21 + (1 : Int))) C0 C1 C2 (B1 ++ ([t2.1.1] : List ByteArray)))
   else none
  else
   if (Nat.ble (C0.size + (⟨#[40]⟩ : ByteArray).size) 9223372036854775807) = true then
    (uG2 (B1, (⟨#[44, 32]⟩ : ByteArray), ()) ()) >>= fun t3 =>
    if (Nat.ble ((C0 ++ (⟨#[40]⟩ : ByteArray)).size + t3.1.1.size) 9223372036854775807) = true then
     if (Nat.ble (((C0 ++ (⟨#[40]⟩ : ByteArray)) ++ t3.1.1).size + (⟨#[41]⟩ : ByteArray).size) 9223372036854775807) = true then
      some ((((C0 ++ (⟨#[40]⟩ : ByteArray)) ++ t3.1.1) ++ (⟨#[41]⟩ : ByteArray), ()), ())
     else none
    else none
   else none
theorem vp8 : ∀ (n : Nat) (p : vR4), OLe (uE0 n p) (uB3 p) := by
 intro n
 induction n with
 | zero => exact fun p r h => by cases h
 | succ n ih =>
  intro p
  cases p <;> rw [uB3, uE0] <;> repeat' with_reducible first | refine OLe.bind ?_ (fun _ => ?_) | refine OLe.ite ?_ ?_ | exact ih _ | exact OLe.refl _
def vb3 : Nat → vR5 → Option ((ByteArray × (Int × Unit)) × Unit)
 | 0, _ => none
 | n + 1, .start v0_0 v0_1 v0_2 =>
  (uU1 n (.start v0_0 v0_1 v0_2)) >>= fun t1 =>
  if (t1.1.1 != (0 : Int)) = true then
   some (((⟨#[]⟩ : ByteArray), (t1.1.1, ())), ())
  else
   (runF_z65 n (.start v0_0 v0_1 v0_2)) >>= fun t2 =>
   if (t2.1.1 != (0 : Int)) = true then
    some (((⟨#[]⟩ : ByteArray), (t2.1.1, ())), ())
   else
    (uE0 n (.start v0_0 v0_1 v0_2)) >>= fun t3 =>
    some ((t3.1.1, ((0 : Int), ())), ())
theorem vp9 : ∀ (n : Nat) (p : vR5), OLe (vb3 n p) (vb5 p) := by
 intro n
 induction n with
 | zero => exact fun p r h => by cases h
 | succ n ih =>
  intro p
  cases p <;> rw [vb5, vb3] <;> repeat' with_reducible first | refine OLe.bind ?_ (fun _ => ?_) | refine OLe.ite ?_ ?_ | exact uZ3 n _ | exact vp7 n _ | exact vp8 n _ | exact ih _ | exact OLe.refl _
def uy5 : Nat → vR6 → Option ((Bool × Unit) × Unit)
 | 0, _ => none
 | n + 1, .start a0_0 a0_1 a0_2 b1_0 b1_1 b1_2 =>
  if (!(seq a0_0 b1_0)) = true then
   some ((false, ()), ())
  else
   if (a0_1 != b1_1) = true then
    some ((false, ()), ())
   else
    if ((List.length a0_2 : Int) != (List.length b1_2 : Int)) = true then
     some ((false, ()), ())
    else
     uy5 n (.p7 a0_0 a0_1 a0_2 b1_0 b1_1 b1_2)
 | n + 1, .p7 C0 C1 C2 D0 D1 D2 =>
  uy5 n (.p116 (0 : Int) C0 C1 C2 D0 D1 D2)
 | n + 1, .p116 i5 C0 C1 C2 D0 D1 D2 =>
  if (decide (i5 < (List.length C2 : Int))) = true then
   (idx C2 i5) >>= fun t1 =>
   (idx D2 i5) >>= fun t2 =>
   (uy5 n (.start t1.Name t1.Number t1.Parts t2.Name t2.Number t2.Parts)) >>= fun t3 =>
   if (!t3.1.1) = true then
    some ((false, ()), ())
   else
    uy5 n (.p116 (IntKind.wrap .i64 (i5 + (1 : Int))) C0 C1 C2 D0 D1 D2)
  else
   some ((true, ()), ())
theorem vq0 : ∀ (n : Nat) (p : vR6), OLe (uy5 n p) (uh0 p) := by
 intro n
 induction n with
 | zero => exact fun p r h => by cases h
 | succ n ih =>
  intro p
  cases p <;> rw [uh0, uy5] <;> repeat' with_reducible first | refine OLe.bind ?_ (fun _ => ?_) | refine OLe.ite ?_ ?_ | exact ih _ | exact OLe.refl _
def vu8 : Nat → vR7 → Option ((Bool × Unit) × Unit)
 | 0, _ => none
 | n + 1, .start =>
  (uP7 n .start) >>= fun t1 =>
  (uZ1 n (.start (3 : Int))) >>= fun t2 =>
  (uu1 n (.start (⟨#[77, 97, 121, 98, 101]⟩ : ByteArray) ([(⟨t2.1.1.1, t2.1.1.2.1, t2.1.1.2.2.1, t2.1.1.2.2.2.1⟩ : ua1)] : List ua1))) >>= fun t3 =>
  (va5 n (.start t1.1.1 t3.1.1.1 t3.1.1.2.1 t3.1.1.2.2.1 t3.1.1.2.2.2.1)) >>= fun t4 =>
  (uP7 n .start) >>= fun t5 =>
  (uZ1 n (.start (2 : Int))) >>= fun t6 =>
  (uu1 n (.start (⟨#[67, 111, 108, 111, 114]⟩ : ByteArray) ([]))) >>= fun t7 =>
  (uu1 n (.start (⟨#[80, 97, 105, 114]⟩ : ByteArray) ([(⟨t6.1.1.1, t6.1.1.2.1, t6.1.1.2.2.1, t6.1.1.2.2.2.1⟩ : ua1), (⟨t7.1.1.1, t7.1.1.2.1, t7.1.1.2.2.1, t7.1.1.2.2.2.1⟩ : ua1)] : List ua1))) >>= fun t8 =>
  (uq8 n (.start (⟨#[66, 108, 117, 101]⟩ : ByteArray) ([]))) >>= fun t9 =>
  (uq8 n (.start (⟨#[80, 97, 105, 114]⟩ : ByteArray) ([(⟨(⟨#[]⟩ : ByteArray), (3 : Int), []⟩ : ua5), (⟨t9.1.1.1, t9.1.1.2.1, t9.1.1.2.2.1⟩ : ua5)] : List ua5))) >>= fun t10 =>
  (va9 n (.start t5.1.1 t8.1.1.1 t8.1.1.2.1 t8.1.1.2.2.1 t8.1.1.2.2.2.1 t10.1.1.1 t10.1.1.2.1 t10.1.1.2.2.1)) >>= fun t11 =>
  (uP7 n .start) >>= fun t12 =>
  (uZ1 n (.start (3 : Int))) >>= fun t13 =>
  (uu1 n (.start (⟨#[77, 97, 121, 98, 101]⟩ : ByteArray) ([(⟨t13.1.1.1, t13.1.1.2.1, t13.1.1.2.2.1, t13.1.1.2.2.2.1⟩ : ua1)] : List ua1))) >>= fun t14 =>
  (vb0 n (.start t12.1.1 t14.1.1.1 t14.1.1.2.1 t14.1.1.2.2.1 t14.1.1.2.2.2.1 (5 : Int))) >>= fun t15 =>
  (uP7 n .start) >>= fun t16 =>
  (uu1 n (.start (⟨#[67, 111, 108, 111, 114]⟩ : ByteArray) ([]))) >>= fun t17 =>
  (uu1 n (.start (⟨#[66, 111, 111, 108]⟩ : ByteArray) ([]))) >>= fun t18 =>
  (uu1 n (.start (⟨#[80, 97, 105, 114]⟩ : ByteArray) ([(⟨t17.1.1.1, t17.1.1.2.1, t17.1.1.2.2.1, t17.1.1.2.2.2.1⟩ : ua1), (⟨t18.1.1.1, t18.1.1.2.1, t18.1.1.2.2.1, t18.1.1.2.2.2.1⟩ : ua1)] : List ua1))) >>= fun t19 =>
  (vb1 n (.start t16.1.1 t19.1.1.1 t19.1.1.2.1 t19.1.1.2.2.1 t19.1.1.2.2.2.1 (3 : Int))) >>= fun t20 =>
  (uq8 n (.start (⟨#[66, 108, 117, 101]⟩ : ByteArray) ([]))) >>= fun t21 =>
  (uq8 n (.start (⟨#[80, 97, 105, 114]⟩ : ByteArray) ([(⟨(⟨#[]⟩ : ByteArray), (3 : Int), []⟩ : ua5), (⟨t21.1.1.1, t21.1.1.2.1, t21.1.1.2.2.1⟩ : ua5)] : List ua5))) >>= fun t22 =>
  (vb3 n (.start t22.1.1.1 t22.1.1.2.1 t22.1.1.2.2.1)) >>= fun t23 =>
  if (t4.1.2.1 == (0 : Int)) = true then
   if (t4.1.1 == (4 : Int)) = true then
    if (t11.1.2.1 == (0 : Int)) = true then
     if (t11.1.1 == (14 : Int)) = true then
      if (t15.1.2.1 == (3 : Int)) = true then
       if (t20.1.2.1 == (0 : Int)) = true then
        (uq8 n (.start (⟨#[71, 114, 101, 101, 110]⟩ : ByteArray) ([]))) >>= fun t24 =>
        (uq8 n (.start (⟨#[84, 114, 117, 101]⟩ : ByteArray) ([]))) >>= fun t25 =>
        (uq8 n (.start (⟨#[80, 97, 105, 114]⟩ : ByteArray) ([(⟨t24.1.1.1, t24.1.1.2.1, t24.1.1.2.2.1⟩ : ua5), (⟨t25.1.1.1, t25.1.1.2.1, t25.1.1.2.2.1⟩ : ua5)] : List ua5))) >>= fun t26 =>
        (uy5 n (.start t20.1.1.1 t20.1.1.2.1 t20.1.1.2.2.1 t26.1.1.1 t26.1.1.2.1 t26.1.1.2.2.1)) >>= fun t27 =>
        if t27.1.1 = true then
         if (t23.1.2.1 == (0 : Int)) = true then
          some ((seq t23.1.1 (⟨#[80, 97, 105, 114, 40, 51, 44, 32, 66, 108, 117, 101, 41]⟩ : ByteArray), ()), ())
         else
          some ((false, ()), ())
        else
         some ((false, ()), ())
       else
        some ((false, ()), ())
      else
       some ((false, ()), ())
     else
      some ((false, ()), ())
    else
     some ((false, ()), ())
   else
    some ((false, ()), ())
  else
   some ((false, ()), ())
theorem vq1 : ∀ (n : Nat) (p : vR7), OLe (vu8 n p) (u06 p) := by
 intro n
 induction n with
 | zero => exact fun p r h => by cases h
 | succ n ih =>
  intro p
  cases p <;> rw [u06, vu8] <;> repeat' with_reducible first | refine OLe.bind ?_ (fun _ => ?_) | refine OLe.ite ?_ ?_ | exact vA2 n _ | exact u53 n _ | exact vA4 n _ | exact vo2 n _ | exact vo3 n _ | exact vp1 n _ | exact vp3 n _ | exact vp6 n _ | exact vp9 n _ | exact vq0 n _ | exact ih _ | exact OLe.refl _
end
end Go.Proofs.YtaennkkcnhfglaaGreatDoor.Ev.F
