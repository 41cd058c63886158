/- A part of the proof. -/
import Derived.Test.YtaennkkcnhfglaaGreatDoorNF3
import Derived.Test.YtaennkkcnhfglaaGreatDoorNEvFuel
set_option linter.unusedVariables false
set_option maxRecDepth 100000
namespace Go.Proofs.YtaennkkcnhfglaaGreatDoor.Ev.F
open Go.Proofs Go.Proofs.YtaennkkcnhfglaaGreatDoor.Ev
noncomputable section
def u14 : Nat → P_z0 → Option R_z0
 | 0, _ => none
 | n + 1, .start =>
  some ((([(⟨(⟨#[77, 97, 121, 98, 101]⟩ : ByteArray), ([(⟨#[97]⟩ : ByteArray)] : List ByteArray), ([(⟨(⟨#[78, 111, 110, 101]⟩ : ByteArray), []⟩ : ua1), (⟨(⟨#[83, 111, 109, 101]⟩ : ByteArray), ([(⟨(⟨#[118, 97, 108, 117, 101]⟩ : ByteArray), (⟨(0 : Int), (0 : Int), (⟨#[97]⟩ : ByteArray), []⟩ : ua0)⟩ : ua6)] : List ua6)⟩ : ua1)] : List ua1)⟩ : ua3), (⟨(⟨#[80, 97, 105, 114]⟩ : ByteArray), ([(⟨#[97]⟩ : ByteArray), (⟨#[98]⟩ : ByteArray)] : List ByteArray), ([(⟨(⟨#[80, 97, 105, 114]⟩ : ByteArray), ([(⟨(⟨#[108, 101, 102, 116]⟩ : ByteArray), (⟨(0 : Int), (0 : Int), (⟨#[97]⟩ : ByteArray), []⟩ : ua0)⟩ : ua6), (⟨(⟨#[114, 105, 103, 104, 116]⟩ : ByteArray), (⟨(0 : Int), (0 : Int), (⟨#[98]⟩ : ByteArray), []⟩ : ua0)⟩ : ua6)] : List ua6)⟩ : ua1)] : List ua1)⟩ : ua3), (⟨(⟨#[67, 111, 108, 111, 114]⟩ : ByteArray), [], ([(⟨(⟨#[82, 101, 100]⟩ : ByteArray), []⟩ : ua1), (⟨(⟨#[71, 114, 101, 101, 110]⟩ : ByteArray), []⟩ : ua1), (⟨(⟨#[66, 108, 117, 101]⟩ : ByteArray), []⟩ : ua1)] : List ua1)⟩ : ua3)] : List ua3), ()), ())
theorem wQ1 : ∀ (n : Nat) (p : P_z0), OLe (u14 n p) (u45 p) := by
 intro n
 induction n with
 | zero => exact fun p r h => by cases h
 | succ n ih =>
  intro p
  cases p <;> rw [u45, u14] <;> repeat' with_reducible first | refine OLe.bind ?_ (fun _ => ?_) | refine OLe.ite ?_ ?_ | exact ih _ | exact OLe.refl _
def v32 : Nat → P_z1 → Option R_z1
 | 0, _ => none
 | n + 1, .start n0 =>
  some ((((2 : Int), (n0, ((⟨#[]⟩ : ByteArray), ((), ())))), ()), ())
theorem wQ2 : ∀ (n : Nat) (p : P_z1), OLe (v32 n p) (vR2 p) := by
 intro n
 induction n with
 | zero => exact fun p r h => by cases h
 | succ n ih =>
  intro p
  cases p <;> rw [vR2, v32] <;> repeat' with_reducible first | refine OLe.bind ?_ (fun _ => ?_) | refine OLe.ite ?_ ?_ | exact ih _ | exact OLe.refl _
def ux3 : Nat → P_z2 → Option R_z2
 | 0, _ => none
 | n + 1, .start name0 parts1 =>
  some ((((1 : Int), ((0 : Int), (name0, (parts1, ())))), ()), ())
theorem vt8 : ∀ (n : Nat) (p : P_z2), OLe (ux3 n p) (uD9 p) := by
 intro n
 induction n with
 | zero => exact fun p r h => by cases h
 | succ n ih =>
  intro p
  cases p <;> rw [uD9, ux3] <;> repeat' with_reducible first | refine OLe.bind ?_ (fun _ => ?_) | refine OLe.ite ?_ ?_ | exact ih _ | exact OLe.refl _
def vi3 : Nat → P_z3 → Option R_z3
 | 0, _ => none
 | n + 1, .start n0 =>
  (v32 n (.start n0)) >>= fun t1 =>
  (ux3 n (.start (⟨#[66, 105, 116]⟩ : ByteArray) ([(⟨t1.1.1.1, t1.1.1.2.1, t1.1.1.2.2.1, []⟩ : ua0)] : List ua0))) >>= fun t2 =>
  some (((t2.1.1.1, (t2.1.1.2.1, (t2.1.1.2.2.1, (t2.1.1.2.2.2.1, ())))), ()), ())
theorem wQ3 : ∀ (n : Nat) (p : P_z3), OLe (vi3 n p) (vi7 p) := by
 intro n
 induction n with
 | zero => exact fun p r h => by cases h
 | succ n ih =>
  intro p
  cases p <;> rw [vi7, vi3] <;> repeat' with_reducible first | refine OLe.bind ?_ (fun _ => ?_) | refine OLe.ite ?_ ?_ | exact wQ2 n _ | exact vt8 n _ | exact ih _ | exact OLe.refl _
def vD0 : Nat → P_z4 → Option R_z4
 | 0, _ => none
 | n + 1, .start s0 =>
  (bif decide ((List.length s0 : Int) = (List.length s0 : Int)) then span (List.length s0) (0 : Int) (List.length s0 : Int) else none) >>= fun t1 =>
  some ((cut s0 t1, ()), ())
theorem wQ4 : ∀ (n : Nat) (p : P_z4), OLe (vD0 n p) (u46 p) := by
 intro n
 induction n with
 | zero => exact fun p r h => by cases h
 | succ n ih =>
  intro p
  cases p <;> rw [u46, vD0] <;> repeat' with_reducible first | refine OLe.bind ?_ (fun _ => ?_) | refine OLe.ite ?_ ?_ | exact ih _ | exact OLe.refl _
def uh6 : Nat → P_z5 → Option R_z5
 | 0, _ => none
 | n + 1, .start n0 lo1 hi2 =>
  if (decide (lo1 ≤ n0)) = true then
   some ((decide (n0 ≤ hi2), ()), ())
  else
   some ((false, ()), ())
theorem ue4 : ∀ (n : Nat) (p : P_z5), OLe (uh6 n p) (uj9 p) := by
 intro n
 induction n with
 | zero => exact fun p r h => by cases h
 | succ n ih =>
  intro p
  cases p <;> rw [uj9, uh6] <;> repeat' with_reducible first | refine OLe.bind ?_ (fun _ => ?_) | refine OLe.ite ?_ ?_ | exact ih _ | exact OLe.refl _
def uk0 : Nat → P_z6 → Option R_z6
 | 0, _ => none
 | n + 1, .start s0 =>
  uk0 n (.p52 s0 (ub8 s0) (List.length (ub8 s0) : Int) (0 : Int))
 | n + 1, .p52 s0 s7 s8 s9 =>
  if (decide (s9 < s8)) = true then
   (idx s7 s9) >>= fun t1 =>
   if (decide ((97 : Int) ≤ t1)) = true then
    if (decide (t1 ≤ (122 : Int))) = true then
     uk0 n (.p3379 s0 s9 t1 true s7 s8 s9)
    else
     if (decide ((65 : Int) ≤ t1)) = true then
      uk0 n (.p3379 s0 s9 t1 (decide (t1 ≤ (90 : Int))) s7 s8 s9)
     else
      uk0 n (.p3379 s0 s9 t1 false s7 s8 s9)
   else
    if (decide ((65 : Int) ≤ t1)) = true then
     uk0 n (.p3379 s0 s9 t1 (decide (t1 ≤ (90 : Int))) s7 s8 s9)
    else
     uk0 n (.p3379 s0 s9 t1 false s7 s8 s9)
  else
   (uh6 n (.start (s0.size : Int) (1 : Int) (16 : Int))) >>= fun t2 =>
   some ((t2.1.1, ()), ())
 | n + 1, .p3379 s0 i3 c4 letter5 s7 s8 s9 =>
  if (!letter5) = true then
   if (i3 == (0 : Int)) = true then
    some ((false, ()), ())
   else
    if (c4 != (95 : Int)) = true then
     if (decide (c4 < (48 : Int))) = true then
      some ((false, ()), ())
     else
      if (decide (c4 > (57 : Int))) = true then
       some ((false, ()), ())
      else
       uk0 n (.p52 s0 s7 s8 (IntKind.wrap .i64 (s9 + (1 : Int))))
    else
     uk0 n (.p52 s0 s7 s8 (IntKind.wrap .i64 (s9 + (1 : Int))))
  else
   uk0 n (.p52 s0 s7 s8 (IntKind.wrap .i64 (s9 + (1 : Int))))
theorem uL8 : ∀ (n : Nat) (p : P_z6), OLe (uk0 n p) (ug3 p) := by
 intro n
 induction n with
 | zero => exact fun p r h => by cases h
 | succ n ih =>
  intro p
  cases p <;> rw [ug3, uk0] <;> repeat' with_reducible first | refine OLe.bind ?_ (fun _ => ?_) | refine OLe.ite ?_ ?_ | exact ue4 n _ | exact ih _ | exact OLe.refl _
def uc0 : Nat → P_z7 → Option R_z7
 | 0, _ => none
 | n + 1, .start is0 e1 =>
  if is0 = true then
   some (((0 : Int), ()), ())
  else
   some ((e1, ()), ())
theorem uf7 : ∀ (n : Nat) (p : P_z7), OLe (uc0 n p) (uc4 p) := by
 intro n
 induction n with
 | zero => exact fun p r h => by cases h
 | succ n ih =>
  intro p
  cases p <;> rw [uc4, uc0] <;> repeat' with_reducible first | refine OLe.bind ?_ (fun _ => ?_) | refine OLe.ite ?_ ?_ | exact ih _ | exact OLe.refl _
def u15 : Nat → P_z8 → Option R_z8
 | 0, _ => none
 | n + 1, .start s0 v1 =>
  u15 n (.p52 s0 v1 (List.length s0 : Int) (0 : Int))
 | n + 1, .p52 s0 v1 s7 s8 =>
  if (decide (s8 < s7)) = true then
   (idx s0 s8) >>= fun t1 =>
   if (seq v1 t1) = true then
    some ((s8, ()), ())
   else
    u15 n (.p52 s0 v1 s7 (IntKind.wrap .i64 (s8 + (1 : Int))))
  else
   some (((-1 : Int), ()), ())
theorem vt9 : ∀ (n : Nat) (p : P_z8), OLe (u15 n p) (uv1 p) := by
 intro n
 induction n with
 | zero => exact fun p r h => by cases h
 | succ n ih =>
  intro p
  cases p <;> rw [uv1, u15] <;> repeat' with_reducible first | refine OLe.bind ?_ (fun _ => ?_) | refine OLe.ite ?_ ?_ | exact ih _ | exact OLe.refl _
def vE0 : Nat → P_z9 → Option R_z9
 | 0, _ => none
 | n + 1, .start s0 v1 =>
  (u15 n (.start s0 v1)) >>= fun t1 =>
  some ((decide (t1.1.1 ≥ (0 : Int)), ()), ())
theorem uL9 : ∀ (n : Nat) (p : P_z9), OLe (vE0 n p) (u47 p) := by
 intro n
 induction n with
 | zero => exact fun p r h => by cases h
 | succ n ih =>
  intro p
  cases p <;> rw [u47, vE0] <;> repeat' with_reducible first | refine OLe.bind ?_ (fun _ => ?_) | refine OLe.ite ?_ ?_ | exact vt9 n _ | exact ih _ | exact OLe.refl _
def ud9 : Nat → wC0 → Option xS6
 | 0, _ => none
 | n + 1, .start l0 =>
  ud9 n (.p52 l0 (List.length l0 : Int) (0 : Int))
 | n + 1, .p52 s5 s6 s7 =>
  if (decide (s7 < s6)) = true then
   (idx s5 s7) >>= fun t1 =>
   if (t1 != (0 : Int)) = true then
    some ((t1, ()), ())
   else
    ud9 n (.p52 s5 s6 (IntKind.wrap .i64 (s7 + (1 : Int))))
  else
   some (((0 : Int), ()), ())
theorem ue9 : ∀ (n : Nat) (p : wC0), OLe (ud9 n p) (uc9 p) := by
 intro n
 induction n with
 | zero => exact fun p r h => by cases h
 | succ n ih =>
  intro p
  cases p <;> rw [uc9, ud9] <;> repeat' with_reducible first | refine OLe.bind ?_ (fun _ => ?_) | refine OLe.ite ?_ ?_ | exact ih _ | exact OLe.refl _
def uL3 : Nat → wC1 → Option xS7
 | 0, _ => none
 | n + 1, .start name0 known1 =>
  (uk0 n (.start name0)) >>= fun t1 =>
  (uc0 n (.start t1.1.1 (4 : Int))) >>= fun t2 =>
  (vE0 n (.start known1 name0)) >>= fun t3 =>
  (uc0 n (.start (!t3.1.1) (5 : Int))) >>= fun t4 =>
  (ud9 n (.start ([t2.1.1, t4.1.1] : List Int))) >>= fun t5 =>
  some ((t5.1.1, ()), ())
theorem uC2 : ∀ (n : Nat) (p : wC1), OLe (uL3 n p) (ux4 p) := by
 intro n
 induction n with
 | zero => exact fun p r h => by cases h
 | succ n ih =>
  intro p
  cases p <;> rw [ux4, uL3] <;> repeat' with_reducible first | refine OLe.bind ?_ (fun _ => ?_) | refine OLe.ite ?_ ?_ | exact uL8 n _ | exact uf7 n _ | exact uL9 n _ | exact ue9 n _ | exact ih _ | exact OLe.refl _
def vC1 : Nat → wC2 → Option xS8
 | 0, _ => none
 | n + 1, .start i0 p1 s2 =>
  (span (List.length s2.Params) (0 : Int) i0) >>= fun t1 =>
  (uL3 n (.start p1 (cut s2.Params t1))) >>= fun t2 =>
  some ((t2.1.1, ()), ())
theorem v33 : ∀ (n : Nat) (p : wC2), OLe (vC1 n p) (u16 p) := by
 intro n
 induction n with
 | zero => exact fun p r h => by cases h
 | succ n ih =>
  intro p
  cases p <;> rw [u16, vC1] <;> repeat' with_reducible first | refine OLe.bind ?_ (fun _ => ?_) | refine OLe.ite ?_ ?_ | exact uC2 n _ | exact ih _ | exact OLe.refl _
def uV0 : Nat → wC3 → Option xS9
 | 0, _ => none
 | n + 1, .start l0 C0 C1 C2 =>
  uV0 n (.p52 l0 (List.length l0 : Int) (0 : Int) C0 C1 C2)
 | n + 1, .p52 s9 s10 s11 C0 C1 C2 =>
  if (decide (s11 < s10)) = true then
   (idx s9 s11) >>= fun t1 =>
   (vC1 n (.start s11 t1 (⟨C0, C1, C2⟩ : ua3))) >>= fun t2 =>
   if (t2.1.1 != (0 : Int)) = true then
    some ((s11, (t2.1.1, ())), ((C0, (C1, (C2, ()))), ()))
   else
    uV0 n (.p52 s9 s10 (IntKind.wrap .i64 (s11 + (1 : Int))) C0 C1 C2)
  else
   some (((0 : Int), ((0 : Int), ())), ((C0, (C1, (C2, ()))), ()))
theorem v34 : ∀ (n : Nat) (p : wC3), OLe (uV0 n p) (um3 p) := by
 intro n
 induction n with
 | zero => exact fun p r h => by cases h
 | succ n ih =>
  intro p
  cases p <;> rw [um3, uV0] <;> repeat' with_reducible first | refine OLe.bind ?_ (fun _ => ?_) | refine OLe.ite ?_ ?_ | exact v33 n _ | exact ih _ | exact OLe.refl _
def vC2 : Nat → wC4 → Option xT0
 | 0, _ => none
 | n + 1, .start t0_0 t0_1 t0_2 t0_3 =>
  some ((t0_3, ()), ())
theorem v35 : ∀ (n : Nat) (p : wC4), OLe (vC2 n p) (u17 p) := by
 intro n
 induction n with
 | zero => exact fun p r h => by cases h
 | succ n ih =>
  intro p
  cases p <;> rw [u17, vC2] <;> repeat' with_reducible first | refine OLe.bind ?_ (fun _ => ?_) | refine OLe.ite ?_ ?_ | exact ih _ | exact OLe.refl _
def uC3 : Nat → vm2 → Option vG5
 | 0, _ => none
 | n + 1, .start x0_0 x0_1 x0_2 x0_3 depth1 B0 =>
  if (decide ((IntKind.wrap .i64 (B0 + (1 : Int))) > (200 : Int))) = true then
   some ((false, ()), ((IntKind.wrap .i64 (B0 + (1 : Int)), ()), (((), ()), ((((), ((), ((), ()))), ()), ()))))
  else
   if (decide (depth1 > (40 : Int))) = true then
    some ((false, ()), ((IntKind.wrap .i64 (B0 + (1 : Int)), ()), (((), ()), ((((), ((), ((), ()))), ()), ()))))
   else
    uC3 n (.p15 depth1 (IntKind.wrap .i64 (B0 + (1 : Int))) x0_0 x0_1 x0_2 x0_3)
 | n + 1, .p15 depth1 B0 H0 H1 H2 H3 =>
  (vC2 n (.start H0 H1 H2 H3)) >>= fun t1 =>
  uC3 n (.p244 depth1 t1.1.1 (List.length t1.1.1 : Int) (0 : Int) B0)
 | n + 1, .p244 depth1 s20 s21 s22 B0 =>
  if (decide (s22 < s21)) = true then
   (idx s20 s22) >>= fun t1 =>
   (uC3 n (.start t1.Kind t1.Value t1.Name t1.Parts (IntKind.wrap .i64 (depth1 + (1 : Int))) B0)) >>= fun t2 =>
   if (!t2.1.1) = true then
    some ((false, ()), ((t2.2.1.1, ()), (((), ()), ((((), ((), ((), ()))), ()), ()))))
   else
    uC3 n (.p244 depth1 s20 s21 (IntKind.wrap .i64 (s22 + (1 : Int))) t2.2.1.1)
  else
   some ((true, ()), ((B0, ()), (((), ()), ((((), ((), ((), ()))), ()), ()))))
theorem v36 : ∀ (n : Nat) (p : vm2), OLe (uC3 n p) (ui8 p) := by
 intro n
 induction n with
 | zero => exact fun p r h => by cases h
 | succ n ih =>
  intro p
  cases p <;> rw [ui8, uC3] <;> repeat' with_reducible first | refine OLe.bind ?_ (fun _ => ?_) | refine OLe.ite ?_ ?_ | exact v35 n _ | exact ih _ | exact OLe.refl _
def u66 : Nat → wC5 → Option xT1
 | 0, _ => none
 | n + 1, .start root0_0 root0_1 root0_2 root0_3 =>
  (uC3 n (.start root0_0 root0_1 root0_2 root0_3 (1 : Int) (0 : Int))) >>= fun t1 =>
  (uc0 n (.start t1.1.1 (8 : Int))) >>= fun t2 =>
  some ((t2.1.1, ()), ())
theorem vi1 : ∀ (n : Nat) (p : wC5), OLe (u66 n p) (uH3 p) := by
 intro n
 induction n with
 | zero => exact fun p r h => by cases h
 | succ n ih =>
  intro p
  cases p <;> rw [uH3, u66] <;> repeat' with_reducible first | refine OLe.bind ?_ (fun _ => ?_) | refine OLe.ite ?_ ?_ | exact uf7 n _ | exact v36 n _ | exact ih _ | exact OLe.refl _
def vC3 : Nat → wC6 → Option xT2
 | 0, _ => none
 | n + 1, .start d0_0 d0_1 d0_2 s1 =>
  some ((seq d0_0 s1, ()), ())
theorem v38 : ∀ (n : Nat) (p : wC6), OLe (vC3 n p) (u18 p) := by
 intro n
 induction n with
 | zero => exact fun p r h => by cases h
 | succ n ih =>
  intro p
  cases p <;> rw [u18, vC3] <;> repeat' with_reducible first | refine OLe.bind ?_ (fun _ => ?_) | refine OLe.ite ?_ ?_ | exact ih _ | exact OLe.refl _
def uV1 : Nat → wC7 → Option xT3
 | 0, _ => none
 | n + 1, .start s0 B0 =>
  uV1 n (.p52 s0 (List.length s0 : Int) (0 : Int) B0)
 | n + 1, .p52 s0 s7 s8 B0 =>
  if (decide (s8 < s7)) = true then
   (idx s0 s8) >>= fun t1 =>
   (vC3 n (.start t1.Name t1.Params t1.Constructors B0)) >>= fun t2 =>
   if t2.1.1 = true then
    some ((s8, ()), ((B0, ()), ()))
   else
    uV1 n (.p52 s0 s7 (IntKind.wrap .i64 (s8 + (1 : Int))) B0)
  else
   some (((-1 : Int), ()), ((B0, ()), ()))
theorem v39 : ∀ (n : Nat) (p : wC7), OLe (uV1 n p) (um4 p) := by
 intro n
 induction n with
 | zero => exact fun p r h => by cases h
 | succ n ih =>
  intro p
  cases p <;> rw [um4, uV1] <;> repeat' with_reducible first | refine OLe.bind ?_ (fun _ => ?_) | refine OLe.ite ?_ ?_ | exact v38 n _ | exact ih _ | exact OLe.refl _
def u67 : Nat → wC8 → Option xT4
 | 0, _ => none
 | n + 1, .start s0_0 s0_1 name1 =>
  (uV1 n (.start s0_0 name1)) >>= fun t1 =>
  if (decide (t1.1.1 < (0 : Int))) = true then
   some ((((⟨#[]⟩ : ByteArray), ([], ([], ()))), (false, ())), ())
  else
   (idx s0_0 t1.1.1) >>= fun t2 =>
   some (((t2.Name, (t2.Params, (t2.Constructors, ()))), (true, ())), ())
theorem uC4 : ∀ (n : Nat) (p : wC8), OLe (u67 n p) (uH4 p) := by
 intro n
 induction n with
 | zero => exact fun p r h => by cases h
 | succ n ih =>
  intro p
  cases p <;> rw [uH4, u67] <;> repeat' with_reducible first | refine OLe.bind ?_ (fun _ => ?_) | refine OLe.ite ?_ ?_ | exact v39 n _ | exact ih _ | exact OLe.refl _
mutual
def vC4 : Nat → vm3 → Option vV4
 | 0, _ => none
 | n + 1, .start s0 x1_0 x1_1 x1_2 x1_3 s2 =>
  (runF_z21 n (.start s2.list s2.params x1_0 x1_1 x1_2 x1_3)) >>= fun t1 =>
  some ((t1.1.1, ()), ())
def uV2 : Nat → u53 → Option vv8
 | 0, _ => none
 | n + 1, .start l0 C0 C1 =>
  uV2 n (.p52 l0 (List.length l0 : Int) (0 : Int) C0 C1)
 | n + 1, .p52 s9 s10 s11 C0 C1 =>
  if (decide (s11 < s10)) = true then
   (idx s9 s11) >>= fun t1 =>
   (vC4 n (.start s11 t1.Kind t1.Value t1.Name t1.Parts (⟨C0, C1⟩ : un4))) >>= fun t2 =>
   if (t2.1.1 != (0 : Int)) = true then
    some ((s11, (t2.1.1, ())), ((C0, (C1, ())), ()))
   else
    uV2 n (.p52 s9 s10 (IntKind.wrap .i64 (s11 + (1 : Int))) C0 C1)
  else
   some (((0 : Int), ((0 : Int), ())), ((C0, (C1, ())), ()))
def runF_z21 : Nat → uX7 → Option vn6
 | 0, _ => none
 | n + 1, .start s0_0 s0_1 t1_0 t1_1 t1_2 t1_3 =>
  if (t1_0 == (0 : Int)) = true then
   (vE0 n (.start s0_1 t1_2)) >>= fun t1 =>
   if (!t1.1.1) = true then
    some (((6 : Int), ()), ())
   else
    runF_z21 n (.p15 (0 : Int) s0_0 s0_1 t1_0 t1_1 t1_2 t1_3)
  else
   if (t1_0 == (1 : Int)) = true then
    (u67 n (.start s0_0 s0_1 t1_2)) >>= fun t2 =>
    if t2.1.2.1 = true then
     runF_z21 n (.p15 (List.length t2.1.1.2.1 : Int) s0_0 s0_1 t1_0 t1_1 t1_2 t1_3)
    else
     if (seq t1_2 (⟨#[66, 105, 116]⟩ : ByteArray)) = true then
      runF_z21 n (.p15 (1 : Int) s0_0 s0_1 t1_0 t1_1 t1_2 t1_3)
     else
      if (!(seq t1_2 (⟨#[66, 111, 111, 108]⟩ : ByteArray))) = true then
       some (((6 : Int), ()), ())
      else
       runF_z21 n (.p15 (0 : Int) s0_0 s0_1 t1_0 t1_1 t1_2 t1_3)
   else
    if (t1_0 == (2 : Int)) = true then
     runF_z21 n (.p15 (0 : Int) s0_0 s0_1 t1_0 t1_1 t1_2 t1_3)
    else
     some (((15 : Int), ()), ())
 | n + 1, .p15 count5 C0 C1 D0 D1 D2 D3 =>
  if ((List.length D3 : Int) != count5) = true then
   some (((10 : Int), ()), ())
  else
   if (D0 == (2 : Int)) = true then
    (uh6 n (.start D1 (0 : Int) (1000000000 : Int))) >>= fun t1 =>
    if (!t1.1.1) = true then
     some (((2 : Int), ()), ())
    else
     runF_z21 n (.p63 C0 C1 D0 D1 D2 D3)
   else
    runF_z21 n (.p63 C0 C1 D0 D1 D2 D3)
 | n + 1, .p63 C0 C1 D0 D1 D2 D3 =>
  (uV2 n (.start D3 C0 C1)) >>= fun t1 =>
  some ((t1.1.2.1, ()), ())
end
theorem vQ9 : ∀ (n : Nat), (∀ p : vm3, OLe (vC4 n p) (u19 p)) ∧ (∀ p : u53, OLe (uV2 n p) (run_z22 p)) ∧ (∀ p : uX7, OLe (runF_z21 n p) (run_z21 p)) := by
  intro n
  induction n with
  | zero => exact ⟨(fun p r h => by cases h), (fun p r h => by cases h), (fun p r h => by cases h)⟩
  | succ n ih =>
    refine ⟨?_, ?_, ?_⟩
    · intro p
      cases p <;> rw [u19, vC4] <;> repeat' with_reducible first | refine OLe.bind ?_ (fun _ => ?_) | refine OLe.ite ?_ ?_ | exact ue4 n _ | exact uL9 n _ | exact uC4 n _ | exact ih.1 _ | exact ih.2.1 _ | exact ih.2.2 _ | exact OLe.refl _
    · intro p
      cases p <;> rw [run_z22, uV2] <;> repeat' with_reducible first | refine OLe.bind ?_ (fun _ => ?_) | refine OLe.ite ?_ ?_ | exact ue4 n _ | exact uL9 n _ | exact uC4 n _ | exact ih.1 _ | exact ih.2.1 _ | exact ih.2.2 _ | exact OLe.refl _
    · intro p
      cases p <;> rw [run_z21, runF_z21] <;> repeat' with_reducible first | refine OLe.bind ?_ (fun _ => ?_) | refine OLe.ite ?_ ?_ | exact ue4 n _ | exact uL9 n _ | exact uC4 n _ | exact ih.1 _ | exact ih.2.1 _ | exact ih.2.2 _ | exact OLe.refl _
theorem v40 (n : Nat) : ∀ (p : uX7), OLe (runF_z21 n p) (run_z21 p) := (vQ9 n).2.2
def u68 : Nat → wC9 → Option xT5
 | 0, _ => none
 | n + 1, .start s0_0 s0_1 t1_0 t1_1 t1_2 t1_3 =>
  (u66 n (.start t1_0 t1_1 t1_2 t1_3)) >>= fun t1 =>
  if (t1.1.1 != (0 : Int)) = true then
   some ((t1.1.1, ()), ())
  else
   (runF_z21 n (.start s0_0 s0_1 t1_0 t1_1 t1_2 t1_3)) >>= fun t2 =>
   some ((t2.1.1, ()), ())
theorem vi2 : ∀ (n : Nat) (p : wC9), OLe (u68 n p) (uH5 p) := by
 intro n
 induction n with
 | zero => exact fun p r h => by cases h
 | succ n ih =>
  intro p
  cases p <;> rw [uH5, u68] <;> repeat' with_reducible first | refine OLe.bind ?_ (fun _ => ?_) | refine OLe.ite ?_ ?_ | exact vi1 n _ | exact v40 n _ | exact ih _ | exact OLe.refl _
def vC5 : Nat → wD0 → Option xT6
 | 0, _ => none
 | n + 1, .start s0 f1_0 f1_1 f1_2 f1_3 f1_4 D0 D1 B2 =>
  (uL3 n (.start f1_0 B2)) >>= fun t1 =>
  if (t1.1.1 != (0 : Int)) = true then
   some ((t1.1.1, ()), (((), ()), ((D0, (D1, ())), (B2, ()))))
  else
   if (fits (List.length B2) (List.length ([f1_0] : List ByteArray)) 16) = true then
    (u68 n (.start D0 D1 f1_1 f1_2 f1_3 f1_4)) >>= fun t2 =>
    some ((t2.1.1, ()), (((), ()), ((D0, (D1, ())), (B2 ++ ([f1_0] : List ByteArray), ()))))
   else none
theorem v41 : ∀ (n : Nat) (p : wD0), OLe (vC5 n p) (u20 p) := by
 intro n
 induction n with
 | zero => exact fun p r h => by cases h
 | succ n ih =>
  intro p
  cases p <;> rw [u20, vC5] <;> repeat' with_reducible first | refine OLe.bind ?_ (fun _ => ?_) | refine OLe.ite ?_ ?_ | exact uC2 n _ | exact vi2 n _ | exact ih _ | exact OLe.refl _
def uV3 : Nat → wD1 → Option xT7
 | 0, _ => none
 | n + 1, .start l0 D0 D1 =>
  uV3 n (.p52 l0 (List.length l0 : Int) (0 : Int) D0 D1 ([] : List ByteArray))
 | n + 1, .p52 s9 s10 s11 D0 D1 B2 =>
  if (decide (s11 < s10)) = true then
   (idx s9 s11) >>= fun t1 =>
   (vC5 n (.start s11 t1.Name t1.Type_.Kind t1.Type_.Value t1.Type_.Name t1.Type_.Parts D0 D1 B2)) >>= fun t2 =>
   if (t2.1.1 != (0 : Int)) = true then
    some ((s11, (t2.1.1, ())), (((), ()), ((t2.2.2.1.1, (t2.2.2.1.2.1, ())), (t2.2.2.2.1, ()))))
   else
    uV3 n (.p52 s9 s10 (IntKind.wrap .i64 (s11 + (1 : Int))) t2.2.2.1.1 t2.2.2.1.2.1 t2.2.2.2.1)
  else
   some (((0 : Int), ((0 : Int), ())), (((), ()), ((D0, (D1, ())), (B2, ()))))
theorem v42 : ∀ (n : Nat) (p : wD1), OLe (uV3 n p) (um5 p) := by
 intro n
 induction n with
 | zero => exact fun p r h => by cases h
 | succ n ih =>
  intro p
  cases p <;> rw [um5, uV3] <;> repeat' with_reducible first | refine OLe.bind ?_ (fun _ => ?_) | refine OLe.ite ?_ ?_ | exact v41 n _ | exact ih _ | exact OLe.refl _
def vC6 : Nat → wD2 → Option xT8
 | 0, _ => none
 | n + 1, .start s0 c1_0 c1_1 D0 D1 B2 =>
  (uL3 n (.start c1_0 B2)) >>= fun t1 =>
  (uc0 n (.start (decide ((List.length c1_1 : Int) ≤ (8 : Int))) (8 : Int))) >>= fun t2 =>
  (ud9 n (.start ([t1.1.1, t2.1.1] : List Int))) >>= fun t3 =>
  if (t3.1.1 != (0 : Int)) = true then
   some ((t3.1.1, ()), (((), ()), ((D0, (D1, ())), (B2, ()))))
  else
   if (fits (List.length B2) (List.length ([c1_0] : List ByteArray)) 16) = true then
    (uV3 n (.start c1_1 D0 D1)) >>= fun t4 =>
    some ((t4.1.2.1, ()), (((), ()), ((t4.2.2.1.1, (t4.2.2.1.2.1, ())), (B2 ++ ([c1_0] : List ByteArray), ()))))
   else none
theorem v43 : ∀ (n : Nat) (p : wD2), OLe (vC6 n p) (u21 p) := by
 intro n
 induction n with
 | zero => exact fun p r h => by cases h
 | succ n ih =>
  intro p
  cases p <;> rw [u21, vC6] <;> repeat' with_reducible first | refine OLe.bind ?_ (fun _ => ?_) | refine OLe.ite ?_ ?_ | exact uf7 n _ | exact ue9 n _ | exact uC2 n _ | exact v42 n _ | exact ih _ | exact OLe.refl _
def uV4 : Nat → wD3 → Option xT9
 | 0, _ => none
 | n + 1, .start l0 D0 D1 B2 =>
  uV4 n (.p52 l0 (List.length l0 : Int) (0 : Int) D0 D1 B2)
 | n + 1, .p52 s9 s10 s11 D0 D1 B2 =>
  if (decide (s11 < s10)) = true then
   (idx s9 s11) >>= fun t1 =>
   (vC6 n (.start s11 t1.Name t1.Fields D0 D1 B2)) >>= fun t2 =>
   if (t2.1.1 != (0 : Int)) = true then
    some ((s11, (t2.1.1, ())), (((), ()), ((t2.2.2.1.1, (t2.2.2.1.2.1, ())), (t2.2.2.2.1, ()))))
   else
    uV4 n (.p52 s9 s10 (IntKind.wrap .i64 (s11 + (1 : Int))) t2.2.2.1.1 t2.2.2.1.2.1 t2.2.2.2.1)
  else
   some (((0 : Int), ((0 : Int), ())), (((), ()), ((D0, (D1, ())), (B2, ()))))
theorem v44 : ∀ (n : Nat) (p : wD3), OLe (uV4 n p) (um6 p) := by
 intro n
 induction n with
 | zero => exact fun p r h => by cases h
 | succ n ih =>
  intro p
  cases p <;> rw [um6, uV4] <;> repeat' with_reducible first | refine OLe.bind ?_ (fun _ => ?_) | refine OLe.ite ?_ ?_ | exact v43 n _ | exact ih _ | exact OLe.refl _
def uV5 : Nat → wD4 → Option xU0
 | 0, _ => none
 | n + 1, .start s0_0 s0_1 d1_0 d1_1 d1_2 names2 constructors3 =>
  if (fits (List.length names2) (List.length ([(⟨#[66, 105, 116]⟩ : ByteArray), (⟨#[66, 111, 111, 108]⟩ : ByteArray), (⟨#[73, 110, 116, 101, 103, 101, 114]⟩ : ByteArray)] : List ByteArray)) 16) = true then
   (uL3 n (.start d1_0 (names2 ++ ([(⟨#[66, 105, 116]⟩ : ByteArray), (⟨#[66, 111, 111, 108]⟩ : ByteArray), (⟨#[73, 110, 116, 101, 103, 101, 114]⟩ : ByteArray)] : List ByteArray)))) >>= fun t1 =>
   if (decide ((List.length d1_1 : Int) ≤ (4 : Int))) = true then
    (uc0 n (.start (decide ((List.length d1_2 : Int) ≤ (16 : Int))) (8 : Int))) >>= fun t2 =>
    (uc0 n (.start (decide ((List.length d1_2 : Int) > (0 : Int))) (10 : Int))) >>= fun t3 =>
    (ud9 n (.start ([t1.1.1, t2.1.1, t3.1.1] : List Int))) >>= fun t4 =>
    uV5 n (.p7 constructors3 t4.1.1 s0_0 s0_1 d1_0 d1_1 d1_2)
   else
    (uc0 n (.start false (8 : Int))) >>= fun t5 =>
    (uc0 n (.start (decide ((List.length d1_2 : Int) > (0 : Int))) (10 : Int))) >>= fun t6 =>
    (ud9 n (.start ([t1.1.1, t5.1.1, t6.1.1] : List Int))) >>= fun t7 =>
    uV5 n (.p7 constructors3 t7.1.1 s0_0 s0_1 d1_0 d1_1 d1_2)
  else none
 | n + 1, .p7 constructors3 e9 C0 C1 D0 D1 D2 =>
  if (e9 != (0 : Int)) = true then
   some ((e9, ()), ())
  else
   (uV0 n (.start D1 D0 D1 D2)) >>= fun t1 =>
   if (t1.1.2.1 != (0 : Int)) = true then
    some ((t1.1.2.1, ()), ())
   else
    if (fits (List.length constructors3) (List.length ([(⟨#[70, 97, 108, 115, 101]⟩ : ByteArray), (⟨#[84, 114, 117, 101]⟩ : ByteArray)] : List ByteArray)) 16) = true then
     (uV4 n (.start t1.2.1.2.2.1 C0 t1.2.1.2.1 (constructors3 ++ ([(⟨#[70, 97, 108, 115, 101]⟩ : ByteArray), (⟨#[84, 114, 117, 101]⟩ : ByteArray)] : List ByteArray)))) >>= fun t2 =>
     some ((t2.1.2.1, ()), ())
    else none
theorem v45 : ∀ (n : Nat) (p : wD4), OLe (uV5 n p) (ur5 p) := by
 intro n
 induction n with
 | zero => exact fun p r h => by cases h
 | succ n ih =>
  intro p
  cases p <;> rw [ur5, uV5] <;> repeat' with_reducible first | refine OLe.bind ?_ (fun _ => ?_) | refine OLe.ite ?_ ?_ | exact uf7 n _ | exact ue9 n _ | exact uC2 n _ | exact v34 n _ | exact v44 n _ | exact ih _ | exact OLe.refl _
def uV6 : Nat → wD5 → Option xU1
 | 0, _ => none
 | n + 1, .start i0 d1_0 d1_1 d1_2 B0 B3 B4 =>
  (span (List.length B0) (0 : Int) i0) >>= fun t1 =>
  (vD0 n (.start B3)) >>= fun t2 =>
  (vD0 n (.start B4)) >>= fun t3 =>
  (uV5 n (.start (cut B0 t1) ([]) d1_0 d1_1 d1_2 t2.1.1 t3.1.1)) >>= fun t4 =>
  if (fits (List.length B3) (List.length ([d1_0] : List ByteArray)) 16) = true then
   uV6 n (.p244 t4.1.1 d1_2 (List.length d1_2 : Int) (0 : Int) B0 (B3 ++ ([d1_0] : List ByteArray)) B4)
  else none
 | n + 1, .p244 e8 s27 s28 s29 B0 B3 B4 =>
  if (decide (s29 < s28)) = true then
   (idx s27 s29) >>= fun t1 =>
   if (fits (List.length B4) (List.length ([t1.Name] : List ByteArray)) 16) = true then
    uV6 n (.p244 e8 s27 s28 (IntKind.wrap .i64 (s29 + (1 : Int))) B0 B3 (B4 ++ ([t1.Name] : List ByteArray)))
   else none
  else
   some ((e8, ()), ((B0, ()), (((), ()), (((), ()), (B3, (B4, ()))))))
theorem v47 : ∀ (n : Nat) (p : wD5), OLe (uV6 n p) (um7 p) := by
 intro n
 induction n with
 | zero => exact fun p r h => by cases h
 | succ n ih =>
  intro p
  cases p <;> rw [um7, uV6] <;> repeat' with_reducible first | refine OLe.bind ?_ (fun _ => ?_) | refine OLe.ite ?_ ?_ | exact wQ4 n _ | exact v45 n _ | exact ih _ | exact OLe.refl _
def uV7 : Nat → wD6 → Option xU2
 | 0, _ => none
 | n + 1, .start l0 B0 =>
  uV7 n (.p52 l0 (List.length l0 : Int) (0 : Int) B0 ([] : List ByteArray) ([] : List ByteArray))
 | n + 1, .p52 s9 s10 s11 B0 B3 B4 =>
  if (decide (s11 < s10)) = true then
   (idx s9 s11) >>= fun t1 =>
   (uV6 n (.start s11 t1.Name t1.Params t1.Constructors B0 B3 B4)) >>= fun t2 =>
   if (t2.1.1 != (0 : Int)) = true then
    some ((s11, (t2.1.1, ())), ((t2.2.1.1, ()), (((), ()), (((), ()), (t2.2.2.2.2.1, (t2.2.2.2.2.2.1, ()))))))
   else
    uV7 n (.p52 s9 s10 (IntKind.wrap .i64 (s11 + (1 : Int))) t2.2.1.1 t2.2.2.2.2.1 t2.2.2.2.2.2.1)
  else
   some (((0 : Int), ((0 : Int), ())), ((B0, ()), (((), ()), (((), ()), (B3, (B4, ()))))))
theorem v48 : ∀ (n : Nat) (p : wD6), OLe (uV7 n p) (up9 p) := by
 intro n
 induction n with
 | zero => exact fun p r h => by cases h
 | succ n ih =>
  intro p
  cases p <;> rw [up9, uV7] <;> repeat' with_reducible first | refine OLe.bind ?_ (fun _ => ?_) | refine OLe.ite ?_ ?_ | exact v47 n _ | exact ih _ | exact OLe.refl _
def vC7 : Nat → wD7 → Option xU3
 | 0, _ => none
 | n + 1, .start l0 =>
  if (decide ((List.length l0 : Int) > (20 : Int))) = true then
   some (((0 : Int), ((8 : Int), ())), ())
  else
   (uV7 n (.start l0 l0)) >>= fun t1 =>
   some ((t1.1.1, (t1.1.2.1, ())), ())
theorem v49 : ∀ (n : Nat) (p : wD7), OLe (vC7 n p) (uQ9 p) := by
 intro n
 induction n with
 | zero => exact fun p r h => by cases h
 | succ n ih =>
  intro p
  cases p <;> rw [uQ9, vC7] <;> repeat' with_reducible first | refine OLe.bind ?_ (fun _ => ?_) | refine OLe.ite ?_ ?_ | exact v48 n _ | exact ih _ | exact OLe.refl _
def us5 : Nat → vm4 → Option vG6
 | 0, _ => none
 | n + 1, .start t0_0 t0_1 t0_2 t0_3 params1 args2 =>
  (u15 n (.start params1 t0_2)) >>= fun t1 =>
  if (t0_0 == (0 : Int)) = true then
   us5 n (.p27 params1 args2 t1.1.1 (decide (t1.1.1 ≥ (0 : Int))) t0_0 t0_1 t0_2 t0_3 (0 : Int) (0 : Int) (⟨#[]⟩ : ByteArray))
  else
   us5 n (.p27 params1 args2 t1.1.1 false t0_0 t0_1 t0_2 t0_3 (0 : Int) (0 : Int) (⟨#[]⟩ : ByteArray))
 | n + 1, .p27 params1 args2 i7 s21 C0 C1 C2 C3 D0 D1 D2 =>
  if s21 = true then
   (idx args2 i7) >>= fun t1 =>
   (us5 n (.start t1.Kind t1.Value t1.Name t1.Parts ([]) ([]))) >>= fun t2 =>
   some (((t2.1.1.1, (t2.1.1.2.1, (t2.1.1.2.2.1, (t2.1.1.2.2.2.1, ())))), ()), ())
  else
   us5 n (.p500 params1 args2 C3 (List.length C3 : Int) (0 : Int) D0 D1 D2 C0 C1 C2 ([] : List ua0))
 | n + 1, .p500 params1 args2 s30 s31 s32 C0 C1 C2 D0 D1 D2 B2 =>
  if (decide (s32 < s31)) = true then
   (idx s30 s32) >>= fun t1 =>
   (us5 n (.start t1.Kind t1.Value t1.Name t1.Parts params1 args2)) >>= fun t2 =>
   if (fits (List.length B2) (List.length ([(⟨t2.1.1.1, t2.1.1.2.1, t2.1.1.2.2.1, t2.1.1.2.2.2.1⟩ : ua0)] : List ua0)) 56) = true then
    us5 n (.p500 params1 args2 s30 s31 (IntKind.wrap .i64 (s32 + (1 : Int))) C0 C1 C2 D0 D1 D2 (B2 ++ ([(⟨t2.1.1.1, t2.1.1.2.1, t2.1.1.2.2.1, t2.1.1.2.2.2.1⟩ : ua0)] : List ua0)))
   else none
  else
   some (((D0, (D1, (D2, (B2, ())))), ()), ())
theorem v50 : ∀ (n : Nat) (p : vm4), OLe (us5 n p) (uf1 p) := by
 intro n
 induction n with
 | zero => exact fun p r h => by cases h
 | succ n ih =>
  intro p
  cases p <;> rw [uf1, us5] <;> repeat' with_reducible first | refine OLe.bind ?_ (fun _ => ?_) | refine OLe.ite ?_ ?_ | exact vt9 n _ | exact ih _ | exact OLe.refl _
def uC5 : Nat → wD8 → Option xU4
 | 0, _ => none
 | n + 1, .start s0_0 s0_1 t1_0 t1_1 t1_2 t1_3 =>
  (u67 n (.start s0_0 s0_1 t1_2)) >>= fun t1 =>
  if (!t1.1.2.1) = true then
   some (((), ()), (([(⟨(⟨#[70, 97, 108, 115, 101]⟩ : ByteArray), [], none⟩ : data_variant), (⟨(⟨#[84, 114, 117, 101]⟩ : ByteArray), [], none⟩ : data_variant)] : List data_variant), ()))
  else
   uC5 n (.p500 t1.1.1.2.2.1 (List.length t1.1.1.2.2.1 : Int) (0 : Int) t1_0 t1_1 t1_2 t1_3 t1.1.1.1 t1.1.1.2.1 t1.1.1.2.2.1 ([] : List data_variant))
 | n + 1, .p500 s26 s27 s28 C0 C1 C2 C3 D0 D1 D2 B2 =>
  if (decide (s28 < s27)) = true then
   (idx s26 s28) >>= fun t1 =>
   uC5 n (.p512820 s26 s27 s28 t1.Fields (List.length t1.Fields : Int) (0 : Int) C0 C1 C2 C3 D0 D1 D2 B2 t1.Name ([] : List ua6))
  else
   some (((), ()), (B2, ()))
 | n + 1, .p512820 s26 s27 s28 s36 s37 s38 C0 C1 C2 C3 D0 D1 D2 B2 B3 B4 =>
  if (decide (s38 < s37)) = true then
   (idx s36 s38) >>= fun t1 =>
   (us5 n (.start t1.Type_.Kind t1.Type_.Value t1.Type_.Name t1.Type_.Parts D1 C3)) >>= fun t2 =>
   if (fits (List.length B4) (List.length ([(⟨t1.Name, (⟨t2.1.1.1, t2.1.1.2.1, t2.1.1.2.2.1, t2.1.1.2.2.2.1⟩ : ua0)⟩ : ua6)] : List ua6)) 72) = true then
    uC5 n (.p512820 s26 s27 s28 s36 s37 (IntKind.wrap .i64 (s38 + (1 : Int))) C0 C1 C2 C3 D0 D1 D2 B2 B3 (B4 ++ ([(⟨t1.Name, (⟨t2.1.1.1, t2.1.1.2.1, t2.1.1.2.2.1, t2.1.1.2.2.2.1⟩ : ua0)⟩ : ua6)] : List ua6)))
   else none
  else
   if (fits (List.length B2) (List.length ([(⟨B3, B4, none⟩ : data_variant)] : List data_variant)) 64) = true then
    uC5 n (.p500 s26 s27 (IntKind.wrap .i64 (s28 + (1 : Int))) C0 C1 C2 C3 D0 D1 D2 (B2 ++ ([(⟨B3, B4, none⟩ : data_variant)] : List data_variant)))
   else none
theorem v52 : ∀ (n : Nat) (p : wD8), OLe (uC5 n p) (ug7 p) := by
 intro n
 induction n with
 | zero => exact fun p r h => by cases h
 | succ n ih =>
  intro p
  cases p <;> rw [ug7, uC5] <;> repeat' with_reducible first | refine OLe.bind ?_ (fun _ => ?_) | refine OLe.ite ?_ ?_ | exact uC4 n _ | exact v50 n _ | exact ih _ | exact OLe.refl _
def uq3 : Nat → vm5 → Option vG7
 | 0, _ => none
 | n + 1, .start s0_0 s0_1 t1_0 t1_1 t1_2 t1_3 deep3 B0 =>
  (u66 n (.start t1_0 t1_1 t1_2 t1_3)) >>= fun t1 =>
  if (t1.1.1 != (0 : Int)) = true then
   some ((none, (t1.1.1, ())), ((B0, ()), ()))
  else
   if (decide ((IntKind.wrap .i64 (B0 + (1 : Int))) ≤ (200 : Int))) = true then
    (uc0 n (.start (decide (deep3 ≤ (40 : Int))) (8 : Int))) >>= fun t2 =>
    uq3 n (.p31 deep3 t2.1.1 (IntKind.wrap .i64 (B0 + (1 : Int))) s0_0 s0_1 t1_0 t1_1 t1_2 t1_3)
   else
    (uc0 n (.start false (8 : Int))) >>= fun t3 =>
    uq3 n (.p31 deep3 t3.1.1 (IntKind.wrap .i64 (B0 + (1 : Int))) s0_0 s0_1 t1_0 t1_1 t1_2 t1_3)
 | n + 1, .p31 deep3 few11 B0 D0 D1 G0 G1 G2 G3 =>
  if (G0 == (2 : Int)) = true then
   some ((none, ((26 : Int), ())), ((B0, ()), ()))
  else
   if (seq G2 (⟨#[66, 105, 116]⟩ : ByteArray)) = true then
    (idx G3 (0 : Int)) >>= fun t1 =>
    (uc0 n (.start (t1.Kind == (2 : Int)) (26 : Int))) >>= fun t2 =>
    (uh6 n (.start t1.Value (1 : Int) (16 : Int))) >>= fun t3 =>
    (uc0 n (.start t3.1.1 (25 : Int))) >>= fun t4 =>
    (ud9 n (.start ([t2.1.1, t4.1.1, few11] : List Int))) >>= fun t5 =>
    some ((some (⟨t1.Value, none⟩ : ua4), (t5.1.1, ())), ((B0, ()), ()))
   else
    if (few11 != (0 : Int)) = true then
     some ((none, (few11, ())), ((B0, ()), ()))
    else
     (uC5 n (.start D0 D1 G0 G1 G2 G3)) >>= fun t6 =>
     uq3 n (.p8180 deep3 (List.length t6.2.1 : Int) (0 : Int) B0 D0 D1 (0 : Int) t6.2.1)
 | n + 1, .p8180 deep3 s76 s77 B0 D0 D1 B2 B3 =>
  if (decide (s77 < s76)) = true then
   if (decide ((0 : Int) ≤ s77) && decide (s77 < (List.length B3 : Int))) = true then
    (idx B3 s77) >>= fun t1 =>
    if (Option.isNone t1.parts) = true then
     (if s77 = (Int.toNat s77 : Int) then B3[Int.toNat s77]? else none) >>= fun t2 =>
     uq3 n (.p4188572 deep3 s77 s76 s77 t2.fields (List.length t2.fields : Int) (0 : Int) B0 D0 D1 B2 (B3, Int.toNat s77) ([] : List (Option ua4)))
    else none
   else none
  else
   some ((some (⟨B2, (some B3)⟩ : ua4), ((0 : Int), ())), ((B0, ()), ()))
 | n + 1, .p4188572 deep3 v15 s76 s77 s89 s90 s91 B0 D0 D1 B2 B3 B4 =>
  if (decide (s91 < s90)) = true then
   (idx s89 s91) >>= fun t1 =>
   (uq3 n (.start D0 D1 t1.Type_.Kind t1.Type_.Value t1.Type_.Name t1.Type_.Parts (IntKind.wrap .i64 (deep3 + (1 : Int))) B0)) >>= fun t2 =>
   if (t2.1.2.1 != (0 : Int)) = true then
    some ((none, (t2.1.2.1, ())), ((t2.2.1.1, ()), ()))
   else
    (if v15 = (B3.2 : Int) then B3.1[B3.2]? else none) >>= fun t3 =>
    if (fits (List.length B4) (List.length ([t2.1.1] : List (Option ua4))) 8) = true then
     if v15 = (B3.2 : Int) then
      uq3 n (.p4188572 deep3 v15 s76 s77 s89 s90 (IntKind.wrap .i64 (s91 + (1 : Int))) t2.2.1.1 D0 D1 B2 (B3.1, B3.2) (B4 ++ ([t2.1.1] : List (Option ua4))))
     else none
    else none
  else
   uq3 n (.p8180 deep3 s76 (IntKind.wrap .i64 (s77 + (1 : Int))) B0 D0 D1 B2 (List.modify B3.1 B3.2 (fun y => (⟨y.name, y.fields, (some B4)⟩ : data_variant))))
theorem v54 : ∀ (n : Nat) (p : vm5), OLe (uq3 n p) (uc6 p) := by
 intro n
 induction n with
 | zero => exact fun p r h => by cases h
 | succ n ih =>
  intro p
  cases p <;> rw [uc6, uq3] <;> repeat' with_reducible first | refine OLe.bind ?_ (fun _ => ?_) | refine OLe.ite ?_ ?_ | exact ue4 n _ | exact uf7 n _ | exact ue9 n _ | exact vi1 n _ | exact v52 n _ | exact ih _ | exact OLe.refl _
def uw8 : Nat → wD9 → Option xU5
 | 0, _ => none
 | n + 1, .start x0 =>
  x0 >>= fun t1 =>
  (x12 t1.constructors) >>= fun t2 =>
  some ((t2, ()), ())
theorem uf0 : ∀ (n : Nat) (p : wD9), OLe (uw8 n p) (ur6 p) := by
 intro n
 induction n with
 | zero => exact fun p r h => by cases h
 | succ n ih =>
  intro p
  cases p <;> rw [ur6, uw8] <;> repeat' with_reducible first | refine OLe.bind ?_ (fun _ => ?_) | refine OLe.ite ?_ ?_ | exact ih _ | exact OLe.refl _
def us6 : Nat → wE0 → Option xU6
 | 0, _ => none
 | n + 1, .start x0 =>
  if (decide (x0 ≥ (4294967296 : Int))) = true then
   if (decide ((0 : Int) ≤ (32 : Int))) = true then
    us6 n (.p7 (shr .u64 x0 (32 : Int)) (32 : Int))
   else none
  else
   us6 n (.p7 x0 (0 : Int))
 | n + 1, .p7 x0 n2 =>
  if (decide (x0 ≥ (65536 : Int))) = true then
   if (decide ((0 : Int) ≤ (16 : Int))) = true then
    us6 n (.p15 (shr .u64 x0 (16 : Int)) (IntKind.wrap .i64 (n2 + (16 : Int))))
   else none
  else
   us6 n (.p15 x0 n2)
 | n + 1, .p15 x0 n2 =>
  if (decide (x0 ≥ (256 : Int))) = true then
   if (decide ((0 : Int) ≤ (8 : Int))) = true then
    us6 n (.p31 (shr .u64 x0 (8 : Int)) (IntKind.wrap .i64 (n2 + (8 : Int))))
   else none
  else
   us6 n (.p31 x0 n2)
 | n + 1, .p31 x0 n2 =>
  (sidx (⟨#[0, 1, 2, 2, 3, 3, 3, 3, 4, 4, 4, 4, 4, 4, 4, 4, 5, 5, 5, 5, 5, 5, 5, 5, 5, 5, 5, 5, 5, 5, 5, 5, 6, 6, 6, 6, 6, 6, 6, 6, 6, 6, 6, 6, 6, 6, 6, 6, 6, 6, 6, 6, 6, 6, 6, 6, 6, 6, 6, 6, 6, 6, 6, 6, 7, 7, 7, 7, 7, 7, 7, 7, 7, 7, 7, 7, 7, 7, 7, 7, 7, 7, 7, 7, 7, 7, 7, 7, 7, 7, 7, 7, 7, 7, 7, 7, 7, 7, 7, 7, 7, 7, 7, 7, 7, 7, 7, 7, 7, 7, 7, 7, 7, 7, 7, 7, 7, 7, 7, 7, 7, 7, 7, 7, 7, 7, 7, 7, 8, 8, 8, 8, 8, 8, 8, 8, 8, 8, 8, 8, 8, 8, 8, 8, 8, 8, 8, 8, 8, 8, 8, 8, 8, 8, 8, 8, 8, 8, 8, 8, 8, 8, 8, 8, 8, 8, 8, 8, 8, 8, 8, 8, 8, 8, 8, 8, 8, 8, 8, 8, 8, 8, 8, 8, 8, 8, 8, 8, 8, 8, 8, 8, 8, 8, 8, 8, 8, 8, 8, 8, 8, 8, 8, 8, 8, 8, 8, 8, 8, 8, 8, 8, 8, 8, 8, 8, 8, 8, 8, 8, 8, 8, 8, 8, 8, 8, 8, 8, 8, 8, 8, 8, 8, 8, 8, 8, 8, 8, 8, 8, 8, 8, 8, 8, 8, 8, 8, 8, 8, 8, 8, 8, 8, 8, 8, 8]⟩ : ByteArray) (IntKind.wrap .u8 x0)) >>= fun t1 =>
  some ((IntKind.wrap .i64 (n2 + (IntKind.wrap .i64 t1)), ()), ())
theorem v55 : ∀ (n : Nat) (p : wE0), OLe (us6 n p) (ui9 p) := by
 intro n
 induction n with
 | zero => exact fun p r h => by cases h
 | succ n ih =>
  intro p
  cases p <;> rw [ui9, us6] <;> repeat' with_reducible first | refine OLe.bind ?_ (fun _ => ?_) | refine OLe.ite ?_ ?_ | exact ih _ | exact OLe.refl _
def vC8 : Nat → wE1 → Option xU7
 | 0, _ => none
 | n + 1, .start x0 =>
  (us6 n (.start x0)) >>= fun t1 =>
  some ((t1.1.1, ()), ())
theorem v56 : ∀ (n : Nat) (p : wE1), OLe (vC8 n p) (u22 p) := by
 intro n
 induction n with
 | zero => exact fun p r h => by cases h
 | succ n ih =>
  intro p
  cases p <;> rw [u22, vC8] <;> repeat' with_reducible first | refine OLe.bind ?_ (fun _ => ?_) | refine OLe.ite ?_ ?_ | exact v55 n _ | exact ih _ | exact OLe.refl _
def vC9 : Nat → wE2 → Option xU8
 | 0, _ => none
 | n + 1, .start x0 =>
  x0 >>= fun t1 =>
  (vC8 n (.start (IntKind.wrap .u64 (IntKind.wrap .i64 ((List.length (Option.getD t1.constructors []) : Int) - (1 : Int)))))) >>= fun t2 =>
  some ((t2.1.1, ()), ())
theorem uQ8 : ∀ (n : Nat) (p : wE2), OLe (vC9 n p) (uR0 p) := by
 intro n
 induction n with
 | zero => exact fun p r h => by cases h
 | succ n ih =>
  intro p
  cases p <;> rw [uR0, vC9] <;> repeat' with_reducible first | refine OLe.bind ?_ (fun _ => ?_) | refine OLe.ite ?_ ?_ | exact v56 n _ | exact ih _ | exact OLe.refl _
mutual
def uC6 : Nat → uX8 → Option vn7
 | 0, _ => none
 | n + 1, .start v0_0 v0_1 v0_2 =>
  uC6 n (.p116 (0 : Int) v0_2 (List.length (Option.getD v0_2 []) : Int) (0 : Int))
 | n + 1, .p116 sum3 s7 s8 s9 =>
  if (decide (s9 < s8)) = true then
   (idx (Option.getD s7 []) s9) >>= fun t1 =>
   (runF_z41 n (.start t1)) >>= fun t2 =>
   uC6 n (.p116 (IntKind.wrap .i64 (sum3 + t2.1.1)) s7 s8 (IntKind.wrap .i64 (s9 + (1 : Int))))
  else
   some ((sum3, ()), ())
def us7 : Nat → uX9 → Option vn8
 | 0, _ => none
 | n + 1, .start x0 =>
  x0 >>= fun t1 =>
  us7 n (.p116 (0 : Int) t1.constructors (List.length (Option.getD t1.constructors []) : Int) (0 : Int))
 | n + 1, .p116 most3 s9 s10 s11 =>
  if (decide (s11 < s10)) = true then
   (idx (Option.getD s9 []) s11) >>= fun t1 =>
   (uC6 n (.start t1.name t1.fields t1.parts)) >>= fun t2 =>
   us7 n (.p116 (if t2.1.1 > most3 then t2.1.1 else most3) s9 s10 (IntKind.wrap .i64 (s11 + (1 : Int))))
  else
   some ((most3, ()), ())
def runF_z41 : Nat → u77 → Option vG8
 | 0, _ => none
 | n + 1, .start x0 =>
  (uw8 n (.start x0)) >>= fun t1 =>
  if t1.1.1 = true then
   x0 >>= fun t2 =>
   some ((t2.bits, ()), ())
  else
   (vC9 n (.start x0)) >>= fun t3 =>
   (us7 n (.start x0)) >>= fun t4 =>
   some ((IntKind.wrap .i64 (t3.1.1 + t4.1.1), ()), ())
end
theorem uH2 : ∀ (n : Nat), (∀ p : uX8, OLe (uC6 n p) (uj0 p)) ∧ (∀ p : uX9, OLe (us7 n p) (run_z42 p)) ∧ (∀ p : u77, OLe (runF_z41 n p) (run_z41 p)) := by
  intro n
  induction n with
  | zero => exact ⟨(fun p r h => by cases h), (fun p r h => by cases h), (fun p r h => by cases h)⟩
  | succ n ih =>
    refine ⟨?_, ?_, ?_⟩
    · intro p
      cases p <;> rw [uj0, uC6] <;> repeat' with_reducible first | refine OLe.bind ?_ (fun _ => ?_) | refine OLe.ite ?_ ?_ | exact uf0 n _ | exact uQ8 n _ | exact ih.1 _ | exact ih.2.1 _ | exact ih.2.2 _ | exact OLe.refl _
    · intro p
      cases p <;> rw [run_z42, us7] <;> repeat' with_reducible first | refine OLe.bind ?_ (fun _ => ?_) | refine OLe.ite ?_ ?_ | exact uf0 n _ | exact uQ8 n _ | exact ih.1 _ | exact ih.2.1 _ | exact ih.2.2 _ | exact OLe.refl _
    · intro p
      cases p <;> rw [run_z41, runF_z41] <;> repeat' with_reducible first | refine OLe.bind ?_ (fun _ => ?_) | refine OLe.ite ?_ ?_ | exact uf0 n _ | exact uQ8 n _ | exact ih.1 _ | exact ih.2.1 _ | exact ih.2.2 _ | exact OLe.refl _
theorem v57 (n : Nat) : ∀ (p : uX8), OLe (uC6 n p) (uj0 p) := (uH2 n).1
theorem vi4 (n : Nat) : ∀ (p : uX9), OLe (us7 n p) (run_z42 p) := (uH2 n).2.1
theorem uu7 (n : Nat) : ∀ (p : u77), OLe (runF_z41 n p) (run_z41 p) := (uH2 n).2.2
def uL4 : Nat → wE3 → Option xU9
 | 0, _ => none
 | n + 1, .start l0 t1_0 t1_1 t1_2 t1_3 =>
  (vC7 n (.start l0)) >>= fun t1 =>
  if (t1.1.2.1 != (0 : Int)) = true then
   some ((none, ((l0, ((), ())), (t1.1.2.1, ()))), ())
  else
   (u68 n (.start l0 ([]) t1_0 t1_1 t1_2 t1_3)) >>= fun t2 =>
   if (t2.1.1 != (0 : Int)) = true then
    some ((none, ((l0, ((), ())), (t2.1.1, ()))), ())
   else
    (uq3 n (.start l0 ([]) t1_0 t1_1 t1_2 t1_3 (1 : Int) (0 : Int))) >>= fun t3 =>
    if (t3.1.2.1 == (0 : Int)) = true then
     (runF_z41 n (.start t3.1.1)) >>= fun t4 =>
     (uh6 n (.start t4.1.1 (1 : Int) (16 : Int))) >>= fun t5 =>
     if (!t5.1.1) = true then
      some ((t3.1.1, ((l0, ((), ())), ((25 : Int), ()))), ())
     else
      some ((t3.1.1, ((l0, ((), ())), (t3.1.2.1, ()))), ())
    else
     some ((t3.1.1, ((l0, ((), ())), (t3.1.2.1, ()))), ())
theorem uC7 : ∀ (n : Nat) (p : wE3), OLe (uL4 n p) (uu8 p) := by
 intro n
 induction n with
 | zero => exact fun p r h => by cases h
 | succ n ih =>
  intro p
  cases p <;> rw [uu8, uL4] <;> repeat' with_reducible first | refine OLe.bind ?_ (fun _ => ?_) | refine OLe.ite ?_ ?_ | exact ue4 n _ | exact vi2 n _ | exact v49 n _ | exact v54 n _ | exact uu7 n _ | exact ih _ | exact OLe.refl _
def vD1 : Nat → wE4 → Option xV0
 | 0, _ => none
 | n + 1, .start l0 t1_0 t1_1 t1_2 t1_3 =>
  (uL4 n (.start l0 t1_0 t1_1 t1_2 t1_3)) >>= fun t1 =>
  if (t1.1.2.2.1 != (0 : Int)) = true then
   some (((0 : Int), (t1.1.2.2.1, ())), ())
  else
   (runF_z41 n (.start t1.1.1)) >>= fun t2 =>
   some ((t2.1.1, ((0 : Int), ())), ())
theorem v58 : ∀ (n : Nat) (p : wE4), OLe (vD1 n p) (uH6 p) := by
 intro n
 induction n with
 | zero => exact fun p r h => by cases h
 | succ n ih =>
  intro p
  cases p <;> rw [uH6, vD1] <;> repeat' with_reducible first | refine OLe.bind ?_ (fun _ => ?_) | refine OLe.ite ?_ ?_ | exact uu7 n _ | exact uC7 n _ | exact ih _ | exact OLe.refl _
def us8 : Nat → wE5 → Option xV1
 | 0, _ => none
 | n + 1, .start name0 parts1 =>
  some (((name0, ((0 : Int), (parts1, ()))), ()), ())
theorem v59 : ∀ (n : Nat) (p : wE5), OLe (us8 n p) (uu9 p) := by
 intro n
 induction n with
 | zero => exact fun p r h => by cases h
 | succ n ih =>
  intro p
  cases p <;> rw [uu9, us8] <;> repeat' with_reducible first | refine OLe.bind ?_ (fun _ => ?_) | refine OLe.ite ?_ ?_ | exact ih _ | exact OLe.refl _
def vD2 : Nat → wE6 → Option xV2
 | 0, _ => none
 | n + 1, .start v0_0 v0_1 v0_2 =>
  some ((v0_2, ()), ())
theorem v60 : ∀ (n : Nat) (p : wE6), OLe (vD2 n p) (u23 p) := by
 intro n
 induction n with
 | zero => exact fun p r h => by cases h
 | succ n ih =>
  intro p
  cases p <;> rw [u23, vD2] <;> repeat' with_reducible first | refine OLe.bind ?_ (fun _ => ?_) | refine OLe.ite ?_ ?_ | exact ih _ | exact OLe.refl _
def uC8 : Nat → vm6 → Option vG9
 | 0, _ => none
 | n + 1, .start x0_0 x0_1 x0_2 depth1 B0 =>
  if (decide ((IntKind.wrap .i64 (B0 + (1 : Int))) > (200 : Int))) = true then
   some ((false, ()), ((IntKind.wrap .i64 (B0 + (1 : Int)), ()), (((), ()), ((((), ((), ((), ()))), ()), ()))))
  else
   if (decide (depth1 > (40 : Int))) = true then
    some ((false, ()), ((IntKind.wrap .i64 (B0 + (1 : Int)), ()), (((), ()), ((((), ((), ((), ()))), ()), ()))))
   else
    uC8 n (.p15 depth1 (IntKind.wrap .i64 (B0 + (1 : Int))) x0_0 x0_1 x0_2)
 | n + 1, .p15 depth1 B0 H0 H1 H2 =>
  (vD2 n (.start H0 H1 H2)) >>= fun t1 =>
  uC8 n (.p244 depth1 t1.1.1 (List.length t1.1.1 : Int) (0 : Int) B0)
 | n + 1, .p244 depth1 s20 s21 s22 B0 =>
  if (decide (s22 < s21)) = true then
   (idx s20 s22) >>= fun t1 =>
   (uC8 n (.start t1.Name t1.Number t1.Parts (IntKind.wrap .i64 (depth1 + (1 : Int))) B0)) >>= fun t2 =>
   if (!t2.1.1) = true then
    some ((false, ()), ((t2.2.1.1, ()), (((), ()), ((((), ((), ((), ()))), ()), ()))))
   else
    uC8 n (.p244 depth1 s20 s21 (IntKind.wrap .i64 (s22 + (1 : Int))) t2.2.1.1)
  else
   some ((true, ()), ((B0, ()), (((), ()), ((((), ((), ((), ()))), ()), ()))))
theorem v61 : ∀ (n : Nat) (p : vm6), OLe (uC8 n p) (uj1 p) := by
 intro n
 induction n with
 | zero => exact fun p r h => by cases h
 | succ n ih =>
  intro p
  cases p <;> rw [uj1, uC8] <;> repeat' with_reducible first | refine OLe.bind ?_ (fun _ => ?_) | refine OLe.ite ?_ ?_ | exact v60 n _ | exact ih _ | exact OLe.refl _
def u69 : Nat → wE7 → Option xV3
 | 0, _ => none
 | n + 1, .start root0_0 root0_1 root0_2 =>
  (uC8 n (.start root0_0 root0_1 root0_2 (1 : Int) (0 : Int))) >>= fun t1 =>
  (uc0 n (.start t1.1.1 (8 : Int))) >>= fun t2 =>
  some ((t2.1.1, ()), ())
theorem vi5 : ∀ (n : Nat) (p : wE7), OLe (u69 n p) (uH7 p) := by
 intro n
 induction n with
 | zero => exact fun p r h => by cases h
 | succ n ih =>
  intro p
  cases p <;> rw [uH7, u69] <;> repeat' with_reducible first | refine OLe.bind ?_ (fun _ => ?_) | refine OLe.ite ?_ ?_ | exact uf7 n _ | exact v61 n _ | exact ih _ | exact OLe.refl _
def vD3 : Nat → wE8 → Option xV4
 | 0, _ => none
 | n + 1, .start v0_0 v0_1 v0_2 s1 =>
  some ((seq v0_0 s1, ()), ())
theorem v62 : ∀ (n : Nat) (p : wE8), OLe (vD3 n p) (u24 p) := by
 intro n
 induction n with
 | zero => exact fun p r h => by cases h
 | succ n ih =>
  intro p
  cases p <;> rw [u24, vD3] <;> repeat' with_reducible first | refine OLe.bind ?_ (fun _ => ?_) | refine OLe.ite ?_ ?_ | exact ih _ | exact OLe.refl _
def uV8 : Nat → wE9 → Option xV5
 | 0, _ => none
 | n + 1, .start s0 B0 =>
  uV8 n (.p52 s0 (List.length (Option.getD s0 []) : Int) (0 : Int) B0)
 | n + 1, .p52 s0 s7 s8 B0 =>
  if (decide (s8 < s7)) = true then
   (idx (Option.getD s0 []) s8) >>= fun t1 =>
   (vD3 n (.start t1.name t1.fields t1.parts B0)) >>= fun t2 =>
   if t2.1.1 = true then
    some ((s8, ()), ((B0, ()), ()))
   else
    uV8 n (.p52 s0 s7 (IntKind.wrap .i64 (s8 + (1 : Int))) B0)
  else
   some (((-1 : Int), ()), ((B0, ()), ()))
theorem v63 : ∀ (n : Nat) (p : wE9), OLe (uV8 n p) (um8 p) := by
 intro n
 induction n with
 | zero => exact fun p r h => by cases h
 | succ n ih =>
  intro p
  cases p <;> rw [um8, uV8] <;> repeat' with_reducible first | refine OLe.bind ?_ (fun _ => ?_) | refine OLe.ite ?_ ?_ | exact v62 n _ | exact ih _ | exact OLe.refl _
def u70 : Nat → wF0 → Option xV6
 | 0, _ => none
 | n + 1, .start x0 name1 =>
  x0 >>= fun t1 =>
  (uV8 n (.start t1.constructors name1)) >>= fun t2 =>
  some ((t2.1.1, ()), ())
theorem uC9 : ∀ (n : Nat) (p : wF0), OLe (u70 n p) (uH8 p) := by
 intro n
 induction n with
 | zero => exact fun p r h => by cases h
 | succ n ih =>
  intro p
  cases p <;> rw [uH8, u70] <;> repeat' with_reducible first | refine OLe.bind ?_ (fun _ => ?_) | refine OLe.ite ?_ ?_ | exact v63 n _ | exact ih _ | exact OLe.refl _
mutual
def vD4 : Nat → vm7 → Option vV5
 | 0, _ => none
 | n + 1, .start i0 part1_0 part1_1 part1_2 C0 C1 C2 =>
  (idx (Option.getD C2 []) i0) >>= fun t1 =>
  (runF_z53 n (.start t1 part1_0 part1_1 part1_2)) >>= fun t2 =>
  some ((t2.1.1, ()), ((C0, (C1, (C2, ()))), ()))
def uV9 : Nat → u54 → Option vv9
 | 0, _ => none
 | n + 1, .start l0 C0 C1 C2 =>
  uV9 n (.p52 l0 (List.length l0 : Int) (0 : Int) C0 C1 C2)
 | n + 1, .p52 s9 s10 s11 C0 C1 C2 =>
  if (decide (s11 < s10)) = true then
   (idx s9 s11) >>= fun t1 =>
   (vD4 n (.start s11 t1.Name t1.Number t1.Parts C0 C1 C2)) >>= fun t2 =>
   if (t2.1.1 != (0 : Int)) = true then
    some ((s11, (t2.1.1, ())), ((t2.2.1.1, (t2.2.1.2.1, (t2.2.1.2.2.1, ()))), ()))
   else
    uV9 n (.p52 s9 s10 (IntKind.wrap .i64 (s11 + (1 : Int))) t2.2.1.1 t2.2.1.2.1 t2.2.1.2.2.1)
  else
   some (((0 : Int), ((0 : Int), ())), ((C0, (C1, (C2, ()))), ()))
def runF_z53 : Nat → u78 → Option vH0
 | 0, _ => none
 | n + 1, .start x0 v1_0 v1_1 v1_2 =>
  (uw8 n (.start x0)) >>= fun t1 =>
  if t1.1.1 = true then
   if (seq v1_0 (⟨#[]⟩ : ByteArray)) = true then
    (uc0 n (.start ((List.length v1_2 : Int) == (0 : Int)) (3 : Int))) >>= fun t2 =>
    x0 >>= fun t3 =>
    if (decide ((0 : Int) ≤ t3.bits)) = true then
     (uh6 n (.start v1_1 (0 : Int) (IntKind.wrap .i64 ((shl .i64 (1 : Int) t3.bits) - (1 : Int))))) >>= fun t4 =>
     (uc0 n (.start t4.1.1 (2 : Int))) >>= fun t5 =>
     (ud9 n (.start ([t2.1.1, t5.1.1] : List Int))) >>= fun t6 =>
     some ((t6.1.1, ()), ())
    else none
   else
    (uc0 n (.start false (3 : Int))) >>= fun t7 =>
    x0 >>= fun t8 =>
    if (decide ((0 : Int) ≤ t8.bits)) = true then
     (uh6 n (.start v1_1 (0 : Int) (IntKind.wrap .i64 ((shl .i64 (1 : Int) t8.bits) - (1 : Int))))) >>= fun t9 =>
     (uc0 n (.start t9.1.1 (2 : Int))) >>= fun t10 =>
     (ud9 n (.start ([t7.1.1, t10.1.1] : List Int))) >>= fun t11 =>
     some ((t11.1.1, ()), ())
    else none
  else
   (u70 n (.start x0 v1_0)) >>= fun t12 =>
   if (decide (t12.1.1 < (0 : Int))) = true then
    some (((6 : Int), ()), ())
   else
    x0 >>= fun t13 =>
    (idx (Option.getD t13.constructors []) t12.1.1) >>= fun t14 =>
    (uc0 n (.start (v1_1 == (0 : Int)) (3 : Int))) >>= fun t15 =>
    (uc0 n (.start ((List.length v1_2 : Int) == (List.length (Option.getD t14.parts []) : Int)) (10 : Int))) >>= fun t16 =>
    (ud9 n (.start ([t15.1.1, t16.1.1] : List Int))) >>= fun t17 =>
    if (t17.1.1 != (0 : Int)) = true then
     some ((t17.1.1, ()), ())
    else
     (uV9 n (.start v1_2 t14.name t14.fields t14.parts)) >>= fun t18 =>
     some ((t18.1.2.1, ()), ())
end
theorem vR0 : ∀ (n : Nat), (∀ p : vm7, OLe (vD4 n p) (u25 p)) ∧ (∀ p : u54, OLe (uV9 n p) (run_z54 p)) ∧ (∀ p : u78, OLe (runF_z53 n p) (run_z53 p)) := by
  intro n
  induction n with
  | zero => exact ⟨(fun p r h => by cases h), (fun p r h => by cases h), (fun p r h => by cases h)⟩
  | succ n ih =>
    refine ⟨?_, ?_, ?_⟩
    · intro p
      cases p <;> rw [u25, vD4] <;> repeat' with_reducible first | refine OLe.bind ?_ (fun _ => ?_) | refine OLe.ite ?_ ?_ | exact ue4 n _ | exact uf7 n _ | exact ue9 n _ | exact uf0 n _ | exact uC9 n _ | exact ih.1 _ | exact ih.2.1 _ | exact ih.2.2 _ | exact OLe.refl _
    · intro p
      cases p <;> rw [run_z54, uV9] <;> repeat' with_reducible first | refine OLe.bind ?_ (fun _ => ?_) | refine OLe.ite ?_ ?_ | exact ue4 n _ | exact uf7 n _ | exact ue9 n _ | exact uf0 n _ | exact uC9 n _ | exact ih.1 _ | exact ih.2.1 _ | exact ih.2.2 _ | exact OLe.refl _
    · intro p
      cases p <;> rw [run_z53, runF_z53] <;> repeat' with_reducible first | refine OLe.bind ?_ (fun _ => ?_) | refine OLe.ite ?_ ?_ | exact ue4 n _ | exact uf7 n _ | exact ue9 n _ | exact uf0 n _ | exact uC9 n _ | exact ih.1 _ | exact ih.2.1 _ | exact ih.2.2 _ | exact OLe.refl _
theorem v64 (n : Nat) : ∀ (p : u78), OLe (runF_z53 n p) (run_z53 p) := (vR0 n).2.2
def uW0 : Nat → wF1 → Option xV7
 | 0, _ => none
 | n + 1, .start l0 t1_0 t1_1 t1_2 t1_3 v2_0 v2_1 v2_2 =>
  (uL4 n (.start l0 t1_0 t1_1 t1_2 t1_3)) >>= fun t1 =>
  if (t1.1.2.2.1 == (0 : Int)) = true then
   (u69 n (.start v2_0 v2_1 v2_2)) >>= fun t2 =>
   uW0 n (.p15 t1.1.1 t2.1.1 v2_0 v2_1 v2_2)
  else
   uW0 n (.p15 t1.1.1 t1.1.2.2.1 v2_0 v2_1 v2_2)
 | n + 1, .p15 x8 e10 C0 C1 C2 =>
  if (e10 == (0 : Int)) = true then
   (runF_z53 n (.start x8 C0 C1 C2)) >>= fun t1 =>
   some ((x8, (t1.1.1, ())), ())
  else
   some ((x8, (e10, ())), ())
theorem v65 : ∀ (n : Nat) (p : wF1), OLe (uW0 n p) (uq0 p) := by
 intro n
 induction n with
 | zero => exact fun p r h => by cases h
 | succ n ih =>
  intro p
  cases p <;> rw [uq0, uW0] <;> repeat' with_reducible first | refine OLe.bind ?_ (fun _ => ?_) | refine OLe.ite ?_ ?_ | exact uC7 n _ | exact vi5 n _ | exact v64 n _ | exact ih _ | exact OLe.refl _
def uL5 : Nat → vm8 → Option vH1
 | 0, _ => none
 | n + 1, .start x0 v1_0 v1_1 v1_2 =>
  (uw8 n (.start x0)) >>= fun t1 =>
  if t1.1.1 = true then
   some ((v1_1, ()), ())
  else
   (u70 n (.start x0 v1_0)) >>= fun t2 =>
   x0 >>= fun t3 =>
   (idx (Option.getD t3.constructors []) t2.1.1) >>= fun t4 =>
   uL5 n (.p500 x0 t2.1.1 (0 : Int) t4.parts (List.length (Option.getD t4.parts []) : Int) (0 : Int) v1_0 v1_1 v1_2)
 | n + 1, .p500 x0 tag5 fields6 s24 s25 s26 C0 C1 C2 =>
  if (decide (s26 < s25)) = true then
   (idx (Option.getD s24 []) s26) >>= fun t1 =>
   (runF_z41 n (.start t1)) >>= fun t2 =>
   if (decide ((0 : Int) ≤ t2.1.1)) = true then
    (idx C2 s26) >>= fun t3 =>
    (uL5 n (.start t1 t3.Name t3.Number t3.Parts)) >>= fun t4 =>
    uL5 n (.p500 x0 tag5 (bits .or .i64 (shl .i64 fields6 t2.1.1) t4.1.1) s24 s25 (IntKind.wrap .i64 (s26 + (1 : Int))) C0 C1 C2)
   else none
  else
   (us7 n (.start x0)) >>= fun t5 =>
   if (decide ((0 : Int) ≤ t5.1.1)) = true then
    some ((bits .or .i64 (shl .i64 tag5 t5.1.1) fields6, ()), ())
   else none
theorem v66 : ∀ (n : Nat) (p : vm8), OLe (uL5 n p) (uk1 p) := by
 intro n
 induction n with
 | zero => exact fun p r h => by cases h
 | succ n ih =>
  intro p
  cases p <;> rw [uk1, uL5] <;> repeat' with_reducible first | refine OLe.bind ?_ (fun _ => ?_) | refine OLe.ite ?_ ?_ | exact uf0 n _ | exact vi4 n _ | exact uu7 n _ | exact uC9 n _ | exact ih _ | exact OLe.refl _
def vD5 : Nat → wF2 → Option xV8
 | 0, _ => none
 | n + 1, .start l0 t1_0 t1_1 t1_2 t1_3 v2_0 v2_1 v2_2 =>
  (uW0 n (.start l0 t1_0 t1_1 t1_2 t1_3 v2_0 v2_1 v2_2)) >>= fun t1 =>
  if (t1.1.2.1 != (0 : Int)) = true then
   some (((0 : Int), (t1.1.2.1, ())), ())
  else
   (uL5 n (.start t1.1.1 v2_0 v2_1 v2_2)) >>= fun t2 =>
   some ((t2.1.1, ((0 : Int), ())), ())
theorem v67 : ∀ (n : Nat) (p : wF2), OLe (vD5 n p) (uH9 p) := by
 intro n
 induction n with
 | zero => exact fun p r h => by cases h
 | succ n ih =>
  intro p
  cases p <;> rw [uH9, vD5] <;> repeat' with_reducible first | refine OLe.bind ?_ (fun _ => ?_) | refine OLe.ite ?_ ?_ | exact v65 n _ | exact v66 n _ | exact ih _ | exact OLe.refl _
def uL6 : Nat → vm9 → Option vH2
 | 0, _ => none
 | n + 1, .start x0 n1 =>
  (uw8 n (.start x0)) >>= fun t1 =>
  if t1.1.1 = true then
   some ((((⟨#[]⟩ : ByteArray), (n1, ([], ()))), (true, ())), ())
  else
   (us7 n (.start x0)) >>= fun t2 =>
   if (decide ((0 : Int) ≤ t2.1.1)) = true then
    (us7 n (.start x0)) >>= fun t3 =>
    if (decide ((0 : Int) ≤ t3.1.1)) = true then
     x0 >>= fun t4 =>
     if (decide ((shr .i64 n1 t2.1.1) ≥ (List.length (Option.getD t4.constructors []) : Int))) = true then
      some ((((⟨#[]⟩ : ByteArray), ((0 : Int), ([], ()))), (false, ())), ())
     else
      x0 >>= fun t5 =>
      (idx (Option.getD t5.constructors []) (shr .i64 n1 t2.1.1)) >>= fun t6 =>
      (uC6 n (.start t6.name t6.fields t6.parts)) >>= fun t7 =>
      if (decide ((0 : Int) ≤ t7.1.1)) = true then
       if ((shr .i64 (bits .and .i64 n1 (IntKind.wrap .i64 ((shl .i64 (1 : Int) t3.1.1) - (1 : Int)))) t7.1.1) != (0 : Int)) = true then
        some ((((⟨#[]⟩ : ByteArray), ((0 : Int), ([], ()))), (false, ())), ())
       else
        uL6 n (.p8180 (bits .and .i64 n1 (IntKind.wrap .i64 ((shl .i64 (1 : Int) t3.1.1) - (1 : Int)))) t7.1.1 t6.parts (List.length (Option.getD t6.parts []) : Int) (0 : Int) t6.name (0 : Int) ([] : List ua5))
      else none
    else none
   else none
 | n + 1, .p8180 fields7 low9 s54 s55 s56 C0 C1 B1 =>
  if (decide (s56 < s55)) = true then
   (idx (Option.getD s54 []) s56) >>= fun t1 =>
   (runF_z41 n (.start t1)) >>= fun t2 =>
   if (decide ((0 : Int) ≤ (IntKind.wrap .i64 (low9 - t2.1.1)))) = true then
    (runF_z41 n (.start t1)) >>= fun t3 =>
    if (decide ((0 : Int) ≤ t3.1.1)) = true then
     (uL6 n (.start t1 (bits .and .i64 (shr .i64 fields7 (IntKind.wrap .i64 (low9 - t2.1.1))) (IntKind.wrap .i64 ((shl .i64 (1 : Int) t3.1.1) - (1 : Int)))))) >>= fun t4 =>
     if (!t4.1.2.1) = true then
      some (((C0, (C1, (B1, ()))), (false, ())), ())
     else
      if (fits (List.length B1) (List.length ([(⟨t4.1.1.1, t4.1.1.2.1, t4.1.1.2.2.1⟩ : ua5)] : List ua5)) 48) = true then
       uL6 n (.p8180 fields7 (IntKind.wrap .i64 (low9 - t2.1.1)) s54 s55 (IntKind.wrap .i64 (s56 + (1 : Int))) C0 C1 (B1 ++ ([(⟨t4.1.1.1, t4.1.1.2.1, t4.1.1.2.2.1⟩ : ua5)] : List ua5)))
      else none
    else none
   else none
  else
   some (((C0, (C1, (B1, ()))), (true, ())), ())
theorem v68 : ∀ (n : Nat) (p : vm9), OLe (uL6 n p) (uk2 p) := by
 intro n
 induction n with
 | zero => exact fun p r h => by cases h
 | succ n ih =>
  intro p
  cases p <;> rw [uk2, uL6] <;> repeat' with_reducible first | refine OLe.bind ?_ (fun _ => ?_) | refine OLe.ite ?_ ?_ | exact uf0 n _ | exact v57 n _ | exact vi4 n _ | exact uu7 n _ | exact ih _ | exact OLe.refl _
def vD6 : Nat → wF3 → Option xV9
 | 0, _ => none
 | n + 1, .start l0 t1_0 t1_1 t1_2 t1_3 bits2 =>
  (uL4 n (.start l0 t1_0 t1_1 t1_2 t1_3)) >>= fun t1 =>
  (ud9 n (.start ([t1.1.2.2.1] : List Int))) >>= fun t2 =>
  if (t2.1.1 != (0 : Int)) = true then
   some ((((⟨#[]⟩ : ByteArray), ((0 : Int), ([], ()))), (t2.1.1, ())), ())
  else
   (runF_z41 n (.start t1.1.1)) >>= fun t3 =>
   if (decide ((0 : Int) ≤ t3.1.1)) = true then
    (uh6 n (.start bits2 (0 : Int) (IntKind.wrap .i64 ((shl .i64 (1 : Int) t3.1.1) - (1 : Int))))) >>= fun t4 =>
    if (!t4.1.1) = true then
     some ((((⟨#[]⟩ : ByteArray), ((0 : Int), ([], ()))), ((2 : Int), ())), ())
    else
     (uL6 n (.start t1.1.1 bits2)) >>= fun t5 =>
     if (!t5.1.2.1) = true then
      some ((((⟨#[]⟩ : ByteArray), ((0 : Int), ([], ()))), ((3 : Int), ())), ())
     else
      some (((t5.1.1.1, (t5.1.1.2.1, (t5.1.1.2.2.1, ()))), ((0 : Int), ())), ())
   else none
theorem v69 : ∀ (n : Nat) (p : wF3), OLe (vD6 n p) (uI0 p) := by
 intro n
 induction n with
 | zero => exact fun p r h => by cases h
 | succ n ih =>
  intro p
  cases p <;> rw [uI0, vD6] <;> repeat' with_reducible first | refine OLe.bind ?_ (fun _ => ?_) | refine OLe.ite ?_ ?_ | exact ue4 n _ | exact ue9 n _ | exact uu7 n _ | exact uC7 n _ | exact v68 n _ | exact ih _ | exact OLe.refl _
mutual
def uD0 : Nat → uY0 → Option vn9
 | 0, _ => none
 | n + 1, .start v0_0 v0_1 v0_2 =>
  uD0 n (.p116 (1 : Int) v0_2 (List.length (Option.getD v0_2 []) : Int) (0 : Int))
 | n + 1, .p116 n3 s7 s8 s9 =>
  if (decide (s9 < s8)) = true then
   (idx (Option.getD s7 []) s9) >>= fun t1 =>
   (runF_z61 n (.start t1)) >>= fun t2 =>
   uD0 n (.p116 (IntKind.wrap .i64 (n3 * t2.1.1)) s7 s8 (IntKind.wrap .i64 (s9 + (1 : Int))))
  else
   some ((n3, ()), ())
def runF_z61 : Nat → uY1 → Option vo0
 | 0, _ => none
 | n + 1, .start x0 =>
  (uw8 n (.start x0)) >>= fun t1 =>
  if t1.1.1 = true then
   x0 >>= fun t2 =>
   if (decide ((0 : Int) ≤ t2.bits)) = true then
    some ((shl .i64 (1 : Int) t2.bits, ()), ())
   else none
  else
   x0 >>= fun t3 =>
   runF_z61 n (.p244 (0 : Int) t3.constructors (List.length (Option.getD t3.constructors []) : Int) (0 : Int))
 | n + 1, .p244 sum3 s16 s17 s18 =>
  if (decide (s18 < s17)) = true then
   (idx (Option.getD s16 []) s18) >>= fun t1 =>
   (uD0 n (.start t1.name t1.fields t1.parts)) >>= fun t2 =>
   runF_z61 n (.p244 (IntKind.wrap .i64 (sum3 + t2.1.1)) s16 s17 (IntKind.wrap .i64 (s18 + (1 : Int))))
  else
   some ((sum3, ()), ())
end
theorem u44 : ∀ (n : Nat), (∀ p : uY0, OLe (uD0 n p) (uj2 p)) ∧ (∀ p : uY1, OLe (runF_z61 n p) (run_z61 p)) := by
  intro n
  induction n with
  | zero => exact ⟨(fun p r h => by cases h), (fun p r h => by cases h)⟩
  | succ n ih =>
    refine ⟨?_, ?_⟩
    · intro p
      cases p <;> rw [uj2, uD0] <;> repeat' with_reducible first | refine OLe.bind ?_ (fun _ => ?_) | refine OLe.ite ?_ ?_ | exact uf0 n _ | exact ih.1 _ | exact ih.2 _ | exact OLe.refl _
    · intro p
      cases p <;> rw [run_z61, runF_z61] <;> repeat' with_reducible first | refine OLe.bind ?_ (fun _ => ?_) | refine OLe.ite ?_ ?_ | exact uf0 n _ | exact ih.1 _ | exact ih.2 _ | exact OLe.refl _
theorem v71 (n : Nat) : ∀ (p : uY0), OLe (uD0 n p) (uj2 p) := (u44 n).1
theorem vi6 (n : Nat) : ∀ (p : uY1), OLe (runF_z61 n p) (run_z61 p) := (u44 n).2
def uw9 : Nat → vn0 → Option vH3
 | 0, _ => none
 | n + 1, .start x0 index1 =>
  (uw8 n (.start x0)) >>= fun t1 =>
  if t1.1.1 = true then
   some ((((⟨#[]⟩ : ByteArray), (index1, ([], ()))), ()), ())
  else
   x0 >>= fun t2 =>
   uw9 n (.p116 index1 t2.constructors (List.length (Option.getD t2.constructors []) : Int) (0 : Int) (⟨#[]⟩ : ByteArray) (0 : Int))
 | n + 1, .p116 index1 s18 s19 s20 C0 C1 =>
  if (decide (s20 < s19)) = true then
   (idx (Option.getD s18 []) s20) >>= fun t1 =>
   (uD0 n (.start t1.name t1.fields t1.parts)) >>= fun t2 =>
   if (decide (index1 ≥ t2.1.1)) = true then
    uw9 n (.p116 (IntKind.wrap .i64 (index1 - t2.1.1)) s18 s19 (IntKind.wrap .i64 (s20 + (1 : Int))) C0 C1)
   else
    uw9 n (.p478452 index1 t2.1.1 t1.parts (List.length (Option.getD t1.parts []) : Int) (0 : Int) C0 C1 t1.name (0 : Int) ([] : List ua5))
  else
   some ((((⟨#[]⟩ : ByteArray), ((0 : Int), ([], ()))), ()), ())
 | n + 1, .p478452 index1 n7 s36 s37 s38 C0 C1 D0 D1 B2 =>
  if (decide (s38 < s37)) = true then
   (idx (Option.getD s36 []) s38) >>= fun t1 =>
   (runF_z61 n (.start t1)) >>= fun t2 =>
   if (!(t2.1.1 == (0 : Int))) = true then
    if (!((IntKind.wrap .i64 (Int.tdiv n7 t2.1.1)) == (0 : Int))) = true then
     (uw9 n (.start t1 (IntKind.wrap .i64 (Int.tdiv index1 (IntKind.wrap .i64 (Int.tdiv n7 t2.1.1)))))) >>= fun t3 =>
     if (fits (List.length B2) (List.length ([(⟨t3.1.1.1, t3.1.1.2.1, t3.1.1.2.2.1⟩ : ua5)] : List ua5)) 48) = true then
      if (!((IntKind.wrap .i64 (Int.tdiv n7 t2.1.1)) == (0 : Int))) = true then
       uw9 n (.p478452 (Int.tmod index1 (IntKind.wrap .i64 (Int.tdiv n7 t2.1.1))) (IntKind.wrap .i64 (Int.tdiv n7 t2.1.1)) s36 s37 (IntKind.wrap .i64 (s38 + (1 : Int))) C0 C1 D0 D1 (B2 ++ ([(⟨t3.1.1.1, t3.1.1.2.1, t3.1.1.2.2.1⟩ : ua5)] : List ua5)))
      else none
     else none
    else none
   else none
  else
   some (((D0, (D1, (B2, ()))), ()), ())
theorem v73 : ∀ (n : Nat) (p : vn0), OLe (uw9 n p) (uv0 p) := by
 intro n
 induction n with
 | zero => exact fun p r h => by cases h
 | succ n ih =>
  intro p
  cases p <;> rw [uv0, uw9] <;> repeat' with_reducible first | refine OLe.bind ?_ (fun _ => ?_) | refine OLe.ite ?_ ?_ | exact uf0 n _ | exact v71 n _ | exact vi6 n _ | exact ih _ | exact OLe.refl _
def vD7 : Nat → wF4 → Option xW0
 | 0, _ => none
 | n + 1, .start l0 t1_0 t1_1 t1_2 t1_3 index2 =>
  (uL4 n (.start l0 t1_0 t1_1 t1_2 t1_3)) >>= fun t1 =>
  if (t1.1.2.2.1 != (0 : Int)) = true then
   some ((((⟨#[]⟩ : ByteArray), ((0 : Int), ([], ()))), (t1.1.2.2.1, ())), ())
  else
   (runF_z61 n (.start t1.1.1)) >>= fun t2 =>
   (uh6 n (.start index2 (0 : Int) (IntKind.wrap .i64 (t2.1.1 - (1 : Int))))) >>= fun t3 =>
   if (!t3.1.1) = true then
    some ((((⟨#[]⟩ : ByteArray), ((0 : Int), ([], ()))), ((6 : Int), ())), ())
   else
    (uw9 n (.start t1.1.1 index2)) >>= fun t4 =>
    some (((t4.1.1.1, (t4.1.1.2.1, (t4.1.1.2.2.1, ()))), ((0 : Int), ())), ())
theorem v74 : ∀ (n : Nat) (p : wF4), OLe (vD7 n p) (vi8 p) := by
 intro n
 induction n with
 | zero => exact fun p r h => by cases h
 | succ n ih =>
  intro p
  cases p <;> rw [vi8, vD7] <;> repeat' with_reducible first | refine OLe.bind ?_ (fun _ => ?_) | refine OLe.ite ?_ ?_ | exact ue4 n _ | exact uC7 n _ | exact vi6 n _ | exact v73 n _ | exact ih _ | exact OLe.refl _
mutual
def vD8 : Nat → vn1 → Option vV6
 | 0, _ => none
 | n + 1, .start s0 x1_0 x1_1 x1_2 =>
  (runF_z65 n (.start x1_0 x1_1 x1_2)) >>= fun t1 =>
  some ((t1.1.1, ()), ())
def uW1 : Nat → u55 → Option vw0
 | 0, _ => none
 | n + 1, .start l0 =>
  uW1 n (.p52 l0 (List.length l0 : Int) (0 : Int))
 | n + 1, .p52 s9 s10 s11 =>
  if (decide (s11 < s10)) = true then
   (idx s9 s11) >>= fun t1 =>
   (vD8 n (.start s11 t1.Name t1.Number t1.Parts)) >>= fun t2 =>
   if (t2.1.1 != (0 : Int)) = true then
    some ((s11, (t2.1.1, ())), ())
   else
    uW1 n (.p52 s9 s10 (IntKind.wrap .i64 (s11 + (1 : Int))))
  else
   some (((0 : Int), ((0 : Int), ())), ())
def runF_z65 : Nat → uY2 → Option vo1
 | 0, _ => none
 | n + 1, .start v0_0 v0_1 v0_2 =>
  if (!(seq v0_0 (⟨#[]⟩ : ByteArray))) = true then
   (uc0 n (.start true (3 : Int))) >>= fun t1 =>
   if (seq v0_0 (⟨#[]⟩ : ByteArray)) = true then
    (uc0 n (.start true (3 : Int))) >>= fun t2 =>
    if (seq v0_0 (⟨#[]⟩ : ByteArray)) = true then
     (uc0 n (.start true (4 : Int))) >>= fun t3 =>
     (uh6 n (.start v0_1 (0 : Int) (99999 : Int))) >>= fun t4 =>
     (uc0 n (.start t4.1.1 (2 : Int))) >>= fun t5 =>
     (ud9 n (.start ([t1.1.1, t2.1.1, t3.1.1, t5.1.1] : List Int))) >>= fun t6 =>
     runF_z65 n (.p15 t6.1.1 v0_0 v0_1 v0_2)
    else
     (uk0 n (.start v0_0)) >>= fun t7 =>
     (uc0 n (.start t7.1.1 (4 : Int))) >>= fun t8 =>
     (uh6 n (.start v0_1 (0 : Int) (99999 : Int))) >>= fun t9 =>
     (uc0 n (.start t9.1.1 (2 : Int))) >>= fun t10 =>
     (ud9 n (.start ([t1.1.1, t2.1.1, t8.1.1, t10.1.1] : List Int))) >>= fun t11 =>
     runF_z65 n (.p15 t11.1.1 v0_0 v0_1 v0_2)
   else
    (uc0 n (.start (v0_1 == (0 : Int)) (3 : Int))) >>= fun t12 =>
    if (seq v0_0 (⟨#[]⟩ : ByteArray)) = true then
     (uc0 n (.start true (4 : Int))) >>= fun t13 =>
     (uh6 n (.start v0_1 (0 : Int) (99999 : Int))) >>= fun t14 =>
     (uc0 n (.start t14.1.1 (2 : Int))) >>= fun t15 =>
     (ud9 n (.start ([t1.1.1, t12.1.1, t13.1.1, t15.1.1] : List Int))) >>= fun t16 =>
     runF_z65 n (.p15 t16.1.1 v0_0 v0_1 v0_2)
    else
     (uk0 n (.start v0_0)) >>= fun t17 =>
     (uc0 n (.start t17.1.1 (4 : Int))) >>= fun t18 =>
     (uh6 n (.start v0_1 (0 : Int) (99999 : Int))) >>= fun t19 =>
     (uc0 n (.start t19.1.1 (2 : Int))) >>= fun t20 =>
     (ud9 n (.start ([t1.1.1, t12.1.1, t18.1.1, t20.1.1] : List Int))) >>= fun t21 =>
     runF_z65 n (.p15 t21.1.1 v0_0 v0_1 v0_2)
  else
   (uc0 n (.start ((List.length v0_2 : Int) == (0 : Int)) (3 : Int))) >>= fun t22 =>
   if (seq v0_0 (⟨#[]⟩ : ByteArray)) = true then
    (uc0 n (.start true (3 : Int))) >>= fun t23 =>
    if (seq v0_0 (⟨#[]⟩ : ByteArray)) = true then
     (uc0 n (.start true (4 : Int))) >>= fun t24 =>
     (uh6 n (.start v0_1 (0 : Int) (99999 : Int))) >>= fun t25 =>
     (uc0 n (.start t25.1.1 (2 : Int))) >>= fun t26 =>
     (ud9 n (.start ([t22.1.1, t23.1.1, t24.1.1, t26.1.1] : List Int))) >>= fun t27 =>
     runF_z65 n (.p15 t27.1.1 v0_0 v0_1 v0_2)
    else
     (uk0 n (.start v0_0)) >>= fun t28 =>
     (uc0 n (.start t28.1.1 (4 : Int))) >>= fun t29 =>
     (uh6 n (.start v0_1 (0 : Int) (99999 : Int))) >>= fun t30 =>
     (uc0 n (.start t30.1.1 (2 : Int))) >>= fun t31 =>
     (ud9 n (.start ([t22.1.1, t23.1.1, t29.1.1, t31.1.1] : List Int))) >>= fun t32 =>
     runF_z65 n (.p15 t32.1.1 v0_0 v0_1 v0_2)
   else
    (uc0 n (.start (v0_1 == (0 : Int)) (3 : Int))) >>= fun t33 =>
    if (seq v0_0 (⟨#[]⟩ : ByteArray)) = true then
     (uc0 n (.start true (4 : Int))) >>= fun t34 =>
     (uh6 n (.start v0_1 (0 : Int) (99999 : Int))) >>= fun t35 =>
     (uc0 n (.start t35.1.1 (2 : Int))) >>= fun t36 =>
     (ud9 n (.start ([t22.1.1, t33.1.1, t34.1.1, t36.1.1] : List Int))) >>= fun t37 =>
     runF_z65 n (.p15 t37.1.1 v0_0 v0_1 v0_2)
    else
     (uk0 n (.start v0_0)) >>= fun t38 =>
     (uc0 n (.start t38.1.1 (4 : Int))) >>= fun t39 =>
     (uh6 n (.start v0_1 (0 : Int) (99999 : Int))) >>= fun t40 =>
     (uc0 n (.start t40.1.1 (2 : Int))) >>= fun t41 =>
     (ud9 n (.start ([t22.1.1, t33.1.1, t39.1.1, t41.1.1] : List Int))) >>= fun t42 =>
     runF_z65 n (.p15 t42.1.1 v0_0 v0_1 v0_2)
 | n + 1, .p15 e4 C0 C1 C2 =>
  if (e4 != (0 : Int)) = true then
   some ((e4, ()), ())
  else
   (uW1 n (.start C2)) >>= fun t1 =>
   some ((t1.1.2.1, ()), ())
end
theorem vR1 : ∀ (n : Nat), (∀ p : vn1, OLe (vD8 n p) (vi9 p)) ∧ (∀ p : u55, OLe (uW1 n p) (run_z66 p)) ∧ (∀ p : uY2, OLe (runF_z65 n p) (run_z65 p)) := by
  intro n
  induction n with
  | zero => exact ⟨(fun p r h => by cases h), (fun p r h => by cases h), (fun p r h => by cases h)⟩
  | succ n ih =>
    refine ⟨?_, ?_, ?_⟩
    · intro p
      cases p <;> rw [vi9, vD8] <;> repeat' with_reducible first | refine OLe.bind ?_ (fun _ => ?_) | refine OLe.ite ?_ ?_ | exact ue4 n _ | exact uL8 n _ | exact uf7 n _ | exact ue9 n _ | exact ih.1 _ | exact ih.2.1 _ | exact ih.2.2 _ | exact OLe.refl _
    · intro p
      cases p <;> rw [run_z66, uW1] <;> repeat' with_reducible first | refine OLe.bind ?_ (fun _ => ?_) | refine OLe.ite ?_ ?_ | exact ue4 n _ | exact uL8 n _ | exact uf7 n _ | exact ue9 n _ | exact ih.1 _ | exact ih.2.1 _ | exact ih.2.2 _ | exact OLe.refl _
    · intro p
      cases p <;> rw [run_z65, runF_z65] <;> repeat' with_reducible first | refine OLe.bind ?_ (fun _ => ?_) | refine OLe.ite ?_ ?_ | exact ue4 n _ | exact uL8 n _ | exact uf7 n _ | exact ue9 n _ | exact ih.1 _ | exact ih.2.1 _ | exact ih.2.2 _ | exact OLe.refl _
theorem v77 (n : Nat) : ∀ (p : uY2), OLe (runF_z65 n p) (run_z65 p) := (vR1 n).2.2
def uL7 : Nat → vn2 → Option vH4
 | 0, _ => none
 | n + 1, .start v0_0 v0_1 v0_2 =>
  if (seq v0_0 (⟨#[]⟩ : ByteArray)) = true then
   (v04 (v0_1, ()) ()) >>= fun t1 =>
   some ((t1.1.1, ()), ())
  else
   if ((List.length v0_2 : Int) == (0 : Int)) = true then
    some ((v0_0, ()), ())
   else
    uL7 n (.p500 v0_2 (List.length v0_2 : Int) (0 : Int) v0_0 v0_1 v0_2 ([] : List ByteArray))
 | n + 1, .p500 s19 s20 s21 C0 C1 C2 B1 =>
  if (decide (s21 < s20)) = true then
   (idx s19 s21) >>= fun t1 =>
   (uL7 n (.start t1.Name t1.Number t1.Parts)) >>= fun t2 =>
   if (fits (List.length B1) (List.length ([t2.1.1] : List ByteArray)) 16) = true then
    uL7 n (.p500 s19 s20 (IntKind.wrap .i64 (s21 + (1 : Int))) C0 C1 C2 (B1 ++ ([t2.1.1] : List ByteArray)))
   else none
  else
   if (Nat.ble (C0.size + (⟨#[40]⟩ : ByteArray).size) 9223372036854775807) = true then
    (uO0 (B1, (⟨#[44, 32]⟩ : ByteArray), ()) ()) >>= fun t3 =>
    if (Nat.ble ((C0 ++ (⟨#[40]⟩ : ByteArray)).size + t3.1.1.size) 9223372036854775807) = true then
     if (Nat.ble (((C0 ++ (⟨#[40]⟩ : ByteArray)) ++ t3.1.1).size + (⟨#[41]⟩ : ByteArray).size) 9223372036854775807) = true then
      some ((((C0 ++ (⟨#[40]⟩ : ByteArray)) ++ t3.1.1) ++ (⟨#[41]⟩ : ByteArray), ()), ())
     else none
    else none
   else none
theorem v78 : ∀ (n : Nat) (p : vn2), OLe (uL7 n p) (uD2 p) := by
 intro n
 induction n with
 | zero => exact fun p r h => by cases h
 | succ n ih =>
  intro p
  cases p <;> rw [uD2, uL7] <;> repeat' with_reducible first | refine OLe.bind ?_ (fun _ => ?_) | refine OLe.ite ?_ ?_ | exact ih _ | exact OLe.refl _
def vD9 : Nat → wF5 → Option xW1
 | 0, _ => none
 | n + 1, .start v0_0 v0_1 v0_2 =>
  (u69 n (.start v0_0 v0_1 v0_2)) >>= fun t1 =>
  if (t1.1.1 != (0 : Int)) = true then
   some (((⟨#[]⟩ : ByteArray), (t1.1.1, ())), ())
  else
   (runF_z65 n (.start v0_0 v0_1 v0_2)) >>= fun t2 =>
   if (t2.1.1 != (0 : Int)) = true then
    some (((⟨#[]⟩ : ByteArray), (t2.1.1, ())), ())
   else
    (uL7 n (.start v0_0 v0_1 v0_2)) >>= fun t3 =>
    some ((t3.1.1, ((0 : Int), ())), ())
theorem v79 : ∀ (n : Nat) (p : wF5), OLe (vD9 n p) (vj0 p) := by
 intro n
 induction n with
 | zero => exact fun p r h => by cases h
 | succ n ih =>
  intro p
  cases p <;> rw [vj0, vD9] <;> repeat' with_reducible first | refine OLe.bind ?_ (fun _ => ?_) | refine OLe.ite ?_ ?_ | exact vi5 n _ | exact v77 n _ | exact v78 n _ | exact ih _ | exact OLe.refl _
def uD1 : Nat → vn3 → Option vH5
 | 0, _ => none
 | n + 1, .start a0_0 a0_1 a0_2 b1_0 b1_1 b1_2 =>
  if (!(seq a0_0 b1_0)) = true then
   some ((false, ()), ())
  else
   if (a0_1 != b1_1) = true then
    some ((false, ()), ())
   else
    if ((List.length a0_2 : Int) != (List.length b1_2 : Int)) = true then
     some ((false, ()), ())
    else
     uD1 n (.p7 a0_0 a0_1 a0_2 b1_0 b1_1 b1_2)
 | n + 1, .p7 C0 C1 C2 D0 D1 D2 =>
  uD1 n (.p116 (0 : Int) C0 C1 C2 D0 D1 D2)
 | n + 1, .p116 i5 C0 C1 C2 D0 D1 D2 =>
  if (decide (i5 < (List.length C2 : Int))) = true then
   (idx C2 i5) >>= fun t1 =>
   (idx D2 i5) >>= fun t2 =>
   (uD1 n (.start t1.Name t1.Number t1.Parts t2.Name t2.Number t2.Parts)) >>= fun t3 =>
   if (!t3.1.1) = true then
    some ((false, ()), ())
   else
    uD1 n (.p116 (IntKind.wrap .i64 (i5 + (1 : Int))) C0 C1 C2 D0 D1 D2)
  else
   some ((true, ()), ())
theorem v80 : ∀ (n : Nat) (p : vn3), OLe (uD1 n p) (ux5 p) := by
 intro n
 induction n with
 | zero => exact fun p r h => by cases h
 | succ n ih =>
  intro p
  cases p <;> rw [ux5, uD1] <;> repeat' with_reducible first | refine OLe.bind ?_ (fun _ => ?_) | refine OLe.ite ?_ ?_ | exact ih _ | exact OLe.refl _
def wr0 : Nat → wF6 → Option xW2
 | 0, _ => none
 | n + 1, .start =>
  (u14 n .start) >>= fun t1 =>
  (vi3 n (.start (3 : Int))) >>= fun t2 =>
  (ux3 n (.start (⟨#[77, 97, 121, 98, 101]⟩ : ByteArray) ([(⟨t2.1.1.1, t2.1.1.2.1, t2.1.1.2.2.1, t2.1.1.2.2.2.1⟩ : ua0)] : List ua0))) >>= fun t3 =>
  (vD1 n (.start t1.1.1 t3.1.1.1 t3.1.1.2.1 t3.1.1.2.2.1 t3.1.1.2.2.2.1)) >>= fun t4 =>
  (u14 n .start) >>= fun t5 =>
  (vi3 n (.start (2 : Int))) >>= fun t6 =>
  (ux3 n (.start (⟨#[67, 111, 108, 111, 114]⟩ : ByteArray) ([]))) >>= fun t7 =>
  (ux3 n (.start (⟨#[80, 97, 105, 114]⟩ : ByteArray) ([(⟨t6.1.1.1, t6.1.1.2.1, t6.1.1.2.2.1, t6.1.1.2.2.2.1⟩ : ua0), (⟨t7.1.1.1, t7.1.1.2.1, t7.1.1.2.2.1, t7.1.1.2.2.2.1⟩ : ua0)] : List ua0))) >>= fun t8 =>
  (us8 n (.start (⟨#[66, 108, 117, 101]⟩ : ByteArray) ([]))) >>= fun t9 =>
  (us8 n (.start (⟨#[80, 97, 105, 114]⟩ : ByteArray) ([(⟨(⟨#[]⟩ : ByteArray), (3 : Int), []⟩ : ua5), (⟨t9.1.1.1, t9.1.1.2.1, t9.1.1.2.2.1⟩ : ua5)] : List ua5))) >>= fun t10 =>
  (vD5 n (.start t5.1.1 t8.1.1.1 t8.1.1.2.1 t8.1.1.2.2.1 t8.1.1.2.2.2.1 t10.1.1.1 t10.1.1.2.1 t10.1.1.2.2.1)) >>= fun t11 =>
  (u14 n .start) >>= fun t12 =>
  (vi3 n (.start (3 : Int))) >>= fun t13 =>
  (ux3 n (.start (⟨#[77, 97, 121, 98, 101]⟩ : ByteArray) ([(⟨t13.1.1.1, t13.1.1.2.1, t13.1.1.2.2.1, t13.1.1.2.2.2.1⟩ : ua0)] : List ua0))) >>= fun t14 =>
  (vD6 n (.start t12.1.1 t14.1.1.1 t14.1.1.2.1 t14.1.1.2.2.1 t14.1.1.2.2.2.1 (5 : Int))) >>= fun t15 =>
  (u14 n .start) >>= fun t16 =>
  (ux3 n (.start (⟨#[67, 111, 108, 111, 114]⟩ : ByteArray) ([]))) >>= fun t17 =>
  (ux3 n (.start (⟨#[66, 111, 111, 108]⟩ : ByteArray) ([]))) >>= fun t18 =>
  (ux3 n (.start (⟨#[80, 97, 105, 114]⟩ : ByteArray) ([(⟨t17.1.1.1, t17.1.1.2.1, t17.1.1.2.2.1, t17.1.1.2.2.2.1⟩ : ua0), (⟨t18.1.1.1, t18.1.1.2.1, t18.1.1.2.2.1, t18.1.1.2.2.2.1⟩ : ua0)] : List ua0))) >>= fun t19 =>
  (vD7 n (.start t16.1.1 t19.1.1.1 t19.1.1.2.1 t19.1.1.2.2.1 t19.1.1.2.2.2.1 (3 : Int))) >>= fun t20 =>
  (us8 n (.start (⟨#[66, 108, 117, 101]⟩ : ByteArray) ([]))) >>= fun t21 =>
  (us8 n (.start (⟨#[80, 97, 105, 114]⟩ : ByteArray) ([(⟨(⟨#[]⟩ : ByteArray), (3 : Int), []⟩ : ua5), (⟨t21.1.1.1, t21.1.1.2.1, t21.1.1.2.2.1⟩ : ua5)] : List ua5))) >>= fun t22 =>
  (vD9 n (.start t22.1.1.1 t22.1.1.2.1 t22.1.1.2.2.1)) >>= fun t23 =>
  if (t4.1.2.1 == (0 : Int)) = true then
   if (t4.1.1 == (4 : Int)) = true then
    if (t11.1.2.1 == (0 : Int)) = true then
     if (t11.1.1 == (14 : Int)) = true then
      if (t15.1.2.1 == (3 : Int)) = true then
       if (t20.1.2.1 == (0 : Int)) = true then
        (us8 n (.start (⟨#[71, 114, 101, 101, 110]⟩ : ByteArray) ([]))) >>= fun t24 =>
        (us8 n (.start (⟨#[84, 114, 117, 101]⟩ : ByteArray) ([]))) >>= fun t25 =>
        (us8 n (.start (⟨#[80, 97, 105, 114]⟩ : ByteArray) ([(⟨t24.1.1.1, t24.1.1.2.1, t24.1.1.2.2.1⟩ : ua5), (⟨t25.1.1.1, t25.1.1.2.1, t25.1.1.2.2.1⟩ : ua5)] : List ua5))) >>= fun t26 =>
        (uD1 n (.start t20.1.1.1 t20.1.1.2.1 t20.1.1.2.2.1 t26.1.1.1 t26.1.1.2.1 t26.1.1.2.2.1)) >>= fun t27 =>
        if t27.1.1 = true then
         if (t23.1.2.1 == (0 : Int)) = true then
          some ((seq t23.1.1 (⟨#[80, 97, 105, 114, 40, 51, 44, 32, 66, 108, 117, 101, 41]⟩ : ByteArray), ()), ())
         else
          some ((false, ()), ())
        else
         some ((false, ()), ())
       else
        some ((false, ()), ())
      else
       some ((false, ()), ())
     else
      some ((false, ()), ())
    else
     some ((false, ()), ())
   else
    some ((false, ()), ())
  else
   some ((false, ()), ())
theorem v81 : ∀ (n : Nat) (p : wF6), OLe (wr0 n p) (u26 p) := by
 intro n
 induction n with
 | zero => exact fun p r h => by cases h
 | succ n ih =>
  intro p
  cases p <;> rw [u26, wr0] <;> repeat' with_reducible first | refine OLe.bind ?_ (fun _ => ?_) | refine OLe.ite ?_ ?_ | exact wQ1 n _ | exact vt8 n _ | exact wQ3 n _ | exact v58 n _ | exact v59 n _ | exact v67 n _ | exact v69 n _ | exact v74 n _ | exact v79 n _ | exact v80 n _ | exact ih _ | exact OLe.refl _
end
end Go.Proofs.YtaennkkcnhfglaaGreatDoor.Ev.F
