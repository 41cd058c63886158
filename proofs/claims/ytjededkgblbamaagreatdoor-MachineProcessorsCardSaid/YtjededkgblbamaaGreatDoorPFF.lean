/- PRINTED by wip/gen/evp.py: what the functions come to. -/
import Derived.Test.YtjededkgblbamaaGreatDoorPF2
import Derived.Test.YtjededkgblbamaaGreatDoorPEvFuel
set_option linter.unusedVariables false
set_option maxRecDepth 100000
namespace Go.Proofs.YtjededkgblbamaaGreatDoor.Ev.F
open Go.Proofs Go.Proofs.YtjededkgblbamaaGreatDoor.Ev

noncomputable def runF_z1 : Nat → P_z1 → Option R_z1
 | 0, _ => none
 | n + 1, .start =>
   runF_z1 n (.p56 ([(4 : Int), (1 : Int), (1 : Int), (16 : Int)] : List Int))
 | n + 1, .p56 B0 =>
   if (decide ((List.length B0 : Int) < (16 : Int))) = true then
     if (fits (List.length B0) (List.length ([(8 : Int)] : List Int)) 8) = true then
       runF_z1 n (.p56 (B0 ++ ([(8 : Int)] : List Int)))
     else none
   else
     some (((), ()), (B0, ()))
theorem runF_z1_le : ∀ (n : Nat) (p : P_z1), OLe (runF_z1 n p) (run_z1 p) := by
  intro n
  induction n with
  | zero => exact fun p r h => by cases h
  | succ n ih =>
    intro p
    cases p <;> (rw [run_z1.eq_def, runF_z1]; dsimp only) <;> repeat' first | with_reducible refine OLe.bind ?_ (fun _ => ?_) | with_reducible refine OLe.ite ?_ ?_ | with_reducible exact ih _ | with_reducible exact OLe.refl _
noncomputable def runF_z11 : Nat → P_z11 → Option R_z11
 | 0, _ => none
 | n + 1, .start n0 =>
   if (decide ((0 : Int) ≤ n0)) = true then
     some ((shl .i64 (1 : Int) n0, ()), ())
   else none
theorem runF_z11_le : ∀ (n : Nat) (p : P_z11), OLe (runF_z11 n p) (run_z11 p) := by
  intro n
  induction n with
  | zero => exact fun p r h => by cases h
  | succ n ih =>
    intro p
    cases p <;> rw [run_z11, runF_z11] <;> repeat' first | with_reducible refine OLe.bind ?_ (fun _ => ?_) | with_reducible refine OLe.ite ?_ ?_ | with_reducible exact ih _ | with_reducible exact OLe.refl _
noncomputable def runF_z12 : Nat → P_z12 → Option R_z12
 | 0, _ => none
 | n + 1, .start n0 lo1 hi2 =>
   if (decide (lo1 ≤ n0)) = true then
     some ((decide (n0 ≤ hi2), ()), ())
   else
     some ((false, ()), ())
theorem runF_z12_le : ∀ (n : Nat) (p : P_z12), OLe (runF_z12 n p) (run_z12 p) := by
  intro n
  induction n with
  | zero => exact fun p r h => by cases h
  | succ n ih =>
    intro p
    cases p <;> rw [run_z12, runF_z12] <;> repeat' first | with_reducible refine OLe.bind ?_ (fun _ => ?_) | with_reducible refine OLe.ite ?_ ?_ | with_reducible exact ih _ | with_reducible exact OLe.refl _
noncomputable def runF_z13 : Nat → P_z13 → Option R_z13
 | 0, _ => none
 | n + 1, .start n0 width1 =>
   (runF_z11 n (.start width1)) >>= fun t1 =>
   (runF_z12 n (.start n0 (0 : Int) (IntKind.wrap .i64 (t1.1.1 - (1 : Int))))) >>= fun t2 =>
   some ((t2.1.1, ()), ())
theorem runF_z13_le : ∀ (n : Nat) (p : P_z13), OLe (runF_z13 n p) (run_z13 p) := by
  intro n
  induction n with
  | zero => exact fun p r h => by cases h
  | succ n ih =>
    intro p
    cases p <;> rw [run_z13, runF_z13] <;> repeat' first | with_reducible refine OLe.bind ?_ (fun _ => ?_) | with_reducible refine OLe.ite ?_ ?_ | with_reducible exact runF_z11_le n _ | with_reducible exact runF_z12_le n _ | with_reducible exact ih _ | with_reducible exact OLe.refl _
noncomputable def runF_z16 : Nat → P_z16 → Option R_z16
 | 0, _ => none
 | n + 1, .start a0 b1 =>
   if ((List.length a0 : Int) != (List.length b1 : Int)) = true then
     some ((false, ()), ())
   else
     runF_z16 n (.p116 a0 b1 (0 : Int))
 | n + 1, .p116 a0 b1 i5 =>
   if (decide (i5 < (List.length a0 : Int))) = true then
     (idx a0 i5) >>= fun t1 =>
     (idx b1 i5) >>= fun t2 =>
     if (t1 != t2) = true then
       some ((false, ()), ())
     else
       runF_z16 n (.p116 a0 b1 (IntKind.wrap .i64 (i5 + (1 : Int))))
   else
     some ((true, ()), ())
theorem runF_z16_le : ∀ (n : Nat) (p : P_z16), OLe (runF_z16 n p) (run_z16 p) := by
  intro n
  induction n with
  | zero => exact fun p r h => by cases h
  | succ n ih =>
    intro p
    cases p <;> rw [run_z16, runF_z16] <;> repeat' first | with_reducible refine OLe.bind ?_ (fun _ => ?_) | with_reducible refine OLe.ite ?_ ?_ | with_reducible exact ih _ | with_reducible exact OLe.refl _
noncomputable def runF_z35 : Nat → P_z35 → Option R_z35
 | 0, _ => none
 | n + 1, .start op1 width2 value3 args4 B0 B1 =>
   runF_z35 n (.p116 op1 width2 value3 args4 (List.length args4 : Int) (0 : Int) B0 (0 : Int) (0 : Int) ([] : List Int) B1)
 | n + 1, .p116 op1 width2 value3 s14 s15 s16 B0 B2_0 B2_1 B3 B4 =>
   if (decide (s16 < s15)) = true then
     (idx s14 s16) >>= fun t1 =>
     if (fits (List.length B3) (List.length ([t1.node] : List Int)) 8) = true then
       runF_z35 n (.p116 op1 width2 value3 s14 s15 (IntKind.wrap .i64 (s16 + (1 : Int))) B0 B2_0 B2_1 (B3 ++ ([t1.node] : List Int)) B4)
     else none
   else
     if (fits (List.length ([] : List api_Node)) (List.length ([(⟨op1, width2, B3, value3⟩ : api_Node)] : List api_Node)) 48) = true then
       some (((IntKind.wrap .i64 ((List.length (([] : List api_Node) ++ ([(⟨op1, width2, B3, value3⟩ : api_Node)] : List api_Node)) : Int) - (1 : Int)), (width2, ())), ()), ((B0, ((), ((), ((), ((), ((), ((), ()))))))), (B4, (([] : List api_Node) ++ ([(⟨op1, width2, B3, value3⟩ : api_Node)] : List api_Node), ()))))
     else none
theorem runF_z35_le : ∀ (n : Nat) (p : P_z35), OLe (runF_z35 n p) (run_z35 p) := by
  intro n
  induction n with
  | zero => exact fun p r h => by cases h
  | succ n ih =>
    intro p
    cases p <;> rw [run_z35, runF_z35] <;> repeat' first | with_reducible refine OLe.bind ?_ (fun _ => ?_) | with_reducible refine OLe.ite ?_ ?_ | with_reducible exact ih _ | with_reducible exact OLe.refl _
noncomputable def runF_z36 : Nat → P_z36 → Option R_z36
 | 0, _ => none
 | n + 1, .start name1 width2 init3 B0 =>
   if (fits (List.length ([] : List api_Element)) (List.length ([(⟨name1, (0 : Int), width2, init3, (0 : Int)⟩ : api_Element)] : List api_Element)) 48) = true then
     (runF_z35 n (.start (1 : Int) width2 (0 : Int) ([]) B0 (([] : List api_Element) ++ ([(⟨name1, (0 : Int), width2, init3, (0 : Int)⟩ : api_Element)] : List api_Element)))) >>= fun t1 =>
     some (((t1.1.1.1, (t1.1.1.2.1, ())), ()), ((t1.2.1.1, ((), ((), ((), ((), ((), ((), ()))))))), (t1.2.2.1, (t1.2.2.2.1, ()))))
   else none
theorem runF_z36_le : ∀ (n : Nat) (p : P_z36), OLe (runF_z36 n p) (run_z36 p) := by
  intro n
  induction n with
  | zero => exact fun p r h => by cases h
  | succ n ih =>
    intro p
    cases p <;> rw [run_z36, runF_z36] <;> repeat' first | with_reducible refine OLe.bind ?_ (fun _ => ?_) | with_reducible refine OLe.ite ?_ ?_ | with_reducible exact runF_z35_le n _ | with_reducible exact ih _ | with_reducible exact OLe.refl _
noncomputable def runF_z37 : Nat → P_z37 → Option R_z37
 | 0, _ => none
 | n + 1, .start op1 width2 value3 args4 B0 B1 B2 =>
   runF_z37 n (.p116 op1 width2 value3 args4 (List.length args4 : Int) (0 : Int) B0 (0 : Int) (0 : Int) ([] : List Int) B1 B2)
 | n + 1, .p116 op1 width2 value3 s14 s15 s16 B0 B2_0 B2_1 B3 B4 B5 =>
   if (decide (s16 < s15)) = true then
     (idx s14 s16) >>= fun t1 =>
     if (fits (List.length B3) (List.length ([t1.node] : List Int)) 8) = true then
       runF_z37 n (.p116 op1 width2 value3 s14 s15 (IntKind.wrap .i64 (s16 + (1 : Int))) B0 B2_0 B2_1 (B3 ++ ([t1.node] : List Int)) B4 B5)
     else none
   else
     if (fits (List.length B5) (List.length ([(⟨op1, width2, B3, value3⟩ : api_Node)] : List api_Node)) 48) = true then
       some (((IntKind.wrap .i64 ((List.length (B5 ++ ([(⟨op1, width2, B3, value3⟩ : api_Node)] : List api_Node)) : Int) - (1 : Int)), (width2, ())), ()), ((B0, ((), ((), ((), ((), ((), ((), ()))))))), (B4, (B5 ++ ([(⟨op1, width2, B3, value3⟩ : api_Node)] : List api_Node), ()))))
     else none
theorem runF_z37_le : ∀ (n : Nat) (p : P_z37), OLe (runF_z37 n p) (run_z37 p) := by
  intro n
  induction n with
  | zero => exact fun p r h => by cases h
  | succ n ih =>
    intro p
    cases p <;> rw [run_z37, runF_z37] <;> repeat' first | with_reducible refine OLe.bind ?_ (fun _ => ?_) | with_reducible refine OLe.ite ?_ ?_ | with_reducible exact ih _ | with_reducible exact OLe.refl _
noncomputable def runF_z38 : Nat → P_z38 → Option R_z38
 | 0, _ => none
 | n + 1, .start name1 width2 init3 B0 B1 B2 =>
   if (fits (List.length B1) (List.length ([(⟨name1, (0 : Int), width2, init3, (0 : Int)⟩ : api_Element)] : List api_Element)) 48) = true then
     (runF_z37 n (.start (1 : Int) width2 (List.length B1 : Int) ([]) B0 (B1 ++ ([(⟨name1, (0 : Int), width2, init3, (0 : Int)⟩ : api_Element)] : List api_Element)) B2)) >>= fun t1 =>
     some (((t1.1.1.1, (t1.1.1.2.1, ())), ()), ((t1.2.1.1, ((), ((), ((), ((), ((), ((), ()))))))), (t1.2.2.1, (t1.2.2.2.1, ()))))
   else none
theorem runF_z38_le : ∀ (n : Nat) (p : P_z38), OLe (runF_z38 n p) (run_z38 p) := by
  intro n
  induction n with
  | zero => exact fun p r h => by cases h
  | succ n ih =>
    intro p
    cases p <;> rw [run_z38, runF_z38] <;> repeat' first | with_reducible refine OLe.bind ?_ (fun _ => ?_) | with_reducible refine OLe.ite ?_ ?_ | with_reducible exact runF_z37_le n _ | with_reducible exact ih _ | with_reducible exact OLe.refl _
noncomputable def runF_z39 : Nat → P_z39 → Option R_z39
 | 0, _ => none
 | n + 1, .start width1 value2 B0 B1 B2 =>
   (runF_z37 n (.start (0 : Int) width1 value2 ([]) B0 B1 B2)) >>= fun t1 =>
   some (((t1.1.1.1, (t1.1.1.2.1, ())), ()), ((t1.2.1.1, ((), ((), ((), ((), ((), ((), ()))))))), (t1.2.2.1, (t1.2.2.2.1, ()))))
theorem runF_z39_le : ∀ (n : Nat) (p : P_z39), OLe (runF_z39 n p) (run_z39 p) := by
  intro n
  induction n with
  | zero => exact fun p r h => by cases h
  | succ n ih =>
    intro p
    cases p <;> rw [run_z39, runF_z39] <;> repeat' first | with_reducible refine OLe.bind ?_ (fun _ => ?_) | with_reducible refine OLe.ite ?_ ?_ | with_reducible exact runF_z37_le n _ | with_reducible exact ih _ | with_reducible exact OLe.refl _
noncomputable def runF_z40 : Nat → P_z40 → Option R_z40
 | 0, _ => none
 | n + 1, .start memory0 =>
   (runF_z36 n (.start (⟨#[112, 99]⟩ : ByteArray) (4 : Int) (0 : Int) (⟨#[112, 114, 111, 99, 101, 115, 115, 111, 114]⟩ : ByteArray))) >>= fun t1 =>
   (runF_z38 n (.start (⟨#[104, 97, 108, 116, 101, 100]⟩ : ByteArray) (1 : Int) (0 : Int) t1.2.1.1 t1.2.2.1 t1.2.2.2.1)) >>= fun t2 =>
   (runF_z38 n (.start (⟨#[118, 97, 108, 105, 100]⟩ : ByteArray) (1 : Int) (0 : Int) t2.2.1.1 t2.2.2.1 t2.2.2.2.1)) >>= fun t3 =>
   (runF_z38 n (.start (⟨#[99, 111, 100, 101]⟩ : ByteArray) (16 : Int) (0 : Int) t3.2.1.1 t3.2.2.1 t3.2.2.2.1)) >>= fun t4 =>
   runF_z40 n (.p2036 memory0 (0 : Int) (0 : Int) (0 : Int) (0 : Int) (0 : Int) (0 : Int) (0 : Int) (0 : Int) (0 : Int) (0 : Int) (0 : Int) t1.1.1.1 t1.1.1.2.1 t2.1.1.1 t2.1.1.2.1 t3.1.1.1 t3.1.1.2.1 t4.1.1.1 t4.1.1.2.1 (0 : Int) (0 : Int) t4.2.1.1 ([] : List machine_signal) t4.2.2.1 t4.2.2.2.1)
 | n + 1, .p2036 memory0 s27 B0_0 B0_1 B0_2 B0_3 B0_4 B0_5 B0_6 B0_7 B0_8 B0_9 B1_0 B1_1 B1_2 B1_3 B1_4 B1_5 B1_6 B1_7 B1_8 B1_9 B2 B3 B4 B5 =>
   if (decide (s27 < (4 : Int))) = true then
     (itoaRun (s27, ()) ()) >>= fun t1 =>
     if (Nat.ble ((⟨#[114]⟩ : ByteArray).size + t1.1.1.size) 9223372036854775807) = true then
       (runF_z38 n (.start ((⟨#[114]⟩ : ByteArray) ++ t1.1.1) (8 : Int) (0 : Int) B2 B4 B5)) >>= fun t2 =>
       if (fits (List.length B3) (List.length ([(⟨t2.1.1.1, t2.1.1.2.1⟩ : machine_signal)] : List machine_signal)) 16) = true then
         runF_z40 n (.p2036 memory0 (IntKind.wrap .i64 (s27 + (1 : Int))) B0_0 B0_1 B0_2 B0_3 B0_4 B0_5 B0_6 B0_7 B0_8 B0_9 B1_0 B1_1 B1_2 B1_3 B1_4 B1_5 B1_6 B1_7 B1_8 B1_9 t2.2.1.1 (B3 ++ ([(⟨t2.1.1.1, t2.1.1.2.1⟩ : machine_signal)] : List machine_signal)) t2.2.2.1 t2.2.2.2.1)
       else none
     else none
   else
     runF_z40 n (.p4084 memory0 (List.length memory0 : Int) (0 : Int) B0_0 B0_1 B0_2 B0_3 B0_4 B0_5 B0_6 B0_7 B0_8 B0_9 B1_0 B1_1 B1_2 B1_3 B1_4 B1_5 B1_6 B1_7 B1_8 B1_9 B2 B3 ([] : List machine_signal) B4 B5)
 | n + 1, .p4084 s42 s43 s44 B0_0 B0_1 B0_2 B0_3 B0_4 B0_5 B0_6 B0_7 B0_8 B0_9 B1_0 B1_1 B1_2 B1_3 B1_4 B1_5 B1_6 B1_7 B1_8 B1_9 B2 B3 B4 B5 B6 =>
   if (decide (s44 < s43)) = true then
     (idx s42 s44) >>= fun t1 =>
     (itoaRun (s44, ()) ()) >>= fun t2 =>
     if (Nat.ble ((⟨#[109]⟩ : ByteArray).size + t2.1.1.size) 9223372036854775807) = true then
       (runF_z38 n (.start ((⟨#[109]⟩ : ByteArray) ++ t2.1.1) (8 : Int) t1 B2 B5 B6)) >>= fun t3 =>
       if (fits (List.length B4) (List.length ([(⟨t3.1.1.1, t3.1.1.2.1⟩ : machine_signal)] : List machine_signal)) 16) = true then
         runF_z40 n (.p4084 s42 s43 (IntKind.wrap .i64 (s44 + (1 : Int))) B0_0 B0_1 B0_2 B0_3 B0_4 B0_5 B0_6 B0_7 B0_8 B0_9 B1_0 B1_1 B1_2 B1_3 B1_4 B1_5 B1_6 B1_7 B1_8 B1_9 t3.2.1.1 B3 (B4 ++ ([(⟨t3.1.1.1, t3.1.1.2.1⟩ : machine_signal)] : List machine_signal)) t3.2.2.1 t3.2.2.2.1)
       else none
     else none
   else
     (runF_z39 n (.start (1 : Int) (1 : Int) B2 B5 B6)) >>= fun t4 =>
     some ((((), (B1_0, (B1_1, (B1_2, (B1_3, (B1_4, (B1_5, (B1_6, (B1_7, ((), ((), (t4.1.1.1, (t4.1.1.2.1, ()))))))))))))), ()), ((t4.2.1.1, ((), ((), ((), ((), ((), ((), ()))))))), (B3, (B4, (t4.2.2.1, (t4.2.2.2.1, ()))))))
theorem runF_z40_le : ∀ (n : Nat) (p : P_z40), OLe (runF_z40 n p) (run_z40 p) := by
  intro n
  induction n with
  | zero => exact fun p r h => by cases h
  | succ n ih =>
    intro p
    cases p <;> rw [run_z40, runF_z40] <;> repeat' first | with_reducible refine OLe.bind ?_ (fun _ => ?_) | with_reducible refine OLe.ite ?_ ?_ | with_reducible exact runF_z36_le n _ | with_reducible exact runF_z38_le n _ | with_reducible exact runF_z39_le n _ | with_reducible exact ih _ | with_reducible exact OLe.refl _
noncomputable def runF_z41 : Nat → P_z41 → Option R_z41
 | 0, _ => none
 | n + 1, .start c0_0 c0_1 c0_2 c0_3 =>
   if (decide ((0 : Int) ≤ (12 : Int))) = true then
     if (decide ((0 : Int) ≤ (10 : Int))) = true then
       if (decide ((0 : Int) ≤ (8 : Int))) = true then
         some ((bits .or .i64 (bits .or .i64 (bits .or .i64 (shl .i64 c0_0 (12 : Int)) (shl .i64 c0_1 (10 : Int))) (shl .i64 c0_2 (8 : Int))) c0_3, ()), ())
       else none
     else none
   else none
theorem runF_z41_le : ∀ (n : Nat) (p : P_z41), OLe (runF_z41 n p) (run_z41 p) := by
  intro n
  induction n with
  | zero => exact fun p r h => by cases h
  | succ n ih =>
    intro p
    cases p <;> rw [run_z41, runF_z41] <;> repeat' first | with_reducible refine OLe.bind ?_ (fun _ => ?_) | with_reducible refine OLe.ite ?_ ?_ | with_reducible exact ih _ | with_reducible exact OLe.refl _
noncomputable def runF_z42 : Nat → P_z42 → Option R_z42
 | 0, _ => none
 | n + 1, .start x1_0 x1_1 B0 B1 B2 =>
   (runF_z37 n (.start (2 : Int) x1_1 (0 : Int) ([(⟨x1_0, x1_1⟩ : machine_signal)] : List machine_signal) B0 B1 B2)) >>= fun t1 =>
   some (((t1.1.1.1, (t1.1.1.2.1, ())), ()), ((t1.2.1.1, ((), ((), ((), ((), ((), ((), ()))))))), (t1.2.2.1, (t1.2.2.2.1, ()))))
theorem runF_z42_le : ∀ (n : Nat) (p : P_z42), OLe (runF_z42 n p) (run_z42 p) := by
  intro n
  induction n with
  | zero => exact fun p r h => by cases h
  | succ n ih =>
    intro p
    cases p <;> rw [run_z42, runF_z42] <;> repeat' first | with_reducible refine OLe.bind ?_ (fun _ => ?_) | with_reducible refine OLe.ite ?_ ?_ | with_reducible exact runF_z37_le n _ | with_reducible exact ih _ | with_reducible exact OLe.refl _
noncomputable def runF_z43 : Nat → P_z43 → Option R_z43
 | 0, _ => none
 | n + 1, .start x1_0 x1_1 y2_0 y2_1 B0 B1 B2 =>
   (runF_z37 n (.start (3 : Int) x1_1 (0 : Int) ([(⟨x1_0, x1_1⟩ : machine_signal), (⟨y2_0, y2_1⟩ : machine_signal)] : List machine_signal) B0 B1 B2)) >>= fun t1 =>
   some (((t1.1.1.1, (t1.1.1.2.1, ())), ()), ((t1.2.1.1, ((), ((), ((), ((), ((), ((), ()))))))), (t1.2.2.1, (t1.2.2.2.1, ()))))
theorem runF_z43_le : ∀ (n : Nat) (p : P_z43), OLe (runF_z43 n p) (run_z43 p) := by
  intro n
  induction n with
  | zero => exact fun p r h => by cases h
  | succ n ih =>
    intro p
    cases p <;> rw [run_z43, runF_z43] <;> repeat' first | with_reducible refine OLe.bind ?_ (fun _ => ?_) | with_reducible refine OLe.ite ?_ ?_ | with_reducible exact runF_z37_le n _ | with_reducible exact ih _ | with_reducible exact OLe.refl _
noncomputable def runF_z44 : Nat → P_z44 → Option R_z44
 | 0, _ => none
 | n + 1, .start x1_0 x1_1 low2 width3 B0 B1 B2 =>
   (runF_z37 n (.start (14 : Int) width3 low2 ([(⟨x1_0, x1_1⟩ : machine_signal)] : List machine_signal) B0 B1 B2)) >>= fun t1 =>
   some (((t1.1.1.1, (t1.1.1.2.1, ())), ()), ((t1.2.1.1, ((), ((), ((), ((), ((), ((), ()))))))), (t1.2.2.1, (t1.2.2.2.1, ()))))
theorem runF_z44_le : ∀ (n : Nat) (p : P_z44), OLe (runF_z44 n p) (run_z44 p) := by
  intro n
  induction n with
  | zero => exact fun p r h => by cases h
  | succ n ih =>
    intro p
    cases p <;> rw [run_z44, runF_z44] <;> repeat' first | with_reducible refine OLe.bind ?_ (fun _ => ?_) | with_reducible refine OLe.ite ?_ ?_ | with_reducible exact runF_z37_le n _ | with_reducible exact ih _ | with_reducible exact OLe.refl _
noncomputable def runF_z45 : Nat → P_z45 → Option R_z45
 | 0, _ => none
 | n + 1, .start c1_0 c1_1 x2_0 x2_1 y3_0 y3_1 B0 B1 B2 =>
   (runF_z37 n (.start (12 : Int) x2_1 (0 : Int) ([(⟨c1_0, c1_1⟩ : machine_signal), (⟨x2_0, x2_1⟩ : machine_signal), (⟨y3_0, y3_1⟩ : machine_signal)] : List machine_signal) B0 B1 B2)) >>= fun t1 =>
   some (((t1.1.1.1, (t1.1.1.2.1, ())), ()), ((t1.2.1.1, ((), ((), ((), ((), ((), ((), ()))))))), (t1.2.2.1, (t1.2.2.2.1, ()))))
theorem runF_z45_le : ∀ (n : Nat) (p : P_z45), OLe (runF_z45 n p) (run_z45 p) := by
  intro n
  induction n with
  | zero => exact fun p r h => by cases h
  | succ n ih =>
    intro p
    cases p <;> rw [run_z45, runF_z45] <;> repeat' first | with_reducible refine OLe.bind ?_ (fun _ => ?_) | with_reducible refine OLe.ite ?_ ?_ | with_reducible exact runF_z37_le n _ | with_reducible exact ih _ | with_reducible exact OLe.refl _
noncomputable def runF_z46 : Nat → P_z46 → Option R_z46
 | 0, _ => none
 | n + 1, .start l1 number2_0 number2_1 B0 B1 B2 =>
   runF_z46 n (.p52 l1 (0 : Int) B0 number2_0 number2_1 (0 : Int) (0 : Int) B1 B2)
 | n + 1, .p52 l1 bit7 B0 B2_0 B2_1 B3_0 B3_1 B4 B5 =>
   if (decide ((List.length l1 : Int) > (1 : Int))) = true then
     (runF_z44 n (.start B2_0 B2_1 bit7 (1 : Int) B0 B4 B5)) >>= fun t1 =>
     runF_z46 n (.p26932 l1 bit7 (0 : Int) t1.2.1.1 B2_0 B2_1 B3_0 B3_1 t1.1.1.1 t1.1.1.2.1 ([] : List machine_signal) t1.2.2.1 t1.2.2.2.1)
   else
     (idx l1 (0 : Int)) >>= fun t2 =>
     some (((t2.node, (t2.width, ())), ()), ((B0, ((), ((), ((), ((), ((), ((), ()))))))), (B4, (B5, ()))))
 | n + 1, .p26932 l1 bit7 i10 B0 B2_0 B2_1 B3_0 B3_1 B4_0 B4_1 B5 B6 B7 =>
   if (decide (i10 < (List.length l1 : Int))) = true then
     (idx l1 (IntKind.wrap .i64 (i10 + (1 : Int)))) >>= fun t1 =>
     (idx l1 i10) >>= fun t2 =>
     (runF_z45 n (.start B4_0 B4_1 t1.node t1.width t2.node t2.width B0 B6 B7)) >>= fun t3 =>
     if (fits (List.length B5) (List.length ([(⟨t3.1.1.1, t3.1.1.2.1⟩ : machine_signal)] : List machine_signal)) 16) = true then
       runF_z46 n (.p26932 l1 bit7 (IntKind.wrap .i64 (i10 + (2 : Int))) t3.2.1.1 B2_0 B2_1 B3_0 B3_1 B4_0 B4_1 (B5 ++ ([(⟨t3.1.1.1, t3.1.1.2.1⟩ : machine_signal)] : List machine_signal)) t3.2.2.1 t3.2.2.2.1)
     else none
   else
     runF_z46 n (.p52 B5 (IntKind.wrap .i64 (bit7 + (1 : Int))) B0 B2_0 B2_1 B3_0 B3_1 B6 B7)
theorem runF_z46_le : ∀ (n : Nat) (p : P_z46), OLe (runF_z46 n p) (run_z46 p) := by
  intro n
  induction n with
  | zero => exact fun p r h => by cases h
  | succ n ih =>
    intro p
    cases p <;> rw [run_z46, runF_z46] <;> repeat' first | with_reducible refine OLe.bind ?_ (fun _ => ?_) | with_reducible refine OLe.ite ?_ ?_ | with_reducible exact runF_z44_le n _ | with_reducible exact runF_z45_le n _ | with_reducible exact ih _ | with_reducible exact OLe.refl _
noncomputable def runF_z47 : Nat → P_z47 → Option R_z47
 | 0, _ => none
 | n + 1, .start element0 when1_0 when1_1 value2_0 value2_1 =>
   some (((element0, (when1_0, (value2_0, ()))), ()), ())
theorem runF_z47_le : ∀ (n : Nat) (p : P_z47), OLe (runF_z47 n p) (run_z47 p) := by
  intro n
  induction n with
  | zero => exact fun p r h => by cases h
  | succ n ih =>
    intro p
    cases p <;> rw [run_z47, runF_z47] <;> repeat' first | with_reducible refine OLe.bind ?_ (fun _ => ?_) | with_reducible refine OLe.ite ?_ ?_ | with_reducible exact ih _ | with_reducible exact OLe.refl _
noncomputable def runF_z48 : Nat → P_z48 → Option R_z48
 | 0, _ => none
 | n + 1, .start name1 guard2_0 guard2_1 writes3 B0 B1 B2 =>
   if (fits (List.length ([] : List api_Rule)) (List.length ([(⟨name1, guard2_0, writes3⟩ : api_Rule)] : List api_Rule)) 48) = true then
     some ((), ((B0, ((), ((), ((), ((), ((), ((), ()))))))), (B1, (B2, (([] : List api_Rule) ++ ([(⟨name1, guard2_0, writes3⟩ : api_Rule)] : List api_Rule), ())))))
   else none
theorem runF_z48_le : ∀ (n : Nat) (p : P_z48), OLe (runF_z48 n p) (run_z48 p) := by
  intro n
  induction n with
  | zero => exact fun p r h => by cases h
  | succ n ih =>
    intro p
    cases p <;> rw [run_z48, runF_z48] <;> repeat' first | with_reducible refine OLe.bind ?_ (fun _ => ?_) | with_reducible refine OLe.ite ?_ ?_ | with_reducible exact ih _ | with_reducible exact OLe.refl _
noncomputable def runF_z49 : Nat → P_z49 → Option R_z49
 | 0, _ => none
 | n + 1, .start p0_0 p0_1 p0_2 p0_3 p0_4 p0_5 p0_6 p0_7 p0_8 p0_9 p0_10 p0_11 l1 B0 B1 B2 =>
   runF_z49 n (.p116 l1 (0 : Int) B0 p0_0 p0_1 p0_2 p0_3 p0_4 p0_5 p0_6 p0_7 p0_8 p0_9 p0_10 p0_11 ([] : List machine_signal) B1 B2)
 | n + 1, .p116 l1 s7 B0 B1_0 B1_1 B1_2 B1_3 B1_4 B1_5 B1_6 B1_7 B1_8 B1_9 B1_10 B1_11 B2 B3 B4 =>
   if (decide (s7 < (16 : Int))) = true then
     if (decide (s7 < (List.length l1 : Int))) = true then
       (idx l1 s7) >>= fun t1 =>
       (runF_z41 n (.start t1.Op t1.A t1.B t1.N)) >>= fun t2 =>
       runF_z49 n (.p14951 l1 t2.1.1 s7 B0 B1_0 B1_1 B1_2 B1_3 B1_4 B1_5 B1_6 B1_7 B1_8 B1_9 B1_10 B1_11 B2 B3 B4)
     else
       runF_z49 n (.p14951 l1 (0 : Int) s7 B0 B1_0 B1_1 B1_2 B1_3 B1_4 B1_5 B1_6 B1_7 B1_8 B1_9 B1_10 B1_11 B2 B3 B4)
   else
     (runF_z42 n (.start B1_4 B1_5 B0 B3 B4)) >>= fun t3 =>
     (runF_z42 n (.start B1_2 B1_3 t3.2.1.1 t3.2.2.1 t3.2.2.2.1)) >>= fun t4 =>
     (runF_z43 n (.start t3.1.1.1 t3.1.1.2.1 t4.1.1.1 t4.1.1.2.1 t4.2.1.1 t4.2.2.1 t4.2.2.2.1)) >>= fun t5 =>
     (runF_z46 n (.start B2 B1_0 B1_1 t5.2.1.1 t5.2.2.1 t5.2.2.2.1)) >>= fun t6 =>
     (runF_z47 n (.start (3 : Int) B1_10 B1_11 t6.1.1.1 t6.1.1.2.1)) >>= fun t7 =>
     (runF_z47 n (.start (2 : Int) B1_10 B1_11 B1_10 B1_11)) >>= fun t8 =>
     (runF_z48 n (.start (⟨#[102, 101, 116, 99, 104]⟩ : ByteArray) t5.1.1.1 t5.1.1.2.1 ([(⟨t7.1.1.1, t7.1.1.2.1, t7.1.1.2.2.1⟩ : api_Write), (⟨t8.1.1.1, t8.1.1.2.1, t8.1.1.2.2.1⟩ : api_Write)] : List api_Write) t6.2.1.1 t6.2.2.1 t6.2.2.2.1)) >>= fun t9 =>
     some ((), ((t9.2.1.1, ((), ((), ((), ((), ((), ((), ()))))))), (t9.2.2.1, (t9.2.2.2.1, (t9.2.2.2.2.1, ())))))
 | n + 1, .p14951 l1 word6 s7 B0 B1_0 B1_1 B1_2 B1_3 B1_4 B1_5 B1_6 B1_7 B1_8 B1_9 B1_10 B1_11 B2 B3 B4 =>
   (runF_z39 n (.start (16 : Int) word6 B0 B3 B4)) >>= fun t1 =>
   if (fits (List.length B2) (List.length ([(⟨t1.1.1.1, t1.1.1.2.1⟩ : machine_signal)] : List machine_signal)) 16) = true then
     runF_z49 n (.p116 l1 (IntKind.wrap .i64 (s7 + (1 : Int))) t1.2.1.1 B1_0 B1_1 B1_2 B1_3 B1_4 B1_5 B1_6 B1_7 B1_8 B1_9 B1_10 B1_11 (B2 ++ ([(⟨t1.1.1.1, t1.1.1.2.1⟩ : machine_signal)] : List machine_signal)) t1.2.2.1 t1.2.2.2.1)
   else none
theorem runF_z49_le : ∀ (n : Nat) (p : P_z49), OLe (runF_z49 n p) (run_z49 p) := by
  intro n
  induction n with
  | zero => exact fun p r h => by cases h
  | succ n ih =>
    intro p
    cases p <;> rw [run_z49, runF_z49] <;> repeat' first | with_reducible refine OLe.bind ?_ (fun _ => ?_) | with_reducible refine OLe.ite ?_ ?_ | with_reducible exact runF_z39_le n _ | with_reducible exact runF_z41_le n _ | with_reducible exact runF_z42_le n _ | with_reducible exact runF_z43_le n _ | with_reducible exact runF_z46_le n _ | with_reducible exact runF_z47_le n _ | with_reducible exact runF_z48_le n _ | with_reducible exact ih _ | with_reducible exact OLe.refl _
noncomputable def runF_z50 : Nat → P_z50 → Option R_z50
 | 0, _ => none
 | n + 1, .start op1 width2 value3 args4 B0 B1 B2 B3 =>
   runF_z50 n (.p116 op1 width2 value3 args4 (List.length args4 : Int) (0 : Int) B0 (0 : Int) (0 : Int) ([] : List Int) B1 B2 B3)
 | n + 1, .p116 op1 width2 value3 s14 s15 s16 B0 B2_0 B2_1 B3 B4 B5 B6 =>
   if (decide (s16 < s15)) = true then
     (idx s14 s16) >>= fun t1 =>
     if (fits (List.length B3) (List.length ([t1.node] : List Int)) 8) = true then
       runF_z50 n (.p116 op1 width2 value3 s14 s15 (IntKind.wrap .i64 (s16 + (1 : Int))) B0 B2_0 B2_1 (B3 ++ ([t1.node] : List Int)) B4 B5 B6)
     else none
   else
     if (fits (List.length B5) (List.length ([(⟨op1, width2, B3, value3⟩ : api_Node)] : List api_Node)) 48) = true then
       some (((IntKind.wrap .i64 ((List.length (B5 ++ ([(⟨op1, width2, B3, value3⟩ : api_Node)] : List api_Node)) : Int) - (1 : Int)), (width2, ())), ()), ((B0, ((), ((), ((), ((), ((), ((), ()))))))), (B4, (B5 ++ ([(⟨op1, width2, B3, value3⟩ : api_Node)] : List api_Node), (B6, ())))))
     else none
theorem runF_z50_le : ∀ (n : Nat) (p : P_z50), OLe (runF_z50 n p) (run_z50 p) := by
  intro n
  induction n with
  | zero => exact fun p r h => by cases h
  | succ n ih =>
    intro p
    cases p <;> rw [run_z50, runF_z50] <;> repeat' first | with_reducible refine OLe.bind ?_ (fun _ => ?_) | with_reducible refine OLe.ite ?_ ?_ | with_reducible exact ih _ | with_reducible exact OLe.refl _
noncomputable def runF_z51 : Nat → P_z51 → Option R_z51
 | 0, _ => none
 | n + 1, .start x1_0 x1_1 low2 width3 B0 B1 B2 B3 =>
   (runF_z50 n (.start (14 : Int) width3 low2 ([(⟨x1_0, x1_1⟩ : machine_signal)] : List machine_signal) B0 B1 B2 B3)) >>= fun t1 =>
   some (((t1.1.1.1, (t1.1.1.2.1, ())), ()), ((t1.2.1.1, ((), ((), ((), ((), ((), ((), ()))))))), (t1.2.2.1, (t1.2.2.2.1, (t1.2.2.2.2.1, ())))))
theorem runF_z51_le : ∀ (n : Nat) (p : P_z51), OLe (runF_z51 n p) (run_z51 p) := by
  intro n
  induction n with
  | zero => exact fun p r h => by cases h
  | succ n ih =>
    intro p
    cases p <;> rw [run_z51, runF_z51] <;> repeat' first | with_reducible refine OLe.bind ?_ (fun _ => ?_) | with_reducible refine OLe.ite ?_ ?_ | with_reducible exact runF_z50_le n _ | with_reducible exact ih _ | with_reducible exact OLe.refl _
noncomputable def runF_z52 : Nat → P_z52 → Option R_z52
 | 0, _ => none
 | n + 1, .start c1_0 c1_1 x2_0 x2_1 y3_0 y3_1 B0 B1 B2 B3 =>
   (runF_z50 n (.start (12 : Int) x2_1 (0 : Int) ([(⟨c1_0, c1_1⟩ : machine_signal), (⟨x2_0, x2_1⟩ : machine_signal), (⟨y3_0, y3_1⟩ : machine_signal)] : List machine_signal) B0 B1 B2 B3)) >>= fun t1 =>
   some (((t1.1.1.1, (t1.1.1.2.1, ())), ()), ((t1.2.1.1, ((), ((), ((), ((), ((), ((), ()))))))), (t1.2.2.1, (t1.2.2.2.1, (t1.2.2.2.2.1, ())))))
theorem runF_z52_le : ∀ (n : Nat) (p : P_z52), OLe (runF_z52 n p) (run_z52 p) := by
  intro n
  induction n with
  | zero => exact fun p r h => by cases h
  | succ n ih =>
    intro p
    cases p <;> rw [run_z52, runF_z52] <;> repeat' first | with_reducible refine OLe.bind ?_ (fun _ => ?_) | with_reducible refine OLe.ite ?_ ?_ | with_reducible exact runF_z50_le n _ | with_reducible exact ih _ | with_reducible exact OLe.refl _
noncomputable def runF_z53 : Nat → P_z53 → Option R_z53
 | 0, _ => none
 | n + 1, .start l1 number2_0 number2_1 B0 B1 B2 B3 =>
   runF_z53 n (.p52 l1 (0 : Int) B0 number2_0 number2_1 (0 : Int) (0 : Int) B1 B2 B3)
 | n + 1, .p52 l1 bit7 B0 B2_0 B2_1 B3_0 B3_1 B4 B5 B6 =>
   if (decide ((List.length l1 : Int) > (1 : Int))) = true then
     (runF_z51 n (.start B2_0 B2_1 bit7 (1 : Int) B0 B4 B5 B6)) >>= fun t1 =>
     runF_z53 n (.p26932 l1 bit7 (0 : Int) t1.2.1.1 B2_0 B2_1 B3_0 B3_1 t1.1.1.1 t1.1.1.2.1 ([] : List machine_signal) t1.2.2.1 t1.2.2.2.1 t1.2.2.2.2.1)
   else
     (idx l1 (0 : Int)) >>= fun t2 =>
     some (((t2.node, (t2.width, ())), ()), ((B0, ((), ((), ((), ((), ((), ((), ()))))))), (B4, (B5, (B6, ())))))
 | n + 1, .p26932 l1 bit7 i10 B0 B2_0 B2_1 B3_0 B3_1 B4_0 B4_1 B5 B6 B7 B8 =>
   if (decide (i10 < (List.length l1 : Int))) = true then
     (idx l1 (IntKind.wrap .i64 (i10 + (1 : Int)))) >>= fun t1 =>
     (idx l1 i10) >>= fun t2 =>
     (runF_z52 n (.start B4_0 B4_1 t1.node t1.width t2.node t2.width B0 B6 B7 B8)) >>= fun t3 =>
     if (fits (List.length B5) (List.length ([(⟨t3.1.1.1, t3.1.1.2.1⟩ : machine_signal)] : List machine_signal)) 16) = true then
       runF_z53 n (.p26932 l1 bit7 (IntKind.wrap .i64 (i10 + (2 : Int))) t3.2.1.1 B2_0 B2_1 B3_0 B3_1 B4_0 B4_1 (B5 ++ ([(⟨t3.1.1.1, t3.1.1.2.1⟩ : machine_signal)] : List machine_signal)) t3.2.2.1 t3.2.2.2.1 t3.2.2.2.2.1)
     else none
   else
     runF_z53 n (.p52 B5 (IntKind.wrap .i64 (bit7 + (1 : Int))) B0 B2_0 B2_1 B3_0 B3_1 B6 B7 B8)
theorem runF_z53_le : ∀ (n : Nat) (p : P_z53), OLe (runF_z53 n p) (run_z53 p) := by
  intro n
  induction n with
  | zero => exact fun p r h => by cases h
  | succ n ih =>
    intro p
    cases p <;> rw [run_z53, runF_z53] <;> repeat' first | with_reducible refine OLe.bind ?_ (fun _ => ?_) | with_reducible refine OLe.ite ?_ ?_ | with_reducible exact runF_z51_le n _ | with_reducible exact runF_z52_le n _ | with_reducible exact ih _ | with_reducible exact OLe.refl _
noncomputable def runF_z54 : Nat → P_z54 → Option R_z54
 | 0, _ => none
 | n + 1, .start x1_0 x1_1 y2_0 y2_1 B0 B1 B2 B3 =>
   (runF_z50 n (.start (3 : Int) x1_1 (0 : Int) ([(⟨x1_0, x1_1⟩ : machine_signal), (⟨y2_0, y2_1⟩ : machine_signal)] : List machine_signal) B0 B1 B2 B3)) >>= fun t1 =>
   some (((t1.1.1.1, (t1.1.1.2.1, ())), ()), ((t1.2.1.1, ((), ((), ((), ((), ((), ((), ()))))))), (t1.2.2.1, (t1.2.2.2.1, (t1.2.2.2.2.1, ())))))
theorem runF_z54_le : ∀ (n : Nat) (p : P_z54), OLe (runF_z54 n p) (run_z54 p) := by
  intro n
  induction n with
  | zero => exact fun p r h => by cases h
  | succ n ih =>
    intro p
    cases p <;> rw [run_z54, runF_z54] <;> repeat' first | with_reducible refine OLe.bind ?_ (fun _ => ?_) | with_reducible refine OLe.ite ?_ ?_ | with_reducible exact runF_z50_le n _ | with_reducible exact ih _ | with_reducible exact OLe.refl _
noncomputable def runF_z55 : Nat → P_z55 → Option R_z55
 | 0, _ => none
 | n + 1, .start width1 value2 B0 B1 B2 B3 =>
   (runF_z50 n (.start (0 : Int) width1 value2 ([]) B0 B1 B2 B3)) >>= fun t1 =>
   some (((t1.1.1.1, (t1.1.1.2.1, ())), ()), ((t1.2.1.1, ((), ((), ((), ((), ((), ((), ()))))))), (t1.2.2.1, (t1.2.2.2.1, (t1.2.2.2.2.1, ())))))
theorem runF_z55_le : ∀ (n : Nat) (p : P_z55), OLe (runF_z55 n p) (run_z55 p) := by
  intro n
  induction n with
  | zero => exact fun p r h => by cases h
  | succ n ih =>
    intro p
    cases p <;> rw [run_z55, runF_z55] <;> repeat' first | with_reducible refine OLe.bind ?_ (fun _ => ?_) | with_reducible refine OLe.ite ?_ ?_ | with_reducible exact runF_z50_le n _ | with_reducible exact ih _ | with_reducible exact OLe.refl _
noncomputable def runF_z56 : Nat → P_z56 → Option R_z56
 | 0, _ => none
 | n + 1, .start x1_0 x1_1 value2 B0 B1 B2 B3 =>
   (runF_z55 n (.start x1_1 value2 B0 B1 B2 B3)) >>= fun t1 =>
   (runF_z50 n (.start (9 : Int) (1 : Int) (0 : Int) ([(⟨x1_0, x1_1⟩ : machine_signal), (⟨t1.1.1.1, t1.1.1.2.1⟩ : machine_signal)] : List machine_signal) t1.2.1.1 t1.2.2.1 t1.2.2.2.1 t1.2.2.2.2.1)) >>= fun t2 =>
   some (((t2.1.1.1, (t2.1.1.2.1, ())), ()), ((t2.2.1.1, ((), ((), ((), ((), ((), ((), ()))))))), (t2.2.2.1, (t2.2.2.2.1, (t2.2.2.2.2.1, ())))))
theorem runF_z56_le : ∀ (n : Nat) (p : P_z56), OLe (runF_z56 n p) (run_z56 p) := by
  intro n
  induction n with
  | zero => exact fun p r h => by cases h
  | succ n ih =>
    intro p
    cases p <;> rw [run_z56, runF_z56] <;> repeat' first | with_reducible refine OLe.bind ?_ (fun _ => ?_) | with_reducible refine OLe.ite ?_ ?_ | with_reducible exact runF_z50_le n _ | with_reducible exact runF_z55_le n _ | with_reducible exact ih _ | with_reducible exact OLe.refl _
noncomputable def runF_z57 : Nat → P_z57 → Option R_z57
 | 0, _ => none
 | n + 1, .start x1_0 x1_1 y2_0 y2_1 B0 B1 B2 B3 =>
   (runF_z50 n (.start (4 : Int) x1_1 (0 : Int) ([(⟨x1_0, x1_1⟩ : machine_signal), (⟨y2_0, y2_1⟩ : machine_signal)] : List machine_signal) B0 B1 B2 B3)) >>= fun t1 =>
   some (((t1.1.1.1, (t1.1.1.2.1, ())), ()), ((t1.2.1.1, ((), ((), ((), ((), ((), ((), ()))))))), (t1.2.2.1, (t1.2.2.2.1, (t1.2.2.2.2.1, ())))))
theorem runF_z57_le : ∀ (n : Nat) (p : P_z57), OLe (runF_z57 n p) (run_z57 p) := by
  intro n
  induction n with
  | zero => exact fun p r h => by cases h
  | succ n ih =>
    intro p
    cases p <;> rw [run_z57, runF_z57] <;> repeat' first | with_reducible refine OLe.bind ?_ (fun _ => ?_) | with_reducible refine OLe.ite ?_ ?_ | with_reducible exact runF_z50_le n _ | with_reducible exact ih _ | with_reducible exact OLe.refl _
noncomputable def runF_z58 : Nat → P_z58 → Option R_z58
 | 0, _ => none
 | n + 1, .start x1_0 x1_1 B0 B1 B2 B3 =>
   (runF_z50 n (.start (2 : Int) x1_1 (0 : Int) ([(⟨x1_0, x1_1⟩ : machine_signal)] : List machine_signal) B0 B1 B2 B3)) >>= fun t1 =>
   some (((t1.1.1.1, (t1.1.1.2.1, ())), ()), ((t1.2.1.1, ((), ((), ((), ((), ((), ((), ()))))))), (t1.2.2.1, (t1.2.2.2.1, (t1.2.2.2.2.1, ())))))
theorem runF_z58_le : ∀ (n : Nat) (p : P_z58), OLe (runF_z58 n p) (run_z58 p) := by
  intro n
  induction n with
  | zero => exact fun p r h => by cases h
  | succ n ih =>
    intro p
    cases p <;> rw [run_z58, runF_z58] <;> repeat' first | with_reducible refine OLe.bind ?_ (fun _ => ?_) | with_reducible refine OLe.ite ?_ ?_ | with_reducible exact runF_z50_le n _ | with_reducible exact ih _ | with_reducible exact OLe.refl _
noncomputable def runF_z59 : Nat → P_z59 → Option R_z59
 | 0, _ => none
 | n + 1, .start name1 guard2_0 guard2_1 writes3 B0 B1 B2 B3 =>
   if (fits (List.length B3) (List.length ([(⟨name1, guard2_0, writes3⟩ : api_Rule)] : List api_Rule)) 48) = true then
     some ((), ((B0, ((), ((), ((), ((), ((), ((), ()))))))), (B1, (B2, (B3 ++ ([(⟨name1, guard2_0, writes3⟩ : api_Rule)] : List api_Rule), ())))))
   else none
theorem runF_z59_le : ∀ (n : Nat) (p : P_z59), OLe (runF_z59 n p) (run_z59 p) := by
  intro n
  induction n with
  | zero => exact fun p r h => by cases h
  | succ n ih =>
    intro p
    cases p <;> rw [run_z59, runF_z59] <;> repeat' first | with_reducible refine OLe.bind ?_ (fun _ => ?_) | with_reducible refine OLe.ite ?_ ?_ | with_reducible exact ih _ | with_reducible exact OLe.refl _
noncomputable def runF_z60 : Nat → P_z60 → Option R_z60
 | 0, _ => none
 | n + 1, .start p0_0 p0_1 p0_2 p0_3 p0_4 p0_5 p0_6 p0_7 p0_8 p0_9 p0_10 p0_11 B0 B1 B2 B3 =>
   (runF_z51 n (.start p0_6 p0_7 (12 : Int) (4 : Int) B0 B1 B2 B3)) >>= fun t1 =>
   (runF_z51 n (.start p0_6 p0_7 (0 : Int) (8 : Int) t1.2.1.1 t1.2.2.1 t1.2.2.2.1 t1.2.2.2.2.1)) >>= fun t2 =>
   (runF_z51 n (.start p0_6 p0_7 (10 : Int) (2 : Int) t2.2.1.1 t2.2.2.1 t2.2.2.2.1 t2.2.2.2.2.1)) >>= fun t3 =>
   (runF_z51 n (.start p0_6 p0_7 (8 : Int) (2 : Int) t3.2.1.1 t3.2.2.1 t3.2.2.2.1 t3.2.2.2.2.1)) >>= fun t4 =>
   (runF_z53 n (.start p0_8 t3.1.1.1 t3.1.1.2.1 t4.2.1.1 t4.2.2.1 t4.2.2.2.1 t4.2.2.2.2.1)) >>= fun t5 =>
   (runF_z53 n (.start p0_8 t4.1.1.1 t4.1.1.2.1 t5.2.1.1 t5.2.2.1 t5.2.2.2.1 t5.2.2.2.2.1)) >>= fun t6 =>
   (runF_z51 n (.start t6.1.1.1 t6.1.1.2.1 (0 : Int) (3 : Int) t6.2.1.1 t6.2.2.1 t6.2.2.2.1 t6.2.2.2.2.1)) >>= fun t7 =>
   (runF_z50 n (.start (6 : Int) (8 : Int) (0 : Int) ([(⟨t5.1.1.1, t5.1.1.2.1⟩ : machine_signal), (⟨t6.1.1.1, t6.1.1.2.1⟩ : machine_signal)] : List machine_signal) t7.2.1.1 t7.2.2.1 t7.2.2.2.1 t7.2.2.2.2.1)) >>= fun t8 =>
   (runF_z50 n (.start (7 : Int) (8 : Int) (0 : Int) ([(⟨t5.1.1.1, t5.1.1.2.1⟩ : machine_signal), (⟨t6.1.1.1, t6.1.1.2.1⟩ : machine_signal)] : List machine_signal) t8.2.1.1 t8.2.2.1 t8.2.2.2.1 t8.2.2.2.2.1)) >>= fun t9 =>
   (runF_z54 n (.start t5.1.1.1 t5.1.1.2.1 t6.1.1.1 t6.1.1.2.1 t9.2.1.1 t9.2.2.1 t9.2.2.2.1 t9.2.2.2.2.1)) >>= fun t10 =>
   (runF_z53 n (.start p0_9 t7.1.1.1 t7.1.1.2.1 t10.2.1.1 t10.2.2.1 t10.2.2.2.1 t10.2.2.2.2.1)) >>= fun t11 =>
   (runF_z55 n (.start (1 : Int) (0 : Int) t11.2.1.1 t11.2.2.1 t11.2.2.2.1 t11.2.2.2.2.1)) >>= fun t12 =>
   runF_z60 n (.p4084 (0 : Int) t12.2.1.1 p0_0 p0_1 p0_2 p0_3 p0_4 p0_5 p0_6 p0_7 p0_8 p0_9 p0_10 p0_11 t1.1.1.1 t1.1.1.2.1 t2.1.1.1 t2.1.1.2.1 t3.1.1.1 t3.1.1.2.1 t5.1.1.1 t5.1.1.2.1 t7.1.1.1 t7.1.1.2.1 ([((1 : Int), (⟨t2.1.1.1, t2.1.1.2.1⟩ : machine_signal)), ((2 : Int), (⟨t6.1.1.1, t6.1.1.2.1⟩ : machine_signal)), ((3 : Int), (⟨t8.1.1.1, t8.1.1.2.1⟩ : machine_signal)), ((4 : Int), (⟨t9.1.1.1, t9.1.1.2.1⟩ : machine_signal)), ((5 : Int), (⟨t10.1.1.1, t10.1.1.2.1⟩ : machine_signal)), ((6 : Int), (⟨t11.1.1.1, t11.1.1.2.1⟩ : machine_signal))] : List (Int × machine_signal)) t5.1.1.1 t5.1.1.2.1 t12.1.1.1 t12.1.1.2.1 t12.2.2.1 t12.2.2.2.1 t12.2.2.2.2.1)
 | n + 1, .p4084 s90 B0 B1_0 B1_1 B1_2 B1_3 B1_4 B1_5 B1_6 B1_7 B1_8 B1_9 B1_10 B1_11 B2_0 B2_1 B3_0 B3_1 B4_0 B4_1 B5_0 B5_1 B6_0 B6_1 B7 B8_0 B8_1 B9_0 B9_1 B10 B11 B12 =>
   if (decide (s90 < (10 : Int))) = true then
     if (Option.isSome (aget ieq B7 s90)) = true then
       (runF_z56 n (.start B2_0 B2_1 s90 B0 B10 B11 B12)) >>= fun t1 =>
       (runF_z52 n (.start t1.1.1.1 t1.1.1.2.1 ((Option.getD (aget ieq B7 s90) (⟨(0 : Int), (0 : Int)⟩ : machine_signal)).node) ((Option.getD (aget ieq B7 s90) (⟨(0 : Int), (0 : Int)⟩ : machine_signal)).width) B8_0 B8_1 t1.2.1.1 t1.2.2.1 t1.2.2.2.1 t1.2.2.2.2.1)) >>= fun t2 =>
       (runF_z57 n (.start B9_0 B9_1 t1.1.1.1 t1.1.1.2.1 t2.2.1.1 t2.2.2.1 t2.2.2.2.1 t2.2.2.2.2.1)) >>= fun t3 =>
       runF_z60 n (.p4084 (IntKind.wrap .i64 (s90 + (1 : Int))) t3.2.1.1 B1_0 B1_1 B1_2 B1_3 B1_4 B1_5 B1_6 B1_7 B1_8 B1_9 B1_10 B1_11 B2_0 B2_1 B3_0 B3_1 B4_0 B4_1 B5_0 B5_1 B6_0 B6_1 B7 t2.1.1.1 t2.1.1.2.1 t3.1.1.1 t3.1.1.2.1 t3.2.2.1 t3.2.2.2.1 t3.2.2.2.2.1)
     else
       runF_z60 n (.p4084 (IntKind.wrap .i64 (s90 + (1 : Int))) B0 B1_0 B1_1 B1_2 B1_3 B1_4 B1_5 B1_6 B1_7 B1_8 B1_9 B1_10 B1_11 B2_0 B2_1 B3_0 B3_1 B4_0 B4_1 B5_0 B5_1 B6_0 B6_1 B7 B8_0 B8_1 B9_0 B9_1 B10 B11 B12)
   else
     (runF_z56 n (.start B2_0 B2_1 (0 : Int) B0 B10 B11 B12)) >>= fun t4 =>
     (runF_z56 n (.start B2_0 B2_1 (8 : Int) t4.2.1.1 t4.2.2.1 t4.2.2.2.1 t4.2.2.2.2.1)) >>= fun t5 =>
     (runF_z56 n (.start B2_0 B2_1 (9 : Int) t5.2.1.1 t5.2.2.1 t5.2.2.2.1 t5.2.2.2.2.1)) >>= fun t6 =>
     (runF_z56 n (.start B5_0 B5_1 (0 : Int) t6.2.1.1 t6.2.2.1 t6.2.2.2.1 t6.2.2.2.2.1)) >>= fun t7 =>
     (runF_z54 n (.start t6.1.1.1 t6.1.1.2.1 t7.1.1.1 t7.1.1.2.1 t7.2.1.1 t7.2.2.1 t7.2.2.2.1 t7.2.2.2.2.1)) >>= fun t8 =>
     (runF_z57 n (.start t5.1.1.1 t5.1.1.2.1 t8.1.1.1 t8.1.1.2.1 t8.2.1.1 t8.2.2.1 t8.2.2.2.1 t8.2.2.2.2.1)) >>= fun t9 =>
     (runF_z55 n (.start (4 : Int) (1 : Int) t9.2.1.1 t9.2.2.1 t9.2.2.2.1 t9.2.2.2.2.1)) >>= fun t10 =>
     (runF_z50 n (.start (6 : Int) (4 : Int) (0 : Int) ([(⟨B1_0, B1_1⟩ : machine_signal), (⟨t10.1.1.1, t10.1.1.2.1⟩ : machine_signal)] : List machine_signal) t10.2.1.1 t10.2.2.1 t10.2.2.2.1 t10.2.2.2.2.1)) >>= fun t11 =>
     (runF_z51 n (.start B3_0 B3_1 (0 : Int) (4 : Int) t11.2.1.1 t11.2.2.1 t11.2.2.2.1 t11.2.2.2.2.1)) >>= fun t12 =>
     (runF_z52 n (.start t9.1.1.1 t9.1.1.2.1 t12.1.1.1 t12.1.1.2.1 t11.1.1.1 t11.1.1.2.1 t12.2.1.1 t12.2.2.1 t12.2.2.2.1 t12.2.2.2.2.1)) >>= fun t13 =>
     (runF_z58 n (.start t4.1.1.1 t4.1.1.2.1 t13.2.1.1 t13.2.2.1 t13.2.2.2.1 t13.2.2.2.2.1)) >>= fun t14 =>
     (runF_z47 n (.start (0 : Int) t14.1.1.1 t14.1.1.2.1 t13.1.1.1 t13.1.1.2.1)) >>= fun t15 =>
     (runF_z47 n (.start (1 : Int) t4.1.1.1 t4.1.1.2.1 B1_10 B1_11)) >>= fun t16 =>
     (runF_z55 n (.start (1 : Int) (0 : Int) t14.2.1.1 t14.2.2.1 t14.2.2.2.1 t14.2.2.2.2.1)) >>= fun t17 =>
     (runF_z47 n (.start (2 : Int) B1_10 B1_11 t17.1.1.1 t17.1.1.2.1)) >>= fun t18 =>
     runF_z60 n (.p262132 (List.length B1_8 : Int) (0 : Int) t17.2.1.1 B1_0 B1_1 B1_2 B1_3 B1_4 B1_5 B1_6 B1_7 B1_8 B1_9 B1_10 B1_11 B2_0 B2_1 B4_0 B4_1 B5_0 B5_1 B6_0 B6_1 B8_0 B8_1 B9_0 B9_1 ([(⟨t15.1.1.1, t15.1.1.2.1, t15.1.1.2.2.1⟩ : api_Write), (⟨t16.1.1.1, t16.1.1.2.1, t16.1.1.2.2.1⟩ : api_Write), (⟨t18.1.1.1, t18.1.1.2.1, t18.1.1.2.2.1⟩ : api_Write)] : List api_Write) t17.2.2.1 t17.2.2.2.1 t17.2.2.2.2.1)
 | n + 1, .p262132 s176 s177 B0 B1_0 B1_1 B1_2 B1_3 B1_4 B1_5 B1_6 B1_7 B1_8 B1_9 B1_10 B1_11 B2_0 B2_1 B3_0 B3_1 B4_0 B4_1 B5_0 B5_1 B6_0 B6_1 B7_0 B7_1 B8 B9 B10 B11 =>
   if (decide (s177 < s176)) = true then
     (runF_z56 n (.start B3_0 B3_1 s177 B0 B9 B10 B11)) >>= fun t1 =>
     (runF_z54 n (.start B7_0 B7_1 t1.1.1.1 t1.1.1.2.1 t1.2.1.1 t1.2.2.1 t1.2.2.2.1 t1.2.2.2.2.1)) >>= fun t2 =>
     (runF_z47 n (.start (IntKind.wrap .i64 ((4 : Int) + s177)) t2.1.1.1 t2.1.1.2.1 B6_0 B6_1)) >>= fun t3 =>
     if (fits (List.length B8) (List.length ([(⟨t3.1.1.1, t3.1.1.2.1, t3.1.1.2.2.1⟩ : api_Write)] : List api_Write)) 24) = true then
       runF_z60 n (.p262132 s176 (IntKind.wrap .i64 (s177 + (1 : Int))) t2.2.1.1 B1_0 B1_1 B1_2 B1_3 B1_4 B1_5 B1_6 B1_7 B1_8 B1_9 B1_10 B1_11 B2_0 B2_1 B3_0 B3_1 B4_0 B4_1 B5_0 B5_1 B6_0 B6_1 B7_0 B7_1 (B8 ++ ([(⟨t3.1.1.1, t3.1.1.2.1, t3.1.1.2.2.1⟩ : api_Write)] : List api_Write)) t2.2.2.1 t2.2.2.2.1 t2.2.2.2.2.1)
     else none
   else
     (runF_z56 n (.start B2_0 B2_1 (7 : Int) B0 B9 B10 B11)) >>= fun t4 =>
     runF_z60 n (.p1048564 (List.length B1_9 : Int) (0 : Int) t4.2.1.1 B1_0 B1_1 B1_2 B1_3 B1_4 B1_5 B1_6 B1_7 B1_8 B1_9 B1_10 B1_11 B4_0 B4_1 B5_0 B5_1 B8 t4.1.1.1 t4.1.1.2.1 t4.2.2.1 t4.2.2.2.1 t4.2.2.2.2.1)
 | n + 1, .p1048564 s203 s204 B0 B1_0 B1_1 B1_2 B1_3 B1_4 B1_5 B1_6 B1_7 B1_8 B1_9 B1_10 B1_11 B2_0 B2_1 B3_0 B3_1 B4 B5_0 B5_1 B6 B7 B8 =>
   if (decide (s204 < s203)) = true then
     (runF_z56 n (.start B3_0 B3_1 s204 B0 B6 B7 B8)) >>= fun t1 =>
     (runF_z54 n (.start B5_0 B5_1 t1.1.1.1 t1.1.1.2.1 t1.2.1.1 t1.2.2.1 t1.2.2.2.1 t1.2.2.2.2.1)) >>= fun t2 =>
     (runF_z47 n (.start (IntKind.wrap .i64 ((8 : Int) + s204)) t2.1.1.1 t2.1.1.2.1 B2_0 B2_1)) >>= fun t3 =>
     if (fits (List.length B4) (List.length ([(⟨t3.1.1.1, t3.1.1.2.1, t3.1.1.2.2.1⟩ : api_Write)] : List api_Write)) 24) = true then
       runF_z60 n (.p1048564 s203 (IntKind.wrap .i64 (s204 + (1 : Int))) t2.2.1.1 B1_0 B1_1 B1_2 B1_3 B1_4 B1_5 B1_6 B1_7 B1_8 B1_9 B1_10 B1_11 B2_0 B2_1 B3_0 B3_1 (B4 ++ ([(⟨t3.1.1.1, t3.1.1.2.1, t3.1.1.2.2.1⟩ : api_Write)] : List api_Write)) B5_0 B5_1 t2.2.2.1 t2.2.2.2.1 t2.2.2.2.2.1)
     else none
   else
     (runF_z59 n (.start (⟨#[101, 120, 101, 99, 117, 116, 101]⟩ : ByteArray) B1_4 B1_5 B4 B0 B6 B7 B8)) >>= fun t4 =>
     some ((), ((t4.2.1.1, ((), ((), ((), ((), ((), ((), ()))))))), (t4.2.2.1, (t4.2.2.2.1, (t4.2.2.2.2.1, ())))))
theorem runF_z60_le : ∀ (n : Nat) (p : P_z60), OLe (runF_z60 n p) (run_z60 p) := by
  intro n
  induction n with
  | zero => exact fun p r h => by cases h
  | succ n ih =>
    intro p
    cases p <;> rw [run_z60, runF_z60] <;> repeat' first | with_reducible refine OLe.bind ?_ (fun _ => ?_) | with_reducible refine OLe.ite ?_ ?_ | with_reducible exact runF_z47_le n _ | with_reducible exact runF_z50_le n _ | with_reducible exact runF_z51_le n _ | with_reducible exact runF_z52_le n _ | with_reducible exact runF_z53_le n _ | with_reducible exact runF_z54_le n _ | with_reducible exact runF_z55_le n _ | with_reducible exact runF_z56_le n _ | with_reducible exact runF_z57_le n _ | with_reducible exact runF_z58_le n _ | with_reducible exact runF_z59_le n _ | with_reducible exact ih _ | with_reducible exact OLe.refl _
noncomputable def runF_z69 : Nat → P_z69 → Option R_z69
 | 0, _ => none
 | n + 1, .start a0 b1 =>
   if ((List.length a0 : Int) != (List.length b1 : Int)) = true then
     some ((false, ()), ())
   else
     runF_z69 n (.p116 a0 b1 (0 : Int))
 | n + 1, .p116 a0 b1 i5 =>
   if (decide (i5 < (List.length a0 : Int))) = true then
     (idx a0 i5) >>= fun t1 =>
     (idx b1 i5) >>= fun t2 =>
     if (!((seq t1.Name t2.Name) && ((t1.Width == t2.Width) && true))) = true then
       some ((false, ()), ())
     else
       runF_z69 n (.p116 a0 b1 (IntKind.wrap .i64 (i5 + (1 : Int))))
   else
     some ((true, ()), ())
theorem runF_z69_le : ∀ (n : Nat) (p : P_z69), OLe (runF_z69 n p) (run_z69 p) := by
  intro n
  induction n with
  | zero => exact fun p r h => by cases h
  | succ n ih =>
    intro p
    cases p <;> rw [run_z69, runF_z69] <;> repeat' first | with_reducible refine OLe.bind ?_ (fun _ => ?_) | with_reducible refine OLe.ite ?_ ?_ | with_reducible exact ih _ | with_reducible exact OLe.refl _
noncomputable def runF_z70 : Nat → P_z70 → Option R_z70
 | 0, _ => none
 | n + 1, .start a0 b1 =>
   if ((List.length a0 : Int) != (List.length b1 : Int)) = true then
     some ((false, ()), ())
   else
     runF_z70 n (.p116 a0 b1 (0 : Int))
 | n + 1, .p116 a0 b1 i5 =>
   if (decide (i5 < (List.length a0 : Int))) = true then
     (idx a0 i5) >>= fun t1 =>
     (idx b1 i5) >>= fun t2 =>
     if (t1.Op != t2.Op) = true then
       some ((false, ()), ())
     else
       (idx a0 i5) >>= fun t3 =>
       (idx b1 i5) >>= fun t4 =>
       if (t3.Width != t4.Width) = true then
         some ((false, ()), ())
       else
         (idx a0 i5) >>= fun t5 =>
         (idx b1 i5) >>= fun t6 =>
         if (t5.Value != t6.Value) = true then
           some ((false, ()), ())
         else
           (idx a0 i5) >>= fun t7 =>
           (idx b1 i5) >>= fun t8 =>
           (runF_z16 n (.start t7.Args t8.Args)) >>= fun t9 =>
           if (!t9.1.1) = true then
             some ((false, ()), ())
           else
             runF_z70 n (.p116 a0 b1 (IntKind.wrap .i64 (i5 + (1 : Int))))
   else
     some ((true, ()), ())
theorem runF_z70_le : ∀ (n : Nat) (p : P_z70), OLe (runF_z70 n p) (run_z70 p) := by
  intro n
  induction n with
  | zero => exact fun p r h => by cases h
  | succ n ih =>
    intro p
    cases p <;> rw [run_z70, runF_z70] <;> repeat' first | with_reducible refine OLe.bind ?_ (fun _ => ?_) | with_reducible refine OLe.ite ?_ ?_ | with_reducible exact runF_z16_le n _ | with_reducible exact ih _ | with_reducible exact OLe.refl _
noncomputable def runF_z71 : Nat → P_z71 → Option R_z71
 | 0, _ => none
 | n + 1, .start a0 b1 =>
   if ((List.length a0 : Int) != (List.length b1 : Int)) = true then
     some ((false, ()), ())
   else
     runF_z71 n (.p116 a0 b1 (0 : Int))
 | n + 1, .p116 a0 b1 i5 =>
   if (decide (i5 < (List.length a0 : Int))) = true then
     (idx a0 i5) >>= fun t1 =>
     (idx b1 i5) >>= fun t2 =>
     if (!((seq t1.Name t2.Name) && ((t1.Node == t2.Node) && true))) = true then
       some ((false, ()), ())
     else
       runF_z71 n (.p116 a0 b1 (IntKind.wrap .i64 (i5 + (1 : Int))))
   else
     some ((true, ()), ())
theorem runF_z71_le : ∀ (n : Nat) (p : P_z71), OLe (runF_z71 n p) (run_z71 p) := by
  intro n
  induction n with
  | zero => exact fun p r h => by cases h
  | succ n ih =>
    intro p
    cases p <;> rw [run_z71, runF_z71] <;> repeat' first | with_reducible refine OLe.bind ?_ (fun _ => ?_) | with_reducible refine OLe.ite ?_ ?_ | with_reducible exact ih _ | with_reducible exact OLe.refl _
noncomputable def runF_z72 : Nat → P_z72 → Option R_z72
 | 0, _ => none
 | n + 1, .start a0 b1 =>
   if ((List.length a0 : Int) != (List.length b1 : Int)) = true then
     some ((false, ()), ())
   else
     runF_z72 n (.p116 a0 b1 (0 : Int))
 | n + 1, .p116 a0 b1 i5 =>
   if (decide (i5 < (List.length a0 : Int))) = true then
     (idx a0 i5) >>= fun t1 =>
     (idx b1 i5) >>= fun t2 =>
     if (!((t1.Element == t2.Element) && ((t1.When == t2.When) && ((t1.Value == t2.Value) && true)))) = true then
       some ((false, ()), ())
     else
       runF_z72 n (.p116 a0 b1 (IntKind.wrap .i64 (i5 + (1 : Int))))
   else
     some ((true, ()), ())
theorem runF_z72_le : ∀ (n : Nat) (p : P_z72), OLe (runF_z72 n p) (run_z72 p) := by
  intro n
  induction n with
  | zero => exact fun p r h => by cases h
  | succ n ih =>
    intro p
    cases p <;> rw [run_z72, runF_z72] <;> repeat' first | with_reducible refine OLe.bind ?_ (fun _ => ?_) | with_reducible refine OLe.ite ?_ ?_ | with_reducible exact ih _ | with_reducible exact OLe.refl _
noncomputable def runF_z73 : Nat → P_z73 → Option R_z73
 | 0, _ => none
 | n + 1, .start a0_0 a0_1 a0_2 a0_3 a0_4 a0_5 a0_6 b1_0 b1_1 b1_2 b1_3 b1_4 b1_5 b1_6 =>
   if (!(seq a0_0 b1_0)) = true then
     some ((false, ()), ())
   else
     (runF_z69 n (.start a0_1 b1_1)) >>= fun t1 =>
     if (!t1.1.1) = true then
       some ((false, ()), ())
     else
       if ((List.length a0_2 : Int) != (List.length b1_2 : Int)) = true then
         some ((false, ()), ())
       else
         (runF_z70 n (.start a0_3 b1_3)) >>= fun t2 =>
         if (!t2.1.1) = true then
           some ((false, ()), ())
         else
           if ((List.length a0_4 : Int) != (List.length b1_4 : Int)) = true then
             some ((false, ()), ())
           else
             (runF_z71 n (.start a0_5 b1_5)) >>= fun t3 =>
             if (!t3.1.1) = true then
               some ((false, ()), ())
             else
               if ((List.length a0_6 : Int) != (List.length b1_6 : Int)) = true then
                 some ((false, ()), ())
               else
                 runF_z73 n (.p7 a0_0 a0_1 a0_2 a0_3 a0_4 a0_5 a0_6 b1_0 b1_1 b1_2 b1_3 b1_4 b1_5 b1_6)
 | n + 1, .p7 B0_0 B0_1 B0_2 B0_3 B0_4 B0_5 B0_6 B1_0 B1_1 B1_2 B1_3 B1_4 B1_5 B1_6 =>
   runF_z73 n (.p116 (0 : Int) B0_0 B0_1 B0_2 B0_3 B0_4 B0_5 B0_6 B1_0 B1_1 B1_2 B1_3 B1_4 B1_5 B1_6)
 | n + 1, .p116 i5 B0_0 B0_1 B0_2 B0_3 B0_4 B0_5 B0_6 B1_0 B1_1 B1_2 B1_3 B1_4 B1_5 B1_6 =>
   if (decide (i5 < (List.length B0_2 : Int))) = true then
     (idx B0_2 i5) >>= fun t1 =>
     (idx B1_2 i5) >>= fun t2 =>
     if (!((seq t1.Name t2.Name) && ((t1.Kind == t2.Kind) && ((t1.Width == t2.Width) && ((t1.Init == t2.Init) && ((t1.Clock == t2.Clock) && true)))))) = true then
       some ((false, ()), ())
     else
       runF_z73 n (.p116 (IntKind.wrap .i64 (i5 + (1 : Int))) B0_0 B0_1 B0_2 B0_3 B0_4 B0_5 B0_6 B1_0 B1_1 B1_2 B1_3 B1_4 B1_5 B1_6)
   else
     runF_z73 n (.p244 (0 : Int) B0_0 B0_1 B0_2 B0_3 B0_4 B0_5 B0_6 B1_0 B1_1 B1_2 B1_3 B1_4 B1_5 B1_6)
 | n + 1, .p244 i6 B0_0 B0_1 B0_2 B0_3 B0_4 B0_5 B0_6 B1_0 B1_1 B1_2 B1_3 B1_4 B1_5 B1_6 =>
   if (decide (i6 < (List.length B0_4 : Int))) = true then
     (idx B0_4 i6) >>= fun t1 =>
     (idx B1_4 i6) >>= fun t2 =>
     if (!(seq t1.Name t2.Name)) = true then
       some ((false, ()), ())
     else
       (idx B0_4 i6) >>= fun t3 =>
       (idx B1_4 i6) >>= fun t4 =>
       if (t3.Guard != t4.Guard) = true then
         some ((false, ()), ())
       else
         (idx B0_4 i6) >>= fun t5 =>
         (idx B1_4 i6) >>= fun t6 =>
         (runF_z72 n (.start t5.Writes t6.Writes)) >>= fun t7 =>
         if (!t7.1.1) = true then
           some ((false, ()), ())
         else
           runF_z73 n (.p244 (IntKind.wrap .i64 (i6 + (1 : Int))) B0_0 B0_1 B0_2 B0_3 B0_4 B0_5 B0_6 B1_0 B1_1 B1_2 B1_3 B1_4 B1_5 B1_6)
   else
     runF_z73 n (.p500 (0 : Int) B0_0 B0_1 B0_2 B0_3 B0_4 B0_5 B0_6 B1_0 B1_1 B1_2 B1_3 B1_4 B1_5 B1_6)
 | n + 1, .p500 i7 B0_0 B0_1 B0_2 B0_3 B0_4 B0_5 B0_6 B1_0 B1_1 B1_2 B1_3 B1_4 B1_5 B1_6 =>
   if (decide (i7 < (List.length B0_6 : Int))) = true then
     (idx B0_6 i7) >>= fun t1 =>
     (idx B1_6 i7) >>= fun t2 =>
     if (t1.Kind != t2.Kind) = true then
       some ((false, ()), ())
     else
       (idx B0_6 i7) >>= fun t3 =>
       (idx B1_6 i7) >>= fun t4 =>
       (runF_z16 n (.start t3.Rules t4.Rules)) >>= fun t5 =>
       if (!t5.1.1) = true then
         some ((false, ()), ())
       else
         runF_z73 n (.p500 (IntKind.wrap .i64 (i7 + (1 : Int))) B0_0 B0_1 B0_2 B0_3 B0_4 B0_5 B0_6 B1_0 B1_1 B1_2 B1_3 B1_4 B1_5 B1_6)
   else
     some ((true, ()), ())
theorem runF_z73_le : ∀ (n : Nat) (p : P_z73), OLe (runF_z73 n p) (run_z73 p) := by
  intro n
  induction n with
  | zero => exact fun p r h => by cases h
  | succ n ih =>
    intro p
    cases p <;> rw [run_z73, runF_z73] <;> repeat' first | with_reducible refine OLe.bind ?_ (fun _ => ?_) | with_reducible refine OLe.ite ?_ ?_ | with_reducible exact runF_z16_le n _ | with_reducible exact runF_z69_le n _ | with_reducible exact runF_z70_le n _ | with_reducible exact runF_z71_le n _ | with_reducible exact runF_z72_le n _ | with_reducible exact ih _ | with_reducible exact OLe.refl _
noncomputable def runF_z74 : Nat → P_z74 → Option R_z74
 | 0, _ => none
 | n + 1, .start s0 =>
   if (decide ((s0.size : Int) < (1 : Int))) = true then
     some ((false, ()), ())
   else
     if (decide ((s0.size : Int) > (16 : Int))) = true then
       some ((false, ()), ())
     else
       runF_z74 n (.p7 s0)
 | n + 1, .p7 s0 =>
   runF_z74 n (.p116 s0 (0 : Int))
 | n + 1, .p116 s0 i3 =>
   if (decide (i3 < (s0.size : Int))) = true then
     (sidx s0 i3) >>= fun t1 =>
     if (decide (t1 ≥ (97 : Int))) = true then
       if (decide (t1 ≤ (122 : Int))) = true then
         runF_z74 n (.p3731 s0 i3 t1 true)
       else
         if (decide (t1 ≥ (65 : Int))) = true then
           runF_z74 n (.p3731 s0 i3 t1 (decide (t1 ≤ (90 : Int))))
         else
           runF_z74 n (.p3731 s0 i3 t1 false)
     else
       if (decide (t1 ≥ (65 : Int))) = true then
         runF_z74 n (.p3731 s0 i3 t1 (decide (t1 ≤ (90 : Int))))
       else
         runF_z74 n (.p3731 s0 i3 t1 false)
   else
     some ((true, ()), ())
 | n + 1, .p3731 s0 i3 c4 letter5 =>
   if (!letter5) = true then
     if (i3 == (0 : Int)) = true then
       some ((false, ()), ())
     else
       if (c4 != (95 : Int)) = true then
         if (decide (c4 < (48 : Int))) = true then
           some ((false, ()), ())
         else
           if (decide (c4 > (57 : Int))) = true then
             some ((false, ()), ())
           else
             runF_z74 n (.p116 s0 (IntKind.wrap .i64 (i3 + (1 : Int))))
       else
         runF_z74 n (.p116 s0 (IntKind.wrap .i64 (i3 + (1 : Int))))
   else
     runF_z74 n (.p116 s0 (IntKind.wrap .i64 (i3 + (1 : Int))))
theorem runF_z74_le : ∀ (n : Nat) (p : P_z74), OLe (runF_z74 n p) (run_z74 p) := by
  intro n
  induction n with
  | zero => exact fun p r h => by cases h
  | succ n ih =>
    intro p
    cases p <;> rw [run_z74, runF_z74] <;> repeat' first | with_reducible refine OLe.bind ?_ (fun _ => ?_) | with_reducible refine OLe.ite ?_ ?_ | with_reducible exact ih _ | with_reducible exact OLe.refl _
noncomputable def runF_z75 : Nat → P_z75 → Option R_z75
 | 0, _ => none
 | n + 1, .start n0 =>
   (runF_z12 n (.start n0 (1 : Int) (16 : Int))) >>= fun t1 =>
   some ((t1.1.1, ()), ())
theorem runF_z75_le : ∀ (n : Nat) (p : P_z75), OLe (runF_z75 n p) (run_z75 p) := by
  intro n
  induction n with
  | zero => exact fun p r h => by cases h
  | succ n ih =>
    intro p
    cases p <;> rw [run_z75, runF_z75] <;> repeat' first | with_reducible refine OLe.bind ?_ (fun _ => ?_) | with_reducible refine OLe.ite ?_ ?_ | with_reducible exact runF_z12_le n _ | with_reducible exact ih _ | with_reducible exact OLe.refl _
noncomputable def runF_z76 : Nat → P_z76 → Option R_z76
 | 0, _ => none
 | n + 1, .start l0 =>
   if (decide ((List.length l0 : Int) > (12 : Int))) = true then
     some (((0 : Int), ((8 : Int), ())), ())
   else
     runF_z76 n (.p116 l0 (0 : Int))
 | n + 1, .p116 l0 i4 =>
   if (decide (i4 < (List.length l0 : Int))) = true then
     (idx l0 i4) >>= fun t1 =>
     (runF_z74 n (.start t1.Name)) >>= fun t2 =>
     if (!t2.1.1) = true then
       some ((i4, ((4 : Int), ())), ())
     else
       runF_z76 n (.p29844 l0 i4 (0 : Int))
   else
     some (((0 : Int), ((0 : Int), ())), ())
 | n + 1, .p29844 l0 i4 k5 =>
   if (decide (k5 < i4)) = true then
     (idx l0 k5) >>= fun t1 =>
     (idx l0 i4) >>= fun t2 =>
     if (seq t1.Name t2.Name) = true then
       some ((i4, ((5 : Int), ())), ())
     else
       runF_z76 n (.p29844 l0 i4 (IntKind.wrap .i64 (k5 + (1 : Int))))
   else
     (idx l0 i4) >>= fun t3 =>
     (runF_z75 n (.start t3.Width)) >>= fun t4 =>
     if (!t4.1.1) = true then
       some ((i4, ((2 : Int), ())), ())
     else
       runF_z76 n (.p116 l0 (IntKind.wrap .i64 (i4 + (1 : Int))))
theorem runF_z76_le : ∀ (n : Nat) (p : P_z76), OLe (runF_z76 n p) (run_z76 p) := by
  intro n
  induction n with
  | zero => exact fun p r h => by cases h
  | succ n ih =>
    intro p
    cases p <;> rw [run_z76, runF_z76] <;> repeat' first | with_reducible refine OLe.bind ?_ (fun _ => ?_) | with_reducible refine OLe.ite ?_ ?_ | with_reducible exact runF_z74_le n _ | with_reducible exact runF_z75_le n _ | with_reducible exact ih _ | with_reducible exact OLe.refl _
noncomputable def runF_z77 : Nat → P_z77 → Option R_z77
 | 0, _ => none
 | n + 1, .start inputs0 l1 =>
   if (decide ((IntKind.wrap .i64 ((List.length inputs0 : Int) + (List.length l1 : Int))) > (40 : Int))) = true then
     some (((0 : Int), ((8 : Int), ())), ())
   else
     runF_z77 n (.p116 inputs0 l1 (0 : Int))
 | n + 1, .p116 inputs0 l1 i6 =>
   if (decide (i6 < (List.length l1 : Int))) = true then
     (idx l1 i6) >>= fun t1 =>
     (runF_z74 n (.start t1.Name)) >>= fun t2 =>
     if (!t2.1.1) = true then
       some ((i6, ((4 : Int), ())), ())
     else
       runF_z77 n (.p29844 inputs0 l1 i6 (0 : Int))
   else
     some (((0 : Int), ((0 : Int), ())), ())
 | n + 1, .p29844 inputs0 l1 i6 k7 =>
   if (decide (k7 < i6)) = true then
     (idx l1 k7) >>= fun t1 =>
     (idx l1 i6) >>= fun t2 =>
     if (seq t1.Name t2.Name) = true then
       some ((i6, ((5 : Int), ())), ())
     else
       runF_z77 n (.p29844 inputs0 l1 i6 (IntKind.wrap .i64 (k7 + (1 : Int))))
   else
     runF_z77 n (.p59700 inputs0 l1 i6 (0 : Int))
 | n + 1, .p59700 inputs0 l1 i6 k8 =>
   if (decide (k8 < (List.length inputs0 : Int))) = true then
     (idx inputs0 k8) >>= fun t1 =>
     (idx l1 i6) >>= fun t2 =>
     if (seq t1.Name t2.Name) = true then
       some ((i6, ((5 : Int), ())), ())
     else
       runF_z77 n (.p59700 inputs0 l1 i6 (IntKind.wrap .i64 (k8 + (1 : Int))))
   else
     (idx l1 i6) >>= fun t3 =>
     (runF_z12 n (.start t3.Kind (0 : Int) (1 : Int))) >>= fun t4 =>
     if (!t4.1.1) = true then
       some ((i6, ((15 : Int), ())), ())
     else
       (idx l1 i6) >>= fun t5 =>
       (runF_z75 n (.start t5.Width)) >>= fun t6 =>
       if (!t6.1.1) = true then
         some ((i6, ((2 : Int), ())), ())
       else
         (idx l1 i6) >>= fun t7 =>
         (idx l1 i6) >>= fun t8 =>
         (runF_z13 n (.start t7.Init t8.Width)) >>= fun t9 =>
         if (!t9.1.1) = true then
           some ((i6, ((2 : Int), ())), ())
         else
           (idx l1 i6) >>= fun t10 =>
           (runF_z12 n (.start t10.Clock (0 : Int) (3 : Int))) >>= fun t11 =>
           if (!t11.1.1) = true then
             some ((i6, ((2 : Int), ())), ())
           else
             runF_z77 n (.p116 inputs0 l1 (IntKind.wrap .i64 (i6 + (1 : Int))))
theorem runF_z77_le : ∀ (n : Nat) (p : P_z77), OLe (runF_z77 n p) (run_z77 p) := by
  intro n
  induction n with
  | zero => exact fun p r h => by cases h
  | succ n ih =>
    intro p
    cases p <;> rw [run_z77, runF_z77] <;> repeat' first | with_reducible refine OLe.bind ?_ (fun _ => ?_) | with_reducible refine OLe.ite ?_ ?_ | with_reducible exact runF_z12_le n _ | with_reducible exact runF_z13_le n _ | with_reducible exact runF_z74_le n _ | with_reducible exact runF_z75_le n _ | with_reducible exact ih _ | with_reducible exact OLe.refl _
noncomputable def runF_z78 : Nat → P_z78 → Option R_z78
 | 0, _ => none
 | n + 1, .start d0_0 d0_1 d0_2 d0_3 d0_4 d0_5 d0_6 =>
   runF_z78 n (.p116 (0 : Int) d0_0 d0_1 d0_2 d0_3 d0_4 d0_5 d0_6 ([] : List Int))
 | n + 1, .p116 i4 B0_0 B0_1 B0_2 B0_3 B0_4 B0_5 B0_6 B1 =>
   if (decide (i4 < (List.length B0_1 : Int))) = true then
     (idx B0_1 i4) >>= fun t1 =>
     if (fits (List.length B1) (List.length ([t1.Width] : List Int)) 8) = true then
       runF_z78 n (.p116 (IntKind.wrap .i64 (i4 + (1 : Int))) B0_0 B0_1 B0_2 B0_3 B0_4 B0_5 B0_6 (B1 ++ ([t1.Width] : List Int)))
     else none
   else
     runF_z78 n (.p244 (0 : Int) B0_0 B0_1 B0_2 B0_3 B0_4 B0_5 B0_6 B1)
 | n + 1, .p244 i5 B0_0 B0_1 B0_2 B0_3 B0_4 B0_5 B0_6 B1 =>
   if (decide (i5 < (List.length B0_2 : Int))) = true then
     (idx B0_2 i5) >>= fun t1 =>
     if (fits (List.length B1) (List.length ([t1.Width] : List Int)) 8) = true then
       runF_z78 n (.p244 (IntKind.wrap .i64 (i5 + (1 : Int))) B0_0 B0_1 B0_2 B0_3 B0_4 B0_5 B0_6 (B1 ++ ([t1.Width] : List Int)))
     else none
   else
     some (((), ()), (B1, ()))
theorem runF_z78_le : ∀ (n : Nat) (p : P_z78), OLe (runF_z78 n p) (run_z78 p) := by
  intro n
  induction n with
  | zero => exact fun p r h => by cases h
  | succ n ih =>
    intro p
    cases p <;> rw [run_z78, runF_z78] <;> repeat' first | with_reducible refine OLe.bind ?_ (fun _ => ?_) | with_reducible refine OLe.ite ?_ ?_ | with_reducible exact ih _ | with_reducible exact OLe.refl _
noncomputable def runF_z79 : Nat → P_z79 → Option R_z79
 | 0, _ => none
 | n + 1, .start op0 =>
   if (op0 == (0 : Int)) = true then
     runF_z79 n (.p53 op0 (op0 == (0 : Int)))
   else
     runF_z79 n (.p53 op0 (op0 == (1 : Int)))
 | n + 1, .p53 s3 s4 =>
   if s4 = true then
     some (((0 : Int), ()), ())
   else
     if (s3 == (2 : Int)) = true then
       runF_z79 n (.p215 s3 (s3 == (2 : Int)))
     else
       if (s3 == (14 : Int)) = true then
         runF_z79 n (.p215 s3 (s3 == (14 : Int)))
       else
         if (s3 == (15 : Int)) = true then
           runF_z79 n (.p215 s3 (s3 == (15 : Int)))
         else
           runF_z79 n (.p215 s3 (s3 == (16 : Int)))
 | n + 1, .p215 s3 s7 =>
   if s7 = true then
     some (((1 : Int), ()), ())
   else
     if (s3 == (12 : Int)) = true then
       some (((3 : Int), ()), ())
     else
       some (((2 : Int), ()), ())
theorem runF_z79_le : ∀ (n : Nat) (p : P_z79), OLe (runF_z79 n p) (run_z79 p) := by
  intro n
  induction n with
  | zero => exact fun p r h => by cases h
  | succ n ih =>
    intro p
    cases p <;> rw [run_z79, runF_z79] <;> repeat' first | with_reducible refine OLe.bind ?_ (fun _ => ?_) | with_reducible refine OLe.ite ?_ ?_ | with_reducible exact ih _ | with_reducible exact OLe.refl _
noncomputable def runF_z80 : Nat → P_z80 → Option R_z80
 | 0, _ => none
 | n + 1, .start nodes0 x1_0 x1_1 x1_2 x1_3 =>
   runF_z80 n (.p116 nodes0 (0 : Int) x1_0 x1_1 x1_2 x1_3 ([] : List Int))
 | n + 1, .p116 nodes0 k6 B0_0 B0_1 B0_2 B0_3 B1 =>
   if (decide (k6 < (List.length B0_2 : Int))) = true then
     (idx B0_2 k6) >>= fun t1 =>
     (idx nodes0 t1) >>= fun t2 =>
     if (fits (List.length B1) (List.length ([t2.Width] : List Int)) 8) = true then
       runF_z80 n (.p116 nodes0 (IntKind.wrap .i64 (k6 + (1 : Int))) B0_0 B0_1 B0_2 B0_3 (B1 ++ ([t2.Width] : List Int)))
     else none
   else
     if (B0_0 == (2 : Int)) = true then
       if (decide ((0 : Int) ≤ (0 : Int)) && decide ((0 : Int) < (List.length B1 : Int))) = true then
         (idx B1 (0 : Int)) >>= fun t3 =>
         some ((t3 == B0_1, ()), ())
       else none
     else
       if (B0_0 == (3 : Int)) = true then
         runF_z80 n (.p983 B0_0 (B0_0 == (3 : Int)) B0_0 B0_1 B0_2 B0_3 B1)
       else
         if (B0_0 == (4 : Int)) = true then
           runF_z80 n (.p983 B0_0 (B0_0 == (4 : Int)) B0_0 B0_1 B0_2 B0_3 B1)
         else
           if (B0_0 == (5 : Int)) = true then
             runF_z80 n (.p983 B0_0 (B0_0 == (5 : Int)) B0_0 B0_1 B0_2 B0_3 B1)
           else
             if (B0_0 == (6 : Int)) = true then
               runF_z80 n (.p983 B0_0 (B0_0 == (6 : Int)) B0_0 B0_1 B0_2 B0_3 B1)
             else
               if (B0_0 == (7 : Int)) = true then
                 runF_z80 n (.p983 B0_0 (B0_0 == (7 : Int)) B0_0 B0_1 B0_2 B0_3 B1)
               else
                 runF_z80 n (.p983 B0_0 (B0_0 == (8 : Int)) B0_0 B0_1 B0_2 B0_3 B1)
 | n + 1, .p983 s27 s36 B0_0 B0_1 B0_2 B0_3 B1 =>
   if s36 = true then
     if (decide ((0 : Int) ≤ (0 : Int)) && decide ((0 : Int) < (List.length B1 : Int))) = true then
       (idx B1 (0 : Int)) >>= fun t1 =>
       if (t1 == B0_1) = true then
         if (decide ((0 : Int) ≤ (1 : Int)) && decide ((1 : Int) < (List.length B1 : Int))) = true then
           (idx B1 (1 : Int)) >>= fun t2 =>
           some ((t2 == B0_1, ()), ())
         else none
       else
         some ((false, ()), ())
     else none
   else
     if (s27 == (9 : Int)) = true then
       runF_z80 n (.p3935 s27 (s27 == (9 : Int)) B0_0 B0_1 B0_2 B0_3 B1)
     else
       if (s27 == (10 : Int)) = true then
         runF_z80 n (.p3935 s27 (s27 == (10 : Int)) B0_0 B0_1 B0_2 B0_3 B1)
       else
         runF_z80 n (.p3935 s27 (s27 == (11 : Int)) B0_0 B0_1 B0_2 B0_3 B1)
 | n + 1, .p3935 s27 s57 B0_0 B0_1 B0_2 B0_3 B1 =>
   if s57 = true then
     if (decide ((0 : Int) ≤ (0 : Int)) && decide ((0 : Int) < (List.length B1 : Int))) = true then
       (idx B1 (0 : Int)) >>= fun t1 =>
       if (decide ((0 : Int) ≤ (1 : Int)) && decide ((1 : Int) < (List.length B1 : Int))) = true then
         (idx B1 (1 : Int)) >>= fun t2 =>
         if (t1 == t2) = true then
           some ((B0_1 == (1 : Int), ()), ())
         else
           some ((false, ()), ())
       else none
     else none
   else
     if (s27 == (12 : Int)) = true then
       if (decide ((0 : Int) ≤ (0 : Int)) && decide ((0 : Int) < (List.length B1 : Int))) = true then
         (idx B1 (0 : Int)) >>= fun t3 =>
         if (t3 == (1 : Int)) = true then
           if (decide ((0 : Int) ≤ (1 : Int)) && decide ((1 : Int) < (List.length B1 : Int))) = true then
             (idx B1 (1 : Int)) >>= fun t4 =>
             if (t4 == B0_1) = true then
               if (decide ((0 : Int) ≤ (2 : Int)) && decide ((2 : Int) < (List.length B1 : Int))) = true then
                 (idx B1 (2 : Int)) >>= fun t5 =>
                 some ((t5 == B0_1, ()), ())
               else none
             else
               some ((false, ()), ())
           else none
         else
           some ((false, ()), ())
       else none
     else
       if (s27 == (13 : Int)) = true then
         if (decide ((0 : Int) ≤ (0 : Int)) && decide ((0 : Int) < (List.length B1 : Int))) = true then
           (idx B1 (0 : Int)) >>= fun t6 =>
           if (decide ((0 : Int) ≤ (1 : Int)) && decide ((1 : Int) < (List.length B1 : Int))) = true then
             (idx B1 (1 : Int)) >>= fun t7 =>
             some (((IntKind.wrap .i64 (t6 + t7)) == B0_1, ()), ())
           else none
         else none
       else
         if (s27 == (14 : Int)) = true then
           if (decide ((0 : Int) ≤ (0 : Int)) && decide ((0 : Int) < (List.length B1 : Int))) = true then
             (idx B1 (0 : Int)) >>= fun t8 =>
             some ((decide ((IntKind.wrap .i64 (B0_3 + B0_1)) ≤ t8), ()), ())
           else none
         else
           if (s27 == (15 : Int)) = true then
             runF_z80 n (.p1007615 (s27 == (15 : Int)) B0_0 B0_1 B0_2 B0_3 B1)
           else
             runF_z80 n (.p1007615 (s27 == (16 : Int)) B0_0 B0_1 B0_2 B0_3 B1)
 | n + 1, .p1007615 s118 B0_0 B0_1 B0_2 B0_3 B1 =>
   if s118 = true then
     if (decide ((0 : Int) ≤ (0 : Int)) && decide ((0 : Int) < (List.length B1 : Int))) = true then
       (idx B1 (0 : Int)) >>= fun t1 =>
       some ((decide (t1 ≤ B0_1), ()), ())
     else none
   else
     if (decide ((0 : Int) ≤ (0 : Int)) && decide ((0 : Int) < (List.length B1 : Int))) = true then
       (idx B1 (0 : Int)) >>= fun t2 =>
       some ((t2 == B0_1, ()), ())
     else none
theorem runF_z80_le : ∀ (n : Nat) (p : P_z80), OLe (runF_z80 n p) (run_z80 p) := by
  intro n
  induction n with
  | zero => exact fun p r h => by cases h
  | succ n ih =>
    intro p
    cases p <;> rw [run_z80, runF_z80] <;> repeat' first | with_reducible refine OLe.bind ?_ (fun _ => ?_) | with_reducible refine OLe.ite ?_ ?_ | with_reducible exact ih _ | with_reducible exact OLe.refl _
noncomputable def runF_z81 : Nat → P_z81 → Option R_z81
 | 0, _ => none
 | n + 1, .start leaves0 nodes1 i2 =>
   (idx nodes1 i2) >>= fun t1 =>
   (runF_z12 n (.start t1.Op (0 : Int) (18 : Int))) >>= fun t2 =>
   if (!t2.1.1) = true then
     some (((15 : Int), ()), ())
   else
     (runF_z75 n (.start t1.Width)) >>= fun t3 =>
     if (!t3.1.1) = true then
       some (((2 : Int), ()), ())
     else
       (runF_z79 n (.start t1.Op)) >>= fun t4 =>
       if ((List.length t1.Args : Int) != t4.1.1) = true then
         some (((10 : Int), ()), ())
       else
         runF_z81 n (.p1012 leaves0 nodes1 i2 (0 : Int) t1.Op t1.Width t1.Args t1.Value)
 | n + 1, .p1012 leaves0 nodes1 i2 k8 B0_0 B0_1 B0_2 B0_3 =>
   if (decide (k8 < (List.length B0_2 : Int))) = true then
     (idx B0_2 k8) >>= fun t1 =>
     (runF_z12 n (.start t1 (0 : Int) (IntKind.wrap .i64 (i2 - (1 : Int))))) >>= fun t2 =>
     if (!t2.1.1) = true then
       some (((9 : Int), ()), ())
     else
       runF_z81 n (.p1012 leaves0 nodes1 i2 (IntKind.wrap .i64 (k8 + (1 : Int))) B0_0 B0_1 B0_2 B0_3)
   else
     if (B0_0 == (0 : Int)) = true then
       (runF_z13 n (.start B0_3 B0_1)) >>= fun t3 =>
       if (!t3.1.1) = true then
         some (((2 : Int), ()), ())
       else
         some (((0 : Int), ()), ())
     else
       if (B0_0 == (1 : Int)) = true then
         (runF_z12 n (.start B0_3 (0 : Int) (IntKind.wrap .i64 ((List.length leaves0 : Int) - (1 : Int))))) >>= fun t4 =>
         if (!t4.1.1) = true then
           some (((6 : Int), ()), ())
         else
           (idx leaves0 B0_3) >>= fun t5 =>
           if (t5 != B0_1) = true then
             some (((25 : Int), ()), ())
           else
             some (((0 : Int), ()), ())
       else
         if (B0_0 == (14 : Int)) = true then
           (runF_z12 n (.start B0_3 (0 : Int) (15 : Int))) >>= fun t6 =>
           if (!t6.1.1) = true then
             some (((2 : Int), ()), ())
           else
             runF_z81 n (.p255 nodes1 B0_0 B0_1 B0_2 B0_3)
         else
           if (B0_3 != (0 : Int)) = true then
             some (((3 : Int), ()), ())
           else
             runF_z81 n (.p255 nodes1 B0_0 B0_1 B0_2 B0_3)
 | n + 1, .p255 nodes1 B0_0 B0_1 B0_2 B0_3 =>
   (runF_z80 n (.start nodes1 B0_0 B0_1 B0_2 B0_3)) >>= fun t1 =>
   if (!t1.1.1) = true then
     some (((25 : Int), ()), ())
   else
     some (((0 : Int), ()), ())
theorem runF_z81_le : ∀ (n : Nat) (p : P_z81), OLe (runF_z81 n p) (run_z81 p) := by
  intro n
  induction n with
  | zero => exact fun p r h => by cases h
  | succ n ih =>
    intro p
    cases p <;> rw [run_z81, runF_z81] <;> repeat' first | with_reducible refine OLe.bind ?_ (fun _ => ?_) | with_reducible refine OLe.ite ?_ ?_ | with_reducible exact runF_z12_le n _ | with_reducible exact runF_z13_le n _ | with_reducible exact runF_z75_le n _ | with_reducible exact runF_z79_le n _ | with_reducible exact runF_z80_le n _ | with_reducible exact ih _ | with_reducible exact OLe.refl _
noncomputable def runF_z82 : Nat → P_z82 → Option R_z82
 | 0, _ => none
 | n + 1, .start leaves0 nodes1 =>
   if (decide ((List.length nodes1 : Int) > (400 : Int))) = true then
     some (((0 : Int), ((8 : Int), ())), ())
   else
     runF_z82 n (.p116 leaves0 nodes1 (0 : Int))
 | n + 1, .p116 leaves0 nodes1 i6 =>
   if (decide (i6 < (List.length nodes1 : Int))) = true then
     (runF_z81 n (.start leaves0 nodes1 i6)) >>= fun t1 =>
     if (t1.1.1 != (0 : Int)) = true then
       some ((i6, (t1.1.1, ())), ())
     else
       runF_z82 n (.p116 leaves0 nodes1 (IntKind.wrap .i64 (i6 + (1 : Int))))
   else
     some (((0 : Int), ((0 : Int), ())), ())
theorem runF_z82_le : ∀ (n : Nat) (p : P_z82), OLe (runF_z82 n p) (run_z82 p) := by
  intro n
  induction n with
  | zero => exact fun p r h => by cases h
  | succ n ih =>
    intro p
    cases p <;> rw [run_z82, runF_z82] <;> repeat' first | with_reducible refine OLe.bind ?_ (fun _ => ?_) | with_reducible refine OLe.ite ?_ ?_ | with_reducible exact runF_z81_le n _ | with_reducible exact ih _ | with_reducible exact OLe.refl _
noncomputable def runF_z83 : Nat → P_z83 → Option R_z83
 | 0, _ => none
 | n + 1, .start nodes0 i1 =>
   (runF_z12 n (.start i1 (0 : Int) (IntKind.wrap .i64 ((List.length nodes0 : Int) - (1 : Int))))) >>= fun t1 =>
   some ((t1.1.1, ()), ())
theorem runF_z83_le : ∀ (n : Nat) (p : P_z83), OLe (runF_z83 n p) (run_z83 p) := by
  intro n
  induction n with
  | zero => exact fun p r h => by cases h
  | succ n ih =>
    intro p
    cases p <;> rw [run_z83, runF_z83] <;> repeat' first | with_reducible refine OLe.bind ?_ (fun _ => ?_) | with_reducible refine OLe.ite ?_ ?_ | with_reducible exact runF_z12_le n _ | with_reducible exact ih _ | with_reducible exact OLe.refl _
noncomputable def runF_z84 : Nat → P_z84 → Option R_z84
 | 0, _ => none
 | n + 1, .start nodes0 l1 =>
   if (decide ((List.length l1 : Int) > (12 : Int))) = true then
     some (((0 : Int), ((8 : Int), ())), ())
   else
     runF_z84 n (.p116 nodes0 l1 (0 : Int))
 | n + 1, .p116 nodes0 l1 i6 =>
   if (decide (i6 < (List.length l1 : Int))) = true then
     (idx l1 i6) >>= fun t1 =>
     (runF_z74 n (.start t1.Name)) >>= fun t2 =>
     if (!t2.1.1) = true then
       some ((i6, ((4 : Int), ())), ())
     else
       runF_z84 n (.p29844 nodes0 l1 i6 (0 : Int))
   else
     some (((0 : Int), ((0 : Int), ())), ())
 | n + 1, .p29844 nodes0 l1 i6 k7 =>
   if (decide (k7 < i6)) = true then
     (idx l1 k7) >>= fun t1 =>
     (idx l1 i6) >>= fun t2 =>
     if (seq t1.Name t2.Name) = true then
       some ((i6, ((5 : Int), ())), ())
     else
       runF_z84 n (.p29844 nodes0 l1 i6 (IntKind.wrap .i64 (k7 + (1 : Int))))
   else
     (idx l1 i6) >>= fun t3 =>
     (runF_z83 n (.start nodes0 t3.Node)) >>= fun t4 =>
     if (!t4.1.1) = true then
       some ((i6, ((9 : Int), ())), ())
     else
       runF_z84 n (.p116 nodes0 l1 (IntKind.wrap .i64 (i6 + (1 : Int))))
theorem runF_z84_le : ∀ (n : Nat) (p : P_z84), OLe (runF_z84 n p) (run_z84 p) := by
  intro n
  induction n with
  | zero => exact fun p r h => by cases h
  | succ n ih =>
    intro p
    cases p <;> rw [run_z84, runF_z84] <;> repeat' first | with_reducible refine OLe.bind ?_ (fun _ => ?_) | with_reducible refine OLe.ite ?_ ?_ | with_reducible exact runF_z74_le n _ | with_reducible exact runF_z83_le n _ | with_reducible exact ih _ | with_reducible exact OLe.refl _
noncomputable def runF_z85 : Nat → P_z85 → Option R_z85
 | 0, _ => none
 | n + 1, .start nodes0 i1 =>
   (runF_z83 n (.start nodes0 i1)) >>= fun t1 =>
   if t1.1.1 = true then
     (idx nodes0 i1) >>= fun t2 =>
     some ((t2.Width == (1 : Int), ()), ())
   else
     some ((false, ()), ())
theorem runF_z85_le : ∀ (n : Nat) (p : P_z85), OLe (runF_z85 n p) (run_z85 p) := by
  intro n
  induction n with
  | zero => exact fun p r h => by cases h
  | succ n ih =>
    intro p
    cases p <;> rw [run_z85, runF_z85] <;> repeat' first | with_reducible refine OLe.bind ?_ (fun _ => ?_) | with_reducible refine OLe.ite ?_ ?_ | with_reducible exact runF_z83_le n _ | with_reducible exact ih _ | with_reducible exact OLe.refl _
noncomputable def runF_z86 : Nat → P_z86 → Option R_z86
 | 0, _ => none
 | n + 1, .start elements0 nodes1 l2 =>
   if (decide ((List.length l2 : Int) > (16 : Int))) = true then
     some (((8 : Int), ()), ())
   else
     runF_z86 n (.p116 elements0 nodes1 l2 (0 : Int))
 | n + 1, .p116 elements0 nodes1 l2 i7 =>
   if (decide (i7 < (List.length l2 : Int))) = true then
     (idx l2 i7) >>= fun t1 =>
     (runF_z12 n (.start t1.Element (0 : Int) (IntKind.wrap .i64 ((List.length elements0 : Int) - (1 : Int))))) >>= fun t2 =>
     if (!t2.1.1) = true then
       some (((6 : Int), ()), ())
     else
       (idx l2 i7) >>= fun t3 =>
       (runF_z85 n (.start nodes1 t3.When)) >>= fun t4 =>
       if (!t4.1.1) = true then
         some (((9 : Int), ()), ())
       else
         (idx l2 i7) >>= fun t5 =>
         (runF_z83 n (.start nodes1 t5.Value)) >>= fun t6 =>
         if (!t6.1.1) = true then
           some (((9 : Int), ()), ())
         else
           runF_z86 n (.p3731 elements0 nodes1 l2 i7)
   else
     some (((0 : Int), ()), ())
 | n + 1, .p3731 elements0 nodes1 l2 i7 =>
   (idx l2 i7) >>= fun t1 =>
   (idx nodes1 t1.Value) >>= fun t2 =>
   (idx l2 i7) >>= fun t3 =>
   (idx elements0 t3.Element) >>= fun t4 =>
   if (t2.Width != t4.Width) = true then
     some (((25 : Int), ()), ())
   else
     runF_z86 n (.p116 elements0 nodes1 l2 (IntKind.wrap .i64 (i7 + (1 : Int))))
theorem runF_z86_le : ∀ (n : Nat) (p : P_z86), OLe (runF_z86 n p) (run_z86 p) := by
  intro n
  induction n with
  | zero => exact fun p r h => by cases h
  | succ n ih =>
    intro p
    cases p <;> rw [run_z86, runF_z86] <;> repeat' first | with_reducible refine OLe.bind ?_ (fun _ => ?_) | with_reducible refine OLe.ite ?_ ?_ | with_reducible exact runF_z12_le n _ | with_reducible exact runF_z83_le n _ | with_reducible exact runF_z85_le n _ | with_reducible exact ih _ | with_reducible exact OLe.refl _
noncomputable def runF_z87 : Nat → P_z87 → Option R_z87
 | 0, _ => none
 | n + 1, .start l0 n1 =>
   runF_z87 n (.p52 l0 n1 (0 : Int))
 | n + 1, .p52 l0 n1 i5 =>
   if (decide (i5 < (List.length l0 : Int))) = true then
     (idx l0 i5) >>= fun t1 =>
     if (t1 == n1) = true then
       some ((true, ()), ())
     else
       runF_z87 n (.p52 l0 n1 (IntKind.wrap .i64 (i5 + (1 : Int))))
   else
     some ((false, ()), ())
theorem runF_z87_le : ∀ (n : Nat) (p : P_z87), OLe (runF_z87 n p) (run_z87 p) := by
  intro n
  induction n with
  | zero => exact fun p r h => by cases h
  | succ n ih =>
    intro p
    cases p <;> rw [run_z87, runF_z87] <;> repeat' first | with_reducible refine OLe.bind ?_ (fun _ => ?_) | with_reducible refine OLe.ite ?_ ?_ | with_reducible exact ih _ | with_reducible exact OLe.refl _
noncomputable def runF_z88 : Nat → P_z88 → Option R_z88
 | 0, _ => none
 | n + 1, .start d0_0 d0_1 d0_2 d0_3 d0_4 d0_5 d0_6 =>
   (runF_z74 n (.start d0_0)) >>= fun t1 =>
   if (!t1.1.1) = true then
     some (((0 : Int), ((4 : Int), ())), ())
   else
     (runF_z76 n (.start d0_1)) >>= fun t2 =>
     if (t2.1.2.1 != (0 : Int)) = true then
       some ((t2.1.1, (t2.1.2.1, ())), ())
     else
       (runF_z77 n (.start d0_1 d0_2)) >>= fun t3 =>
       if (t3.1.2.1 != (0 : Int)) = true then
         some ((t3.1.1, (t3.1.2.1, ())), ())
       else
         (runF_z78 n (.start d0_0 d0_1 d0_2 d0_3 d0_4 d0_5 d0_6)) >>= fun t4 =>
         (runF_z82 n (.start t4.2.1 d0_3)) >>= fun t5 =>
         if (t5.1.2.1 != (0 : Int)) = true then
           some ((t5.1.1, (t5.1.2.1, ())), ())
         else
           if (decide ((List.length d0_4 : Int) > (16 : Int))) = true then
             some (((0 : Int), ((8 : Int), ())), ())
           else
             runF_z88 n (.p2036 (0 : Int) d0_0 d0_1 d0_2 d0_3 d0_4 d0_5 d0_6)
 | n + 1, .p2036 i10 B0_0 B0_1 B0_2 B0_3 B0_4 B0_5 B0_6 =>
   if (decide (i10 < (List.length B0_4 : Int))) = true then
     (idx B0_4 i10) >>= fun t1 =>
     (runF_z74 n (.start t1.Name)) >>= fun t2 =>
     if (!t2.1.1) = true then
       some ((i10, ((4 : Int), ())), ())
     else
       runF_z88 n (.p1042740 i10 (0 : Int) B0_0 B0_1 B0_2 B0_3 B0_4 B0_5 B0_6 t1.Name t1.Guard t1.Writes)
   else
     (runF_z84 n (.start B0_3 B0_5)) >>= fun t3 =>
     if (t3.1.2.1 != (0 : Int)) = true then
       some ((t3.1.1, (t3.1.2.1, ())), ())
     else
       if (decide ((List.length B0_6 : Int) > (16 : Int))) = true then
         some (((0 : Int), ((8 : Int), ())), ())
       else
         runF_z88 n (.p16372 (0 : Int) B0_0 B0_1 B0_2 B0_3 B0_4 B0_5 B0_6)
 | n + 1, .p1042740 i10 k12 B0_0 B0_1 B0_2 B0_3 B0_4 B0_5 B0_6 B1_0 B1_1 B1_2 =>
   if (decide (k12 < i10)) = true then
     (idx B0_4 k12) >>= fun t1 =>
     if (seq t1.Name B1_0) = true then
       some ((i10, ((5 : Int), ())), ())
     else
       runF_z88 n (.p1042740 i10 (IntKind.wrap .i64 (k12 + (1 : Int))) B0_0 B0_1 B0_2 B0_3 B0_4 B0_5 B0_6 B1_0 B1_1 B1_2)
   else
     (runF_z85 n (.start B0_3 B1_1)) >>= fun t2 =>
     if (!t2.1.1) = true then
       some ((i10, ((9 : Int), ())), ())
     else
       (runF_z86 n (.start B0_2 B0_3 B1_2)) >>= fun t3 =>
       if (t3.1.1 != (0 : Int)) = true then
         some ((i10, (t3.1.1, ())), ())
       else
         runF_z88 n (.p2036 (IntKind.wrap .i64 (i10 + (1 : Int))) B0_0 B0_1 B0_2 B0_3 B0_4 B0_5 B0_6)
 | n + 1, .p16372 i16 B0_0 B0_1 B0_2 B0_3 B0_4 B0_5 B0_6 =>
   if (decide (i16 < (List.length B0_6 : Int))) = true then
     (idx B0_6 i16) >>= fun t1 =>
     (runF_z12 n (.start t1.Kind (0 : Int) (3 : Int))) >>= fun t2 =>
     if (!t2.1.1) = true then
       some ((i16, ((15 : Int), ())), ())
     else
       if ((List.length t1.Rules : Int) == (0 : Int)) = true then
         some ((i16, ((10 : Int), ())), ())
       else
         if (decide ((List.length t1.Rules : Int) > (16 : Int))) = true then
           some ((i16, ((10 : Int), ())), ())
         else
           runF_z88 n (.p1047847 i16 B0_0 B0_1 B0_2 B0_3 B0_4 B0_5 B0_6 t1.Kind t1.Rules)
   else
     some (((0 : Int), ((0 : Int), ())), ())
 | n + 1, .p1047847 i16 B0_0 B0_1 B0_2 B0_3 B0_4 B0_5 B0_6 B1_0 B1_1 =>
   runF_z88 n (.p8382780 i16 (0 : Int) B0_0 B0_1 B0_2 B0_3 B0_4 B0_5 B0_6 B1_0 B1_1)
 | n + 1, .p8382780 i16 k18 B0_0 B0_1 B0_2 B0_3 B0_4 B0_5 B0_6 B1_0 B1_1 =>
   if (decide (k18 < (List.length B1_1 : Int))) = true then
     (idx B1_1 k18) >>= fun t1 =>
     (runF_z12 n (.start t1 (0 : Int) (IntKind.wrap .i64 ((List.length B0_4 : Int) - (1 : Int))))) >>= fun t2 =>
     if (!t2.1.1) = true then
       some ((i16, ((6 : Int), ())), ())
     else
       (span (List.length B1_1) (0 : Int) k18) >>= fun t3 =>
       (idx B1_1 k18) >>= fun t4 =>
       (runF_z87 n (.start (cut B1_1 t3) t4)) >>= fun t5 =>
       if t5.1.1 = true then
         some ((i16, ((23 : Int), ())), ())
       else
         runF_z88 n (.p8382780 i16 (IntKind.wrap .i64 (k18 + (1 : Int))) B0_0 B0_1 B0_2 B0_3 B0_4 B0_5 B0_6 B1_0 B1_1)
   else
     runF_z88 n (.p16372 (IntKind.wrap .i64 (i16 + (1 : Int))) B0_0 B0_1 B0_2 B0_3 B0_4 B0_5 B0_6)
theorem runF_z88_le : ∀ (n : Nat) (p : P_z88), OLe (runF_z88 n p) (run_z88 p) := by
  intro n
  induction n with
  | zero => exact fun p r h => by cases h
  | succ n ih =>
    intro p
    cases p <;> rw [run_z88, runF_z88] <;> repeat' first | with_reducible refine OLe.bind ?_ (fun _ => ?_) | with_reducible refine OLe.ite ?_ ?_ | with_reducible exact runF_z12_le n _ | with_reducible exact runF_z74_le n _ | with_reducible exact runF_z76_le n _ | with_reducible exact runF_z77_le n _ | with_reducible exact runF_z78_le n _ | with_reducible exact runF_z82_le n _ | with_reducible exact runF_z84_le n _ | with_reducible exact runF_z85_le n _ | with_reducible exact runF_z86_le n _ | with_reducible exact runF_z87_le n _ | with_reducible exact ih _ | with_reducible exact OLe.refl _
end Go.Proofs.YtjededkgblbamaaGreatDoor.Ev.F
