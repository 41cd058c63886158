/- PRINTED by wip/gen/evp.py: what the functions come to. -/
import Derived.Test.YtjededkgblbamaaGreatDoorCF2
import Derived.Test.YtjededkgblbamaaGreatDoorCEvFuel
set_option linter.unusedVariables false
set_option maxRecDepth 100000
namespace Go.Proofs.YtjededkgblbamaaGreatDoor.Ev.F
open Go.Proofs Go.Proofs.YtjededkgblbamaaGreatDoor.Ev

noncomputable def runF_ratchetbase_CopyInts : Nat → P_ratchetbase_CopyInts → Option R_ratchetbase_CopyInts
 | 0, _ => none
 | n + 1, .start l0 =>
   if (fits (List.length ([] : List Int)) (List.length l0) 8) = true then
     some (((), ()), (([] : List Int) ++ l0, ()))
   else none
theorem runF_ratchetbase_CopyInts_le : ∀ (n : Nat) (p : P_ratchetbase_CopyInts), OLe (runF_ratchetbase_CopyInts n p) (run_ratchetbase_CopyInts p) := by
  intro n
  induction n with
  | zero => exact fun p r h => by cases h
  | succ n ih =>
    intro p
    cases p <;> rw [run_ratchetbase_CopyInts, runF_ratchetbase_CopyInts] <;> repeat' first | refine OLe.bind ?_ (fun _ => ?_) | refine OLe.ite ?_ ?_ | exact ih _ | exact OLe.refl _
noncomputable def runF_machine_within : Nat → P_machine_within → Option R_machine_within
 | 0, _ => none
 | n + 1, .start n0 lo1 hi2 =>
   if (decide (lo1 ≤ n0)) = true then
     some ((decide (n0 ≤ hi2), ()), ())
   else
     some ((false, ()), ())
theorem runF_machine_within_le : ∀ (n : Nat) (p : P_machine_within), OLe (runF_machine_within n p) (run_machine_within p) := by
  intro n
  induction n with
  | zero => exact fun p r h => by cases h
  | succ n ih =>
    intro p
    cases p <;> rw [run_machine_within, runF_machine_within] <;> repeat' first | refine OLe.bind ?_ (fun _ => ?_) | refine OLe.ite ?_ ?_ | exact ih _ | exact OLe.refl _
noncomputable def runF_machine_unless : Nat → P_machine_unless → Option R_machine_unless
 | 0, _ => none
 | n + 1, .start right0 e1 =>
   if right0 = true then
     some (((0 : Int), ()), ())
   else
     some ((e1, ()), ())
theorem runF_machine_unless_le : ∀ (n : Nat) (p : P_machine_unless), OLe (runF_machine_unless n p) (run_machine_unless p) := by
  intro n
  induction n with
  | zero => exact fun p r h => by cases h
  | succ n ih =>
    intro p
    cases p <;> rw [run_machine_unless, runF_machine_unless] <;> repeat' first | refine OLe.bind ?_ (fun _ => ?_) | refine OLe.ite ?_ ?_ | exact ih _ | exact OLe.refl _
noncomputable def runF_machine_lineErr : Nat → P_machine_lineErr → Option R_machine_lineErr
 | 0, _ => none
 | n + 1, .start width0 =>
   (runF_machine_within n (.start width0 (1 : Int) (3 : Int))) >>= fun t1 =>
   (runF_machine_unless n (.start t1.1.1 (2 : Int))) >>= fun t2 =>
   some ((t2.1.1, ()), ())
theorem runF_machine_lineErr_le : ∀ (n : Nat) (p : P_machine_lineErr), OLe (runF_machine_lineErr n p) (run_machine_lineErr p) := by
  intro n
  induction n with
  | zero => exact fun p r h => by cases h
  | succ n ih =>
    intro p
    cases p <;> rw [run_machine_lineErr, runF_machine_lineErr] <;> repeat' first | refine OLe.bind ?_ (fun _ => ?_) | refine OLe.ite ?_ ?_ | exact runF_machine_within_le n _ | exact runF_machine_unless_le n _ | exact ih _ | exact OLe.refl _
noncomputable def runF_machine_valuesErr_1 : Nat → P_machine_valuesErr_1 → Option R_machine_valuesErr_1
 | 0, _ => none
 | n + 1, .start i0 n1 s2 =>
   (idx s2 i0) >>= fun t1 =>
   if (decide ((0 : Int) ≤ t1)) = true then
     (runF_machine_within n (.start n1 (0 : Int) (IntKind.wrap .i64 ((shl .i64 (1 : Int) t1) - (1 : Int))))) >>= fun t2 =>
     (runF_machine_unless n (.start t2.1.1 (2 : Int))) >>= fun t3 =>
     some ((t3.1.1, ()), ())
   else none
theorem runF_machine_valuesErr_1_le : ∀ (n : Nat) (p : P_machine_valuesErr_1), OLe (runF_machine_valuesErr_1 n p) (run_machine_valuesErr_1 p) := by
  intro n
  induction n with
  | zero => exact fun p r h => by cases h
  | succ n ih =>
    intro p
    cases p <;> rw [run_machine_valuesErr_1, runF_machine_valuesErr_1] <;> repeat' first | refine OLe.bind ?_ (fun _ => ?_) | refine OLe.ite ?_ ?_ | exact runF_machine_within_le n _ | exact runF_machine_unless_le n _ | exact ih _ | exact OLe.refl _
noncomputable def runF_machine_each_int : Nat → P_machine_each_int → Option R_machine_each_int
 | 0, _ => none
 | n + 1, .start l0 B0 =>
   runF_machine_each_int n (.p52 l0 (List.length l0 : Int) (0 : Int) B0)
 | n + 1, .p52 s9 s10 s11 B0 =>
   if (decide (s11 < s10)) = true then
     (idx s9 s11) >>= fun t1 =>
     (runF_machine_valuesErr_1 n (.start s11 t1 B0)) >>= fun t2 =>
     if (t2.1.1 != (0 : Int)) = true then
       some ((s11, (t2.1.1, ())), ((B0, ()), ()))
     else
       runF_machine_each_int n (.p52 s9 s10 (IntKind.wrap .i64 (s11 + (1 : Int))) B0)
   else
     some (((0 : Int), ((0 : Int), ())), ((B0, ()), ()))
theorem runF_machine_each_int_le : ∀ (n : Nat) (p : P_machine_each_int), OLe (runF_machine_each_int n p) (run_machine_each_int p) := by
  intro n
  induction n with
  | zero => exact fun p r h => by cases h
  | succ n ih =>
    intro p
    cases p <;> rw [run_machine_each_int, runF_machine_each_int] <;> repeat' first | refine OLe.bind ?_ (fun _ => ?_) | refine OLe.ite ?_ ?_ | exact runF_machine_valuesErr_1_le n _ | exact ih _ | exact OLe.refl _
noncomputable def runF_machine_valuesErr : Nat → P_machine_valuesErr → Option R_machine_valuesErr
 | 0, _ => none
 | n + 1, .start l0 widths1 =>
   if ((List.length l0 : Int) != (List.length widths1 : Int)) = true then
     some (((10 : Int), ()), ())
   else
     (runF_machine_each_int n (.start l0 widths1)) >>= fun t1 =>
     some ((t1.1.2.1, ()), ())
theorem runF_machine_valuesErr_le : ∀ (n : Nat) (p : P_machine_valuesErr), OLe (runF_machine_valuesErr n p) (run_machine_valuesErr p) := by
  intro n
  induction n with
  | zero => exact fun p r h => by cases h
  | succ n ih =>
    intro p
    cases p <;> rw [run_machine_valuesErr, runF_machine_valuesErr] <;> repeat' first | refine OLe.bind ?_ (fun _ => ?_) | refine OLe.ite ?_ ?_ | exact runF_machine_each_int_le n _ | exact ih _ | exact OLe.refl _
noncomputable def runF_machine_kindAt : Nat → P_machine_kindAt → Option R_machine_kindAt
 | 0, _ => none
 | n + 1, .start core0 =>
   some ((IntKind.wrap .i64 ((1 : Int) + (IntKind.wrap .i64 ((2 : Int) * core0))), ()), ())
theorem runF_machine_kindAt_le : ∀ (n : Nat) (p : P_machine_kindAt), OLe (runF_machine_kindAt n p) (run_machine_kindAt p) := by
  intro n
  induction n with
  | zero => exact fun p r h => by cases h
  | succ n ih =>
    intro p
    cases p <;> rw [run_machine_kindAt, runF_machine_kindAt] <;> repeat' first | refine OLe.bind ?_ (fun _ => ?_) | refine OLe.ite ?_ ?_ | exact ih _ | exact OLe.refl _
noncomputable def runF_machine_lineAt : Nat → P_machine_lineAt → Option R_machine_lineAt
 | 0, _ => none
 | n + 1, .start core0 =>
   some ((IntKind.wrap .i64 ((2 : Int) + (IntKind.wrap .i64 ((2 : Int) * core0))), ()), ())
theorem runF_machine_lineAt_le : ∀ (n : Nat) (p : P_machine_lineAt), OLe (runF_machine_lineAt n p) (run_machine_lineAt p) := by
  intro n
  induction n with
  | zero => exact fun p r h => by cases h
  | succ n ih =>
    intro p
    cases p <;> rw [run_machine_lineAt, runF_machine_lineAt] <;> repeat' first | refine OLe.bind ?_ (fun _ => ?_) | refine OLe.ite ?_ ?_ | exact ih _ | exact OLe.refl _
noncomputable def runF_machine_IsCoherent : Nat → P_machine_IsCoherent → Option R_machine_IsCoherent
 | 0, _ => none
 | n + 1, .start width0 state1 =>
   (runF_machine_lineErr n (.start width0)) >>= fun t1 =>
   if (t1.1.1 != (0 : Int)) = true then
     some ((false, (t1.1.1, ())), ())
   else
     (runF_machine_valuesErr n (.start state1 ([width0, (2 : Int), width0, (2 : Int), width0] : List Int))) >>= fun t2 =>
     if (t2.1.1 != (0 : Int)) = true then
       some ((false, (t2.1.1, ())), ())
     else
       (runF_machine_kindAt n (.start (0 : Int))) >>= fun t3 =>
       (idx state1 t3.1.1) >>= fun t4 =>
       (runF_machine_kindAt n (.start (1 : Int))) >>= fun t5 =>
       (idx state1 t5.1.1) >>= fun t6 =>
       if (decide (t4 ≤ (2 : Int))) = true then
         if (decide (t6 ≤ (2 : Int))) = true then
           runF_machine_IsCoherent n (.p63 state1 (decide ((IntKind.wrap .i64 (t4 + t6)) ≤ (2 : Int))))
         else
           runF_machine_IsCoherent n (.p63 state1 false)
       else
         runF_machine_IsCoherent n (.p63 state1 false)
 | n + 1, .p63 state1 coherent10 =>
   runF_machine_IsCoherent n (.p1012 state1 coherent10 (0 : Int))
 | n + 1, .p1012 state1 coherent10 s46 =>
   if (decide (s46 < (2 : Int))) = true then
     if coherent10 = true then
       (runF_machine_kindAt n (.start s46)) >>= fun t1 =>
       (idx state1 t1.1.1) >>= fun t2 =>
       if (t2 != (1 : Int)) = true then
         runF_machine_IsCoherent n (.p1012 state1 true (IntKind.wrap .i64 (s46 + (1 : Int))))
       else
         (runF_machine_lineAt n (.start s46)) >>= fun t3 =>
         (idx state1 t3.1.1) >>= fun t4 =>
         (idx state1 (0 : Int)) >>= fun t5 =>
         runF_machine_IsCoherent n (.p1012 state1 (t4 == t5) (IntKind.wrap .i64 (s46 + (1 : Int))))
     else
       runF_machine_IsCoherent n (.p1012 state1 false (IntKind.wrap .i64 (s46 + (1 : Int))))
   else
     some ((coherent10, ((0 : Int), ())), ())
theorem runF_machine_IsCoherent_le : ∀ (n : Nat) (p : P_machine_IsCoherent), OLe (runF_machine_IsCoherent n p) (run_machine_IsCoherent p) := by
  intro n
  induction n with
  | zero => exact fun p r h => by cases h
  | succ n ih =>
    intro p
    cases p <;> rw [run_machine_IsCoherent, runF_machine_IsCoherent] <;> repeat' first | refine OLe.bind ?_ (fun _ => ?_) | refine OLe.ite ?_ ?_ | exact runF_machine_lineErr_le n _ | exact runF_machine_valuesErr_le n _ | exact runF_machine_kindAt_le n _ | exact runF_machine_lineAt_le n _ | exact ih _ | exact OLe.refl _
noncomputable def runF_ratchetbase_Within : Nat → P_ratchetbase_Within → Option R_ratchetbase_Within
 | 0, _ => none
 | n + 1, .start n0 lo1 hi2 =>
   if (decide (lo1 ≤ n0)) = true then
     some ((decide (n0 ≤ hi2), ()), ())
   else
     some ((false, ()), ())
theorem runF_ratchetbase_Within_le : ∀ (n : Nat) (p : P_ratchetbase_Within), OLe (runF_ratchetbase_Within n p) (run_ratchetbase_Within p) := by
  intro n
  induction n with
  | zero => exact fun p r h => by cases h
  | succ n ih =>
    intro p
    cases p <;> rw [run_ratchetbase_Within, runF_ratchetbase_Within] <;> repeat' first | refine OLe.bind ?_ (fun _ => ?_) | refine OLe.ite ?_ ?_ | exact ih _ | exact OLe.refl _
noncomputable def runF_ratchetref31_WidthErr : Nat → P_ratchetref31_WidthErr → Option R_ratchetref31_WidthErr
 | 0, _ => none
 | n + 1, .start width0 =>
   (runF_ratchetbase_Within n (.start width0 (1 : Int) (3 : Int))) >>= fun t1 =>
   if (!t1.1.1) = true then
     some (((2 : Int), ()), ())
   else
     some (((0 : Int), ()), ())
theorem runF_ratchetref31_WidthErr_le : ∀ (n : Nat) (p : P_ratchetref31_WidthErr), OLe (runF_ratchetref31_WidthErr n p) (run_ratchetref31_WidthErr p) := by
  intro n
  induction n with
  | zero => exact fun p r h => by cases h
  | succ n ih =>
    intro p
    cases p <;> rw [run_ratchetref31_WidthErr, runF_ratchetref31_WidthErr] <;> repeat' first | refine OLe.bind ?_ (fun _ => ?_) | refine OLe.ite ?_ ?_ | exact runF_ratchetbase_Within_le n _ | exact ih _ | exact OLe.refl _
noncomputable def runF_ratchetbase_Power : Nat → P_ratchetbase_Power → Option R_ratchetbase_Power
 | 0, _ => none
 | n + 1, .start n0 =>
   if (decide ((0 : Int) ≤ n0)) = true then
     some ((shl .i64 (1 : Int) n0, ()), ())
   else none
theorem runF_ratchetbase_Power_le : ∀ (n : Nat) (p : P_ratchetbase_Power), OLe (runF_ratchetbase_Power n p) (run_ratchetbase_Power p) := by
  intro n
  induction n with
  | zero => exact fun p r h => by cases h
  | succ n ih =>
    intro p
    cases p <;> rw [run_ratchetbase_Power, runF_ratchetbase_Power] <;> repeat' first | refine OLe.bind ?_ (fun _ => ?_) | refine OLe.ite ?_ ?_ | exact ih _ | exact OLe.refl _
noncomputable def runF_ratchetbase_Fits : Nat → P_ratchetbase_Fits → Option R_ratchetbase_Fits
 | 0, _ => none
 | n + 1, .start n0 width1 =>
   (runF_ratchetbase_Power n (.start width1)) >>= fun t1 =>
   (runF_ratchetbase_Within n (.start n0 (0 : Int) (IntKind.wrap .i64 (t1.1.1 - (1 : Int))))) >>= fun t2 =>
   some ((t2.1.1, ()), ())
theorem runF_ratchetbase_Fits_le : ∀ (n : Nat) (p : P_ratchetbase_Fits), OLe (runF_ratchetbase_Fits n p) (run_ratchetbase_Fits p) := by
  intro n
  induction n with
  | zero => exact fun p r h => by cases h
  | succ n ih =>
    intro p
    cases p <;> rw [run_ratchetbase_Fits, runF_ratchetbase_Fits] <;> repeat' first | refine OLe.bind ?_ (fun _ => ?_) | refine OLe.ite ?_ ?_ | exact runF_ratchetbase_Within_le n _ | exact runF_ratchetbase_Power_le n _ | exact ih _ | exact OLe.refl _
noncomputable def runF_ratchetbase_IsValues : Nat → P_ratchetbase_IsValues → Option R_ratchetbase_IsValues
 | 0, _ => none
 | n + 1, .start widths0 values1 =>
   if ((List.length widths0 : Int) != (List.length values1 : Int)) = true then
     some ((false, ()), ())
   else
     runF_ratchetbase_IsValues n (.p116 widths0 values1 (0 : Int))
 | n + 1, .p116 widths0 values1 i5 =>
   if (decide (i5 < (List.length values1 : Int))) = true then
     (idx values1 i5) >>= fun t1 =>
     (idx widths0 i5) >>= fun t2 =>
     (runF_ratchetbase_Fits n (.start t1 t2)) >>= fun t3 =>
     if (!t3.1.1) = true then
       some ((false, ()), ())
     else
       runF_ratchetbase_IsValues n (.p116 widths0 values1 (IntKind.wrap .i64 (i5 + (1 : Int))))
   else
     some ((true, ()), ())
theorem runF_ratchetbase_IsValues_le : ∀ (n : Nat) (p : P_ratchetbase_IsValues), OLe (runF_ratchetbase_IsValues n p) (run_ratchetbase_IsValues p) := by
  intro n
  induction n with
  | zero => exact fun p r h => by cases h
  | succ n ih =>
    intro p
    cases p <;> rw [run_ratchetbase_IsValues, runF_ratchetbase_IsValues] <;> repeat' first | refine OLe.bind ?_ (fun _ => ?_) | refine OLe.ite ?_ ?_ | exact runF_ratchetbase_Fits_le n _ | exact ih _ | exact OLe.refl _
noncomputable def runF_ratchetref31_CacheErr : Nat → P_ratchetref31_CacheErr → Option R_ratchetref31_CacheErr
 | 0, _ => none
 | n + 1, .start width0 state1 =>
   (runF_ratchetref31_WidthErr n (.start width0)) >>= fun t1 =>
   if (t1.1.1 != (0 : Int)) = true then
     some ((t1.1.1, ()), ())
   else
     if ((List.length state1 : Int) != (List.length ([width0, (2 : Int), width0, (2 : Int), width0] : List Int) : Int)) = true then
       some (((10 : Int), ()), ())
     else
       (runF_ratchetbase_IsValues n (.start ([width0, (2 : Int), width0, (2 : Int), width0] : List Int) state1)) >>= fun t2 =>
       if (!t2.1.1) = true then
         some (((2 : Int), ()), ())
       else
         some (((0 : Int), ()), ())
theorem runF_ratchetref31_CacheErr_le : ∀ (n : Nat) (p : P_ratchetref31_CacheErr), OLe (runF_ratchetref31_CacheErr n p) (run_ratchetref31_CacheErr p) := by
  intro n
  induction n with
  | zero => exact fun p r h => by cases h
  | succ n ih =>
    intro p
    cases p <;> rw [run_ratchetref31_CacheErr, runF_ratchetref31_CacheErr] <;> repeat' first | refine OLe.bind ?_ (fun _ => ?_) | refine OLe.ite ?_ ?_ | exact runF_ratchetref31_WidthErr_le n _ | exact runF_ratchetbase_IsValues_le n _ | exact ih _ | exact OLe.refl _
noncomputable def runF_ratchetref31_IsCoherent : Nat → P_ratchetref31_IsCoherent → Option R_ratchetref31_IsCoherent
 | 0, _ => none
 | n + 1, .start s0 =>
   (idx s0 (1 : Int)) >>= fun t1 =>
   if (t1 == (3 : Int)) = true then
     some ((false, ()), ())
   else
     (idx s0 (3 : Int)) >>= fun t2 =>
     if (t2 == (3 : Int)) = true then
       some ((false, ()), ())
     else
       (idx s0 (1 : Int)) >>= fun t3 =>
       if (t3 == (2 : Int)) = true then
         (idx s0 (3 : Int)) >>= fun t4 =>
         if (decide (t4 > (0 : Int))) = true then
           some ((false, ()), ())
         else
           (idx s0 (3 : Int)) >>= fun t5 =>
           if (t5 == (2 : Int)) = true then
             (idx s0 (1 : Int)) >>= fun t6 =>
             if (decide (t6 > (0 : Int))) = true then
               some ((false, ()), ())
             else
               runF_ratchetref31_IsCoherent n (.p7 s0)
           else
             runF_ratchetref31_IsCoherent n (.p7 s0)
       else
         (idx s0 (3 : Int)) >>= fun t7 =>
         if (t7 == (2 : Int)) = true then
           (idx s0 (1 : Int)) >>= fun t8 =>
           if (decide (t8 > (0 : Int))) = true then
             some ((false, ()), ())
           else
             runF_ratchetref31_IsCoherent n (.p7 s0)
         else
           runF_ratchetref31_IsCoherent n (.p7 s0)
 | n + 1, .p7 s0 =>
   (idx s0 (1 : Int)) >>= fun t1 =>
   if (t1 != (1 : Int)) = true then
     (idx s0 (3 : Int)) >>= fun t2 =>
     if (t2 != (1 : Int)) = true then
       some ((true, ()), ())
     else
       (idx s0 (4 : Int)) >>= fun t3 =>
       (idx s0 (0 : Int)) >>= fun t4 =>
       some ((t3 == t4, ()), ())
   else
     (idx s0 (2 : Int)) >>= fun t5 =>
     (idx s0 (0 : Int)) >>= fun t6 =>
     if (t5 == t6) = true then
       (idx s0 (3 : Int)) >>= fun t7 =>
       if (t7 != (1 : Int)) = true then
         some ((true, ()), ())
       else
         (idx s0 (4 : Int)) >>= fun t8 =>
         (idx s0 (0 : Int)) >>= fun t9 =>
         some ((t8 == t9, ()), ())
     else
       some ((false, ()), ())
theorem runF_ratchetref31_IsCoherent_le : ∀ (n : Nat) (p : P_ratchetref31_IsCoherent), OLe (runF_ratchetref31_IsCoherent n p) (run_ratchetref31_IsCoherent p) := by
  intro n
  induction n with
  | zero => exact fun p r h => by cases h
  | succ n ih =>
    intro p
    cases p <;> rw [run_ratchetref31_IsCoherent, runF_ratchetref31_IsCoherent] <;> repeat' first | refine OLe.bind ?_ (fun _ => ?_) | refine OLe.ite ?_ ?_ | exact ih _ | exact OLe.refl _
noncomputable def runF_machine_builder_node : Nat → P_machine_builder_node → Option R_machine_builder_node
 | 0, _ => none
 | n + 1, .start op1 width2 value3 args4 B0 B1 =>
   runF_machine_builder_node n (.p116 op1 width2 value3 args4 (List.length args4 : Int) (0 : Int) B0 (0 : Int) (0 : Int) ([] : List Int) B1)
 | n + 1, .p116 op1 width2 value3 s14 s15 s16 B0 B2_0 B2_1 B3 B4 =>
   if (decide (s16 < s15)) = true then
     (idx s14 s16) >>= fun t1 =>
     if (fits (List.length B3) (List.length ([t1.node] : List Int)) 8) = true then
       runF_machine_builder_node n (.p116 op1 width2 value3 s14 s15 (IntKind.wrap .i64 (s16 + (1 : Int))) B0 B2_0 B2_1 (B3 ++ ([t1.node] : List Int)) B4)
     else none
   else
     if (fits (List.length ([] : List api_Node)) (List.length ([(⟨op1, width2, B3, value3⟩ : api_Node)] : List api_Node)) 48) = true then
       some (((IntKind.wrap .i64 ((List.length (([] : List api_Node) ++ ([(⟨op1, width2, B3, value3⟩ : api_Node)] : List api_Node)) : Int) - (1 : Int)), (width2, ())), ()), ((B0, ((), ((), ((), ((), ((), ((), ()))))))), (B4, (([] : List api_Node) ++ ([(⟨op1, width2, B3, value3⟩ : api_Node)] : List api_Node), ()))))
     else none
theorem runF_machine_builder_node_le : ∀ (n : Nat) (p : P_machine_builder_node), OLe (runF_machine_builder_node n p) (run_machine_builder_node p) := by
  intro n
  induction n with
  | zero => exact fun p r h => by cases h
  | succ n ih =>
    intro p
    cases p <;> rw [run_machine_builder_node, runF_machine_builder_node] <;> repeat' first | refine OLe.bind ?_ (fun _ => ?_) | refine OLe.ite ?_ ?_ | exact ih _ | exact OLe.refl _
noncomputable def runF_machine_builder_register : Nat → P_machine_builder_register → Option R_machine_builder_register
 | 0, _ => none
 | n + 1, .start name1 width2 init3 B0 =>
   if (fits (List.length ([] : List api_Element)) (List.length ([(⟨name1, (0 : Int), width2, init3, (0 : Int)⟩ : api_Element)] : List api_Element)) 48) = true then
     (runF_machine_builder_node n (.start (1 : Int) width2 (0 : Int) ([]) B0 (([] : List api_Element) ++ ([(⟨name1, (0 : Int), width2, init3, (0 : Int)⟩ : api_Element)] : List api_Element)))) >>= fun t1 =>
     some (((t1.1.1.1, (t1.1.1.2.1, ())), ()), ((t1.2.1.1, ((), ((), ((), ((), ((), ((), ()))))))), (t1.2.2.1, (t1.2.2.2.1, ()))))
   else none
theorem runF_machine_builder_register_le : ∀ (n : Nat) (p : P_machine_builder_register), OLe (runF_machine_builder_register n p) (run_machine_builder_register p) := by
  intro n
  induction n with
  | zero => exact fun p r h => by cases h
  | succ n ih =>
    intro p
    cases p <;> rw [run_machine_builder_register, runF_machine_builder_register] <;> repeat' first | refine OLe.bind ?_ (fun _ => ?_) | refine OLe.ite ?_ ?_ | exact runF_machine_builder_node_le n _ | exact ih _ | exact OLe.refl _
noncomputable def runF_machine_builder_node_v1 : Nat → P_machine_builder_node_v1 → Option R_machine_builder_node_v1
 | 0, _ => none
 | n + 1, .start op1 width2 value3 args4 B0 B1 B2 =>
   runF_machine_builder_node_v1 n (.p116 op1 width2 value3 args4 (List.length args4 : Int) (0 : Int) B0 (0 : Int) (0 : Int) ([] : List Int) B1 B2)
 | n + 1, .p116 op1 width2 value3 s14 s15 s16 B0 B2_0 B2_1 B3 B4 B5 =>
   if (decide (s16 < s15)) = true then
     (idx s14 s16) >>= fun t1 =>
     if (fits (List.length B3) (List.length ([t1.node] : List Int)) 8) = true then
       runF_machine_builder_node_v1 n (.p116 op1 width2 value3 s14 s15 (IntKind.wrap .i64 (s16 + (1 : Int))) B0 B2_0 B2_1 (B3 ++ ([t1.node] : List Int)) B4 B5)
     else none
   else
     if (fits (List.length B5) (List.length ([(⟨op1, width2, B3, value3⟩ : api_Node)] : List api_Node)) 48) = true then
       some (((IntKind.wrap .i64 ((List.length (B5 ++ ([(⟨op1, width2, B3, value3⟩ : api_Node)] : List api_Node)) : Int) - (1 : Int)), (width2, ())), ()), ((B0, ((), ((), ((), ((), ((), ((), ()))))))), (B4, (B5 ++ ([(⟨op1, width2, B3, value3⟩ : api_Node)] : List api_Node), ()))))
     else none
theorem runF_machine_builder_node_v1_le : ∀ (n : Nat) (p : P_machine_builder_node_v1), OLe (runF_machine_builder_node_v1 n p) (run_machine_builder_node_v1 p) := by
  intro n
  induction n with
  | zero => exact fun p r h => by cases h
  | succ n ih =>
    intro p
    cases p <;> rw [run_machine_builder_node_v1, runF_machine_builder_node_v1] <;> repeat' first | refine OLe.bind ?_ (fun _ => ?_) | refine OLe.ite ?_ ?_ | exact ih _ | exact OLe.refl _
noncomputable def runF_machine_builder_register_v1 : Nat → P_machine_builder_register_v1 → Option R_machine_builder_register_v1
 | 0, _ => none
 | n + 1, .start name1 width2 init3 B0 B1 B2 =>
   if (fits (List.length B1) (List.length ([(⟨name1, (0 : Int), width2, init3, (0 : Int)⟩ : api_Element)] : List api_Element)) 48) = true then
     (runF_machine_builder_node_v1 n (.start (1 : Int) width2 (List.length B1 : Int) ([]) B0 (B1 ++ ([(⟨name1, (0 : Int), width2, init3, (0 : Int)⟩ : api_Element)] : List api_Element)) B2)) >>= fun t1 =>
     some (((t1.1.1.1, (t1.1.1.2.1, ())), ()), ((t1.2.1.1, ((), ((), ((), ((), ((), ((), ()))))))), (t1.2.2.1, (t1.2.2.2.1, ()))))
   else none
theorem runF_machine_builder_register_v1_le : ∀ (n : Nat) (p : P_machine_builder_register_v1), OLe (runF_machine_builder_register_v1 n p) (run_machine_builder_register_v1 p) := by
  intro n
  induction n with
  | zero => exact fun p r h => by cases h
  | succ n ih =>
    intro p
    cases p <;> rw [run_machine_builder_register_v1, runF_machine_builder_register_v1] <;> repeat' first | refine OLe.bind ?_ (fun _ => ?_) | refine OLe.ite ?_ ?_ | exact runF_machine_builder_node_v1_le n _ | exact ih _ | exact OLe.refl _
noncomputable def runF_machine_builder_constant : Nat → P_machine_builder_constant → Option R_machine_builder_constant
 | 0, _ => none
 | n + 1, .start width1 value2 B0 B1 B2 =>
   (runF_machine_builder_node_v1 n (.start (0 : Int) width1 value2 ([]) B0 B1 B2)) >>= fun t1 =>
   some (((t1.1.1.1, (t1.1.1.2.1, ())), ()), ((t1.2.1.1, ((), ((), ((), ((), ((), ((), ()))))))), (t1.2.2.1, (t1.2.2.2.1, ()))))
theorem runF_machine_builder_constant_le : ∀ (n : Nat) (p : P_machine_builder_constant), OLe (runF_machine_builder_constant n p) (run_machine_builder_constant p) := by
  intro n
  induction n with
  | zero => exact fun p r h => by cases h
  | succ n ih =>
    intro p
    cases p <;> rw [run_machine_builder_constant, runF_machine_builder_constant] <;> repeat' first | refine OLe.bind ?_ (fun _ => ?_) | refine OLe.ite ?_ ?_ | exact runF_machine_builder_node_v1_le n _ | exact ih _ | exact OLe.refl _
noncomputable def runF_machine_builder_node_v2 : Nat → P_machine_builder_node_v2 → Option R_machine_builder_node_v2
 | 0, _ => none
 | n + 1, .start op1 width2 value3 args4 B0 B1 B2 B3 =>
   runF_machine_builder_node_v2 n (.p116 op1 width2 value3 args4 (List.length args4 : Int) (0 : Int) B0 (0 : Int) (0 : Int) ([] : List Int) B1 B2 B3)
 | n + 1, .p116 op1 width2 value3 s14 s15 s16 B0 B2_0 B2_1 B3 B4 B5 B6 =>
   if (decide (s16 < s15)) = true then
     (idx s14 s16) >>= fun t1 =>
     if (fits (List.length B3) (List.length ([t1.node] : List Int)) 8) = true then
       runF_machine_builder_node_v2 n (.p116 op1 width2 value3 s14 s15 (IntKind.wrap .i64 (s16 + (1 : Int))) B0 B2_0 B2_1 (B3 ++ ([t1.node] : List Int)) B4 B5 B6)
     else none
   else
     if (fits (List.length B5) (List.length ([(⟨op1, width2, B3, value3⟩ : api_Node)] : List api_Node)) 48) = true then
       some (((IntKind.wrap .i64 ((List.length (B5 ++ ([(⟨op1, width2, B3, value3⟩ : api_Node)] : List api_Node)) : Int) - (1 : Int)), (width2, ())), ()), ((B0, ((), ((), ((), ((), ((), ((), ()))))))), (B4, (B5 ++ ([(⟨op1, width2, B3, value3⟩ : api_Node)] : List api_Node), (B6, ())))))
     else none
theorem runF_machine_builder_node_v2_le : ∀ (n : Nat) (p : P_machine_builder_node_v2), OLe (runF_machine_builder_node_v2 n p) (run_machine_builder_node_v2 p) := by
  intro n
  induction n with
  | zero => exact fun p r h => by cases h
  | succ n ih =>
    intro p
    cases p <;> rw [run_machine_builder_node_v2, runF_machine_builder_node_v2] <;> repeat' first | refine OLe.bind ?_ (fun _ => ?_) | refine OLe.ite ?_ ?_ | exact ih _ | exact OLe.refl _
noncomputable def runF_machine_builder_constant_v1 : Nat → P_machine_builder_constant_v1 → Option R_machine_builder_constant_v1
 | 0, _ => none
 | n + 1, .start width1 value2 B0 B1 B2 B3 =>
   (runF_machine_builder_node_v2 n (.start (0 : Int) width1 value2 ([]) B0 B1 B2 B3)) >>= fun t1 =>
   some (((t1.1.1.1, (t1.1.1.2.1, ())), ()), ((t1.2.1.1, ((), ((), ((), ((), ((), ((), ()))))))), (t1.2.2.1, (t1.2.2.2.1, (t1.2.2.2.2.1, ())))))
theorem runF_machine_builder_constant_v1_le : ∀ (n : Nat) (p : P_machine_builder_constant_v1), OLe (runF_machine_builder_constant_v1 n p) (run_machine_builder_constant_v1 p) := by
  intro n
  induction n with
  | zero => exact fun p r h => by cases h
  | succ n ih =>
    intro p
    cases p <;> rw [run_machine_builder_constant_v1, runF_machine_builder_constant_v1] <;> repeat' first | refine OLe.bind ?_ (fun _ => ?_) | refine OLe.ite ?_ ?_ | exact runF_machine_builder_node_v2_le n _ | exact ih _ | exact OLe.refl _
noncomputable def runF_machine_builder_is : Nat → P_machine_builder_is → Option R_machine_builder_is
 | 0, _ => none
 | n + 1, .start x1_0 x1_1 value2 B0 B1 B2 B3 =>
   (runF_machine_builder_constant_v1 n (.start x1_1 value2 B0 B1 B2 B3)) >>= fun t1 =>
   (runF_machine_builder_node_v2 n (.start (9 : Int) (1 : Int) (0 : Int) ([(⟨x1_0, x1_1⟩ : machine_signal), (⟨t1.1.1.1, t1.1.1.2.1⟩ : machine_signal)] : List machine_signal) t1.2.1.1 t1.2.2.1 t1.2.2.2.1 t1.2.2.2.2.1)) >>= fun t2 =>
   some (((t2.1.1.1, (t2.1.1.2.1, ())), ()), ((t2.2.1.1, ((), ((), ((), ((), ((), ((), ()))))))), (t2.2.2.1, (t2.2.2.2.1, (t2.2.2.2.2.1, ())))))
theorem runF_machine_builder_is_le : ∀ (n : Nat) (p : P_machine_builder_is), OLe (runF_machine_builder_is n p) (run_machine_builder_is p) := by
  intro n
  induction n with
  | zero => exact fun p r h => by cases h
  | succ n ih =>
    intro p
    cases p <;> rw [run_machine_builder_is, runF_machine_builder_is] <;> repeat' first | refine OLe.bind ?_ (fun _ => ?_) | refine OLe.ite ?_ ?_ | exact runF_machine_builder_node_v2_le n _ | exact runF_machine_builder_constant_v1_le n _ | exact ih _ | exact OLe.refl _
noncomputable def runF_machine_builder_coreRules_1 : Nat → P_machine_builder_coreRules_1 → Option R_machine_builder_coreRules_1
 | 0, _ => none
 | n + 1, .start s0 s1 =>
   (itoaRun (s1.number, ()) ()) >>= fun t1 =>
   if (Nat.ble (s0.size + t1.1.1.size) 9223372036854775807) = true then
     some ((s0 ++ t1.1.1, ()), ())
   else none
theorem runF_machine_builder_coreRules_1_le : ∀ (n : Nat) (p : P_machine_builder_coreRules_1), OLe (runF_machine_builder_coreRules_1 n p) (run_machine_builder_coreRules_1 p) := by
  intro n
  induction n with
  | zero => exact fun p r h => by cases h
  | succ n ih =>
    intro p
    cases p <;> rw [run_machine_builder_coreRules_1, runF_machine_builder_coreRules_1] <;> repeat' first | refine OLe.bind ?_ (fun _ => ?_) | refine OLe.ite ?_ ?_ | exact ih _ | exact OLe.refl _
noncomputable def runF_machine_builder_not : Nat → P_machine_builder_not → Option R_machine_builder_not
 | 0, _ => none
 | n + 1, .start x1_0 x1_1 B0 B1 B2 B3 =>
   (runF_machine_builder_node_v2 n (.start (2 : Int) x1_1 (0 : Int) ([(⟨x1_0, x1_1⟩ : machine_signal)] : List machine_signal) B0 B1 B2 B3)) >>= fun t1 =>
   some (((t1.1.1.1, (t1.1.1.2.1, ())), ()), ((t1.2.1.1, ((), ((), ((), ((), ((), ((), ()))))))), (t1.2.2.1, (t1.2.2.2.1, (t1.2.2.2.2.1, ())))))
theorem runF_machine_builder_not_le : ∀ (n : Nat) (p : P_machine_builder_not), OLe (runF_machine_builder_not n p) (run_machine_builder_not p) := by
  intro n
  induction n with
  | zero => exact fun p r h => by cases h
  | succ n ih =>
    intro p
    cases p <;> rw [run_machine_builder_not, runF_machine_builder_not] <;> repeat' first | refine OLe.bind ?_ (fun _ => ?_) | refine OLe.ite ?_ ?_ | exact runF_machine_builder_node_v2_le n _ | exact ih _ | exact OLe.refl _
noncomputable def runF_machine_builder_and : Nat → P_machine_builder_and → Option R_machine_builder_and
 | 0, _ => none
 | n + 1, .start x1_0 x1_1 y2_0 y2_1 B0 B1 B2 B3 =>
   (runF_machine_builder_node_v2 n (.start (3 : Int) x1_1 (0 : Int) ([(⟨x1_0, x1_1⟩ : machine_signal), (⟨y2_0, y2_1⟩ : machine_signal)] : List machine_signal) B0 B1 B2 B3)) >>= fun t1 =>
   some (((t1.1.1.1, (t1.1.1.2.1, ())), ()), ((t1.2.1.1, ((), ((), ((), ((), ((), ((), ()))))))), (t1.2.2.1, (t1.2.2.2.1, (t1.2.2.2.2.1, ())))))
theorem runF_machine_builder_and_le : ∀ (n : Nat) (p : P_machine_builder_and), OLe (runF_machine_builder_and n p) (run_machine_builder_and p) := by
  intro n
  induction n with
  | zero => exact fun p r h => by cases h
  | succ n ih =>
    intro p
    cases p <;> rw [run_machine_builder_and, runF_machine_builder_and] <;> repeat' first | refine OLe.bind ?_ (fun _ => ?_) | refine OLe.ite ?_ ?_ | exact runF_machine_builder_node_v2_le n _ | exact ih _ | exact OLe.refl _
noncomputable def runF_machine_write : Nat → P_machine_write → Option R_machine_write
 | 0, _ => none
 | n + 1, .start element0 when1_0 when1_1 value2_0 value2_1 =>
   some (((element0, (when1_0, (value2_0, ()))), ()), ())
theorem runF_machine_write_le : ∀ (n : Nat) (p : P_machine_write), OLe (runF_machine_write n p) (run_machine_write p) := by
  intro n
  induction n with
  | zero => exact fun p r h => by cases h
  | succ n ih =>
    intro p
    cases p <;> rw [run_machine_write, runF_machine_write] <;> repeat' first | refine OLe.bind ?_ (fun _ => ?_) | refine OLe.ite ?_ ?_ | exact ih _ | exact OLe.refl _
noncomputable def runF_machine_builder_coreRules_2 : Nat → P_machine_builder_coreRules_2 → Option R_machine_builder_coreRules_2
 | 0, _ => none
 | n + 1, .start core0 value1 B0_0 B0_1 B2 B3 B4 B5 =>
   (runF_machine_kindAt n (.start core0)) >>= fun t1 =>
   (runF_machine_builder_constant_v1 n (.start (2 : Int) value1 B2 B3 B4 B5)) >>= fun t2 =>
   (runF_machine_write n (.start t1.1.1 B0_0 B0_1 t2.1.1.1 t2.1.1.2.1)) >>= fun t3 =>
   some (((t3.1.1.1, (t3.1.1.2.1, (t3.1.1.2.2.1, ()))), ()), ((B0_0, (B0_1, ())), (((), ()), ((t2.2.1.1, ((), ((), ((), ((), ((), ((), ()))))))), (t2.2.2.1, (t2.2.2.2.1, (t2.2.2.2.2.1, ())))))))
theorem runF_machine_builder_coreRules_2_le : ∀ (n : Nat) (p : P_machine_builder_coreRules_2), OLe (runF_machine_builder_coreRules_2 n p) (run_machine_builder_coreRules_2 p) := by
  intro n
  induction n with
  | zero => exact fun p r h => by cases h
  | succ n ih =>
    intro p
    cases p <;> rw [run_machine_builder_coreRules_2, runF_machine_builder_coreRules_2] <;> repeat' first | refine OLe.bind ?_ (fun _ => ?_) | refine OLe.ite ?_ ?_ | exact runF_machine_kindAt_le n _ | exact runF_machine_builder_constant_v1_le n _ | exact runF_machine_write_le n _ | exact ih _ | exact OLe.refl _
noncomputable def runF_machine_builder_rule : Nat → P_machine_builder_rule → Option R_machine_builder_rule
 | 0, _ => none
 | n + 1, .start name1 guard2_0 guard2_1 writes3 B0 B1 B2 B3 =>
   if (fits (List.length B3) (List.length ([(⟨name1, guard2_0, writes3⟩ : api_Rule)] : List api_Rule)) 48) = true then
     some ((), ((B0, ((), ((), ((), ((), ((), ((), ()))))))), (B1, (B2, (B3 ++ ([(⟨name1, guard2_0, writes3⟩ : api_Rule)] : List api_Rule), ())))))
   else none
theorem runF_machine_builder_rule_le : ∀ (n : Nat) (p : P_machine_builder_rule), OLe (runF_machine_builder_rule n p) (run_machine_builder_rule p) := by
  intro n
  induction n with
  | zero => exact fun p r h => by cases h
  | succ n ih =>
    intro p
    cases p <;> rw [run_machine_builder_rule, runF_machine_builder_rule] <;> repeat' first | refine OLe.bind ?_ (fun _ => ?_) | refine OLe.ite ?_ ?_ | exact ih _ | exact OLe.refl _
noncomputable def runF_machine_builder_coreRules : Nat → P_machine_builder_coreRules → Option R_machine_builder_coreRules
 | 0, _ => none
 | n + 1, .start own1_0 own1_1 own1_2 own1_3 own1_4 other2_0 other2_1 other2_2 other2_3 other2_4 memory3_0 memory3_1 one4_0 one4_1 B0 B1 B2 B3 =>
   (runF_machine_lineAt n (.start own1_0)) >>= fun t1 =>
   (runF_machine_builder_is n (.start own1_1 own1_2 (0 : Int) B0 B1 B2 B3)) >>= fun t2 =>
   (runF_machine_builder_is n (.start own1_1 own1_2 (2 : Int) t2.2.1.1 t2.2.2.1 t2.2.2.2.1 t2.2.2.2.2.1)) >>= fun t3 =>
   (runF_machine_builder_coreRules_1 n (.start (⟨#[114, 101, 97, 100]⟩ : ByteArray) (⟨own1_0, (⟨own1_1, own1_2⟩ : machine_signal), (⟨own1_3, own1_4⟩ : machine_signal)⟩ : machine_cache))) >>= fun t4 =>
   (runF_machine_builder_is n (.start other2_1 other2_2 (2 : Int) t3.2.1.1 t3.2.2.1 t3.2.2.2.1 t3.2.2.2.2.1)) >>= fun t5 =>
   (runF_machine_builder_not n (.start t5.1.1.1 t5.1.1.2.1 t5.2.1.1 t5.2.2.1 t5.2.2.2.1 t5.2.2.2.2.1)) >>= fun t6 =>
   (runF_machine_builder_and n (.start t2.1.1.1 t2.1.1.2.1 t6.1.1.1 t6.1.1.2.1 t6.2.1.1 t6.2.2.1 t6.2.2.2.1 t6.2.2.2.2.1)) >>= fun t7 =>
   (runF_machine_builder_coreRules_2 n (.start own1_0 (1 : Int) one4_0 one4_1 t7.2.1.1 t7.2.2.1 t7.2.2.2.1 t7.2.2.2.2.1)) >>= fun t8 =>
   if (((one4_0 == t8.2.1.1) && ((one4_1 == t8.2.1.2.1) && true)) && true) = true then
     (runF_machine_write n (.start t1.1.1 t8.2.1.1 t8.2.1.2.1 memory3_0 memory3_1)) >>= fun t9 =>
     (runF_machine_builder_rule n (.start t4.1.1 t7.1.1.1 t7.1.1.2.1 ([(⟨t8.1.1.1, t8.1.1.2.1, t8.1.1.2.2.1⟩ : api_Write), (⟨t9.1.1.1, t9.1.1.2.1, t9.1.1.2.2.1⟩ : api_Write)] : List api_Write) t8.2.2.2.1.1 t8.2.2.2.2.1 t8.2.2.2.2.2.1 t8.2.2.2.2.2.2.1)) >>= fun t10 =>
     (runF_machine_builder_coreRules_1 n (.start (⟨#[111, 119, 110]⟩ : ByteArray) (⟨own1_0, (⟨own1_1, own1_2⟩ : machine_signal), (⟨own1_3, own1_4⟩ : machine_signal)⟩ : machine_cache))) >>= fun t11 =>
     (runF_machine_builder_not n (.start t3.1.1.1 t3.1.1.2.1 t10.2.1.1 t10.2.2.1 t10.2.2.2.1 t10.2.2.2.2.1)) >>= fun t12 =>
     (runF_machine_builder_is n (.start other2_1 other2_2 (0 : Int) t12.2.1.1 t12.2.2.1 t12.2.2.2.1 t12.2.2.2.2.1)) >>= fun t13 =>
     (runF_machine_builder_and n (.start t12.1.1.1 t12.1.1.2.1 t13.1.1.1 t13.1.1.2.1 t13.2.1.1 t13.2.2.1 t13.2.2.2.1 t13.2.2.2.2.1)) >>= fun t14 =>
     (runF_machine_builder_coreRules_2 n (.start own1_0 (2 : Int) t8.2.1.1 t8.2.1.2.1 t14.2.1.1 t14.2.2.1 t14.2.2.2.1 t14.2.2.2.2.1)) >>= fun t15 =>
     if (((t8.2.1.1 == t15.2.1.1) && ((t8.2.1.2.1 == t15.2.1.2.1) && true)) && true) = true then
       (runF_machine_write n (.start t1.1.1 t2.1.1.1 t2.1.1.2.1 memory3_0 memory3_1)) >>= fun t16 =>
       (runF_machine_builder_rule n (.start t11.1.1 t14.1.1.1 t14.1.1.2.1 ([(⟨t15.1.1.1, t15.1.1.2.1, t15.1.1.2.2.1⟩ : api_Write), (⟨t16.1.1.1, t16.1.1.2.1, t16.1.1.2.2.1⟩ : api_Write)] : List api_Write) t15.2.2.2.1.1 t15.2.2.2.2.1 t15.2.2.2.2.2.1 t15.2.2.2.2.2.2.1)) >>= fun t17 =>
       (runF_machine_builder_constant_v1 n (.start own1_4 (1 : Int) t17.2.1.1 t17.2.2.1 t17.2.2.2.1 t17.2.2.2.2.1)) >>= fun t18 =>
       (runF_machine_builder_node_v2 n (.start (6 : Int) own1_4 (0 : Int) ([(⟨own1_3, own1_4⟩ : machine_signal), (⟨t18.1.1.1, t18.1.1.2.1⟩ : machine_signal)] : List machine_signal) t18.2.1.1 t18.2.2.1 t18.2.2.2.1 t18.2.2.2.2.1)) >>= fun t19 =>
       (runF_machine_builder_coreRules_1 n (.start (⟨#[119, 114, 105, 116, 101]⟩ : ByteArray) (⟨own1_0, (⟨own1_1, own1_2⟩ : machine_signal), (⟨own1_3, own1_4⟩ : machine_signal)⟩ : machine_cache))) >>= fun t20 =>
       (runF_machine_write n (.start t1.1.1 t15.2.1.1 t15.2.1.2.1 t19.1.1.1 t19.1.1.2.1)) >>= fun t21 =>
       (runF_machine_builder_rule n (.start t20.1.1 t3.1.1.1 t3.1.1.2.1 ([(⟨t21.1.1.1, t21.1.1.2.1, t21.1.1.2.2.1⟩ : api_Write)] : List api_Write) t19.2.1.1 t19.2.2.1 t19.2.2.2.1 t19.2.2.2.2.1)) >>= fun t22 =>
       (runF_machine_builder_coreRules_1 n (.start (⟨#[100, 114, 111, 112]⟩ : ByteArray) (⟨own1_0, (⟨own1_1, own1_2⟩ : machine_signal), (⟨own1_3, own1_4⟩ : machine_signal)⟩ : machine_cache))) >>= fun t23 =>
       (runF_machine_builder_is n (.start own1_1 own1_2 (1 : Int) t22.2.1.1 t22.2.2.1 t22.2.2.2.1 t22.2.2.2.2.1)) >>= fun t24 =>
       (runF_machine_builder_coreRules_2 n (.start own1_0 (0 : Int) t15.2.1.1 t15.2.1.2.1 t24.2.1.1 t24.2.2.1 t24.2.2.2.1 t24.2.2.2.2.1)) >>= fun t25 =>
       if (((t15.2.1.1 == t25.2.1.1) && ((t15.2.1.2.1 == t25.2.1.2.1) && true)) && true) = true then
         (runF_machine_builder_rule n (.start t23.1.1 t24.1.1.1 t24.1.1.2.1 ([(⟨t25.1.1.1, t25.1.1.2.1, t25.1.1.2.2.1⟩ : api_Write)] : List api_Write) t25.2.2.2.1.1 t25.2.2.2.2.1 t25.2.2.2.2.2.1 t25.2.2.2.2.2.2.1)) >>= fun t26 =>
         (runF_machine_builder_coreRules_1 n (.start (⟨#[98, 97, 99, 107]⟩ : ByteArray) (⟨own1_0, (⟨own1_1, own1_2⟩ : machine_signal), (⟨own1_3, own1_4⟩ : machine_signal)⟩ : machine_cache))) >>= fun t27 =>
         (runF_machine_builder_coreRules_2 n (.start own1_0 (1 : Int) t25.2.1.1 t25.2.1.2.1 t26.2.1.1 t26.2.2.1 t26.2.2.2.1 t26.2.2.2.2.1)) >>= fun t28 =>
         if (((t25.2.1.1 == t28.2.1.1) && ((t25.2.1.2.1 == t28.2.1.2.1) && true)) && true) = true then
           (runF_machine_write n (.start (0 : Int) t28.2.1.1 t28.2.1.2.1 own1_3 own1_4)) >>= fun t29 =>
           (runF_machine_builder_rule n (.start t27.1.1 t3.1.1.1 t3.1.1.2.1 ([(⟨t28.1.1.1, t28.1.1.2.1, t28.1.1.2.2.1⟩ : api_Write), (⟨t29.1.1.1, t29.1.1.2.1, t29.1.1.2.2.1⟩ : api_Write)] : List api_Write) t28.2.2.2.1.1 t28.2.2.2.2.1 t28.2.2.2.2.2.1 t28.2.2.2.2.2.2.1)) >>= fun t30 =>
           (runF_machine_builder_coreRules_1 n (.start (⟨#[121, 105, 101, 108, 100]⟩ : ByteArray) (⟨own1_0, (⟨own1_1, own1_2⟩ : machine_signal), (⟨own1_3, own1_4⟩ : machine_signal)⟩ : machine_cache))) >>= fun t31 =>
           (runF_machine_builder_is n (.start own1_1 own1_2 (1 : Int) t30.2.1.1 t30.2.2.1 t30.2.2.2.1 t30.2.2.2.2.1)) >>= fun t32 =>
           (runF_machine_builder_is n (.start other2_1 other2_2 (1 : Int) t32.2.1.1 t32.2.2.1 t32.2.2.2.1 t32.2.2.2.2.1)) >>= fun t33 =>
           (runF_machine_builder_and n (.start t32.1.1.1 t32.1.1.2.1 t33.1.1.1 t33.1.1.2.1 t33.2.1.1 t33.2.2.1 t33.2.2.2.1 t33.2.2.2.2.1)) >>= fun t34 =>
           (runF_machine_builder_coreRules_2 n (.start own1_0 (0 : Int) t28.2.1.1 t28.2.1.2.1 t34.2.1.1 t34.2.2.1 t34.2.2.2.1 t34.2.2.2.2.1)) >>= fun t35 =>
           if (((t28.2.1.1 == t35.2.1.1) && ((t28.2.1.2.1 == t35.2.1.2.1) && true)) && true) = true then
             (runF_machine_builder_coreRules_2 n (.start other2_0 (2 : Int) t35.2.1.1 t35.2.1.2.1 t35.2.2.2.1.1 t35.2.2.2.2.1 t35.2.2.2.2.2.1 t35.2.2.2.2.2.2.1)) >>= fun t36 =>
             if (((t35.2.1.1 == t36.2.1.1) && ((t35.2.1.2.1 == t36.2.1.2.1) && true)) && true) = true then
               (runF_machine_builder_rule n (.start t31.1.1 t34.1.1.1 t34.1.1.2.1 ([(⟨t35.1.1.1, t35.1.1.2.1, t35.1.1.2.2.1⟩ : api_Write), (⟨t36.1.1.1, t36.1.1.2.1, t36.1.1.2.2.1⟩ : api_Write)] : List api_Write) t36.2.2.2.1.1 t36.2.2.2.2.1 t36.2.2.2.2.2.1 t36.2.2.2.2.2.2.1)) >>= fun t37 =>
               some ((), ((t37.2.1.1, ((), ((), ((), ((), ((), ((), ()))))))), (t37.2.2.1, (t37.2.2.2.1, (t37.2.2.2.2.1, ())))))
             else none
           else none
         else none
       else none
     else none
   else none
theorem runF_machine_builder_coreRules_le : ∀ (n : Nat) (p : P_machine_builder_coreRules), OLe (runF_machine_builder_coreRules n p) (run_machine_builder_coreRules p) := by
  intro n
  induction n with
  | zero => exact fun p r h => by cases h
  | succ n ih =>
    intro p
    cases p <;> rw [run_machine_builder_coreRules, runF_machine_builder_coreRules] <;> repeat' first | refine OLe.bind ?_ (fun _ => ?_) | refine OLe.ite ?_ ?_ | exact runF_machine_lineAt_le n _ | exact runF_machine_builder_node_v2_le n _ | exact runF_machine_builder_constant_v1_le n _ | exact runF_machine_builder_is_le n _ | exact runF_machine_builder_coreRules_1_le n _ | exact runF_machine_builder_not_le n _ | exact runF_machine_builder_and_le n _ | exact runF_machine_write_le n _ | exact runF_machine_builder_coreRules_2_le n _ | exact runF_machine_builder_rule_le n _ | exact ih _ | exact OLe.refl _
noncomputable def runF_machine_CachesOf : Nat → P_machine_CachesOf → Option R_machine_CachesOf
 | 0, _ => none
 | n + 1, .start width0 =>
   (runF_machine_lineErr n (.start width0)) >>= fun t1 =>
   if (t1.1.1 != (0 : Int)) = true then
     some ((((⟨#[]⟩ : ByteArray), ((), ([], ([], ([], ((), ((), ()))))))), (t1.1.1, ())), ())
   else
     (runF_machine_builder_register n (.start (⟨#[109, 101, 109, 111, 114, 121]⟩ : ByteArray) width0 (0 : Int) (⟨#[99, 97, 99, 104, 101, 115]⟩ : ByteArray))) >>= fun t2 =>
     runF_machine_CachesOf n (.p1012 width0 (0 : Int) (⟨#[]⟩ : ByteArray) t2.1.1.1 t2.1.1.2.1 (0 : Int) (0 : Int) (0 : Int) (0 : Int) (0 : Int) (0 : Int) (0 : Int) (0 : Int) (0 : Int) (0 : Int) t2.2.1.1 t2.2.2.1 t2.2.2.2.1)
 | n + 1, .p1012 width0 s25 B0 B2_0 B2_1 B3_0 B3_1 B3_2 B3_3 B3_4 B3_5 B3_6 B3_7 B3_8 B3_9 B4 B5 B6 =>
   if (decide (s25 < (2 : Int))) = true then
     (itoaRun (s25, ()) ()) >>= fun t1 =>
     if (Nat.ble ((⟨#[107, 105, 110, 100]⟩ : ByteArray).size + t1.1.1.size) 9223372036854775807) = true then
       (runF_machine_builder_register_v1 n (.start ((⟨#[107, 105, 110, 100]⟩ : ByteArray) ++ t1.1.1) (2 : Int) (0 : Int) B4 B5 B6)) >>= fun t2 =>
       if (Nat.ble ((⟨#[108, 105, 110, 101]⟩ : ByteArray).size + t1.1.1.size) 9223372036854775807) = true then
         (runF_machine_builder_register_v1 n (.start ((⟨#[108, 105, 110, 101]⟩ : ByteArray) ++ t1.1.1) width0 (0 : Int) t2.2.1.1 t2.2.2.1 t2.2.2.2.1)) >>= fun t3 =>
         if (decide (s25 = 0)) = true then
           runF_machine_CachesOf n (.p1012 width0 (IntKind.wrap .i64 (s25 + (1 : Int))) B0 B2_0 B2_1 s25 t2.1.1.1 t2.1.1.2.1 t3.1.1.1 t3.1.1.2.1 B3_5 B3_6 B3_7 B3_8 B3_9 t3.2.1.1 t3.2.2.1 t3.2.2.2.1)
         else
           if (decide (s25 = 1)) = true then
             runF_machine_CachesOf n (.p1012 width0 (IntKind.wrap .i64 (s25 + (1 : Int))) B0 B2_0 B2_1 B3_0 B3_1 B3_2 B3_3 B3_4 s25 t2.1.1.1 t2.1.1.2.1 t3.1.1.1 t3.1.1.2.1 t3.2.1.1 t3.2.2.1 t3.2.2.2.1)
           else none
       else none
     else none
   else
     (runF_machine_builder_constant n (.start (1 : Int) (1 : Int) B4 B5 B6)) >>= fun t4 =>
     runF_machine_CachesOf n (.p4084 (0 : Int) B0 B2_0 B2_1 B3_0 B3_1 B3_2 B3_3 B3_4 B3_5 B3_6 B3_7 B3_8 B3_9 t4.1.1.1 t4.1.1.2.1 t4.2.1.1 t4.2.2.1 t4.2.2.2.1 ([] : List api_Rule))
 | n + 1, .p4084 s47 B0 B2_0 B2_1 B3_0 B3_1 B3_2 B3_3 B3_4 B3_5 B3_6 B3_7 B3_8 B3_9 B4_0 B4_1 B5 B6 B7 B8 =>
   if (decide (s47 < (2 : Int))) = true then
     if (decide (s47 = 0)) = true then
       if (decide ((IntKind.wrap .i64 ((1 : Int) - s47)) = 0)) = true then
         (runF_machine_builder_coreRules n (.start B3_0 B3_1 B3_2 B3_3 B3_4 B3_0 B3_1 B3_2 B3_3 B3_4 B2_0 B2_1 B4_0 B4_1 B5 B6 B7 B8)) >>= fun t1 =>
         runF_machine_CachesOf n (.p4084 (IntKind.wrap .i64 (s47 + (1 : Int))) B0 B2_0 B2_1 B3_0 B3_1 B3_2 B3_3 B3_4 B3_5 B3_6 B3_7 B3_8 B3_9 B4_0 B4_1 t1.2.1.1 t1.2.2.1 t1.2.2.2.1 t1.2.2.2.2.1)
       else
         if (decide ((IntKind.wrap .i64 ((1 : Int) - s47)) = 1)) = true then
           (runF_machine_builder_coreRules n (.start B3_0 B3_1 B3_2 B3_3 B3_4 B3_5 B3_6 B3_7 B3_8 B3_9 B2_0 B2_1 B4_0 B4_1 B5 B6 B7 B8)) >>= fun t2 =>
           runF_machine_CachesOf n (.p4084 (IntKind.wrap .i64 (s47 + (1 : Int))) B0 B2_0 B2_1 B3_0 B3_1 B3_2 B3_3 B3_4 B3_5 B3_6 B3_7 B3_8 B3_9 B4_0 B4_1 t2.2.1.1 t2.2.2.1 t2.2.2.2.1 t2.2.2.2.2.1)
         else none
     else
       if (decide (s47 = 1)) = true then
         if (decide ((IntKind.wrap .i64 ((1 : Int) - s47)) = 0)) = true then
           (runF_machine_builder_coreRules n (.start B3_5 B3_6 B3_7 B3_8 B3_9 B3_0 B3_1 B3_2 B3_3 B3_4 B2_0 B2_1 B4_0 B4_1 B5 B6 B7 B8)) >>= fun t3 =>
           runF_machine_CachesOf n (.p4084 (IntKind.wrap .i64 (s47 + (1 : Int))) B0 B2_0 B2_1 B3_0 B3_1 B3_2 B3_3 B3_4 B3_5 B3_6 B3_7 B3_8 B3_9 B4_0 B4_1 t3.2.1.1 t3.2.2.1 t3.2.2.2.1 t3.2.2.2.2.1)
         else
           if (decide ((IntKind.wrap .i64 ((1 : Int) - s47)) = 1)) = true then
             (runF_machine_builder_coreRules n (.start B3_5 B3_6 B3_7 B3_8 B3_9 B3_5 B3_6 B3_7 B3_8 B3_9 B2_0 B2_1 B4_0 B4_1 B5 B6 B7 B8)) >>= fun t4 =>
             runF_machine_CachesOf n (.p4084 (IntKind.wrap .i64 (s47 + (1 : Int))) B0 B2_0 B2_1 B3_0 B3_1 B3_2 B3_3 B3_4 B3_5 B3_6 B3_7 B3_8 B3_9 B4_0 B4_1 t4.2.1.1 t4.2.2.1 t4.2.2.2.1 t4.2.2.2.2.1)
           else none
       else none
   else
     some (((B5, ((), (B6, (B7, (B8, ((), ((), ()))))))), ((0 : Int), ())), ())
theorem runF_machine_CachesOf_le : ∀ (n : Nat) (p : P_machine_CachesOf), OLe (runF_machine_CachesOf n p) (run_machine_CachesOf p) := by
  intro n
  induction n with
  | zero => exact fun p r h => by cases h
  | succ n ih =>
    intro p
    cases p <;> rw [run_machine_CachesOf, runF_machine_CachesOf] <;> repeat' first | refine OLe.bind ?_ (fun _ => ?_) | refine OLe.ite ?_ ?_ | exact runF_machine_lineErr_le n _ | exact runF_machine_builder_register_le n _ | exact runF_machine_builder_register_v1_le n _ | exact runF_machine_builder_constant_le n _ | exact runF_machine_builder_coreRules_le n _ | exact ih _ | exact OLe.refl _
noncomputable def runF_ratchetbase_SamePorts : Nat → P_ratchetbase_SamePorts → Option R_ratchetbase_SamePorts
 | 0, _ => none
 | n + 1, .start a0 b1 =>
   if ((List.length a0 : Int) != (List.length b1 : Int)) = true then
     some ((false, ()), ())
   else
     runF_ratchetbase_SamePorts n (.p116 a0 b1 (0 : Int))
 | n + 1, .p116 a0 b1 i5 =>
   if (decide (i5 < (List.length a0 : Int))) = true then
     (idx a0 i5) >>= fun t1 =>
     (idx b1 i5) >>= fun t2 =>
     if (!((seq t1.Name t2.Name) && ((t1.Width == t2.Width) && true))) = true then
       some ((false, ()), ())
     else
       runF_ratchetbase_SamePorts n (.p116 a0 b1 (IntKind.wrap .i64 (i5 + (1 : Int))))
   else
     some ((true, ()), ())
theorem runF_ratchetbase_SamePorts_le : ∀ (n : Nat) (p : P_ratchetbase_SamePorts), OLe (runF_ratchetbase_SamePorts n p) (run_ratchetbase_SamePorts p) := by
  intro n
  induction n with
  | zero => exact fun p r h => by cases h
  | succ n ih =>
    intro p
    cases p <;> rw [run_ratchetbase_SamePorts, runF_ratchetbase_SamePorts] <;> repeat' first | refine OLe.bind ?_ (fun _ => ?_) | refine OLe.ite ?_ ?_ | exact ih _ | exact OLe.refl _
noncomputable def runF_ratchetbase_Ints : Nat → P_ratchetbase_Ints → Option R_ratchetbase_Ints
 | 0, _ => none
 | n + 1, .start a0 b1 =>
   if ((List.length a0 : Int) != (List.length b1 : Int)) = true then
     some ((false, ()), ())
   else
     runF_ratchetbase_Ints n (.p116 a0 b1 (0 : Int))
 | n + 1, .p116 a0 b1 i5 =>
   if (decide (i5 < (List.length a0 : Int))) = true then
     (idx a0 i5) >>= fun t1 =>
     (idx b1 i5) >>= fun t2 =>
     if (t1 != t2) = true then
       some ((false, ()), ())
     else
       runF_ratchetbase_Ints n (.p116 a0 b1 (IntKind.wrap .i64 (i5 + (1 : Int))))
   else
     some ((true, ()), ())
theorem runF_ratchetbase_Ints_le : ∀ (n : Nat) (p : P_ratchetbase_Ints), OLe (runF_ratchetbase_Ints n p) (run_ratchetbase_Ints p) := by
  intro n
  induction n with
  | zero => exact fun p r h => by cases h
  | succ n ih =>
    intro p
    cases p <;> rw [run_ratchetbase_Ints, runF_ratchetbase_Ints] <;> repeat' first | refine OLe.bind ?_ (fun _ => ?_) | refine OLe.ite ?_ ?_ | exact ih _ | exact OLe.refl _
noncomputable def runF_ratchetbase_SameNodes : Nat → P_ratchetbase_SameNodes → Option R_ratchetbase_SameNodes
 | 0, _ => none
 | n + 1, .start a0 b1 =>
   if ((List.length a0 : Int) != (List.length b1 : Int)) = true then
     some ((false, ()), ())
   else
     runF_ratchetbase_SameNodes n (.p116 a0 b1 (0 : Int))
 | n + 1, .p116 a0 b1 i5 =>
   if (decide (i5 < (List.length a0 : Int))) = true then
     (idx a0 i5) >>= fun t1 =>
     (idx b1 i5) >>= fun t2 =>
     if (t1.Op != t2.Op) = true then
       some ((false, ()), ())
     else
       (idx a0 i5) >>= fun t3 =>
       (idx b1 i5) >>= fun t4 =>
       if (t3.Width != t4.Width) = true then
         some ((false, ()), ())
       else
         (idx a0 i5) >>= fun t5 =>
         (idx b1 i5) >>= fun t6 =>
         if (t5.Value != t6.Value) = true then
           some ((false, ()), ())
         else
           (idx a0 i5) >>= fun t7 =>
           (idx b1 i5) >>= fun t8 =>
           (runF_ratchetbase_Ints n (.start t7.Args t8.Args)) >>= fun t9 =>
           if (!t9.1.1) = true then
             some ((false, ()), ())
           else
             runF_ratchetbase_SameNodes n (.p116 a0 b1 (IntKind.wrap .i64 (i5 + (1 : Int))))
   else
     some ((true, ()), ())
theorem runF_ratchetbase_SameNodes_le : ∀ (n : Nat) (p : P_ratchetbase_SameNodes), OLe (runF_ratchetbase_SameNodes n p) (run_ratchetbase_SameNodes p) := by
  intro n
  induction n with
  | zero => exact fun p r h => by cases h
  | succ n ih =>
    intro p
    cases p <;> rw [run_ratchetbase_SameNodes, runF_ratchetbase_SameNodes] <;> repeat' first | refine OLe.bind ?_ (fun _ => ?_) | refine OLe.ite ?_ ?_ | exact runF_ratchetbase_Ints_le n _ | exact ih _ | exact OLe.refl _
noncomputable def runF_ratchetbase_SameOutputs : Nat → P_ratchetbase_SameOutputs → Option R_ratchetbase_SameOutputs
 | 0, _ => none
 | n + 1, .start a0 b1 =>
   if ((List.length a0 : Int) != (List.length b1 : Int)) = true then
     some ((false, ()), ())
   else
     runF_ratchetbase_SameOutputs n (.p116 a0 b1 (0 : Int))
 | n + 1, .p116 a0 b1 i5 =>
   if (decide (i5 < (List.length a0 : Int))) = true then
     (idx a0 i5) >>= fun t1 =>
     (idx b1 i5) >>= fun t2 =>
     if (!((seq t1.Name t2.Name) && ((t1.Node == t2.Node) && true))) = true then
       some ((false, ()), ())
     else
       runF_ratchetbase_SameOutputs n (.p116 a0 b1 (IntKind.wrap .i64 (i5 + (1 : Int))))
   else
     some ((true, ()), ())
theorem runF_ratchetbase_SameOutputs_le : ∀ (n : Nat) (p : P_ratchetbase_SameOutputs), OLe (runF_ratchetbase_SameOutputs n p) (run_ratchetbase_SameOutputs p) := by
  intro n
  induction n with
  | zero => exact fun p r h => by cases h
  | succ n ih =>
    intro p
    cases p <;> rw [run_ratchetbase_SameOutputs, runF_ratchetbase_SameOutputs] <;> repeat' first | refine OLe.bind ?_ (fun _ => ?_) | refine OLe.ite ?_ ?_ | exact ih _ | exact OLe.refl _
noncomputable def runF_ratchetbase_SameWrites : Nat → P_ratchetbase_SameWrites → Option R_ratchetbase_SameWrites
 | 0, _ => none
 | n + 1, .start a0 b1 =>
   if ((List.length a0 : Int) != (List.length b1 : Int)) = true then
     some ((false, ()), ())
   else
     runF_ratchetbase_SameWrites n (.p116 a0 b1 (0 : Int))
 | n + 1, .p116 a0 b1 i5 =>
   if (decide (i5 < (List.length a0 : Int))) = true then
     (idx a0 i5) >>= fun t1 =>
     (idx b1 i5) >>= fun t2 =>
     if (!((t1.Element == t2.Element) && ((t1.When == t2.When) && ((t1.Value == t2.Value) && true)))) = true then
       some ((false, ()), ())
     else
       runF_ratchetbase_SameWrites n (.p116 a0 b1 (IntKind.wrap .i64 (i5 + (1 : Int))))
   else
     some ((true, ()), ())
theorem runF_ratchetbase_SameWrites_le : ∀ (n : Nat) (p : P_ratchetbase_SameWrites), OLe (runF_ratchetbase_SameWrites n p) (run_ratchetbase_SameWrites p) := by
  intro n
  induction n with
  | zero => exact fun p r h => by cases h
  | succ n ih =>
    intro p
    cases p <;> rw [run_ratchetbase_SameWrites, runF_ratchetbase_SameWrites] <;> repeat' first | refine OLe.bind ?_ (fun _ => ?_) | refine OLe.ite ?_ ?_ | exact ih _ | exact OLe.refl _
noncomputable def runF_ratchetbase_SameDesign : Nat → P_ratchetbase_SameDesign → Option R_ratchetbase_SameDesign
 | 0, _ => none
 | n + 1, .start a0_0 a0_1 a0_2 a0_3 a0_4 a0_5 a0_6 b1_0 b1_1 b1_2 b1_3 b1_4 b1_5 b1_6 =>
   if (!(seq a0_0 b1_0)) = true then
     some ((false, ()), ())
   else
     (runF_ratchetbase_SamePorts n (.start a0_1 b1_1)) >>= fun t1 =>
     if (!t1.1.1) = true then
       some ((false, ()), ())
     else
       if ((List.length a0_2 : Int) != (List.length b1_2 : Int)) = true then
         some ((false, ()), ())
       else
         (runF_ratchetbase_SameNodes n (.start a0_3 b1_3)) >>= fun t2 =>
         if (!t2.1.1) = true then
           some ((false, ()), ())
         else
           if ((List.length a0_4 : Int) != (List.length b1_4 : Int)) = true then
             some ((false, ()), ())
           else
             (runF_ratchetbase_SameOutputs n (.start a0_5 b1_5)) >>= fun t3 =>
             if (!t3.1.1) = true then
               some ((false, ()), ())
             else
               if ((List.length a0_6 : Int) != (List.length b1_6 : Int)) = true then
                 some ((false, ()), ())
               else
                 runF_ratchetbase_SameDesign n (.p7 a0_0 a0_1 a0_2 a0_3 a0_4 a0_5 a0_6 b1_0 b1_1 b1_2 b1_3 b1_4 b1_5 b1_6)
 | n + 1, .p7 B0_0 B0_1 B0_2 B0_3 B0_4 B0_5 B0_6 B1_0 B1_1 B1_2 B1_3 B1_4 B1_5 B1_6 =>
   runF_ratchetbase_SameDesign n (.p116 (0 : Int) B0_0 B0_1 B0_2 B0_3 B0_4 B0_5 B0_6 B1_0 B1_1 B1_2 B1_3 B1_4 B1_5 B1_6)
 | n + 1, .p116 i5 B0_0 B0_1 B0_2 B0_3 B0_4 B0_5 B0_6 B1_0 B1_1 B1_2 B1_3 B1_4 B1_5 B1_6 =>
   if (decide (i5 < (List.length B0_2 : Int))) = true then
     (idx B0_2 i5) >>= fun t1 =>
     (idx B1_2 i5) >>= fun t2 =>
     if (!((seq t1.Name t2.Name) && ((t1.Kind == t2.Kind) && ((t1.Width == t2.Width) && ((t1.Init == t2.Init) && ((t1.Clock == t2.Clock) && true)))))) = true then
       some ((false, ()), ())
     else
       runF_ratchetbase_SameDesign n (.p116 (IntKind.wrap .i64 (i5 + (1 : Int))) B0_0 B0_1 B0_2 B0_3 B0_4 B0_5 B0_6 B1_0 B1_1 B1_2 B1_3 B1_4 B1_5 B1_6)
   else
     runF_ratchetbase_SameDesign n (.p244 (0 : Int) B0_0 B0_1 B0_2 B0_3 B0_4 B0_5 B0_6 B1_0 B1_1 B1_2 B1_3 B1_4 B1_5 B1_6)
 | n + 1, .p244 i6 B0_0 B0_1 B0_2 B0_3 B0_4 B0_5 B0_6 B1_0 B1_1 B1_2 B1_3 B1_4 B1_5 B1_6 =>
   if (decide (i6 < (List.length B0_4 : Int))) = true then
     (idx B0_4 i6) >>= fun t1 =>
     (idx B1_4 i6) >>= fun t2 =>
     if (!(seq t1.Name t2.Name)) = true then
       some ((false, ()), ())
     else
       (idx B0_4 i6) >>= fun t3 =>
       (idx B1_4 i6) >>= fun t4 =>
       if (t3.Guard != t4.Guard) = true then
         some ((false, ()), ())
       else
         (idx B0_4 i6) >>= fun t5 =>
         (idx B1_4 i6) >>= fun t6 =>
         (runF_ratchetbase_SameWrites n (.start t5.Writes t6.Writes)) >>= fun t7 =>
         if (!t7.1.1) = true then
           some ((false, ()), ())
         else
           runF_ratchetbase_SameDesign n (.p244 (IntKind.wrap .i64 (i6 + (1 : Int))) B0_0 B0_1 B0_2 B0_3 B0_4 B0_5 B0_6 B1_0 B1_1 B1_2 B1_3 B1_4 B1_5 B1_6)
   else
     runF_ratchetbase_SameDesign n (.p500 (0 : Int) B0_0 B0_1 B0_2 B0_3 B0_4 B0_5 B0_6 B1_0 B1_1 B1_2 B1_3 B1_4 B1_5 B1_6)
 | n + 1, .p500 i7 B0_0 B0_1 B0_2 B0_3 B0_4 B0_5 B0_6 B1_0 B1_1 B1_2 B1_3 B1_4 B1_5 B1_6 =>
   if (decide (i7 < (List.length B0_6 : Int))) = true then
     (idx B0_6 i7) >>= fun t1 =>
     (idx B1_6 i7) >>= fun t2 =>
     if (t1.Kind != t2.Kind) = true then
       some ((false, ()), ())
     else
       (idx B0_6 i7) >>= fun t3 =>
       (idx B1_6 i7) >>= fun t4 =>
       (runF_ratchetbase_Ints n (.start t3.Rules t4.Rules)) >>= fun t5 =>
       if (!t5.1.1) = true then
         some ((false, ()), ())
       else
         runF_ratchetbase_SameDesign n (.p500 (IntKind.wrap .i64 (i7 + (1 : Int))) B0_0 B0_1 B0_2 B0_3 B0_4 B0_5 B0_6 B1_0 B1_1 B1_2 B1_3 B1_4 B1_5 B1_6)
   else
     some ((true, ()), ())
theorem runF_ratchetbase_SameDesign_le : ∀ (n : Nat) (p : P_ratchetbase_SameDesign), OLe (runF_ratchetbase_SameDesign n p) (run_ratchetbase_SameDesign p) := by
  intro n
  induction n with
  | zero => exact fun p r h => by cases h
  | succ n ih =>
    intro p
    cases p <;> rw [run_ratchetbase_SameDesign, runF_ratchetbase_SameDesign] <;> repeat' first | refine OLe.bind ?_ (fun _ => ?_) | refine OLe.ite ?_ ?_ | exact runF_ratchetbase_SamePorts_le n _ | exact runF_ratchetbase_Ints_le n _ | exact runF_ratchetbase_SameNodes_le n _ | exact runF_ratchetbase_SameOutputs_le n _ | exact runF_ratchetbase_SameWrites_le n _ | exact ih _ | exact OLe.refl _
noncomputable def runF_ratchetbase_IsName : Nat → P_ratchetbase_IsName → Option R_ratchetbase_IsName
 | 0, _ => none
 | n + 1, .start s0 =>
   if (decide ((s0.size : Int) < (1 : Int))) = true then
     some ((false, ()), ())
   else
     if (decide ((s0.size : Int) > (16 : Int))) = true then
       some ((false, ()), ())
     else
       runF_ratchetbase_IsName n (.p7 s0)
 | n + 1, .p7 s0 =>
   runF_ratchetbase_IsName n (.p116 s0 (0 : Int))
 | n + 1, .p116 s0 i3 =>
   if (decide (i3 < (s0.size : Int))) = true then
     (sidx s0 i3) >>= fun t1 =>
     if (decide (t1 ≥ (97 : Int))) = true then
       if (decide (t1 ≤ (122 : Int))) = true then
         runF_ratchetbase_IsName n (.p3731 s0 i3 t1 true)
       else
         if (decide (t1 ≥ (65 : Int))) = true then
           runF_ratchetbase_IsName n (.p3731 s0 i3 t1 (decide (t1 ≤ (90 : Int))))
         else
           runF_ratchetbase_IsName n (.p3731 s0 i3 t1 false)
     else
       if (decide (t1 ≥ (65 : Int))) = true then
         runF_ratchetbase_IsName n (.p3731 s0 i3 t1 (decide (t1 ≤ (90 : Int))))
       else
         runF_ratchetbase_IsName n (.p3731 s0 i3 t1 false)
   else
     some ((true, ()), ())
 | n + 1, .p3731 s0 i3 c4 letter5 =>
   if (!letter5) = true then
     if (i3 == (0 : Int)) = true then
       some ((false, ()), ())
     else
       if (c4 != (95 : Int)) = true then
         if (decide (c4 < (48 : Int))) = true then
           some ((false, ()), ())
         else
           if (decide (c4 > (57 : Int))) = true then
             some ((false, ()), ())
           else
             runF_ratchetbase_IsName n (.p116 s0 (IntKind.wrap .i64 (i3 + (1 : Int))))
       else
         runF_ratchetbase_IsName n (.p116 s0 (IntKind.wrap .i64 (i3 + (1 : Int))))
   else
     runF_ratchetbase_IsName n (.p116 s0 (IntKind.wrap .i64 (i3 + (1 : Int))))
theorem runF_ratchetbase_IsName_le : ∀ (n : Nat) (p : P_ratchetbase_IsName), OLe (runF_ratchetbase_IsName n p) (run_ratchetbase_IsName p) := by
  intro n
  induction n with
  | zero => exact fun p r h => by cases h
  | succ n ih =>
    intro p
    cases p <;> rw [run_ratchetbase_IsName, runF_ratchetbase_IsName] <;> repeat' first | refine OLe.bind ?_ (fun _ => ?_) | refine OLe.ite ?_ ?_ | exact ih _ | exact OLe.refl _
noncomputable def runF_ratchetbase_IsWidth : Nat → P_ratchetbase_IsWidth → Option R_ratchetbase_IsWidth
 | 0, _ => none
 | n + 1, .start n0 =>
   (runF_ratchetbase_Within n (.start n0 (1 : Int) (16 : Int))) >>= fun t1 =>
   some ((t1.1.1, ()), ())
theorem runF_ratchetbase_IsWidth_le : ∀ (n : Nat) (p : P_ratchetbase_IsWidth), OLe (runF_ratchetbase_IsWidth n p) (run_ratchetbase_IsWidth p) := by
  intro n
  induction n with
  | zero => exact fun p r h => by cases h
  | succ n ih =>
    intro p
    cases p <;> rw [run_ratchetbase_IsWidth, runF_ratchetbase_IsWidth] <;> repeat' first | refine OLe.bind ?_ (fun _ => ?_) | refine OLe.ite ?_ ?_ | exact runF_ratchetbase_Within_le n _ | exact ih _ | exact OLe.refl _
noncomputable def runF_ratchetbase_PortsErr : Nat → P_ratchetbase_PortsErr → Option R_ratchetbase_PortsErr
 | 0, _ => none
 | n + 1, .start l0 =>
   if (decide ((List.length l0 : Int) > (12 : Int))) = true then
     some (((0 : Int), ((8 : Int), ())), ())
   else
     runF_ratchetbase_PortsErr n (.p116 l0 (0 : Int))
 | n + 1, .p116 l0 i4 =>
   if (decide (i4 < (List.length l0 : Int))) = true then
     (idx l0 i4) >>= fun t1 =>
     (runF_ratchetbase_IsName n (.start t1.Name)) >>= fun t2 =>
     if (!t2.1.1) = true then
       some ((i4, ((4 : Int), ())), ())
     else
       runF_ratchetbase_PortsErr n (.p29844 l0 i4 (0 : Int))
   else
     some (((0 : Int), ((0 : Int), ())), ())
 | n + 1, .p29844 l0 i4 k5 =>
   if (decide (k5 < i4)) = true then
     (idx l0 k5) >>= fun t1 =>
     (idx l0 i4) >>= fun t2 =>
     if (seq t1.Name t2.Name) = true then
       some ((i4, ((5 : Int), ())), ())
     else
       runF_ratchetbase_PortsErr n (.p29844 l0 i4 (IntKind.wrap .i64 (k5 + (1 : Int))))
   else
     (idx l0 i4) >>= fun t3 =>
     (runF_ratchetbase_IsWidth n (.start t3.Width)) >>= fun t4 =>
     if (!t4.1.1) = true then
       some ((i4, ((2 : Int), ())), ())
     else
       runF_ratchetbase_PortsErr n (.p116 l0 (IntKind.wrap .i64 (i4 + (1 : Int))))
theorem runF_ratchetbase_PortsErr_le : ∀ (n : Nat) (p : P_ratchetbase_PortsErr), OLe (runF_ratchetbase_PortsErr n p) (run_ratchetbase_PortsErr p) := by
  intro n
  induction n with
  | zero => exact fun p r h => by cases h
  | succ n ih =>
    intro p
    cases p <;> rw [run_ratchetbase_PortsErr, runF_ratchetbase_PortsErr] <;> repeat' first | refine OLe.bind ?_ (fun _ => ?_) | refine OLe.ite ?_ ?_ | exact runF_ratchetbase_IsName_le n _ | exact runF_ratchetbase_IsWidth_le n _ | exact ih _ | exact OLe.refl _
noncomputable def runF_ratchetbase_ElementsErr : Nat → P_ratchetbase_ElementsErr → Option R_ratchetbase_ElementsErr
 | 0, _ => none
 | n + 1, .start inputs0 l1 =>
   if (decide ((IntKind.wrap .i64 ((List.length inputs0 : Int) + (List.length l1 : Int))) > (40 : Int))) = true then
     some (((0 : Int), ((8 : Int), ())), ())
   else
     runF_ratchetbase_ElementsErr n (.p116 inputs0 l1 (0 : Int))
 | n + 1, .p116 inputs0 l1 i6 =>
   if (decide (i6 < (List.length l1 : Int))) = true then
     (idx l1 i6) >>= fun t1 =>
     (runF_ratchetbase_IsName n (.start t1.Name)) >>= fun t2 =>
     if (!t2.1.1) = true then
       some ((i6, ((4 : Int), ())), ())
     else
       runF_ratchetbase_ElementsErr n (.p29844 inputs0 l1 i6 (0 : Int))
   else
     some (((0 : Int), ((0 : Int), ())), ())
 | n + 1, .p29844 inputs0 l1 i6 k7 =>
   if (decide (k7 < i6)) = true then
     (idx l1 k7) >>= fun t1 =>
     (idx l1 i6) >>= fun t2 =>
     if (seq t1.Name t2.Name) = true then
       some ((i6, ((5 : Int), ())), ())
     else
       runF_ratchetbase_ElementsErr n (.p29844 inputs0 l1 i6 (IntKind.wrap .i64 (k7 + (1 : Int))))
   else
     runF_ratchetbase_ElementsErr n (.p59700 inputs0 l1 i6 (0 : Int))
 | n + 1, .p59700 inputs0 l1 i6 k8 =>
   if (decide (k8 < (List.length inputs0 : Int))) = true then
     (idx inputs0 k8) >>= fun t1 =>
     (idx l1 i6) >>= fun t2 =>
     if (seq t1.Name t2.Name) = true then
       some ((i6, ((5 : Int), ())), ())
     else
       runF_ratchetbase_ElementsErr n (.p59700 inputs0 l1 i6 (IntKind.wrap .i64 (k8 + (1 : Int))))
   else
     (idx l1 i6) >>= fun t3 =>
     (runF_ratchetbase_Within n (.start t3.Kind (0 : Int) (1 : Int))) >>= fun t4 =>
     if (!t4.1.1) = true then
       some ((i6, ((15 : Int), ())), ())
     else
       (idx l1 i6) >>= fun t5 =>
       (runF_ratchetbase_IsWidth n (.start t5.Width)) >>= fun t6 =>
       if (!t6.1.1) = true then
         some ((i6, ((2 : Int), ())), ())
       else
         (idx l1 i6) >>= fun t7 =>
         (idx l1 i6) >>= fun t8 =>
         (runF_ratchetbase_Fits n (.start t7.Init t8.Width)) >>= fun t9 =>
         if (!t9.1.1) = true then
           some ((i6, ((2 : Int), ())), ())
         else
           (idx l1 i6) >>= fun t10 =>
           (runF_ratchetbase_Within n (.start t10.Clock (0 : Int) (3 : Int))) >>= fun t11 =>
           if (!t11.1.1) = true then
             some ((i6, ((2 : Int), ())), ())
           else
             runF_ratchetbase_ElementsErr n (.p116 inputs0 l1 (IntKind.wrap .i64 (i6 + (1 : Int))))
theorem runF_ratchetbase_ElementsErr_le : ∀ (n : Nat) (p : P_ratchetbase_ElementsErr), OLe (runF_ratchetbase_ElementsErr n p) (run_ratchetbase_ElementsErr p) := by
  intro n
  induction n with
  | zero => exact fun p r h => by cases h
  | succ n ih =>
    intro p
    cases p <;> rw [run_ratchetbase_ElementsErr, runF_ratchetbase_ElementsErr] <;> repeat' first | refine OLe.bind ?_ (fun _ => ?_) | refine OLe.ite ?_ ?_ | exact runF_ratchetbase_Within_le n _ | exact runF_ratchetbase_Fits_le n _ | exact runF_ratchetbase_IsName_le n _ | exact runF_ratchetbase_IsWidth_le n _ | exact ih _ | exact OLe.refl _
noncomputable def runF_ratchetbase_Leaves : Nat → P_ratchetbase_Leaves → Option R_ratchetbase_Leaves
 | 0, _ => none
 | n + 1, .start d0_0 d0_1 d0_2 d0_3 d0_4 d0_5 d0_6 =>
   runF_ratchetbase_Leaves n (.p116 (0 : Int) d0_0 d0_1 d0_2 d0_3 d0_4 d0_5 d0_6 ([] : List Int))
 | n + 1, .p116 i4 B0_0 B0_1 B0_2 B0_3 B0_4 B0_5 B0_6 B1 =>
   if (decide (i4 < (List.length B0_1 : Int))) = true then
     (idx B0_1 i4) >>= fun t1 =>
     if (fits (List.length B1) (List.length ([t1.Width] : List Int)) 8) = true then
       runF_ratchetbase_Leaves n (.p116 (IntKind.wrap .i64 (i4 + (1 : Int))) B0_0 B0_1 B0_2 B0_3 B0_4 B0_5 B0_6 (B1 ++ ([t1.Width] : List Int)))
     else none
   else
     runF_ratchetbase_Leaves n (.p244 (0 : Int) B0_0 B0_1 B0_2 B0_3 B0_4 B0_5 B0_6 B1)
 | n + 1, .p244 i5 B0_0 B0_1 B0_2 B0_3 B0_4 B0_5 B0_6 B1 =>
   if (decide (i5 < (List.length B0_2 : Int))) = true then
     (idx B0_2 i5) >>= fun t1 =>
     if (fits (List.length B1) (List.length ([t1.Width] : List Int)) 8) = true then
       runF_ratchetbase_Leaves n (.p244 (IntKind.wrap .i64 (i5 + (1 : Int))) B0_0 B0_1 B0_2 B0_3 B0_4 B0_5 B0_6 (B1 ++ ([t1.Width] : List Int)))
     else none
   else
     some (((), ()), (B1, ()))
theorem runF_ratchetbase_Leaves_le : ∀ (n : Nat) (p : P_ratchetbase_Leaves), OLe (runF_ratchetbase_Leaves n p) (run_ratchetbase_Leaves p) := by
  intro n
  induction n with
  | zero => exact fun p r h => by cases h
  | succ n ih =>
    intro p
    cases p <;> rw [run_ratchetbase_Leaves, runF_ratchetbase_Leaves] <;> repeat' first | refine OLe.bind ?_ (fun _ => ?_) | refine OLe.ite ?_ ?_ | exact ih _ | exact OLe.refl _
noncomputable def runF_ratchetbase_ArgCount : Nat → P_ratchetbase_ArgCount → Option R_ratchetbase_ArgCount
 | 0, _ => none
 | n + 1, .start op0 =>
   if (op0 == (0 : Int)) = true then
     runF_ratchetbase_ArgCount n (.p53 op0 (op0 == (0 : Int)))
   else
     runF_ratchetbase_ArgCount n (.p53 op0 (op0 == (1 : Int)))
 | n + 1, .p53 s3 s4 =>
   if s4 = true then
     some (((0 : Int), ()), ())
   else
     if (s3 == (2 : Int)) = true then
       runF_ratchetbase_ArgCount n (.p215 s3 (s3 == (2 : Int)))
     else
       if (s3 == (14 : Int)) = true then
         runF_ratchetbase_ArgCount n (.p215 s3 (s3 == (14 : Int)))
       else
         if (s3 == (15 : Int)) = true then
           runF_ratchetbase_ArgCount n (.p215 s3 (s3 == (15 : Int)))
         else
           runF_ratchetbase_ArgCount n (.p215 s3 (s3 == (16 : Int)))
 | n + 1, .p215 s3 s7 =>
   if s7 = true then
     some (((1 : Int), ()), ())
   else
     if (s3 == (12 : Int)) = true then
       some (((3 : Int), ()), ())
     else
       some (((2 : Int), ()), ())
theorem runF_ratchetbase_ArgCount_le : ∀ (n : Nat) (p : P_ratchetbase_ArgCount), OLe (runF_ratchetbase_ArgCount n p) (run_ratchetbase_ArgCount p) := by
  intro n
  induction n with
  | zero => exact fun p r h => by cases h
  | succ n ih =>
    intro p
    cases p <;> rw [run_ratchetbase_ArgCount, runF_ratchetbase_ArgCount] <;> repeat' first | refine OLe.bind ?_ (fun _ => ?_) | refine OLe.ite ?_ ?_ | exact ih _ | exact OLe.refl _
noncomputable def runF_ratchetbase_widthsFit : Nat → P_ratchetbase_widthsFit → Option R_ratchetbase_widthsFit
 | 0, _ => none
 | n + 1, .start nodes0 x1_0 x1_1 x1_2 x1_3 =>
   runF_ratchetbase_widthsFit n (.p116 nodes0 (0 : Int) x1_0 x1_1 x1_2 x1_3 ([] : List Int))
 | n + 1, .p116 nodes0 k6 B0_0 B0_1 B0_2 B0_3 B1 =>
   if (decide (k6 < (List.length B0_2 : Int))) = true then
     (idx B0_2 k6) >>= fun t1 =>
     (idx nodes0 t1) >>= fun t2 =>
     if (fits (List.length B1) (List.length ([t2.Width] : List Int)) 8) = true then
       runF_ratchetbase_widthsFit n (.p116 nodes0 (IntKind.wrap .i64 (k6 + (1 : Int))) B0_0 B0_1 B0_2 B0_3 (B1 ++ ([t2.Width] : List Int)))
     else none
   else
     if (B0_0 == (2 : Int)) = true then
       if (decide ((0 : Int) ≤ (0 : Int)) && decide ((0 : Int) < (List.length B1 : Int))) = true then
         (idx B1 (0 : Int)) >>= fun t3 =>
         some ((t3 == B0_1, ()), ())
       else none
     else
       if (B0_0 == (3 : Int)) = true then
         runF_ratchetbase_widthsFit n (.p983 B0_0 (B0_0 == (3 : Int)) B0_0 B0_1 B0_2 B0_3 B1)
       else
         if (B0_0 == (4 : Int)) = true then
           runF_ratchetbase_widthsFit n (.p983 B0_0 (B0_0 == (4 : Int)) B0_0 B0_1 B0_2 B0_3 B1)
         else
           if (B0_0 == (5 : Int)) = true then
             runF_ratchetbase_widthsFit n (.p983 B0_0 (B0_0 == (5 : Int)) B0_0 B0_1 B0_2 B0_3 B1)
           else
             if (B0_0 == (6 : Int)) = true then
               runF_ratchetbase_widthsFit n (.p983 B0_0 (B0_0 == (6 : Int)) B0_0 B0_1 B0_2 B0_3 B1)
             else
               if (B0_0 == (7 : Int)) = true then
                 runF_ratchetbase_widthsFit n (.p983 B0_0 (B0_0 == (7 : Int)) B0_0 B0_1 B0_2 B0_3 B1)
               else
                 runF_ratchetbase_widthsFit n (.p983 B0_0 (B0_0 == (8 : Int)) B0_0 B0_1 B0_2 B0_3 B1)
 | n + 1, .p983 s27 s36 B0_0 B0_1 B0_2 B0_3 B1 =>
   if s36 = true then
     if (decide ((0 : Int) ≤ (0 : Int)) && decide ((0 : Int) < (List.length B1 : Int))) = true then
       (idx B1 (0 : Int)) >>= fun t1 =>
       if (t1 == B0_1) = true then
         if (decide ((0 : Int) ≤ (1 : Int)) && decide ((1 : Int) < (List.length B1 : Int))) = true then
           (idx B1 (1 : Int)) >>= fun t2 =>
           some ((t2 == B0_1, ()), ())
         else none
       else
         some ((false, ()), ())
     else none
   else
     if (s27 == (9 : Int)) = true then
       runF_ratchetbase_widthsFit n (.p3935 s27 (s27 == (9 : Int)) B0_0 B0_1 B0_2 B0_3 B1)
     else
       if (s27 == (10 : Int)) = true then
         runF_ratchetbase_widthsFit n (.p3935 s27 (s27 == (10 : Int)) B0_0 B0_1 B0_2 B0_3 B1)
       else
         runF_ratchetbase_widthsFit n (.p3935 s27 (s27 == (11 : Int)) B0_0 B0_1 B0_2 B0_3 B1)
 | n + 1, .p3935 s27 s57 B0_0 B0_1 B0_2 B0_3 B1 =>
   if s57 = true then
     if (decide ((0 : Int) ≤ (0 : Int)) && decide ((0 : Int) < (List.length B1 : Int))) = true then
       (idx B1 (0 : Int)) >>= fun t1 =>
       if (decide ((0 : Int) ≤ (1 : Int)) && decide ((1 : Int) < (List.length B1 : Int))) = true then
         (idx B1 (1 : Int)) >>= fun t2 =>
         if (t1 == t2) = true then
           some ((B0_1 == (1 : Int), ()), ())
         else
           some ((false, ()), ())
       else none
     else none
   else
     if (s27 == (12 : Int)) = true then
       if (decide ((0 : Int) ≤ (0 : Int)) && decide ((0 : Int) < (List.length B1 : Int))) = true then
         (idx B1 (0 : Int)) >>= fun t3 =>
         if (t3 == (1 : Int)) = true then
           if (decide ((0 : Int) ≤ (1 : Int)) && decide ((1 : Int) < (List.length B1 : Int))) = true then
             (idx B1 (1 : Int)) >>= fun t4 =>
             if (t4 == B0_1) = true then
               if (decide ((0 : Int) ≤ (2 : Int)) && decide ((2 : Int) < (List.length B1 : Int))) = true then
                 (idx B1 (2 : Int)) >>= fun t5 =>
                 some ((t5 == B0_1, ()), ())
               else none
             else
               some ((false, ()), ())
           else none
         else
           some ((false, ()), ())
       else none
     else
       if (s27 == (13 : Int)) = true then
         if (decide ((0 : Int) ≤ (0 : Int)) && decide ((0 : Int) < (List.length B1 : Int))) = true then
           (idx B1 (0 : Int)) >>= fun t6 =>
           if (decide ((0 : Int) ≤ (1 : Int)) && decide ((1 : Int) < (List.length B1 : Int))) = true then
             (idx B1 (1 : Int)) >>= fun t7 =>
             some (((IntKind.wrap .i64 (t6 + t7)) == B0_1, ()), ())
           else none
         else none
       else
         if (s27 == (14 : Int)) = true then
           if (decide ((0 : Int) ≤ (0 : Int)) && decide ((0 : Int) < (List.length B1 : Int))) = true then
             (idx B1 (0 : Int)) >>= fun t8 =>
             some ((decide ((IntKind.wrap .i64 (B0_3 + B0_1)) ≤ t8), ()), ())
           else none
         else
           if (s27 == (15 : Int)) = true then
             runF_ratchetbase_widthsFit n (.p1007615 (s27 == (15 : Int)) B0_0 B0_1 B0_2 B0_3 B1)
           else
             runF_ratchetbase_widthsFit n (.p1007615 (s27 == (16 : Int)) B0_0 B0_1 B0_2 B0_3 B1)
 | n + 1, .p1007615 s118 B0_0 B0_1 B0_2 B0_3 B1 =>
   if s118 = true then
     if (decide ((0 : Int) ≤ (0 : Int)) && decide ((0 : Int) < (List.length B1 : Int))) = true then
       (idx B1 (0 : Int)) >>= fun t1 =>
       some ((decide (t1 ≤ B0_1), ()), ())
     else none
   else
     if (decide ((0 : Int) ≤ (0 : Int)) && decide ((0 : Int) < (List.length B1 : Int))) = true then
       (idx B1 (0 : Int)) >>= fun t2 =>
       some ((t2 == B0_1, ()), ())
     else none
theorem runF_ratchetbase_widthsFit_le : ∀ (n : Nat) (p : P_ratchetbase_widthsFit), OLe (runF_ratchetbase_widthsFit n p) (run_ratchetbase_widthsFit p) := by
  intro n
  induction n with
  | zero => exact fun p r h => by cases h
  | succ n ih =>
    intro p
    cases p <;> rw [run_ratchetbase_widthsFit, runF_ratchetbase_widthsFit] <;> repeat' first | refine OLe.bind ?_ (fun _ => ?_) | refine OLe.ite ?_ ?_ | exact ih _ | exact OLe.refl _
noncomputable def runF_ratchetbase_nodeErr : Nat → P_ratchetbase_nodeErr → Option R_ratchetbase_nodeErr
 | 0, _ => none
 | n + 1, .start leaves0 nodes1 i2 =>
   (idx nodes1 i2) >>= fun t1 =>
   (runF_ratchetbase_Within n (.start t1.Op (0 : Int) (18 : Int))) >>= fun t2 =>
   if (!t2.1.1) = true then
     some (((15 : Int), ()), ())
   else
     (runF_ratchetbase_IsWidth n (.start t1.Width)) >>= fun t3 =>
     if (!t3.1.1) = true then
       some (((2 : Int), ()), ())
     else
       (runF_ratchetbase_ArgCount n (.start t1.Op)) >>= fun t4 =>
       if ((List.length t1.Args : Int) != t4.1.1) = true then
         some (((10 : Int), ()), ())
       else
         runF_ratchetbase_nodeErr n (.p1012 leaves0 nodes1 i2 (0 : Int) t1.Op t1.Width t1.Args t1.Value)
 | n + 1, .p1012 leaves0 nodes1 i2 k8 B0_0 B0_1 B0_2 B0_3 =>
   if (decide (k8 < (List.length B0_2 : Int))) = true then
     (idx B0_2 k8) >>= fun t1 =>
     (runF_ratchetbase_Within n (.start t1 (0 : Int) (IntKind.wrap .i64 (i2 - (1 : Int))))) >>= fun t2 =>
     if (!t2.1.1) = true then
       some (((9 : Int), ()), ())
     else
       runF_ratchetbase_nodeErr n (.p1012 leaves0 nodes1 i2 (IntKind.wrap .i64 (k8 + (1 : Int))) B0_0 B0_1 B0_2 B0_3)
   else
     if (B0_0 == (0 : Int)) = true then
       (runF_ratchetbase_Fits n (.start B0_3 B0_1)) >>= fun t3 =>
       if (!t3.1.1) = true then
         some (((2 : Int), ()), ())
       else
         some (((0 : Int), ()), ())
     else
       if (B0_0 == (1 : Int)) = true then
         (runF_ratchetbase_Within n (.start B0_3 (0 : Int) (IntKind.wrap .i64 ((List.length leaves0 : Int) - (1 : Int))))) >>= fun t4 =>
         if (!t4.1.1) = true then
           some (((6 : Int), ()), ())
         else
           (idx leaves0 B0_3) >>= fun t5 =>
           if (t5 != B0_1) = true then
             some (((25 : Int), ()), ())
           else
             some (((0 : Int), ()), ())
       else
         if (B0_0 == (14 : Int)) = true then
           (runF_ratchetbase_Within n (.start B0_3 (0 : Int) (15 : Int))) >>= fun t6 =>
           if (!t6.1.1) = true then
             some (((2 : Int), ()), ())
           else
             runF_ratchetbase_nodeErr n (.p255 nodes1 B0_0 B0_1 B0_2 B0_3)
         else
           if (B0_3 != (0 : Int)) = true then
             some (((3 : Int), ()), ())
           else
             runF_ratchetbase_nodeErr n (.p255 nodes1 B0_0 B0_1 B0_2 B0_3)
 | n + 1, .p255 nodes1 B0_0 B0_1 B0_2 B0_3 =>
   (runF_ratchetbase_widthsFit n (.start nodes1 B0_0 B0_1 B0_2 B0_3)) >>= fun t1 =>
   if (!t1.1.1) = true then
     some (((25 : Int), ()), ())
   else
     some (((0 : Int), ()), ())
theorem runF_ratchetbase_nodeErr_le : ∀ (n : Nat) (p : P_ratchetbase_nodeErr), OLe (runF_ratchetbase_nodeErr n p) (run_ratchetbase_nodeErr p) := by
  intro n
  induction n with
  | zero => exact fun p r h => by cases h
  | succ n ih =>
    intro p
    cases p <;> rw [run_ratchetbase_nodeErr, runF_ratchetbase_nodeErr] <;> repeat' first | refine OLe.bind ?_ (fun _ => ?_) | refine OLe.ite ?_ ?_ | exact runF_ratchetbase_Within_le n _ | exact runF_ratchetbase_Fits_le n _ | exact runF_ratchetbase_IsWidth_le n _ | exact runF_ratchetbase_ArgCount_le n _ | exact runF_ratchetbase_widthsFit_le n _ | exact ih _ | exact OLe.refl _
noncomputable def runF_ratchetbase_NodesErr : Nat → P_ratchetbase_NodesErr → Option R_ratchetbase_NodesErr
 | 0, _ => none
 | n + 1, .start leaves0 nodes1 =>
   if (decide ((List.length nodes1 : Int) > (400 : Int))) = true then
     some (((0 : Int), ((8 : Int), ())), ())
   else
     runF_ratchetbase_NodesErr n (.p116 leaves0 nodes1 (0 : Int))
 | n + 1, .p116 leaves0 nodes1 i6 =>
   if (decide (i6 < (List.length nodes1 : Int))) = true then
     (runF_ratchetbase_nodeErr n (.start leaves0 nodes1 i6)) >>= fun t1 =>
     if (t1.1.1 != (0 : Int)) = true then
       some ((i6, (t1.1.1, ())), ())
     else
       runF_ratchetbase_NodesErr n (.p116 leaves0 nodes1 (IntKind.wrap .i64 (i6 + (1 : Int))))
   else
     some (((0 : Int), ((0 : Int), ())), ())
theorem runF_ratchetbase_NodesErr_le : ∀ (n : Nat) (p : P_ratchetbase_NodesErr), OLe (runF_ratchetbase_NodesErr n p) (run_ratchetbase_NodesErr p) := by
  intro n
  induction n with
  | zero => exact fun p r h => by cases h
  | succ n ih =>
    intro p
    cases p <;> rw [run_ratchetbase_NodesErr, runF_ratchetbase_NodesErr] <;> repeat' first | refine OLe.bind ?_ (fun _ => ?_) | refine OLe.ite ?_ ?_ | exact runF_ratchetbase_nodeErr_le n _ | exact ih _ | exact OLe.refl _
noncomputable def runF_ratchetbase_IsNode : Nat → P_ratchetbase_IsNode → Option R_ratchetbase_IsNode
 | 0, _ => none
 | n + 1, .start nodes0 i1 =>
   (runF_ratchetbase_Within n (.start i1 (0 : Int) (IntKind.wrap .i64 ((List.length nodes0 : Int) - (1 : Int))))) >>= fun t1 =>
   some ((t1.1.1, ()), ())
theorem runF_ratchetbase_IsNode_le : ∀ (n : Nat) (p : P_ratchetbase_IsNode), OLe (runF_ratchetbase_IsNode n p) (run_ratchetbase_IsNode p) := by
  intro n
  induction n with
  | zero => exact fun p r h => by cases h
  | succ n ih =>
    intro p
    cases p <;> rw [run_ratchetbase_IsNode, runF_ratchetbase_IsNode] <;> repeat' first | refine OLe.bind ?_ (fun _ => ?_) | refine OLe.ite ?_ ?_ | exact runF_ratchetbase_Within_le n _ | exact ih _ | exact OLe.refl _
noncomputable def runF_ratchetbase_OutputsErr : Nat → P_ratchetbase_OutputsErr → Option R_ratchetbase_OutputsErr
 | 0, _ => none
 | n + 1, .start nodes0 l1 =>
   if (decide ((List.length l1 : Int) > (12 : Int))) = true then
     some (((0 : Int), ((8 : Int), ())), ())
   else
     runF_ratchetbase_OutputsErr n (.p116 nodes0 l1 (0 : Int))
 | n + 1, .p116 nodes0 l1 i6 =>
   if (decide (i6 < (List.length l1 : Int))) = true then
     (idx l1 i6) >>= fun t1 =>
     (runF_ratchetbase_IsName n (.start t1.Name)) >>= fun t2 =>
     if (!t2.1.1) = true then
       some ((i6, ((4 : Int), ())), ())
     else
       runF_ratchetbase_OutputsErr n (.p29844 nodes0 l1 i6 (0 : Int))
   else
     some (((0 : Int), ((0 : Int), ())), ())
 | n + 1, .p29844 nodes0 l1 i6 k7 =>
   if (decide (k7 < i6)) = true then
     (idx l1 k7) >>= fun t1 =>
     (idx l1 i6) >>= fun t2 =>
     if (seq t1.Name t2.Name) = true then
       some ((i6, ((5 : Int), ())), ())
     else
       runF_ratchetbase_OutputsErr n (.p29844 nodes0 l1 i6 (IntKind.wrap .i64 (k7 + (1 : Int))))
   else
     (idx l1 i6) >>= fun t3 =>
     (runF_ratchetbase_IsNode n (.start nodes0 t3.Node)) >>= fun t4 =>
     if (!t4.1.1) = true then
       some ((i6, ((9 : Int), ())), ())
     else
       runF_ratchetbase_OutputsErr n (.p116 nodes0 l1 (IntKind.wrap .i64 (i6 + (1 : Int))))
theorem runF_ratchetbase_OutputsErr_le : ∀ (n : Nat) (p : P_ratchetbase_OutputsErr), OLe (runF_ratchetbase_OutputsErr n p) (run_ratchetbase_OutputsErr p) := by
  intro n
  induction n with
  | zero => exact fun p r h => by cases h
  | succ n ih =>
    intro p
    cases p <;> rw [run_ratchetbase_OutputsErr, runF_ratchetbase_OutputsErr] <;> repeat' first | refine OLe.bind ?_ (fun _ => ?_) | refine OLe.ite ?_ ?_ | exact runF_ratchetbase_IsName_le n _ | exact runF_ratchetbase_IsNode_le n _ | exact ih _ | exact OLe.refl _
noncomputable def runF_ratchetbase_IsCondition : Nat → P_ratchetbase_IsCondition → Option R_ratchetbase_IsCondition
 | 0, _ => none
 | n + 1, .start nodes0 i1 =>
   (runF_ratchetbase_IsNode n (.start nodes0 i1)) >>= fun t1 =>
   if t1.1.1 = true then
     (idx nodes0 i1) >>= fun t2 =>
     some ((t2.Width == (1 : Int), ()), ())
   else
     some ((false, ()), ())
theorem runF_ratchetbase_IsCondition_le : ∀ (n : Nat) (p : P_ratchetbase_IsCondition), OLe (runF_ratchetbase_IsCondition n p) (run_ratchetbase_IsCondition p) := by
  intro n
  induction n with
  | zero => exact fun p r h => by cases h
  | succ n ih =>
    intro p
    cases p <;> rw [run_ratchetbase_IsCondition, runF_ratchetbase_IsCondition] <;> repeat' first | refine OLe.bind ?_ (fun _ => ?_) | refine OLe.ite ?_ ?_ | exact runF_ratchetbase_IsNode_le n _ | exact ih _ | exact OLe.refl _
noncomputable def runF_ratchetbase_WritesErr : Nat → P_ratchetbase_WritesErr → Option R_ratchetbase_WritesErr
 | 0, _ => none
 | n + 1, .start elements0 nodes1 l2 =>
   if (decide ((List.length l2 : Int) > (16 : Int))) = true then
     some (((8 : Int), ()), ())
   else
     runF_ratchetbase_WritesErr n (.p116 elements0 nodes1 l2 (0 : Int))
 | n + 1, .p116 elements0 nodes1 l2 i7 =>
   if (decide (i7 < (List.length l2 : Int))) = true then
     (idx l2 i7) >>= fun t1 =>
     (runF_ratchetbase_Within n (.start t1.Element (0 : Int) (IntKind.wrap .i64 ((List.length elements0 : Int) - (1 : Int))))) >>= fun t2 =>
     if (!t2.1.1) = true then
       some (((6 : Int), ()), ())
     else
       (idx l2 i7) >>= fun t3 =>
       (runF_ratchetbase_IsCondition n (.start nodes1 t3.When)) >>= fun t4 =>
       if (!t4.1.1) = true then
         some (((9 : Int), ()), ())
       else
         (idx l2 i7) >>= fun t5 =>
         (runF_ratchetbase_IsNode n (.start nodes1 t5.Value)) >>= fun t6 =>
         if (!t6.1.1) = true then
           some (((9 : Int), ()), ())
         else
           runF_ratchetbase_WritesErr n (.p3731 elements0 nodes1 l2 i7)
   else
     some (((0 : Int), ()), ())
 | n + 1, .p3731 elements0 nodes1 l2 i7 =>
   (idx l2 i7) >>= fun t1 =>
   (idx nodes1 t1.Value) >>= fun t2 =>
   (idx l2 i7) >>= fun t3 =>
   (idx elements0 t3.Element) >>= fun t4 =>
   if (t2.Width != t4.Width) = true then
     some (((25 : Int), ()), ())
   else
     runF_ratchetbase_WritesErr n (.p116 elements0 nodes1 l2 (IntKind.wrap .i64 (i7 + (1 : Int))))
theorem runF_ratchetbase_WritesErr_le : ∀ (n : Nat) (p : P_ratchetbase_WritesErr), OLe (runF_ratchetbase_WritesErr n p) (run_ratchetbase_WritesErr p) := by
  intro n
  induction n with
  | zero => exact fun p r h => by cases h
  | succ n ih =>
    intro p
    cases p <;> rw [run_ratchetbase_WritesErr, runF_ratchetbase_WritesErr] <;> repeat' first | refine OLe.bind ?_ (fun _ => ?_) | refine OLe.ite ?_ ?_ | exact runF_ratchetbase_Within_le n _ | exact runF_ratchetbase_IsNode_le n _ | exact runF_ratchetbase_IsCondition_le n _ | exact ih _ | exact OLe.refl _
noncomputable def runF_ratchetbase_Has : Nat → P_ratchetbase_Has → Option R_ratchetbase_Has
 | 0, _ => none
 | n + 1, .start l0 n1 =>
   runF_ratchetbase_Has n (.p52 l0 n1 (0 : Int))
 | n + 1, .p52 l0 n1 i5 =>
   if (decide (i5 < (List.length l0 : Int))) = true then
     (idx l0 i5) >>= fun t1 =>
     if (t1 == n1) = true then
       some ((true, ()), ())
     else
       runF_ratchetbase_Has n (.p52 l0 n1 (IntKind.wrap .i64 (i5 + (1 : Int))))
   else
     some ((false, ()), ())
theorem runF_ratchetbase_Has_le : ∀ (n : Nat) (p : P_ratchetbase_Has), OLe (runF_ratchetbase_Has n p) (run_ratchetbase_Has p) := by
  intro n
  induction n with
  | zero => exact fun p r h => by cases h
  | succ n ih =>
    intro p
    cases p <;> rw [run_ratchetbase_Has, runF_ratchetbase_Has] <;> repeat' first | refine OLe.bind ?_ (fun _ => ?_) | refine OLe.ite ?_ ?_ | exact ih _ | exact OLe.refl _
noncomputable def runF_ratchetbase_DesignErr : Nat → P_ratchetbase_DesignErr → Option R_ratchetbase_DesignErr
 | 0, _ => none
 | n + 1, .start d0_0 d0_1 d0_2 d0_3 d0_4 d0_5 d0_6 =>
   (runF_ratchetbase_IsName n (.start d0_0)) >>= fun t1 =>
   if (!t1.1.1) = true then
     some (((0 : Int), ((4 : Int), ())), ())
   else
     (runF_ratchetbase_PortsErr n (.start d0_1)) >>= fun t2 =>
     if (t2.1.2.1 != (0 : Int)) = true then
       some ((t2.1.1, (t2.1.2.1, ())), ())
     else
       (runF_ratchetbase_ElementsErr n (.start d0_1 d0_2)) >>= fun t3 =>
       if (t3.1.2.1 != (0 : Int)) = true then
         some ((t3.1.1, (t3.1.2.1, ())), ())
       else
         (runF_ratchetbase_Leaves n (.start d0_0 d0_1 d0_2 d0_3 d0_4 d0_5 d0_6)) >>= fun t4 =>
         (runF_ratchetbase_NodesErr n (.start t4.2.1 d0_3)) >>= fun t5 =>
         if (t5.1.2.1 != (0 : Int)) = true then
           some ((t5.1.1, (t5.1.2.1, ())), ())
         else
           if (decide ((List.length d0_4 : Int) > (16 : Int))) = true then
             some (((0 : Int), ((8 : Int), ())), ())
           else
             runF_ratchetbase_DesignErr n (.p2036 (0 : Int) d0_0 d0_1 d0_2 d0_3 d0_4 d0_5 d0_6)
 | n + 1, .p2036 i10 B0_0 B0_1 B0_2 B0_3 B0_4 B0_5 B0_6 =>
   if (decide (i10 < (List.length B0_4 : Int))) = true then
     (idx B0_4 i10) >>= fun t1 =>
     (runF_ratchetbase_IsName n (.start t1.Name)) >>= fun t2 =>
     if (!t2.1.1) = true then
       some ((i10, ((4 : Int), ())), ())
     else
       runF_ratchetbase_DesignErr n (.p1042740 i10 (0 : Int) B0_0 B0_1 B0_2 B0_3 B0_4 B0_5 B0_6 t1.Name t1.Guard t1.Writes)
   else
     (runF_ratchetbase_OutputsErr n (.start B0_3 B0_5)) >>= fun t3 =>
     if (t3.1.2.1 != (0 : Int)) = true then
       some ((t3.1.1, (t3.1.2.1, ())), ())
     else
       if (decide ((List.length B0_6 : Int) > (16 : Int))) = true then
         some (((0 : Int), ((8 : Int), ())), ())
       else
         runF_ratchetbase_DesignErr n (.p16372 (0 : Int) B0_0 B0_1 B0_2 B0_3 B0_4 B0_5 B0_6)
 | n + 1, .p1042740 i10 k12 B0_0 B0_1 B0_2 B0_3 B0_4 B0_5 B0_6 B1_0 B1_1 B1_2 =>
   if (decide (k12 < i10)) = true then
     (idx B0_4 k12) >>= fun t1 =>
     if (seq t1.Name B1_0) = true then
       some ((i10, ((5 : Int), ())), ())
     else
       runF_ratchetbase_DesignErr n (.p1042740 i10 (IntKind.wrap .i64 (k12 + (1 : Int))) B0_0 B0_1 B0_2 B0_3 B0_4 B0_5 B0_6 B1_0 B1_1 B1_2)
   else
     (runF_ratchetbase_IsCondition n (.start B0_3 B1_1)) >>= fun t2 =>
     if (!t2.1.1) = true then
       some ((i10, ((9 : Int), ())), ())
     else
       (runF_ratchetbase_WritesErr n (.start B0_2 B0_3 B1_2)) >>= fun t3 =>
       if (t3.1.1 != (0 : Int)) = true then
         some ((i10, (t3.1.1, ())), ())
       else
         runF_ratchetbase_DesignErr n (.p2036 (IntKind.wrap .i64 (i10 + (1 : Int))) B0_0 B0_1 B0_2 B0_3 B0_4 B0_5 B0_6)
 | n + 1, .p16372 i16 B0_0 B0_1 B0_2 B0_3 B0_4 B0_5 B0_6 =>
   if (decide (i16 < (List.length B0_6 : Int))) = true then
     (idx B0_6 i16) >>= fun t1 =>
     (runF_ratchetbase_Within n (.start t1.Kind (0 : Int) (3 : Int))) >>= fun t2 =>
     if (!t2.1.1) = true then
       some ((i16, ((15 : Int), ())), ())
     else
       if ((List.length t1.Rules : Int) == (0 : Int)) = true then
         some ((i16, ((10 : Int), ())), ())
       else
         if (decide ((List.length t1.Rules : Int) > (16 : Int))) = true then
           some ((i16, ((10 : Int), ())), ())
         else
           runF_ratchetbase_DesignErr n (.p1047847 i16 B0_0 B0_1 B0_2 B0_3 B0_4 B0_5 B0_6 t1.Kind t1.Rules)
   else
     some (((0 : Int), ((0 : Int), ())), ())
 | n + 1, .p1047847 i16 B0_0 B0_1 B0_2 B0_3 B0_4 B0_5 B0_6 B1_0 B1_1 =>
   runF_ratchetbase_DesignErr n (.p8382780 i16 (0 : Int) B0_0 B0_1 B0_2 B0_3 B0_4 B0_5 B0_6 B1_0 B1_1)
 | n + 1, .p8382780 i16 k18 B0_0 B0_1 B0_2 B0_3 B0_4 B0_5 B0_6 B1_0 B1_1 =>
   if (decide (k18 < (List.length B1_1 : Int))) = true then
     (idx B1_1 k18) >>= fun t1 =>
     (runF_ratchetbase_Within n (.start t1 (0 : Int) (IntKind.wrap .i64 ((List.length B0_4 : Int) - (1 : Int))))) >>= fun t2 =>
     if (!t2.1.1) = true then
       some ((i16, ((6 : Int), ())), ())
     else
       (span (List.length B1_1) (0 : Int) k18) >>= fun t3 =>
       (idx B1_1 k18) >>= fun t4 =>
       (runF_ratchetbase_Has n (.start (cut B1_1 t3) t4)) >>= fun t5 =>
       if t5.1.1 = true then
         some ((i16, ((23 : Int), ())), ())
       else
         runF_ratchetbase_DesignErr n (.p8382780 i16 (IntKind.wrap .i64 (k18 + (1 : Int))) B0_0 B0_1 B0_2 B0_3 B0_4 B0_5 B0_6 B1_0 B1_1)
   else
     runF_ratchetbase_DesignErr n (.p16372 (IntKind.wrap .i64 (i16 + (1 : Int))) B0_0 B0_1 B0_2 B0_3 B0_4 B0_5 B0_6)
theorem runF_ratchetbase_DesignErr_le : ∀ (n : Nat) (p : P_ratchetbase_DesignErr), OLe (runF_ratchetbase_DesignErr n p) (run_ratchetbase_DesignErr p) := by
  intro n
  induction n with
  | zero => exact fun p r h => by cases h
  | succ n ih =>
    intro p
    cases p <;> rw [run_ratchetbase_DesignErr, runF_ratchetbase_DesignErr] <;> repeat' first | refine OLe.bind ?_ (fun _ => ?_) | refine OLe.ite ?_ ?_ | exact runF_ratchetbase_Within_le n _ | exact runF_ratchetbase_IsName_le n _ | exact runF_ratchetbase_PortsErr_le n _ | exact runF_ratchetbase_ElementsErr_le n _ | exact runF_ratchetbase_Leaves_le n _ | exact runF_ratchetbase_NodesErr_le n _ | exact runF_ratchetbase_OutputsErr_le n _ | exact runF_ratchetbase_IsCondition_le n _ | exact runF_ratchetbase_WritesErr_le n _ | exact runF_ratchetbase_Has_le n _ | exact ih _ | exact OLe.refl _
noncomputable def runF_ratchetbase_IsDesign : Nat → P_ratchetbase_IsDesign → Option R_ratchetbase_IsDesign
 | 0, _ => none
 | n + 1, .start d0_0 d0_1 d0_2 d0_3 d0_4 d0_5 d0_6 =>
   (runF_ratchetbase_DesignErr n (.start d0_0 d0_1 d0_2 d0_3 d0_4 d0_5 d0_6)) >>= fun t1 =>
   some ((t1.1.2.1 == (0 : Int), ()), ())
theorem runF_ratchetbase_IsDesign_le : ∀ (n : Nat) (p : P_ratchetbase_IsDesign), OLe (runF_ratchetbase_IsDesign n p) (run_ratchetbase_IsDesign p) := by
  intro n
  induction n with
  | zero => exact fun p r h => by cases h
  | succ n ih =>
    intro p
    cases p <;> rw [run_ratchetbase_IsDesign, runF_ratchetbase_IsDesign] <;> repeat' first | refine OLe.bind ?_ (fun _ => ?_) | refine OLe.ite ?_ ?_ | exact runF_ratchetbase_DesignErr_le n _ | exact ih _ | exact OLe.refl _
noncomputable def runF_ratchetref31_CacheNames : Nat → P_ratchetref31_CacheNames → Option R_ratchetref31_CacheNames
 | 0, _ => none
 | n + 1, .start =>
   some ((([(⟨#[114, 101, 97, 100, 48]⟩ : ByteArray), (⟨#[111, 119, 110, 48]⟩ : ByteArray), (⟨#[119, 114, 105, 116, 101, 48]⟩ : ByteArray), (⟨#[100, 114, 111, 112, 48]⟩ : ByteArray), (⟨#[98, 97, 99, 107, 48]⟩ : ByteArray), (⟨#[121, 105, 101, 108, 100, 48]⟩ : ByteArray), (⟨#[114, 101, 97, 100, 49]⟩ : ByteArray), (⟨#[111, 119, 110, 49]⟩ : ByteArray), (⟨#[119, 114, 105, 116, 101, 49]⟩ : ByteArray), (⟨#[100, 114, 111, 112, 49]⟩ : ByteArray), (⟨#[98, 97, 99, 107, 49]⟩ : ByteArray), (⟨#[121, 105, 101, 108, 100, 49]⟩ : ByteArray)] : List ByteArray), ()), ())
theorem runF_ratchetref31_CacheNames_le : ∀ (n : Nat) (p : P_ratchetref31_CacheNames), OLe (runF_ratchetref31_CacheNames n p) (run_ratchetref31_CacheNames p) := by
  intro n
  induction n with
  | zero => exact fun p r h => by cases h
  | succ n ih =>
    intro p
    cases p <;> rw [run_ratchetref31_CacheNames, runF_ratchetref31_CacheNames] <;> repeat' first | refine OLe.bind ?_ (fun _ => ?_) | refine OLe.ite ?_ ?_ | exact ih _ | exact OLe.refl _
noncomputable def runF_ratchetbase_Mod : Nat → P_ratchetbase_Mod → Option R_ratchetbase_Mod
 | 0, _ => none
 | n + 1, .start n0 by1 =>
   if (!(by1 == (0 : Int))) = true then
     if (decide ((Int.tmod n0 by1) < (0 : Int))) = true then
       some ((IntKind.wrap .i64 ((Int.tmod n0 by1) + by1), ()), ())
     else
       some ((Int.tmod n0 by1, ()), ())
   else none
theorem runF_ratchetbase_Mod_le : ∀ (n : Nat) (p : P_ratchetbase_Mod), OLe (runF_ratchetbase_Mod n p) (run_ratchetbase_Mod p) := by
  intro n
  induction n with
  | zero => exact fun p r h => by cases h
  | succ n ih =>
    intro p
    cases p <;> rw [run_ratchetbase_Mod, runF_ratchetbase_Mod] <;> repeat' first | refine OLe.bind ?_ (fun _ => ?_) | refine OLe.ite ?_ ?_ | exact ih _ | exact OLe.refl _
noncomputable def runF_ratchetbase_CopyInts_v1 : Nat → P_ratchetbase_CopyInts_v1 → Option R_ratchetbase_CopyInts_v1
 | 0, _ => none
 | n + 1, .start l0 =>
   if (fits (List.length ([] : List Int)) (List.length l0) 8) = true then
     some (((), ()), (([] : List Int) ++ l0, ()))
   else none
theorem runF_ratchetbase_CopyInts_v1_le : ∀ (n : Nat) (p : P_ratchetbase_CopyInts_v1), OLe (runF_ratchetbase_CopyInts_v1 n p) (run_ratchetbase_CopyInts_v1 p) := by
  intro n
  induction n with
  | zero => exact fun p r h => by cases h
  | succ n ih =>
    intro p
    cases p <;> rw [run_ratchetbase_CopyInts_v1, runF_ratchetbase_CopyInts_v1] <;> repeat' first | refine OLe.bind ?_ (fun _ => ?_) | refine OLe.ite ?_ ?_ | exact ih _ | exact OLe.refl _
noncomputable def runF_ratchetref31_CacheRule : Nat → P_ratchetref31_CacheRule → Option R_ratchetref31_CacheRule
 | 0, _ => none
 | n + 1, .start width0 s1 rule2 =>
   if (!((6 : Int) == (0 : Int))) = true then
     if (!((6 : Int) == (0 : Int))) = true then
       (runF_ratchetbase_CopyInts_v1 n (.start s1)) >>= fun t1 =>
       if ((Int.tmod rule2 (6 : Int)) == (0 : Int)) = true then
         (idx s1 (0 : Int)) >>= fun t2 =>
         if (decide ((0 : Int) ≤ (IntKind.wrap .i64 ((1 : Int) + (IntKind.wrap .i64 ((2 : Int) * (IntKind.wrap .i64 (Int.tdiv rule2 (6 : Int)))))))) && decide ((IntKind.wrap .i64 ((1 : Int) + (IntKind.wrap .i64 ((2 : Int) * (IntKind.wrap .i64 (Int.tdiv rule2 (6 : Int))))))) < (List.length t1.2.1 : Int))) = true then
           (idx t1.2.1 (IntKind.wrap .i64 ((1 : Int) + (IntKind.wrap .i64 ((2 : Int) * (IntKind.wrap .i64 (Int.tdiv rule2 (6 : Int)))))))) >>= fun t3 =>
           if (decide ((0 : Int) ≤ (IntKind.wrap .i64 ((2 : Int) + (IntKind.wrap .i64 ((2 : Int) * (IntKind.wrap .i64 (Int.tdiv rule2 (6 : Int)))))))) && decide ((IntKind.wrap .i64 ((2 : Int) + (IntKind.wrap .i64 ((2 : Int) * (IntKind.wrap .i64 (Int.tdiv rule2 (6 : Int))))))) < (List.length (List.set t1.2.1 (Int.toNat (IntKind.wrap .i64 ((1 : Int) + (IntKind.wrap .i64 ((2 : Int) * (IntKind.wrap .i64 (Int.tdiv rule2 (6 : Int)))))))) (1 : Int)) : Int))) = true then
             (idx (List.set t1.2.1 (Int.toNat (IntKind.wrap .i64 ((1 : Int) + (IntKind.wrap .i64 ((2 : Int) * (IntKind.wrap .i64 (Int.tdiv rule2 (6 : Int)))))))) (1 : Int)) (IntKind.wrap .i64 ((2 : Int) + (IntKind.wrap .i64 ((2 : Int) * (IntKind.wrap .i64 (Int.tdiv rule2 (6 : Int)))))))) >>= fun t4 =>
             (idx s1 (IntKind.wrap .i64 ((1 : Int) + (IntKind.wrap .i64 ((2 : Int) * (IntKind.wrap .i64 (Int.tdiv rule2 (6 : Int)))))))) >>= fun t5 =>
             if (t5 == (0 : Int)) = true then
               (idx s1 (IntKind.wrap .i64 ((3 : Int) - (IntKind.wrap .i64 ((2 : Int) * (IntKind.wrap .i64 (Int.tdiv rule2 (6 : Int)))))))) >>= fun t6 =>
               some ((t6 != (2 : Int), ((), ())), (List.set (List.set t1.2.1 (Int.toNat (IntKind.wrap .i64 ((1 : Int) + (IntKind.wrap .i64 ((2 : Int) * (IntKind.wrap .i64 (Int.tdiv rule2 (6 : Int)))))))) (1 : Int)) (Int.toNat (IntKind.wrap .i64 ((2 : Int) + (IntKind.wrap .i64 ((2 : Int) * (IntKind.wrap .i64 (Int.tdiv rule2 (6 : Int)))))))) t2, ()))
             else
               some ((false, ((), ())), (List.set (List.set t1.2.1 (Int.toNat (IntKind.wrap .i64 ((1 : Int) + (IntKind.wrap .i64 ((2 : Int) * (IntKind.wrap .i64 (Int.tdiv rule2 (6 : Int)))))))) (1 : Int)) (Int.toNat (IntKind.wrap .i64 ((2 : Int) + (IntKind.wrap .i64 ((2 : Int) * (IntKind.wrap .i64 (Int.tdiv rule2 (6 : Int)))))))) t2, ()))
           else none
         else none
       else
         if ((Int.tmod rule2 (6 : Int)) == (1 : Int)) = true then
           if (decide ((0 : Int) ≤ (IntKind.wrap .i64 ((1 : Int) + (IntKind.wrap .i64 ((2 : Int) * (IntKind.wrap .i64 (Int.tdiv rule2 (6 : Int)))))))) && decide ((IntKind.wrap .i64 ((1 : Int) + (IntKind.wrap .i64 ((2 : Int) * (IntKind.wrap .i64 (Int.tdiv rule2 (6 : Int))))))) < (List.length t1.2.1 : Int))) = true then
             (idx t1.2.1 (IntKind.wrap .i64 ((1 : Int) + (IntKind.wrap .i64 ((2 : Int) * (IntKind.wrap .i64 (Int.tdiv rule2 (6 : Int)))))))) >>= fun t7 =>
             (idx s1 (IntKind.wrap .i64 ((1 : Int) + (IntKind.wrap .i64 ((2 : Int) * (IntKind.wrap .i64 (Int.tdiv rule2 (6 : Int)))))))) >>= fun t8 =>
             if (t8 == (0 : Int)) = true then
               (idx s1 (0 : Int)) >>= fun t9 =>
               if (decide ((0 : Int) ≤ (IntKind.wrap .i64 ((2 : Int) + (IntKind.wrap .i64 ((2 : Int) * (IntKind.wrap .i64 (Int.tdiv rule2 (6 : Int)))))))) && decide ((IntKind.wrap .i64 ((2 : Int) + (IntKind.wrap .i64 ((2 : Int) * (IntKind.wrap .i64 (Int.tdiv rule2 (6 : Int))))))) < (List.length (List.set t1.2.1 (Int.toNat (IntKind.wrap .i64 ((1 : Int) + (IntKind.wrap .i64 ((2 : Int) * (IntKind.wrap .i64 (Int.tdiv rule2 (6 : Int)))))))) (2 : Int)) : Int))) = true then
                 (idx (List.set t1.2.1 (Int.toNat (IntKind.wrap .i64 ((1 : Int) + (IntKind.wrap .i64 ((2 : Int) * (IntKind.wrap .i64 (Int.tdiv rule2 (6 : Int)))))))) (2 : Int)) (IntKind.wrap .i64 ((2 : Int) + (IntKind.wrap .i64 ((2 : Int) * (IntKind.wrap .i64 (Int.tdiv rule2 (6 : Int)))))))) >>= fun t10 =>
                 runF_ratchetref31_CacheRule n (.p16059 s1 (IntKind.wrap .i64 ((1 : Int) + (IntKind.wrap .i64 ((2 : Int) * (IntKind.wrap .i64 (Int.tdiv rule2 (6 : Int))))))) (IntKind.wrap .i64 ((3 : Int) - (IntKind.wrap .i64 ((2 : Int) * (IntKind.wrap .i64 (Int.tdiv rule2 (6 : Int))))))) (List.set (List.set t1.2.1 (Int.toNat (IntKind.wrap .i64 ((1 : Int) + (IntKind.wrap .i64 ((2 : Int) * (IntKind.wrap .i64 (Int.tdiv rule2 (6 : Int)))))))) (2 : Int)) (Int.toNat (IntKind.wrap .i64 ((2 : Int) + (IntKind.wrap .i64 ((2 : Int) * (IntKind.wrap .i64 (Int.tdiv rule2 (6 : Int)))))))) t9))
               else none
             else
               runF_ratchetref31_CacheRule n (.p16059 s1 (IntKind.wrap .i64 ((1 : Int) + (IntKind.wrap .i64 ((2 : Int) * (IntKind.wrap .i64 (Int.tdiv rule2 (6 : Int))))))) (IntKind.wrap .i64 ((3 : Int) - (IntKind.wrap .i64 ((2 : Int) * (IntKind.wrap .i64 (Int.tdiv rule2 (6 : Int))))))) (List.set t1.2.1 (Int.toNat (IntKind.wrap .i64 ((1 : Int) + (IntKind.wrap .i64 ((2 : Int) * (IntKind.wrap .i64 (Int.tdiv rule2 (6 : Int)))))))) (2 : Int)))
           else none
         else
           if ((Int.tmod rule2 (6 : Int)) == (2 : Int)) = true then
             (idx s1 (IntKind.wrap .i64 ((2 : Int) + (IntKind.wrap .i64 ((2 : Int) * (IntKind.wrap .i64 (Int.tdiv rule2 (6 : Int)))))))) >>= fun t11 =>
             (runF_ratchetbase_Power n (.start width0)) >>= fun t12 =>
             if (!(t12.1.1 == (0 : Int))) = true then
               if (decide ((0 : Int) ≤ (IntKind.wrap .i64 ((2 : Int) + (IntKind.wrap .i64 ((2 : Int) * (IntKind.wrap .i64 (Int.tdiv rule2 (6 : Int)))))))) && decide ((IntKind.wrap .i64 ((2 : Int) + (IntKind.wrap .i64 ((2 : Int) * (IntKind.wrap .i64 (Int.tdiv rule2 (6 : Int))))))) < (List.length t1.2.1 : Int))) = true then
                 (idx t1.2.1 (IntKind.wrap .i64 ((2 : Int) + (IntKind.wrap .i64 ((2 : Int) * (IntKind.wrap .i64 (Int.tdiv rule2 (6 : Int)))))))) >>= fun t13 =>
                 (idx s1 (IntKind.wrap .i64 ((1 : Int) + (IntKind.wrap .i64 ((2 : Int) * (IntKind.wrap .i64 (Int.tdiv rule2 (6 : Int)))))))) >>= fun t14 =>
                 some ((t14 == (2 : Int), ((), ())), (List.set t1.2.1 (Int.toNat (IntKind.wrap .i64 ((2 : Int) + (IntKind.wrap .i64 ((2 : Int) * (IntKind.wrap .i64 (Int.tdiv rule2 (6 : Int)))))))) (Int.tmod (IntKind.wrap .i64 (t11 + (1 : Int))) t12.1.1), ()))
               else none
             else none
           else
             if ((Int.tmod rule2 (6 : Int)) == (3 : Int)) = true then
               if (decide ((0 : Int) ≤ (IntKind.wrap .i64 ((1 : Int) + (IntKind.wrap .i64 ((2 : Int) * (IntKind.wrap .i64 (Int.tdiv rule2 (6 : Int)))))))) && decide ((IntKind.wrap .i64 ((1 : Int) + (IntKind.wrap .i64 ((2 : Int) * (IntKind.wrap .i64 (Int.tdiv rule2 (6 : Int))))))) < (List.length t1.2.1 : Int))) = true then
                 (idx t1.2.1 (IntKind.wrap .i64 ((1 : Int) + (IntKind.wrap .i64 ((2 : Int) * (IntKind.wrap .i64 (Int.tdiv rule2 (6 : Int)))))))) >>= fun t15 =>
                 (idx s1 (IntKind.wrap .i64 ((1 : Int) + (IntKind.wrap .i64 ((2 : Int) * (IntKind.wrap .i64 (Int.tdiv rule2 (6 : Int)))))))) >>= fun t16 =>
                 some ((t16 == (1 : Int), ((), ())), (List.set t1.2.1 (Int.toNat (IntKind.wrap .i64 ((1 : Int) + (IntKind.wrap .i64 ((2 : Int) * (IntKind.wrap .i64 (Int.tdiv rule2 (6 : Int)))))))) (0 : Int), ()))
               else none
             else
               if ((Int.tmod rule2 (6 : Int)) == (4 : Int)) = true then
                 (idx s1 (IntKind.wrap .i64 ((2 : Int) + (IntKind.wrap .i64 ((2 : Int) * (IntKind.wrap .i64 (Int.tdiv rule2 (6 : Int)))))))) >>= fun t17 =>
                 if (decide ((0 : Int) ≤ (IntKind.wrap .i64 ((1 : Int) + (IntKind.wrap .i64 ((2 : Int) * (IntKind.wrap .i64 (Int.tdiv rule2 (6 : Int)))))))) && decide ((IntKind.wrap .i64 ((1 : Int) + (IntKind.wrap .i64 ((2 : Int) * (IntKind.wrap .i64 (Int.tdiv rule2 (6 : Int))))))) < (List.length t1.2.1 : Int))) = true then
                   (idx t1.2.1 (IntKind.wrap .i64 ((1 : Int) + (IntKind.wrap .i64 ((2 : Int) * (IntKind.wrap .i64 (Int.tdiv rule2 (6 : Int)))))))) >>= fun t18 =>
                   if (decide ((0 : Int) ≤ (0 : Int)) && decide ((0 : Int) < (List.length (List.set t1.2.1 (Int.toNat (IntKind.wrap .i64 ((1 : Int) + (IntKind.wrap .i64 ((2 : Int) * (IntKind.wrap .i64 (Int.tdiv rule2 (6 : Int)))))))) (1 : Int)) : Int))) = true then
                     (idx (List.set t1.2.1 (Int.toNat (IntKind.wrap .i64 ((1 : Int) + (IntKind.wrap .i64 ((2 : Int) * (IntKind.wrap .i64 (Int.tdiv rule2 (6 : Int)))))))) (1 : Int)) (0 : Int)) >>= fun t19 =>
                     (idx s1 (IntKind.wrap .i64 ((1 : Int) + (IntKind.wrap .i64 ((2 : Int) * (IntKind.wrap .i64 (Int.tdiv rule2 (6 : Int)))))))) >>= fun t20 =>
                     some ((t20 == (2 : Int), ((), ())), (List.set (List.set t1.2.1 (Int.toNat (IntKind.wrap .i64 ((1 : Int) + (IntKind.wrap .i64 ((2 : Int) * (IntKind.wrap .i64 (Int.tdiv rule2 (6 : Int)))))))) (1 : Int)) (Int.toNat (0 : Int)) t17, ()))
                   else none
                 else none
               else
                 if (decide ((0 : Int) ≤ (IntKind.wrap .i64 ((1 : Int) + (IntKind.wrap .i64 ((2 : Int) * (IntKind.wrap .i64 (Int.tdiv rule2 (6 : Int)))))))) && decide ((IntKind.wrap .i64 ((1 : Int) + (IntKind.wrap .i64 ((2 : Int) * (IntKind.wrap .i64 (Int.tdiv rule2 (6 : Int))))))) < (List.length t1.2.1 : Int))) = true then
                   (idx t1.2.1 (IntKind.wrap .i64 ((1 : Int) + (IntKind.wrap .i64 ((2 : Int) * (IntKind.wrap .i64 (Int.tdiv rule2 (6 : Int)))))))) >>= fun t21 =>
                   if (decide ((0 : Int) ≤ (IntKind.wrap .i64 ((3 : Int) - (IntKind.wrap .i64 ((2 : Int) * (IntKind.wrap .i64 (Int.tdiv rule2 (6 : Int)))))))) && decide ((IntKind.wrap .i64 ((3 : Int) - (IntKind.wrap .i64 ((2 : Int) * (IntKind.wrap .i64 (Int.tdiv rule2 (6 : Int))))))) < (List.length (List.set t1.2.1 (Int.toNat (IntKind.wrap .i64 ((1 : Int) + (IntKind.wrap .i64 ((2 : Int) * (IntKind.wrap .i64 (Int.tdiv rule2 (6 : Int)))))))) (0 : Int)) : Int))) = true then
                     (idx (List.set t1.2.1 (Int.toNat (IntKind.wrap .i64 ((1 : Int) + (IntKind.wrap .i64 ((2 : Int) * (IntKind.wrap .i64 (Int.tdiv rule2 (6 : Int)))))))) (0 : Int)) (IntKind.wrap .i64 ((3 : Int) - (IntKind.wrap .i64 ((2 : Int) * (IntKind.wrap .i64 (Int.tdiv rule2 (6 : Int)))))))) >>= fun t22 =>
                     (idx s1 (IntKind.wrap .i64 ((1 : Int) + (IntKind.wrap .i64 ((2 : Int) * (IntKind.wrap .i64 (Int.tdiv rule2 (6 : Int)))))))) >>= fun t23 =>
                     if (t23 == (1 : Int)) = true then
                       (idx s1 (IntKind.wrap .i64 ((3 : Int) - (IntKind.wrap .i64 ((2 : Int) * (IntKind.wrap .i64 (Int.tdiv rule2 (6 : Int)))))))) >>= fun t24 =>
                       some ((t24 == (1 : Int), ((), ())), (List.set (List.set t1.2.1 (Int.toNat (IntKind.wrap .i64 ((1 : Int) + (IntKind.wrap .i64 ((2 : Int) * (IntKind.wrap .i64 (Int.tdiv rule2 (6 : Int)))))))) (0 : Int)) (Int.toNat (IntKind.wrap .i64 ((3 : Int) - (IntKind.wrap .i64 ((2 : Int) * (IntKind.wrap .i64 (Int.tdiv rule2 (6 : Int)))))))) (2 : Int), ()))
                     else
                       some ((false, ((), ())), (List.set (List.set t1.2.1 (Int.toNat (IntKind.wrap .i64 ((1 : Int) + (IntKind.wrap .i64 ((2 : Int) * (IntKind.wrap .i64 (Int.tdiv rule2 (6 : Int)))))))) (0 : Int)) (Int.toNat (IntKind.wrap .i64 ((3 : Int) - (IntKind.wrap .i64 ((2 : Int) * (IntKind.wrap .i64 (Int.tdiv rule2 (6 : Int)))))))) (2 : Int), ()))
                   else none
                 else none
     else none
   else none
 | n + 1, .p16059 s1 kind10 other12 B0 =>
   (idx s1 kind10) >>= fun t1 =>
   if (t1 != (2 : Int)) = true then
     (idx s1 other12) >>= fun t2 =>
     some ((t2 == (0 : Int), ((), ())), (B0, ()))
   else
     some ((false, ((), ())), (B0, ()))
theorem runF_ratchetref31_CacheRule_le : ∀ (n : Nat) (p : P_ratchetref31_CacheRule), OLe (runF_ratchetref31_CacheRule n p) (run_ratchetref31_CacheRule p) := by
  intro n
  induction n with
  | zero => exact fun p r h => by cases h
  | succ n ih =>
    intro p
    cases p <;> rw [run_ratchetref31_CacheRule, runF_ratchetref31_CacheRule] <;> repeat' first | refine OLe.bind ?_ (fun _ => ?_) | refine OLe.ite ?_ ?_ | exact runF_ratchetbase_Power_le n _ | exact runF_ratchetbase_CopyInts_v1_le n _ | exact ih _ | exact OLe.refl _
noncomputable def runF_ratchetbase_LeafValues : Nat → P_ratchetbase_LeafValues → Option R_ratchetbase_LeafValues
 | 0, _ => none
 | n + 1, .start inputs0 state1 =>
   (runF_ratchetbase_CopyInts n (.start inputs0)) >>= fun t1 =>
   if (fits (List.length t1.2.1) (List.length state1) 8) = true then
     some (((), ()), (t1.2.1 ++ state1, ()))
   else none
theorem runF_ratchetbase_LeafValues_le : ∀ (n : Nat) (p : P_ratchetbase_LeafValues), OLe (runF_ratchetbase_LeafValues n p) (run_ratchetbase_LeafValues p) := by
  intro n
  induction n with
  | zero => exact fun p r h => by cases h
  | succ n ih =>
    intro p
    cases p <;> rw [run_ratchetbase_LeafValues, runF_ratchetbase_LeafValues] <;> repeat' first | refine OLe.bind ?_ (fun _ => ?_) | refine OLe.ite ?_ ?_ | exact runF_ratchetbase_CopyInts_le n _ | exact ih _ | exact OLe.refl _
noncomputable def runF_ratchetbase_Bit : Nat → P_ratchetbase_Bit → Option R_ratchetbase_Bit
 | 0, _ => none
 | n + 1, .start is0 =>
   if is0 = true then
     some (((1 : Int), ()), ())
   else
     some (((0 : Int), ()), ())
theorem runF_ratchetbase_Bit_le : ∀ (n : Nat) (p : P_ratchetbase_Bit), OLe (runF_ratchetbase_Bit n p) (run_ratchetbase_Bit p) := by
  intro n
  induction n with
  | zero => exact fun p r h => by cases h
  | succ n ih =>
    intro p
    cases p <;> rw [run_ratchetbase_Bit, runF_ratchetbase_Bit] <;> repeat' first | refine OLe.bind ?_ (fun _ => ?_) | refine OLe.ite ?_ ?_ | exact ih _ | exact OLe.refl _
noncomputable def runF_ratchetbase_Signed : Nat → P_ratchetbase_Signed → Option R_ratchetbase_Signed
 | 0, _ => none
 | n + 1, .start n0 width1 =>
   (runF_ratchetbase_Power n (.start (IntKind.wrap .i64 (width1 - (1 : Int))))) >>= fun t1 =>
   if (decide (n0 ≥ t1.1.1)) = true then
     (runF_ratchetbase_Power n (.start width1)) >>= fun t2 =>
     some ((IntKind.wrap .i64 (n0 - t2.1.1), ()), ())
   else
     some ((n0, ()), ())
theorem runF_ratchetbase_Signed_le : ∀ (n : Nat) (p : P_ratchetbase_Signed), OLe (runF_ratchetbase_Signed n p) (run_ratchetbase_Signed p) := by
  intro n
  induction n with
  | zero => exact fun p r h => by cases h
  | succ n ih =>
    intro p
    cases p <;> rw [run_ratchetbase_Signed, runF_ratchetbase_Signed] <;> repeat' first | refine OLe.bind ?_ (fun _ => ?_) | refine OLe.ite ?_ ?_ | exact runF_ratchetbase_Power_le n _ | exact ih _ | exact OLe.refl _
noncomputable def runF_ratchetbase_Apply : Nat → P_ratchetbase_Apply → Option R_ratchetbase_Apply
 | 0, _ => none
 | n + 1, .start x0_0 x0_1 x0_2 x0_3 a1 w2 leaves3 =>
   (runF_ratchetbase_Power n (.start x0_1)) >>= fun t1 =>
   if (x0_0 == (0 : Int)) = true then
     some ((x0_3, ()), ())
   else
     if (x0_0 == (1 : Int)) = true then
       (idx leaves3 x0_3) >>= fun t2 =>
       some ((t2, ()), ())
     else
       if (x0_0 == (2 : Int)) = true then
         (idx a1 (0 : Int)) >>= fun t3 =>
         some ((IntKind.wrap .i64 ((IntKind.wrap .i64 (t1.1.1 - (1 : Int))) - t3), ()), ())
       else
         if (x0_0 == (3 : Int)) = true then
           (idx a1 (0 : Int)) >>= fun t4 =>
           (idx a1 (1 : Int)) >>= fun t5 =>
           some ((bits .and .i64 t4 t5, ()), ())
         else
           if (x0_0 == (4 : Int)) = true then
             (idx a1 (0 : Int)) >>= fun t6 =>
             (idx a1 (1 : Int)) >>= fun t7 =>
             some ((bits .or .i64 t6 t7, ()), ())
           else
             if (x0_0 == (5 : Int)) = true then
               (idx a1 (0 : Int)) >>= fun t8 =>
               (idx a1 (1 : Int)) >>= fun t9 =>
               some ((bits .xor .i64 t8 t9, ()), ())
             else
               if (x0_0 == (6 : Int)) = true then
                 (idx a1 (0 : Int)) >>= fun t10 =>
                 (idx a1 (1 : Int)) >>= fun t11 =>
                 if (!(t1.1.1 == (0 : Int))) = true then
                   some ((Int.tmod (IntKind.wrap .i64 (t10 + t11)) t1.1.1, ()), ())
                 else none
               else
                 if (x0_0 == (7 : Int)) = true then
                   (idx a1 (0 : Int)) >>= fun t12 =>
                   (idx a1 (1 : Int)) >>= fun t13 =>
                   if (!(t1.1.1 == (0 : Int))) = true then
                     some ((Int.tmod (IntKind.wrap .i64 ((IntKind.wrap .i64 (t12 - t13)) + t1.1.1)) t1.1.1, ()), ())
                   else none
                 else
                   if (x0_0 == (8 : Int)) = true then
                     (idx a1 (0 : Int)) >>= fun t14 =>
                     (idx a1 (1 : Int)) >>= fun t15 =>
                     if (!(t1.1.1 == (0 : Int))) = true then
                       some ((Int.tmod (IntKind.wrap .i64 (t14 * t15)) t1.1.1, ()), ())
                     else none
                   else
                     if (x0_0 == (9 : Int)) = true then
                       (idx a1 (0 : Int)) >>= fun t16 =>
                       (idx a1 (1 : Int)) >>= fun t17 =>
                       (runF_ratchetbase_Bit n (.start (t16 == t17))) >>= fun t18 =>
                       some ((t18.1.1, ()), ())
                     else
                       if (x0_0 == (10 : Int)) = true then
                         (idx a1 (0 : Int)) >>= fun t19 =>
                         (idx a1 (1 : Int)) >>= fun t20 =>
                         (runF_ratchetbase_Bit n (.start (decide (t19 < t20)))) >>= fun t21 =>
                         some ((t21.1.1, ()), ())
                       else
                         if (x0_0 == (11 : Int)) = true then
                           (idx a1 (0 : Int)) >>= fun t22 =>
                           (idx w2 (0 : Int)) >>= fun t23 =>
                           (runF_ratchetbase_Signed n (.start t22 t23)) >>= fun t24 =>
                           (idx a1 (1 : Int)) >>= fun t25 =>
                           (idx w2 (1 : Int)) >>= fun t26 =>
                           (runF_ratchetbase_Signed n (.start t25 t26)) >>= fun t27 =>
                           (runF_ratchetbase_Bit n (.start (decide (t24.1.1 < t27.1.1)))) >>= fun t28 =>
                           some ((t28.1.1, ()), ())
                         else
                           if (x0_0 == (12 : Int)) = true then
                             (idx a1 (0 : Int)) >>= fun t29 =>
                             if (t29 == (1 : Int)) = true then
                               (idx a1 (1 : Int)) >>= fun t30 =>
                               some ((t30, ()), ())
                             else
                               (idx a1 (2 : Int)) >>= fun t31 =>
                               some ((t31, ()), ())
                           else
                             if (x0_0 == (13 : Int)) = true then
                               (idx a1 (0 : Int)) >>= fun t32 =>
                               (idx w2 (1 : Int)) >>= fun t33 =>
                               (runF_ratchetbase_Power n (.start t33)) >>= fun t34 =>
                               (idx a1 (1 : Int)) >>= fun t35 =>
                               some ((IntKind.wrap .i64 ((IntKind.wrap .i64 (t32 * t34.1.1)) + t35), ()), ())
                             else
                               if (x0_0 == (14 : Int)) = true then
                                 (idx a1 (0 : Int)) >>= fun t36 =>
                                 (runF_ratchetbase_Power n (.start x0_3)) >>= fun t37 =>
                                 if (!(t37.1.1 == (0 : Int))) = true then
                                   if (!(t1.1.1 == (0 : Int))) = true then
                                     some ((Int.tmod (IntKind.wrap .i64 (Int.tdiv t36 t37.1.1)) t1.1.1, ()), ())
                                   else none
                                 else none
                               else
                                 if (x0_0 == (15 : Int)) = true then
                                   (idx a1 (0 : Int)) >>= fun t38 =>
                                   some ((t38, ()), ())
                                 else
                                   if (x0_0 == (16 : Int)) = true then
                                     (idx a1 (0 : Int)) >>= fun t39 =>
                                     (idx w2 (0 : Int)) >>= fun t40 =>
                                     (runF_ratchetbase_Signed n (.start t39 t40)) >>= fun t41 =>
                                     if (!(t1.1.1 == (0 : Int))) = true then
                                       some ((Int.tmod (IntKind.wrap .i64 (t41.1.1 + t1.1.1)) t1.1.1, ()), ())
                                     else none
                                   else
                                     if (x0_0 == (17 : Int)) = true then
                                       (idx a1 (1 : Int)) >>= fun t42 =>
                                       if (decide (t42 ≥ x0_1)) = true then
                                         some (((0 : Int), ()), ())
                                       else
                                         (idx a1 (0 : Int)) >>= fun t43 =>
                                         (idx a1 (1 : Int)) >>= fun t44 =>
                                         (runF_ratchetbase_Power n (.start t44)) >>= fun t45 =>
                                         if (!(t1.1.1 == (0 : Int))) = true then
                                           some ((Int.tmod (IntKind.wrap .i64 (t43 * t45.1.1)) t1.1.1, ()), ())
                                         else none
                                     else
                                       (idx a1 (1 : Int)) >>= fun t46 =>
                                       if (decide (t46 ≥ x0_1)) = true then
                                         some (((0 : Int), ()), ())
                                       else
                                         (idx a1 (0 : Int)) >>= fun t47 =>
                                         (idx a1 (1 : Int)) >>= fun t48 =>
                                         (runF_ratchetbase_Power n (.start t48)) >>= fun t49 =>
                                         if (!(t49.1.1 == (0 : Int))) = true then
                                           some ((IntKind.wrap .i64 (Int.tdiv t47 t49.1.1), ()), ())
                                         else none
theorem runF_ratchetbase_Apply_le : ∀ (n : Nat) (p : P_ratchetbase_Apply), OLe (runF_ratchetbase_Apply n p) (run_ratchetbase_Apply p) := by
  intro n
  induction n with
  | zero => exact fun p r h => by cases h
  | succ n ih =>
    intro p
    cases p <;> rw [run_ratchetbase_Apply, runF_ratchetbase_Apply] <;> repeat' first | refine OLe.bind ?_ (fun _ => ?_) | refine OLe.ite ?_ ?_ | exact runF_ratchetbase_Power_le n _ | exact runF_ratchetbase_Bit_le n _ | exact runF_ratchetbase_Signed_le n _ | exact ih _ | exact OLe.refl _
noncomputable def runF_ratchetbase_NodeValues : Nat → P_ratchetbase_NodeValues → Option R_ratchetbase_NodeValues
 | 0, _ => none
 | n + 1, .start nodes0 leaves1 =>
   if (fitsM (List.length nodes0 : Int) (List.length nodes0 : Int) 8) = true then
     runF_ratchetbase_NodeValues n (.p116 nodes0 leaves1 (0 : Int) (List.replicate (Int.toNat (List.length nodes0 : Int)) (0 : Int)))
   else none
 | n + 1, .p116 nodes0 leaves1 i6 B0 =>
   if (decide (i6 < (List.length nodes0 : Int))) = true then
     runF_ratchetbase_NodeValues n (.p29844 nodes0 leaves1 i6 (0 : Int) B0 ([] : List Int) ([] : List Int))
   else
     some (((), ()), (B0, ()))
 | n + 1, .p29844 nodes0 leaves1 i6 k9 B0 B1 B2 =>
   (idx nodes0 i6) >>= fun t1 =>
   if (decide (k9 < (List.length t1.Args : Int))) = true then
     (idx nodes0 i6) >>= fun t2 =>
     (idx t2.Args k9) >>= fun t3 =>
     if (decide ((0 : Int) ≤ t3) && decide (t3 < (List.length B0 : Int))) = true then
       (idx B0 t3) >>= fun t4 =>
       if (fits (List.length B1) (List.length ([t4] : List Int)) 8) = true then
         (idx nodes0 i6) >>= fun t5 =>
         (idx t5.Args k9) >>= fun t6 =>
         (idx nodes0 t6) >>= fun t7 =>
         if (fits (List.length B2) (List.length ([t7.Width] : List Int)) 8) = true then
           runF_ratchetbase_NodeValues n (.p29844 nodes0 leaves1 i6 (IntKind.wrap .i64 (k9 + (1 : Int))) B0 (B1 ++ ([t4] : List Int)) (B2 ++ ([t7.Width] : List Int)))
         else none
       else none
     else none
   else
     (idx nodes0 i6) >>= fun t8 =>
     (runF_ratchetbase_Apply n (.start t8.Op t8.Width t8.Args t8.Value B1 B2 leaves1)) >>= fun t9 =>
     if (decide ((0 : Int) ≤ i6) && decide (i6 < (List.length B0 : Int))) = true then
       (idx B0 i6) >>= fun t10 =>
       runF_ratchetbase_NodeValues n (.p116 nodes0 leaves1 (IntKind.wrap .i64 (i6 + (1 : Int))) (List.set B0 (Int.toNat i6) t9.1.1))
     else none
theorem runF_ratchetbase_NodeValues_le : ∀ (n : Nat) (p : P_ratchetbase_NodeValues), OLe (runF_ratchetbase_NodeValues n p) (run_ratchetbase_NodeValues p) := by
  intro n
  induction n with
  | zero => exact fun p r h => by cases h
  | succ n ih =>
    intro p
    cases p <;> rw [run_ratchetbase_NodeValues, runF_ratchetbase_NodeValues] <;> repeat' first | refine OLe.bind ?_ (fun _ => ?_) | refine OLe.ite ?_ ?_ | exact runF_ratchetbase_Apply_le n _ | exact ih _ | exact OLe.refl _
noncomputable def runF_ratchetbase_Enabled : Nat → P_ratchetbase_Enabled → Option R_ratchetbase_Enabled
 | 0, _ => none
 | n + 1, .start d0_0 d0_1 d0_2 d0_3 d0_4 d0_5 d0_6 rule1 inputs2 state3 =>
   (runF_ratchetbase_LeafValues n (.start inputs2 state3)) >>= fun t1 =>
   (runF_ratchetbase_NodeValues n (.start d0_3 t1.2.1)) >>= fun t2 =>
   (idx d0_4 rule1) >>= fun t3 =>
   if (decide ((0 : Int) ≤ t3.Guard) && decide (t3.Guard < (List.length t2.2.1 : Int))) = true then
     (idx t2.2.1 t3.Guard) >>= fun t4 =>
     some ((t4 == (1 : Int), ()), ())
   else none
theorem runF_ratchetbase_Enabled_le : ∀ (n : Nat) (p : P_ratchetbase_Enabled), OLe (runF_ratchetbase_Enabled n p) (run_ratchetbase_Enabled p) := by
  intro n
  induction n with
  | zero => exact fun p r h => by cases h
  | succ n ih =>
    intro p
    cases p <;> rw [run_ratchetbase_Enabled, runF_ratchetbase_Enabled] <;> repeat' first | refine OLe.bind ?_ (fun _ => ?_) | refine OLe.ite ?_ ?_ | exact runF_ratchetbase_LeafValues_le n _ | exact runF_ratchetbase_NodeValues_le n _ | exact ih _ | exact OLe.refl _
noncomputable def runF_ratchetbase_Happened : Nat → P_ratchetbase_Happened → Option R_ratchetbase_Happened
 | 0, _ => none
 | n + 1, .start d0_0 d0_1 d0_2 d0_3 d0_4 d0_5 d0_6 rule1 inputs2 state3 =>
   (runF_ratchetbase_LeafValues n (.start inputs2 state3)) >>= fun t1 =>
   (runF_ratchetbase_NodeValues n (.start d0_3 t1.2.1)) >>= fun t2 =>
   (runF_ratchetbase_CopyInts_v1 n (.start state3)) >>= fun t3 =>
   (idx d0_4 rule1) >>= fun t4 =>
   runF_ratchetbase_Happened n (.p500 t4.Writes (0 : Int) t2.2.1 t3.2.1)
 | n + 1, .p500 l11 i12 B0 B1 =>
   if (decide (i12 < (List.length l11 : Int))) = true then
     (idx l11 i12) >>= fun t1 =>
     if (decide ((0 : Int) ≤ t1.When) && decide (t1.When < (List.length B0 : Int))) = true then
       (idx B0 t1.When) >>= fun t2 =>
       if (t2 == (1 : Int)) = true then
         (idx l11 i12) >>= fun t3 =>
         (idx l11 i12) >>= fun t4 =>
         if (decide ((0 : Int) ≤ t4.Value) && decide (t4.Value < (List.length B0 : Int))) = true then
           (idx B0 t4.Value) >>= fun t5 =>
           if (decide ((0 : Int) ≤ t3.Element) && decide (t3.Element < (List.length B1 : Int))) = true then
             (idx B1 t3.Element) >>= fun t6 =>
             runF_ratchetbase_Happened n (.p500 l11 (IntKind.wrap .i64 (i12 + (1 : Int))) B0 (List.set B1 (Int.toNat t3.Element) t5))
           else none
         else none
       else
         runF_ratchetbase_Happened n (.p500 l11 (IntKind.wrap .i64 (i12 + (1 : Int))) B0 B1)
     else none
   else
     some (((), ()), (B1, ()))
theorem runF_ratchetbase_Happened_le : ∀ (n : Nat) (p : P_ratchetbase_Happened), OLe (runF_ratchetbase_Happened n p) (run_ratchetbase_Happened p) := by
  intro n
  induction n with
  | zero => exact fun p r h => by cases h
  | succ n ih =>
    intro p
    cases p <;> rw [run_ratchetbase_Happened, runF_ratchetbase_Happened] <;> repeat' first | refine OLe.bind ?_ (fun _ => ?_) | refine OLe.ite ?_ ?_ | exact runF_ratchetbase_CopyInts_v1_le n _ | exact runF_ratchetbase_LeafValues_le n _ | exact runF_ratchetbase_NodeValues_le n _ | exact ih _ | exact OLe.refl _
noncomputable def runF_ratchetlaw31_MachineCaches : Nat → P_ratchetlaw31_MachineCaches → Option R_ratchetlaw31_MachineCaches
 | 0, _ => none
 | n + 1, .start width0 state1 rule2 =>
   (some () : Option Unit) >>= fun t1 =>
   if (!true) = true then
     some ((false, ()), ())
   else
     if (decide ((List.length state1 : Int) > (8 : Int))) = true then
       some ((true, ()), ())
     else
       (runF_ratchetbase_CopyInts n (.start state1)) >>= fun t2 =>
       (runF_machine_IsCoherent n (.start width0 t2.2.1)) >>= fun t3 =>
       (runF_ratchetref31_CacheErr n (.start width0 state1)) >>= fun t4 =>
       if (t4.1.1 != (0 : Int)) = true then
         if (t3.1.2.1 != t4.1.1) = true then
           some ((false, ()), ())
         else
           if t3.1.1 = true then
             some ((false, ()), ())
           else
             if (t4.1.1 == (0 : Int)) = true then
               if (t3.1.2.1 != (0 : Int)) = true then
                 some ((false, ()), ())
               else
                 (runF_ratchetref31_IsCoherent n (.start state1)) >>= fun t5 =>
                 if (!(t3.1.1 == t5.1.1)) = true then
                   some ((false, ()), ())
                 else
                   runF_ratchetlaw31_MachineCaches n (.p127 width0 state1 rule2 t4.1.1)
             else
               runF_ratchetlaw31_MachineCaches n (.p127 width0 state1 rule2 t4.1.1)
       else
         if (t4.1.1 == (0 : Int)) = true then
           if (t3.1.2.1 != (0 : Int)) = true then
             some ((false, ()), ())
           else
             (runF_ratchetref31_IsCoherent n (.start state1)) >>= fun t6 =>
             if (!(t3.1.1 == t6.1.1)) = true then
               some ((false, ()), ())
             else
               runF_ratchetlaw31_MachineCaches n (.p127 width0 state1 rule2 t4.1.1)
         else
           runF_ratchetlaw31_MachineCaches n (.p127 width0 state1 rule2 t4.1.1)
 | n + 1, .p127 width0 state1 rule2 c9 =>
   (runF_machine_CachesOf n (.start width0)) >>= fun t1 =>
   (runF_ratchetref31_WidthErr n (.start width0)) >>= fun t2 =>
   if (t2.1.1 != (0 : Int)) = true then
     if (t1.1.2.1 == t2.1.1) = true then
       (runF_ratchetbase_SameDesign n (.start t1.1.1.1 ([]) t1.1.1.2.2.1 t1.1.1.2.2.2.1 t1.1.1.2.2.2.2.1 ([]) ([]) (⟨#[]⟩ : ByteArray) ([]) ([]) ([]) ([]) ([]) ([]))) >>= fun t3 =>
       some ((t3.1.1, ()), ())
     else
       some ((false, ()), ())
   else
     if (t1.1.2.1 != (0 : Int)) = true then
       some ((false, ()), ())
     else
       (runF_ratchetbase_IsDesign n (.start t1.1.1.1 ([]) t1.1.1.2.2.1 t1.1.1.2.2.2.1 t1.1.1.2.2.2.2.1 ([]) ([]))) >>= fun t4 =>
       if (!t4.1.1) = true then
         some ((false, ()), ())
       else
         if (!(seq t1.1.1.1 (⟨#[99, 97, 99, 104, 101, 115]⟩ : ByteArray))) = true then
           some ((false, ()), ())
         else
           if (decide ((IntKind.wrap .i64 ((IntKind.wrap .i64 ((0 : Int) + (0 : Int))) + (0 : Int))) > (0 : Int))) = true then
             some ((false, ()), ())
           else
             if ((List.length t1.1.1.2.2.1 : Int) != (5 : Int)) = true then
               some ((false, ()), ())
             else
               if ((List.length t1.1.1.2.2.2.2.1 : Int) != (12 : Int)) = true then
                 some ((false, ()), ())
               else
                 runF_ratchetlaw31_MachineCaches n (.p2047 width0 state1 rule2 c9 ([(⟨#[109, 101, 109, 111, 114, 121]⟩ : ByteArray), (⟨#[107, 105, 110, 100, 48]⟩ : ByteArray), (⟨#[108, 105, 110, 101, 48]⟩ : ByteArray), (⟨#[107, 105, 110, 100, 49]⟩ : ByteArray), (⟨#[108, 105, 110, 101, 49]⟩ : ByteArray)] : List ByteArray) t1.1.1.1 t1.1.1.2.2.1 t1.1.1.2.2.2.1 t1.1.1.2.2.2.2.1)
 | n + 1, .p2047 width0 state1 rule2 c9 names13 B0_0 B0_1 B0_2 B0_3 =>
   runF_ratchetlaw31_MachineCaches n (.p32756 width0 state1 rule2 c9 names13 (0 : Int) B0_0 B0_1 B0_2 B0_3)
 | n + 1, .p32756 width0 state1 rule2 c9 names13 i14 B0_0 B0_1 B0_2 B0_3 =>
   if (decide (i14 < (5 : Int))) = true then
     if (!((2 : Int) == (0 : Int))) = true then
       if ((Int.tmod i14 (2 : Int)) == (1 : Int)) = true then
         runF_ratchetlaw31_MachineCaches n (.p1048211 width0 state1 rule2 c9 names13 i14 (2 : Int) B0_0 B0_1 B0_2 B0_3)
       else
         runF_ratchetlaw31_MachineCaches n (.p1048211 width0 state1 rule2 c9 names13 i14 width0 B0_0 B0_1 B0_2 B0_3)
     else none
   else
     runF_ratchetlaw31_MachineCaches n (.p65524 width0 state1 rule2 c9 (0 : Int) B0_0 B0_1 B0_2 B0_3)
 | n + 1, .p1048211 width0 state1 rule2 c9 names13 i14 w15 B0_0 B0_1 B0_2 B0_3 =>
   (idx B0_1 i14) >>= fun t1 =>
   (idx names13 i14) >>= fun t2 =>
   if (!((seq t1.Name t2) && ((t1.Kind == (0 : Int)) && ((t1.Width == w15) && ((t1.Init == (0 : Int)) && ((t1.Clock == (0 : Int)) && true)))))) = true then
     some ((false, ()), ())
   else
     runF_ratchetlaw31_MachineCaches n (.p32756 width0 state1 rule2 c9 names13 (IntKind.wrap .i64 (i14 + (1 : Int))) B0_0 B0_1 B0_2 B0_3)
 | n + 1, .p65524 width0 state1 rule2 c9 i16 B0_0 B0_1 B0_2 B0_3 =>
   if (decide (i16 < (12 : Int))) = true then
     (idx B0_3 i16) >>= fun t1 =>
     (runF_ratchetref31_CacheNames n .start) >>= fun t2 =>
     (idx t2.1.1 i16) >>= fun t3 =>
     if (!(seq t1.Name t3)) = true then
       some ((false, ()), ())
     else
       runF_ratchetlaw31_MachineCaches n (.p65524 width0 state1 rule2 c9 (IntKind.wrap .i64 (i16 + (1 : Int))) B0_0 B0_1 B0_2 B0_3)
   else
     if (c9 != (0 : Int)) = true then
       some ((true, ()), ())
     else
       (runF_ratchetbase_Mod n (.start rule2 (12 : Int))) >>= fun t4 =>
       (runF_ratchetref31_CacheRule n (.start width0 state1 t4.1.1)) >>= fun t5 =>
       (runF_ratchetbase_Enabled n (.start B0_0 ([]) B0_1 B0_2 B0_3 ([]) ([]) t4.1.1 ([]) state1)) >>= fun t6 =>
       if (!(t6.1.1 == t5.1.1)) = true then
         some ((false, ()), ())
       else
         if (!t5.1.1) = true then
           some ((true, ()), ())
         else
           (runF_ratchetbase_Happened n (.start B0_0 ([]) B0_1 B0_2 B0_3 ([]) ([]) t4.1.1 ([]) state1)) >>= fun t7 =>
           (runF_ratchetbase_Ints n (.start t7.2.1 t5.2.1)) >>= fun t8 =>
           some ((t8.1.1, ()), ())
theorem runF_ratchetlaw31_MachineCaches_le : ∀ (n : Nat) (p : P_ratchetlaw31_MachineCaches), OLe (runF_ratchetlaw31_MachineCaches n p) (run_ratchetlaw31_MachineCaches p) := by
  intro n
  induction n with
  | zero => exact fun p r h => by cases h
  | succ n ih =>
    intro p
    cases p <;> rw [run_ratchetlaw31_MachineCaches, runF_ratchetlaw31_MachineCaches] <;> repeat' first | refine OLe.bind ?_ (fun _ => ?_) | refine OLe.ite ?_ ?_ | exact runF_ratchetbase_CopyInts_le n _ | exact runF_machine_IsCoherent_le n _ | exact runF_ratchetref31_WidthErr_le n _ | exact runF_ratchetref31_CacheErr_le n _ | exact runF_ratchetref31_IsCoherent_le n _ | exact runF_machine_CachesOf_le n _ | exact runF_ratchetbase_Ints_le n _ | exact runF_ratchetbase_SameDesign_le n _ | exact runF_ratchetbase_IsDesign_le n _ | exact runF_ratchetref31_CacheNames_le n _ | exact runF_ratchetbase_Mod_le n _ | exact runF_ratchetref31_CacheRule_le n _ | exact runF_ratchetbase_Enabled_le n _ | exact runF_ratchetbase_Happened_le n _ | exact ih _ | exact OLe.refl _
noncomputable def runF_ratchetbase_Resets : Nat → P_ratchetbase_Resets → Option R_ratchetbase_Resets
 | 0, _ => none
 | n + 1, .start d0_0 d0_1 d0_2 d0_3 d0_4 d0_5 d0_6 =>
   if (fitsM (List.length d0_2 : Int) (List.length d0_2 : Int) 8) = true then
     runF_ratchetbase_Resets n (.p116 (0 : Int) d0_0 d0_1 d0_2 d0_3 d0_4 d0_5 d0_6 (List.replicate (Int.toNat (List.length d0_2 : Int)) (0 : Int)))
   else none
 | n + 1, .p116 i4 B0_0 B0_1 B0_2 B0_3 B0_4 B0_5 B0_6 B1 =>
   if (decide (i4 < (List.length B0_2 : Int))) = true then
     (idx B0_2 i4) >>= fun t1 =>
     if (decide ((0 : Int) ≤ i4) && decide (i4 < (List.length B1 : Int))) = true then
       (idx B1 i4) >>= fun t2 =>
       runF_ratchetbase_Resets n (.p116 (IntKind.wrap .i64 (i4 + (1 : Int))) B0_0 B0_1 B0_2 B0_3 B0_4 B0_5 B0_6 (List.set B1 (Int.toNat i4) t1.Init))
     else none
   else
     some (((), ()), (B1, ()))
theorem runF_ratchetbase_Resets_le : ∀ (n : Nat) (p : P_ratchetbase_Resets), OLe (runF_ratchetbase_Resets n p) (run_ratchetbase_Resets p) := by
  intro n
  induction n with
  | zero => exact fun p r h => by cases h
  | succ n ih =>
    intro p
    cases p <;> rw [run_ratchetbase_Resets, runF_ratchetbase_Resets] <;> repeat' first | refine OLe.bind ?_ (fun _ => ?_) | refine OLe.ite ?_ ?_ | exact ih _ | exact OLe.refl _
noncomputable def runF_ratchetlaw31_MachineCoherent : Nat → P_ratchetlaw31_MachineCoherent → Option R_ratchetlaw31_MachineCoherent
 | 0, _ => none
 | n + 1, .start width0 rules1 =>
   (some () : Option Unit) >>= fun t1 =>
   if (!true) = true then
     some ((false, ()), ())
   else
     (runF_ratchetref31_WidthErr n (.start width0)) >>= fun t2 =>
     if (t2.1.1 != (0 : Int)) = true then
       some ((true, ()), ())
     else
       if (decide ((List.length rules1 : Int) > (40 : Int))) = true then
         some ((true, ()), ())
       else
         runF_ratchetlaw31_MachineCoherent n (.p15 width0 rules1)
 | n + 1, .p15 width0 rules1 =>
   (runF_machine_CachesOf n (.start width0)) >>= fun t1 =>
   if (t1.1.2.1 != (0 : Int)) = true then
     some ((false, ()), ())
   else
     (runF_ratchetbase_IsDesign n (.start t1.1.1.1 ([]) t1.1.1.2.2.1 t1.1.1.2.2.2.1 t1.1.1.2.2.2.2.1 ([]) ([]))) >>= fun t2 =>
     if (!t2.1.1) = true then
       some ((false, ()), ())
     else
       if (decide ((0 : Int) > (0 : Int))) = true then
         some ((false, ()), ())
       else
         if ((List.length t1.1.1.2.2.1 : Int) != (5 : Int)) = true then
           some ((false, ()), ())
         else
           if ((List.length t1.1.1.2.2.2.2.1 : Int) != (12 : Int)) = true then
             some ((false, ()), ())
           else
             runF_ratchetlaw31_MachineCoherent n (.p63 width0 rules1 t1.1.1.1 t1.1.1.2.2.1 t1.1.1.2.2.2.1 t1.1.1.2.2.2.2.1)
 | n + 1, .p63 width0 rules1 B0_0 B0_1 B0_2 B0_3 =>
   (runF_ratchetbase_Resets n (.start B0_0 ([]) B0_1 B0_2 B0_3 ([]) ([]))) >>= fun t1 =>
   runF_ratchetlaw31_MachineCoherent n (.p4084 width0 rules1 (0 : Int) (0 : Int) B0_0 B0_1 B0_2 B0_3 t1.2.1)
 | n + 1, .p4084 width0 rules1 last8 i9 B0_0 B0_1 B0_2 B0_3 B1 =>
   if (decide (i9 < (List.length rules1 : Int))) = true then
     (idx rules1 i9) >>= fun t1 =>
     (runF_ratchetbase_Mod n (.start t1 (12 : Int))) >>= fun t2 =>
     (runF_ratchetbase_Enabled n (.start B0_0 ([]) B0_1 B0_2 B0_3 ([]) ([]) t2.1.1 ([]) B1)) >>= fun t3 =>
     if (!t3.1.1) = true then
       runF_ratchetlaw31_MachineCoherent n (.p4084 width0 rules1 last8 (IntKind.wrap .i64 (i9 + (1 : Int))) B0_0 B0_1 B0_2 B0_3 B1)
     else
       (runF_ratchetbase_Happened n (.start B0_0 ([]) B0_1 B0_2 B0_3 ([]) ([]) t2.1.1 ([]) B1)) >>= fun t4 =>
       (runF_ratchetref31_CacheErr n (.start width0 t4.2.1)) >>= fun t5 =>
       if (t5.1.1 != (0 : Int)) = true then
         some ((false, ()), ())
       else
         (runF_ratchetref31_IsCoherent n (.start t4.2.1)) >>= fun t6 =>
         if (!t6.1.1) = true then
           some ((false, ()), ())
         else
           runF_ratchetlaw31_MachineCoherent n (.p522831 width0 rules1 last8 i9 t2.1.1 B0_0 B0_1 B0_2 B0_3 t4.2.1)
   else
     some ((true, ()), ())
 | n + 1, .p522831 width0 rules1 last8 i9 r10 B0_0 B0_1 B0_2 B0_3 B1 =>
   (runF_ratchetbase_CopyInts n (.start B1)) >>= fun t1 =>
   (runF_machine_IsCoherent n (.start width0 t1.2.1)) >>= fun t2 =>
   if (t2.1.2.1 != (0 : Int)) = true then
     some ((false, ()), ())
   else
     if (!t2.1.1) = true then
       some ((false, ()), ())
     else
       runF_ratchetlaw31_MachineCoherent n (.p2091327 width0 rules1 last8 i9 r10 B0_0 B0_1 B0_2 B0_3 B1)
 | n + 1, .p2091327 width0 rules1 last8 i9 r10 B0_0 B0_1 B0_2 B0_3 B1 =>
   if (!((6 : Int) == (0 : Int))) = true then
     if ((Int.tmod r10 (6 : Int)) == (2 : Int)) = true then
       if (!((6 : Int) == (0 : Int))) = true then
         if (decide ((0 : Int) ≤ (IntKind.wrap .i64 ((2 : Int) + (IntKind.wrap .i64 ((2 : Int) * (IntKind.wrap .i64 (Int.tdiv r10 (6 : Int)))))))) && decide ((IntKind.wrap .i64 ((2 : Int) + (IntKind.wrap .i64 ((2 : Int) * (IntKind.wrap .i64 (Int.tdiv r10 (6 : Int))))))) < (List.length B1 : Int))) = true then
           (idx B1 (IntKind.wrap .i64 ((2 : Int) + (IntKind.wrap .i64 ((2 : Int) * (IntKind.wrap .i64 (Int.tdiv r10 (6 : Int)))))))) >>= fun t1 =>
           runF_ratchetlaw31_MachineCoherent n (.p4182655 width0 rules1 t1 i9 B0_0 B0_1 B0_2 B0_3 B1)
         else none
       else none
     else
       runF_ratchetlaw31_MachineCoherent n (.p4182655 width0 rules1 last8 i9 B0_0 B0_1 B0_2 B0_3 B1)
   else none
 | n + 1, .p4182655 width0 rules1 last8 i9 B0_0 B0_1 B0_2 B0_3 B1 =>
   runF_ratchetlaw31_MachineCoherent n (.p66922484 width0 rules1 last8 i9 (0 : Int) B0_0 B0_1 B0_2 B0_3 B1)
 | n + 1, .p66922484 width0 rules1 last8 i9 core13 B0_0 B0_1 B0_2 B0_3 B1 =>
   if (decide (core13 < (2 : Int))) = true then
     if (decide ((0 : Int) ≤ (IntKind.wrap .i64 ((1 : Int) + (IntKind.wrap .i64 ((2 : Int) * core13))))) && decide ((IntKind.wrap .i64 ((1 : Int) + (IntKind.wrap .i64 ((2 : Int) * core13)))) < (List.length B1 : Int))) = true then
       (idx B1 (IntKind.wrap .i64 ((1 : Int) + (IntKind.wrap .i64 ((2 : Int) * core13))))) >>= fun t1 =>
       if (t1 != (0 : Int)) = true then
         if (decide ((0 : Int) ≤ (IntKind.wrap .i64 ((2 : Int) + (IntKind.wrap .i64 ((2 : Int) * core13))))) && decide ((IntKind.wrap .i64 ((2 : Int) + (IntKind.wrap .i64 ((2 : Int) * core13)))) < (List.length B1 : Int))) = true then
           (idx B1 (IntKind.wrap .i64 ((2 : Int) + (IntKind.wrap .i64 ((2 : Int) * core13))))) >>= fun t2 =>
           if (t2 != last8) = true then
             some ((false, ()), ())
           else
             runF_ratchetlaw31_MachineCoherent n (.p66922484 width0 rules1 last8 i9 (IntKind.wrap .i64 (core13 + (1 : Int))) B0_0 B0_1 B0_2 B0_3 B1)
         else none
       else
         runF_ratchetlaw31_MachineCoherent n (.p66922484 width0 rules1 last8 i9 (IntKind.wrap .i64 (core13 + (1 : Int))) B0_0 B0_1 B0_2 B0_3 B1)
     else none
   else
     if (decide ((0 : Int) ≤ (1 : Int)) && decide ((1 : Int) < (List.length B1 : Int))) = true then
       (idx B1 (1 : Int)) >>= fun t3 =>
       if (t3 != (2 : Int)) = true then
         if (decide ((0 : Int) ≤ (3 : Int)) && decide ((3 : Int) < (List.length B1 : Int))) = true then
           (idx B1 (3 : Int)) >>= fun t4 =>
           if (t4 != (2 : Int)) = true then
             if (decide ((0 : Int) ≤ (0 : Int)) && decide ((0 : Int) < (List.length B1 : Int))) = true then
               (idx B1 (0 : Int)) >>= fun t5 =>
               if (t5 != last8) = true then
                 some ((false, ()), ())
               else
                 runF_ratchetlaw31_MachineCoherent n (.p4084 width0 rules1 last8 (IntKind.wrap .i64 (i9 + (1 : Int))) B0_0 B0_1 B0_2 B0_3 B1)
             else none
           else
             runF_ratchetlaw31_MachineCoherent n (.p4084 width0 rules1 last8 (IntKind.wrap .i64 (i9 + (1 : Int))) B0_0 B0_1 B0_2 B0_3 B1)
         else none
       else
         runF_ratchetlaw31_MachineCoherent n (.p4084 width0 rules1 last8 (IntKind.wrap .i64 (i9 + (1 : Int))) B0_0 B0_1 B0_2 B0_3 B1)
     else none
theorem runF_ratchetlaw31_MachineCoherent_le : ∀ (n : Nat) (p : P_ratchetlaw31_MachineCoherent), OLe (runF_ratchetlaw31_MachineCoherent n p) (run_ratchetlaw31_MachineCoherent p) := by
  intro n
  induction n with
  | zero => exact fun p r h => by cases h
  | succ n ih =>
    intro p
    cases p <;> rw [run_ratchetlaw31_MachineCoherent, runF_ratchetlaw31_MachineCoherent] <;> repeat' first | refine OLe.bind ?_ (fun _ => ?_) | refine OLe.ite ?_ ?_ | exact runF_ratchetbase_CopyInts_le n _ | exact runF_machine_IsCoherent_le n _ | exact runF_ratchetref31_WidthErr_le n _ | exact runF_ratchetref31_CacheErr_le n _ | exact runF_ratchetref31_IsCoherent_le n _ | exact runF_machine_CachesOf_le n _ | exact runF_ratchetbase_IsDesign_le n _ | exact runF_ratchetbase_Mod_le n _ | exact runF_ratchetbase_Enabled_le n _ | exact runF_ratchetbase_Happened_le n _ | exact runF_ratchetbase_Resets_le n _ | exact ih _ | exact OLe.refl _
end Go.Proofs.YtjededkgblbamaaGreatDoor.Ev.F
