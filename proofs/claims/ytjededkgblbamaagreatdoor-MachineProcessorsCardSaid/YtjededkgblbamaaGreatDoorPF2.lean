/- PRINTED by wip/gen/evp.py: what the functions come to. -/
import Derived.Test.YtjededkgblbamaaGreatDoorPF1
set_option linter.unusedVariables false
set_option maxRecDepth 100000
namespace Go.Proofs.YtjededkgblbamaaGreatDoor.Ev.F
open Go.Proofs Go.Proofs.YtjededkgblbamaaGreatDoor.Ev

/-! ### (ratchet/machine.processor).execute -/
inductive P_z60 where
 | start (p0_0 : Int) (p0_1 : Int) (p0_2 : Int) (p0_3 : Int) (p0_4 : Int) (p0_5 : Int) (p0_6 : Int) (p0_7 : Int) (p0_8 : (List machine_signal)) (p0_9 : (List machine_signal)) (p0_10 : Int) (p0_11 : Int) (B0 : ByteArray) (B1 : (List api_Element)) (B2 : (List api_Node)) (B3 : (List api_Rule))
 | p4084 (s90 : Int) (B0 : ByteArray) (B1_0 : Int) (B1_1 : Int) (B1_2 : Int) (B1_3 : Int) (B1_4 : Int) (B1_5 : Int) (B1_6 : Int) (B1_7 : Int) (B1_8 : (List machine_signal)) (B1_9 : (List machine_signal)) (B1_10 : Int) (B1_11 : Int) (B2_0 : Int) (B2_1 : Int) (B3_0 : Int) (B3_1 : Int) (B4_0 : Int) (B4_1 : Int) (B5_0 : Int) (B5_1 : Int) (B6_0 : Int) (B6_1 : Int) (B7 : (List (Int × machine_signal))) (B8_0 : Int) (B8_1 : Int) (B9_0 : Int) (B9_1 : Int) (B10 : (List api_Element)) (B11 : (List api_Node)) (B12 : (List api_Rule))
 | p262132 (s176 : Int) (s177 : Int) (B0 : ByteArray) (B1_0 : Int) (B1_1 : Int) (B1_2 : Int) (B1_3 : Int) (B1_4 : Int) (B1_5 : Int) (B1_6 : Int) (B1_7 : Int) (B1_8 : (List machine_signal)) (B1_9 : (List machine_signal)) (B1_10 : Int) (B1_11 : Int) (B2_0 : Int) (B2_1 : Int) (B3_0 : Int) (B3_1 : Int) (B4_0 : Int) (B4_1 : Int) (B5_0 : Int) (B5_1 : Int) (B6_0 : Int) (B6_1 : Int) (B7_0 : Int) (B7_1 : Int) (B8 : (List api_Write)) (B9 : (List api_Element)) (B10 : (List api_Node)) (B11 : (List api_Rule))
 | p1048564 (s203 : Int) (s204 : Int) (B0 : ByteArray) (B1_0 : Int) (B1_1 : Int) (B1_2 : Int) (B1_3 : Int) (B1_4 : Int) (B1_5 : Int) (B1_6 : Int) (B1_7 : Int) (B1_8 : (List machine_signal)) (B1_9 : (List machine_signal)) (B1_10 : Int) (B1_11 : Int) (B2_0 : Int) (B2_1 : Int) (B3_0 : Int) (B3_1 : Int) (B4 : (List api_Write)) (B5_0 : Int) (B5_1 : Int) (B6 : (List api_Element)) (B7 : (List api_Node)) (B8 : (List api_Rule))
noncomputable def place_z60 : P_z60 → List Bool
 | .start .. => []
 | .p4084 .. => [false, false, true, false, true, true, true, true, true, true, true]
 | .p262132 .. => [false, false, true, false, true, true, true, true, true, true, true, true, true, true, true, true, true]
 | .p1048564 .. => [false, false, true, false, true, true, true, true, true, true, true, true, true, true, true, true, true, true, true]
noncomputable def st_z60 : P_z60 → St E.S
 | .start p0_0 p0_1 p0_2 p0_3 p0_4 p0_5 p0_6 p0_7 p0_8 p0_9 p0_10 p0_11 B0 B1 B2 B3 => st0 230 [.agg [.bp 0 0, .v (.int .i64 p0_0), .v (.int .i64 p0_1), .v (.int .i64 p0_2), .v (.int .i64 p0_3), .v (.int .i64 p0_4), .v (.int .i64 p0_5), .v (.int .i64 p0_6), .v (.int .i64 p0_7), .sl 133 p0_8 false, .sl 133 p0_9 false, .v (.int .i64 p0_10), .v (.int .i64 p0_11)]] [.var 75 [.v (.string B0), .nl, .rw 1, .rw 2, .rw 3, .nl, .nl], .row 82 B1 true, .row 208 B2 true, .row 85 B3 true]
 | .p4084 s90 B0 B1_0 B1_1 B1_2 B1_3 B1_4 B1_5 B1_6 B1_7 B1_8 B1_9 B1_10 B1_11 B2_0 B2_1 B3_0 B3_1 B4_0 B4_1 B5_0 B5_1 B6_0 B6_1 B7 B8_0 B8_1 B9_0 B9_1 B10 B11 B12 => mkSt 230 [1, 2, 3, 4, 6, 8, 9, 10, 11, 90] [.bp 1 0, .bp 2 0, .bp 3 0, .bp 4 0, .bp 5 0, .bp 6 0, .rw 7, .bp 8 0, .bp 9 0, .v (.int .i64 s90)] [.var 75 [.v (.string B0), .nl, .rw 10, .rw 11, .rw 12, .nl, .nl], .var 177 [.bp 0 0, .v (.int .i64 B1_0), .v (.int .i64 B1_1), .v (.int .i64 B1_2), .v (.int .i64 B1_3), .v (.int .i64 B1_4), .v (.int .i64 B1_5), .v (.int .i64 B1_6), .v (.int .i64 B1_7), .sl 133 B1_8 false, .sl 133 B1_9 false, .v (.int .i64 B1_10), .v (.int .i64 B1_11)], .var 133 [.v (.int .i64 B2_0), .v (.int .i64 B2_1)], .var 133 [.v (.int .i64 B3_0), .v (.int .i64 B3_1)], .var 133 [.v (.int .i64 B4_0), .v (.int .i64 B4_1)], .var 133 [.v (.int .i64 B5_0), .v (.int .i64 B5_1)], .var 133 [.v (.int .i64 B6_0), .v (.int .i64 B6_1)], .mp (.int .i64) 133 B7, .var 133 [.v (.int .i64 B8_0), .v (.int .i64 B8_1)], .var 133 [.v (.int .i64 B9_0), .v (.int .i64 B9_1)], .row 82 B10 true, .row 208 B11 true, .row 85 B12 true]
 | .p262132 s176 s177 B0 B1_0 B1_1 B1_2 B1_3 B1_4 B1_5 B1_6 B1_7 B1_8 B1_9 B1_10 B1_11 B2_0 B2_1 B3_0 B3_1 B4_0 B4_1 B5_0 B5_1 B6_0 B6_1 B7_0 B7_1 B8 B9 B10 B11 => mkSt 230 [1, 2, 4, 6, 8, 10, 11, 19, 176, 177] [.bp 1 0, .bp 2 0, .bp 3 0, .bp 4 0, .bp 5 0, .bp 6 0, .bp 7 0, .rw 8, .v (.int .i64 s176), .v (.int .i64 s177)] [.var 75 [.v (.string B0), .nl, .rw 9, .rw 10, .rw 11, .nl, .nl], .var 177 [.bp 0 0, .v (.int .i64 B1_0), .v (.int .i64 B1_1), .v (.int .i64 B1_2), .v (.int .i64 B1_3), .v (.int .i64 B1_4), .v (.int .i64 B1_5), .v (.int .i64 B1_6), .v (.int .i64 B1_7), .sl 133 B1_8 false, .sl 133 B1_9 false, .v (.int .i64 B1_10), .v (.int .i64 B1_11)], .var 133 [.v (.int .i64 B2_0), .v (.int .i64 B2_1)], .var 133 [.v (.int .i64 B3_0), .v (.int .i64 B3_1)], .var 133 [.v (.int .i64 B4_0), .v (.int .i64 B4_1)], .var 133 [.v (.int .i64 B5_0), .v (.int .i64 B5_1)], .var 133 [.v (.int .i64 B6_0), .v (.int .i64 B6_1)], .var 133 [.v (.int .i64 B7_0), .v (.int .i64 B7_1)], .row 151 B8 true, .row 82 B9 true, .row 208 B10 true, .row 85 B11 true]
 | .p1048564 s203 s204 B0 B1_0 B1_1 B1_2 B1_3 B1_4 B1_5 B1_6 B1_7 B1_8 B1_9 B1_10 B1_11 B2_0 B2_1 B3_0 B3_1 B4 B5_0 B5_1 B6 B7 B8 => mkSt 230 [1, 6, 8, 19, 21, 203, 204] [.bp 1 0, .bp 2 0, .bp 3 0, .rw 4, .bp 5 0, .v (.int .i64 s203), .v (.int .i64 s204)] [.var 75 [.v (.string B0), .nl, .rw 6, .rw 7, .rw 8, .nl, .nl], .var 177 [.bp 0 0, .v (.int .i64 B1_0), .v (.int .i64 B1_1), .v (.int .i64 B1_2), .v (.int .i64 B1_3), .v (.int .i64 B1_4), .v (.int .i64 B1_5), .v (.int .i64 B1_6), .v (.int .i64 B1_7), .sl 133 B1_8 false, .sl 133 B1_9 false, .v (.int .i64 B1_10), .v (.int .i64 B1_11)], .var 133 [.v (.int .i64 B2_0), .v (.int .i64 B2_1)], .var 133 [.v (.int .i64 B3_0), .v (.int .i64 B3_1)], .row 151 B4 true, .var 133 [.v (.int .i64 B5_0), .v (.int .i64 B5_1)], .row 82 B6 true, .row 208 B7 true, .row 85 B8 true]
abbrev R_z60 : Type := (Unit × ((ByteArray × (Unit × (Unit × (Unit × (Unit × (Unit × (Unit × Unit))))))) × ((List api_Element) × ((List api_Node) × ((List api_Rule) × Unit)))))
noncomputable def res_z60 : Res E Unit ((ByteArray × (Unit × (Unit × (Unit × (Unit × (Unit × (Unit × Unit))))))) × ((List api_Element) × ((List api_Node) × ((List api_Rule) × Unit)))) := { rows := [], flat := [], keep := 1, rl := RdL.nil, rb := (RdBL.cons (RdB.var 75 (RdL.cons Rd.str (RdL.cons Rd.nl (RdL.cons (Rd.rw 1) (RdL.cons (Rd.rw 2) (RdL.cons (Rd.rw 3) (RdL.cons Rd.nl (RdL.cons Rd.nl RdL.nil)))))))) (RdBL.cons (RdB.row 82 true) (RdBL.cons (RdB.row 208 true) (RdBL.cons (RdB.row 85 true) RdBL.nil)))) }
noncomputable def run_z60 : P_z60 → Option R_z60
 | .start p0_0 p0_1 p0_2 p0_3 p0_4 p0_5 p0_6 p0_7 p0_8 p0_9 p0_10 p0_11 B0 B1 B2 B3 =>
   (run_z51 (.start p0_6 p0_7 (12 : Int) (4 : Int) B0 B1 B2 B3)) >>= fun t1 =>
   (run_z51 (.start p0_6 p0_7 (0 : Int) (8 : Int) t1.2.1.1 t1.2.2.1 t1.2.2.2.1 t1.2.2.2.2.1)) >>= fun t2 =>
   (run_z51 (.start p0_6 p0_7 (10 : Int) (2 : Int) t2.2.1.1 t2.2.2.1 t2.2.2.2.1 t2.2.2.2.2.1)) >>= fun t3 =>
   (run_z51 (.start p0_6 p0_7 (8 : Int) (2 : Int) t3.2.1.1 t3.2.2.1 t3.2.2.2.1 t3.2.2.2.2.1)) >>= fun t4 =>
   (run_z53 (.start p0_8 t3.1.1.1 t3.1.1.2.1 t4.2.1.1 t4.2.2.1 t4.2.2.2.1 t4.2.2.2.2.1)) >>= fun t5 =>
   (run_z53 (.start p0_8 t4.1.1.1 t4.1.1.2.1 t5.2.1.1 t5.2.2.1 t5.2.2.2.1 t5.2.2.2.2.1)) >>= fun t6 =>
   (run_z51 (.start t6.1.1.1 t6.1.1.2.1 (0 : Int) (3 : Int) t6.2.1.1 t6.2.2.1 t6.2.2.2.1 t6.2.2.2.2.1)) >>= fun t7 =>
   (run_z50 (.start (6 : Int) (8 : Int) (0 : Int) ([(⟨t5.1.1.1, t5.1.1.2.1⟩ : machine_signal), (⟨t6.1.1.1, t6.1.1.2.1⟩ : machine_signal)] : List machine_signal) t7.2.1.1 t7.2.2.1 t7.2.2.2.1 t7.2.2.2.2.1)) >>= fun t8 =>
   (run_z50 (.start (7 : Int) (8 : Int) (0 : Int) ([(⟨t5.1.1.1, t5.1.1.2.1⟩ : machine_signal), (⟨t6.1.1.1, t6.1.1.2.1⟩ : machine_signal)] : List machine_signal) t8.2.1.1 t8.2.2.1 t8.2.2.2.1 t8.2.2.2.2.1)) >>= fun t9 =>
   (run_z54 (.start t5.1.1.1 t5.1.1.2.1 t6.1.1.1 t6.1.1.2.1 t9.2.1.1 t9.2.2.1 t9.2.2.2.1 t9.2.2.2.2.1)) >>= fun t10 =>
   (run_z53 (.start p0_9 t7.1.1.1 t7.1.1.2.1 t10.2.1.1 t10.2.2.1 t10.2.2.2.1 t10.2.2.2.2.1)) >>= fun t11 =>
   (run_z55 (.start (1 : Int) (0 : Int) t11.2.1.1 t11.2.2.1 t11.2.2.2.1 t11.2.2.2.2.1)) >>= fun t12 =>
   run_z60 (.p4084 (0 : Int) t12.2.1.1 p0_0 p0_1 p0_2 p0_3 p0_4 p0_5 p0_6 p0_7 p0_8 p0_9 p0_10 p0_11 t1.1.1.1 t1.1.1.2.1 t2.1.1.1 t2.1.1.2.1 t3.1.1.1 t3.1.1.2.1 t5.1.1.1 t5.1.1.2.1 t7.1.1.1 t7.1.1.2.1 ([((1 : Int), (⟨t2.1.1.1, t2.1.1.2.1⟩ : machine_signal)), ((2 : Int), (⟨t6.1.1.1, t6.1.1.2.1⟩ : machine_signal)), ((3 : Int), (⟨t8.1.1.1, t8.1.1.2.1⟩ : machine_signal)), ((4 : Int), (⟨t9.1.1.1, t9.1.1.2.1⟩ : machine_signal)), ((5 : Int), (⟨t10.1.1.1, t10.1.1.2.1⟩ : machine_signal)), ((6 : Int), (⟨t11.1.1.1, t11.1.1.2.1⟩ : machine_signal))] : List (Int × machine_signal)) t5.1.1.1 t5.1.1.2.1 t12.1.1.1 t12.1.1.2.1 t12.2.2.1 t12.2.2.2.1 t12.2.2.2.2.1)
 | .p4084 s90 B0 B1_0 B1_1 B1_2 B1_3 B1_4 B1_5 B1_6 B1_7 B1_8 B1_9 B1_10 B1_11 B2_0 B2_1 B3_0 B3_1 B4_0 B4_1 B5_0 B5_1 B6_0 B6_1 B7 B8_0 B8_1 B9_0 B9_1 B10 B11 B12 =>
   if (decide (s90 < (10 : Int))) = true then
     if (Option.isSome (aget ieq B7 s90)) = true then
       (run_z56 (.start B2_0 B2_1 s90 B0 B10 B11 B12)) >>= fun t1 =>
       (run_z52 (.start t1.1.1.1 t1.1.1.2.1 ((Option.getD (aget ieq B7 s90) (⟨(0 : Int), (0 : Int)⟩ : machine_signal)).node) ((Option.getD (aget ieq B7 s90) (⟨(0 : Int), (0 : Int)⟩ : machine_signal)).width) B8_0 B8_1 t1.2.1.1 t1.2.2.1 t1.2.2.2.1 t1.2.2.2.2.1)) >>= fun t2 =>
       (run_z57 (.start B9_0 B9_1 t1.1.1.1 t1.1.1.2.1 t2.2.1.1 t2.2.2.1 t2.2.2.2.1 t2.2.2.2.2.1)) >>= fun t3 =>
       run_z60 (.p4084 (IntKind.wrap .i64 (s90 + (1 : Int))) t3.2.1.1 B1_0 B1_1 B1_2 B1_3 B1_4 B1_5 B1_6 B1_7 B1_8 B1_9 B1_10 B1_11 B2_0 B2_1 B3_0 B3_1 B4_0 B4_1 B5_0 B5_1 B6_0 B6_1 B7 t2.1.1.1 t2.1.1.2.1 t3.1.1.1 t3.1.1.2.1 t3.2.2.1 t3.2.2.2.1 t3.2.2.2.2.1)
     else
       run_z60 (.p4084 (IntKind.wrap .i64 (s90 + (1 : Int))) B0 B1_0 B1_1 B1_2 B1_3 B1_4 B1_5 B1_6 B1_7 B1_8 B1_9 B1_10 B1_11 B2_0 B2_1 B3_0 B3_1 B4_0 B4_1 B5_0 B5_1 B6_0 B6_1 B7 B8_0 B8_1 B9_0 B9_1 B10 B11 B12)
   else
     (run_z56 (.start B2_0 B2_1 (0 : Int) B0 B10 B11 B12)) >>= fun t4 =>
     (run_z56 (.start B2_0 B2_1 (8 : Int) t4.2.1.1 t4.2.2.1 t4.2.2.2.1 t4.2.2.2.2.1)) >>= fun t5 =>
     (run_z56 (.start B2_0 B2_1 (9 : Int) t5.2.1.1 t5.2.2.1 t5.2.2.2.1 t5.2.2.2.2.1)) >>= fun t6 =>
     (run_z56 (.start B5_0 B5_1 (0 : Int) t6.2.1.1 t6.2.2.1 t6.2.2.2.1 t6.2.2.2.2.1)) >>= fun t7 =>
     (run_z54 (.start t6.1.1.1 t6.1.1.2.1 t7.1.1.1 t7.1.1.2.1 t7.2.1.1 t7.2.2.1 t7.2.2.2.1 t7.2.2.2.2.1)) >>= fun t8 =>
     (run_z57 (.start t5.1.1.1 t5.1.1.2.1 t8.1.1.1 t8.1.1.2.1 t8.2.1.1 t8.2.2.1 t8.2.2.2.1 t8.2.2.2.2.1)) >>= fun t9 =>
     (run_z55 (.start (4 : Int) (1 : Int) t9.2.1.1 t9.2.2.1 t9.2.2.2.1 t9.2.2.2.2.1)) >>= fun t10 =>
     (run_z50 (.start (6 : Int) (4 : Int) (0 : Int) ([(⟨B1_0, B1_1⟩ : machine_signal), (⟨t10.1.1.1, t10.1.1.2.1⟩ : machine_signal)] : List machine_signal) t10.2.1.1 t10.2.2.1 t10.2.2.2.1 t10.2.2.2.2.1)) >>= fun t11 =>
     (run_z51 (.start B3_0 B3_1 (0 : Int) (4 : Int) t11.2.1.1 t11.2.2.1 t11.2.2.2.1 t11.2.2.2.2.1)) >>= fun t12 =>
     (run_z52 (.start t9.1.1.1 t9.1.1.2.1 t12.1.1.1 t12.1.1.2.1 t11.1.1.1 t11.1.1.2.1 t12.2.1.1 t12.2.2.1 t12.2.2.2.1 t12.2.2.2.2.1)) >>= fun t13 =>
     (run_z58 (.start t4.1.1.1 t4.1.1.2.1 t13.2.1.1 t13.2.2.1 t13.2.2.2.1 t13.2.2.2.2.1)) >>= fun t14 =>
     (run_z47 (.start (0 : Int) t14.1.1.1 t14.1.1.2.1 t13.1.1.1 t13.1.1.2.1)) >>= fun t15 =>
     (run_z47 (.start (1 : Int) t4.1.1.1 t4.1.1.2.1 B1_10 B1_11)) >>= fun t16 =>
     (run_z55 (.start (1 : Int) (0 : Int) t14.2.1.1 t14.2.2.1 t14.2.2.2.1 t14.2.2.2.2.1)) >>= fun t17 =>
     (run_z47 (.start (2 : Int) B1_10 B1_11 t17.1.1.1 t17.1.1.2.1)) >>= fun t18 =>
     run_z60 (.p262132 (List.length B1_8 : Int) (0 : Int) t17.2.1.1 B1_0 B1_1 B1_2 B1_3 B1_4 B1_5 B1_6 B1_7 B1_8 B1_9 B1_10 B1_11 B2_0 B2_1 B4_0 B4_1 B5_0 B5_1 B6_0 B6_1 B8_0 B8_1 B9_0 B9_1 ([(⟨t15.1.1.1, t15.1.1.2.1, t15.1.1.2.2.1⟩ : api_Write), (⟨t16.1.1.1, t16.1.1.2.1, t16.1.1.2.2.1⟩ : api_Write), (⟨t18.1.1.1, t18.1.1.2.1, t18.1.1.2.2.1⟩ : api_Write)] : List api_Write) t17.2.2.1 t17.2.2.2.1 t17.2.2.2.2.1)
 | .p262132 s176 s177 B0 B1_0 B1_1 B1_2 B1_3 B1_4 B1_5 B1_6 B1_7 B1_8 B1_9 B1_10 B1_11 B2_0 B2_1 B3_0 B3_1 B4_0 B4_1 B5_0 B5_1 B6_0 B6_1 B7_0 B7_1 B8 B9 B10 B11 =>
   if (decide (s177 < s176)) = true then
     (run_z56 (.start B3_0 B3_1 s177 B0 B9 B10 B11)) >>= fun t1 =>
     (run_z54 (.start B7_0 B7_1 t1.1.1.1 t1.1.1.2.1 t1.2.1.1 t1.2.2.1 t1.2.2.2.1 t1.2.2.2.2.1)) >>= fun t2 =>
     (run_z47 (.start (IntKind.wrap .i64 ((4 : Int) + s177)) t2.1.1.1 t2.1.1.2.1 B6_0 B6_1)) >>= fun t3 =>
     if (fits (List.length B8) (List.length ([(⟨t3.1.1.1, t3.1.1.2.1, t3.1.1.2.2.1⟩ : api_Write)] : List api_Write)) 24) = true then
       run_z60 (.p262132 s176 (IntKind.wrap .i64 (s177 + (1 : Int))) t2.2.1.1 B1_0 B1_1 B1_2 B1_3 B1_4 B1_5 B1_6 B1_7 B1_8 B1_9 B1_10 B1_11 B2_0 B2_1 B3_0 B3_1 B4_0 B4_1 B5_0 B5_1 B6_0 B6_1 B7_0 B7_1 (B8 ++ ([(⟨t3.1.1.1, t3.1.1.2.1, t3.1.1.2.2.1⟩ : api_Write)] : List api_Write)) t2.2.2.1 t2.2.2.2.1 t2.2.2.2.2.1)
     else none
   else
     (run_z56 (.start B2_0 B2_1 (7 : Int) B0 B9 B10 B11)) >>= fun t4 =>
     run_z60 (.p1048564 (List.length B1_9 : Int) (0 : Int) t4.2.1.1 B1_0 B1_1 B1_2 B1_3 B1_4 B1_5 B1_6 B1_7 B1_8 B1_9 B1_10 B1_11 B4_0 B4_1 B5_0 B5_1 B8 t4.1.1.1 t4.1.1.2.1 t4.2.2.1 t4.2.2.2.1 t4.2.2.2.2.1)
 | .p1048564 s203 s204 B0 B1_0 B1_1 B1_2 B1_3 B1_4 B1_5 B1_6 B1_7 B1_8 B1_9 B1_10 B1_11 B2_0 B2_1 B3_0 B3_1 B4 B5_0 B5_1 B6 B7 B8 =>
   if (decide (s204 < s203)) = true then
     (run_z56 (.start B3_0 B3_1 s204 B0 B6 B7 B8)) >>= fun t1 =>
     (run_z54 (.start B5_0 B5_1 t1.1.1.1 t1.1.1.2.1 t1.2.1.1 t1.2.2.1 t1.2.2.2.1 t1.2.2.2.2.1)) >>= fun t2 =>
     (run_z47 (.start (IntKind.wrap .i64 ((8 : Int) + s204)) t2.1.1.1 t2.1.1.2.1 B2_0 B2_1)) >>= fun t3 =>
     if (fits (List.length B4) (List.length ([(⟨t3.1.1.1, t3.1.1.2.1, t3.1.1.2.2.1⟩ : api_Write)] : List api_Write)) 24) = true then
       run_z60 (.p1048564 s203 (IntKind.wrap .i64 (s204 + (1 : Int))) t2.2.1.1 B1_0 B1_1 B1_2 B1_3 B1_4 B1_5 B1_6 B1_7 B1_8 B1_9 B1_10 B1_11 B2_0 B2_1 B3_0 B3_1 (B4 ++ ([(⟨t3.1.1.1, t3.1.1.2.1, t3.1.1.2.2.1⟩ : api_Write)] : List api_Write)) B5_0 B5_1 t2.2.2.1 t2.2.2.2.1 t2.2.2.2.2.1)
     else none
   else
     (run_z59 (.start (⟨#[101, 120, 101, 99, 117, 116, 101]⟩ : ByteArray) B1_4 B1_5 B4 B0 B6 B7 B8)) >>= fun t4 =>
     some ((), ((t4.2.1.1, ((), ((), ((), ((), ((), ((), ()))))))), (t4.2.2.1, (t4.2.2.2.1, (t4.2.2.2.2.1, ())))))
  partial_fixpoint
noncomputable def tab_z60 : List (Plc E P_z60) := [⟨4084, [false, false, true, false, true, true, true, true, true, true, true], { slots := [1, 2, 3, 4, 6, 8, 9, 10, 11, 90], rows := [], flat := [], keep := 1 }, (Unit × (Unit × (Unit × (Unit × (Unit × (Unit × (Unit × (Unit × (Unit × (Int × Unit)))))))))), ((ByteArray × (Unit × (Unit × (Unit × (Unit × (Unit × (Unit × Unit))))))) × ((Unit × (Int × (Int × (Int × (Int × (Int × (Int × (Int × (Int × ((List machine_signal) × ((List machine_signal) × (Int × (Int × Unit))))))))))))) × ((Int × (Int × Unit)) × ((Int × (Int × Unit)) × ((Int × (Int × Unit)) × ((Int × (Int × Unit)) × ((Int × (Int × Unit)) × ((List (Int × machine_signal)) × ((Int × (Int × Unit)) × ((Int × (Int × Unit)) × ((List api_Element) × ((List api_Node) × ((List api_Rule) × Unit))))))))))))), (RdL.cons (Rd.bp 1 0) (RdL.cons (Rd.bp 2 0) (RdL.cons (Rd.bp 3 0) (RdL.cons (Rd.bp 4 0) (RdL.cons (Rd.bp 5 0) (RdL.cons (Rd.bp 6 0) (RdL.cons (Rd.rw 7) (RdL.cons (Rd.bp 8 0) (RdL.cons (Rd.bp 9 0) (RdL.cons (Rd.int .i64) RdL.nil)))))))))), (RdBL.cons (RdB.var 75 (RdL.cons Rd.str (RdL.cons Rd.nl (RdL.cons (Rd.rw 10) (RdL.cons (Rd.rw 11) (RdL.cons (Rd.rw 12) (RdL.cons Rd.nl (RdL.cons Rd.nl RdL.nil)))))))) (RdBL.cons (RdB.var 177 (RdL.cons (Rd.bp 0 0) (RdL.cons (Rd.int .i64) (RdL.cons (Rd.int .i64) (RdL.cons (Rd.int .i64) (RdL.cons (Rd.int .i64) (RdL.cons (Rd.int .i64) (RdL.cons (Rd.int .i64) (RdL.cons (Rd.int .i64) (RdL.cons (Rd.int .i64) (RdL.cons (Rd.sl 133 false) (RdL.cons (Rd.sl 133 false) (RdL.cons (Rd.int .i64) (RdL.cons (Rd.int .i64) RdL.nil)))))))))))))) (RdBL.cons (RdB.var 133 (RdL.cons (Rd.int .i64) (RdL.cons (Rd.int .i64) RdL.nil))) (RdBL.cons (RdB.var 133 (RdL.cons (Rd.int .i64) (RdL.cons (Rd.int .i64) RdL.nil))) (RdBL.cons (RdB.var 133 (RdL.cons (Rd.int .i64) (RdL.cons (Rd.int .i64) RdL.nil))) (RdBL.cons (RdB.var 133 (RdL.cons (Rd.int .i64) (RdL.cons (Rd.int .i64) RdL.nil))) (RdBL.cons (RdB.var 133 (RdL.cons (Rd.int .i64) (RdL.cons (Rd.int .i64) RdL.nil))) (RdBL.cons (RdB.mp (.int .i64) 133) (RdBL.cons (RdB.var 133 (RdL.cons (Rd.int .i64) (RdL.cons (Rd.int .i64) RdL.nil))) (RdBL.cons (RdB.var 133 (RdL.cons (Rd.int .i64) (RdL.cons (Rd.int .i64) RdL.nil))) (RdBL.cons (RdB.row 82 true) (RdBL.cons (RdB.row 208 true) (RdBL.cons (RdB.row 85 true) RdBL.nil))))))))))))), fun a b => .p4084 a.2.2.2.2.2.2.2.2.2.1 b.1.1 b.2.1.2.1 b.2.1.2.2.1 b.2.1.2.2.2.1 b.2.1.2.2.2.2.1 b.2.1.2.2.2.2.2.1 b.2.1.2.2.2.2.2.2.1 b.2.1.2.2.2.2.2.2.2.1 b.2.1.2.2.2.2.2.2.2.2.1 b.2.1.2.2.2.2.2.2.2.2.2.1 b.2.1.2.2.2.2.2.2.2.2.2.2.1 b.2.1.2.2.2.2.2.2.2.2.2.2.2.1 b.2.1.2.2.2.2.2.2.2.2.2.2.2.2.1 b.2.2.1.1 b.2.2.1.2.1 b.2.2.2.1.1 b.2.2.2.1.2.1 b.2.2.2.2.1.1 b.2.2.2.2.1.2.1 b.2.2.2.2.2.1.1 b.2.2.2.2.2.1.2.1 b.2.2.2.2.2.2.1.1 b.2.2.2.2.2.2.1.2.1 b.2.2.2.2.2.2.2.1 b.2.2.2.2.2.2.2.2.1.1 b.2.2.2.2.2.2.2.2.1.2.1 b.2.2.2.2.2.2.2.2.2.1.1 b.2.2.2.2.2.2.2.2.2.1.2.1 b.2.2.2.2.2.2.2.2.2.2.1 b.2.2.2.2.2.2.2.2.2.2.2.1 b.2.2.2.2.2.2.2.2.2.2.2.2.1⟩,
  ⟨262132, [false, false, true, false, true, true, true, true, true, true, true, true, true, true, true, true, true], { slots := [1, 2, 4, 6, 8, 10, 11, 19, 176, 177], rows := [(19, 151)], flat := [], keep := 1 }, (Unit × (Unit × (Unit × (Unit × (Unit × (Unit × (Unit × (Unit × (Int × (Int × Unit)))))))))), ((ByteArray × (Unit × (Unit × (Unit × (Unit × (Unit × (Unit × Unit))))))) × ((Unit × (Int × (Int × (Int × (Int × (Int × (Int × (Int × (Int × ((List machine_signal) × ((List machine_signal) × (Int × (Int × Unit))))))))))))) × ((Int × (Int × Unit)) × ((Int × (Int × Unit)) × ((Int × (Int × Unit)) × ((Int × (Int × Unit)) × ((Int × (Int × Unit)) × ((Int × (Int × Unit)) × ((List api_Write) × ((List api_Element) × ((List api_Node) × ((List api_Rule) × Unit)))))))))))), (RdL.cons (Rd.bp 1 0) (RdL.cons (Rd.bp 2 0) (RdL.cons (Rd.bp 3 0) (RdL.cons (Rd.bp 4 0) (RdL.cons (Rd.bp 5 0) (RdL.cons (Rd.bp 6 0) (RdL.cons (Rd.bp 7 0) (RdL.cons (Rd.rw 8) (RdL.cons (Rd.int .i64) (RdL.cons (Rd.int .i64) RdL.nil)))))))))), (RdBL.cons (RdB.var 75 (RdL.cons Rd.str (RdL.cons Rd.nl (RdL.cons (Rd.rw 9) (RdL.cons (Rd.rw 10) (RdL.cons (Rd.rw 11) (RdL.cons Rd.nl (RdL.cons Rd.nl RdL.nil)))))))) (RdBL.cons (RdB.var 177 (RdL.cons (Rd.bp 0 0) (RdL.cons (Rd.int .i64) (RdL.cons (Rd.int .i64) (RdL.cons (Rd.int .i64) (RdL.cons (Rd.int .i64) (RdL.cons (Rd.int .i64) (RdL.cons (Rd.int .i64) (RdL.cons (Rd.int .i64) (RdL.cons (Rd.int .i64) (RdL.cons (Rd.sl 133 false) (RdL.cons (Rd.sl 133 false) (RdL.cons (Rd.int .i64) (RdL.cons (Rd.int .i64) RdL.nil)))))))))))))) (RdBL.cons (RdB.var 133 (RdL.cons (Rd.int .i64) (RdL.cons (Rd.int .i64) RdL.nil))) (RdBL.cons (RdB.var 133 (RdL.cons (Rd.int .i64) (RdL.cons (Rd.int .i64) RdL.nil))) (RdBL.cons (RdB.var 133 (RdL.cons (Rd.int .i64) (RdL.cons (Rd.int .i64) RdL.nil))) (RdBL.cons (RdB.var 133 (RdL.cons (Rd.int .i64) (RdL.cons (Rd.int .i64) RdL.nil))) (RdBL.cons (RdB.var 133 (RdL.cons (Rd.int .i64) (RdL.cons (Rd.int .i64) RdL.nil))) (RdBL.cons (RdB.var 133 (RdL.cons (Rd.int .i64) (RdL.cons (Rd.int .i64) RdL.nil))) (RdBL.cons (RdB.row 151 true) (RdBL.cons (RdB.row 82 true) (RdBL.cons (RdB.row 208 true) (RdBL.cons (RdB.row 85 true) RdBL.nil)))))))))))), fun a b => .p262132 a.2.2.2.2.2.2.2.2.1 a.2.2.2.2.2.2.2.2.2.1 b.1.1 b.2.1.2.1 b.2.1.2.2.1 b.2.1.2.2.2.1 b.2.1.2.2.2.2.1 b.2.1.2.2.2.2.2.1 b.2.1.2.2.2.2.2.2.1 b.2.1.2.2.2.2.2.2.2.1 b.2.1.2.2.2.2.2.2.2.2.1 b.2.1.2.2.2.2.2.2.2.2.2.1 b.2.1.2.2.2.2.2.2.2.2.2.2.1 b.2.1.2.2.2.2.2.2.2.2.2.2.2.1 b.2.1.2.2.2.2.2.2.2.2.2.2.2.2.1 b.2.2.1.1 b.2.2.1.2.1 b.2.2.2.1.1 b.2.2.2.1.2.1 b.2.2.2.2.1.1 b.2.2.2.2.1.2.1 b.2.2.2.2.2.1.1 b.2.2.2.2.2.1.2.1 b.2.2.2.2.2.2.1.1 b.2.2.2.2.2.2.1.2.1 b.2.2.2.2.2.2.2.1.1 b.2.2.2.2.2.2.2.1.2.1 b.2.2.2.2.2.2.2.2.1 b.2.2.2.2.2.2.2.2.2.1 b.2.2.2.2.2.2.2.2.2.2.1 b.2.2.2.2.2.2.2.2.2.2.2.1⟩,
  ⟨1048564, [false, false, true, false, true, true, true, true, true, true, true, true, true, true, true, true, true, true, true], { slots := [1, 6, 8, 19, 21, 203, 204], rows := [], flat := [], keep := 1 }, (Unit × (Unit × (Unit × (Unit × (Unit × (Int × (Int × Unit))))))), ((ByteArray × (Unit × (Unit × (Unit × (Unit × (Unit × (Unit × Unit))))))) × ((Unit × (Int × (Int × (Int × (Int × (Int × (Int × (Int × (Int × ((List machine_signal) × ((List machine_signal) × (Int × (Int × Unit))))))))))))) × ((Int × (Int × Unit)) × ((Int × (Int × Unit)) × ((List api_Write) × ((Int × (Int × Unit)) × ((List api_Element) × ((List api_Node) × ((List api_Rule) × Unit))))))))), (RdL.cons (Rd.bp 1 0) (RdL.cons (Rd.bp 2 0) (RdL.cons (Rd.bp 3 0) (RdL.cons (Rd.rw 4) (RdL.cons (Rd.bp 5 0) (RdL.cons (Rd.int .i64) (RdL.cons (Rd.int .i64) RdL.nil))))))), (RdBL.cons (RdB.var 75 (RdL.cons Rd.str (RdL.cons Rd.nl (RdL.cons (Rd.rw 6) (RdL.cons (Rd.rw 7) (RdL.cons (Rd.rw 8) (RdL.cons Rd.nl (RdL.cons Rd.nl RdL.nil)))))))) (RdBL.cons (RdB.var 177 (RdL.cons (Rd.bp 0 0) (RdL.cons (Rd.int .i64) (RdL.cons (Rd.int .i64) (RdL.cons (Rd.int .i64) (RdL.cons (Rd.int .i64) (RdL.cons (Rd.int .i64) (RdL.cons (Rd.int .i64) (RdL.cons (Rd.int .i64) (RdL.cons (Rd.int .i64) (RdL.cons (Rd.sl 133 false) (RdL.cons (Rd.sl 133 false) (RdL.cons (Rd.int .i64) (RdL.cons (Rd.int .i64) RdL.nil)))))))))))))) (RdBL.cons (RdB.var 133 (RdL.cons (Rd.int .i64) (RdL.cons (Rd.int .i64) RdL.nil))) (RdBL.cons (RdB.var 133 (RdL.cons (Rd.int .i64) (RdL.cons (Rd.int .i64) RdL.nil))) (RdBL.cons (RdB.row 151 true) (RdBL.cons (RdB.var 133 (RdL.cons (Rd.int .i64) (RdL.cons (Rd.int .i64) RdL.nil))) (RdBL.cons (RdB.row 82 true) (RdBL.cons (RdB.row 208 true) (RdBL.cons (RdB.row 85 true) RdBL.nil))))))))), fun a b => .p1048564 a.2.2.2.2.2.1 a.2.2.2.2.2.2.1 b.1.1 b.2.1.2.1 b.2.1.2.2.1 b.2.1.2.2.2.1 b.2.1.2.2.2.2.1 b.2.1.2.2.2.2.2.1 b.2.1.2.2.2.2.2.2.1 b.2.1.2.2.2.2.2.2.2.1 b.2.1.2.2.2.2.2.2.2.2.1 b.2.1.2.2.2.2.2.2.2.2.2.1 b.2.1.2.2.2.2.2.2.2.2.2.2.1 b.2.1.2.2.2.2.2.2.2.2.2.2.2.1 b.2.1.2.2.2.2.2.2.2.2.2.2.2.2.1 b.2.2.1.1 b.2.2.1.2.1 b.2.2.2.1.1 b.2.2.2.1.2.1 b.2.2.2.2.1 b.2.2.2.2.2.1.1 b.2.2.2.2.2.1.2.1 b.2.2.2.2.2.2.1 b.2.2.2.2.2.2.2.1 b.2.2.2.2.2.2.2.2.1⟩]
theorem tab_z60_ok : All (PlcOk 230 1 place_z60 st_z60) tab_z60 := ⟨⟨rfl, rfl, fun _ _ => rfl, fun _ _ => rfl⟩, ⟨⟨rfl, rfl, fun _ _ => rfl, fun _ _ => rfl⟩, ⟨⟨rfl, rfl, fun _ _ => rfl, fun _ _ => rfl⟩, trivial⟩⟩⟩
noncomputable def code_z60 : Code := Tryz.f110.body.getD .skip
noncomputable def spec_z60 : Spec E.S := (Con.add con_z59 (Con.add con_z47 (Con.add con_z58 (Con.add con_z57 (Con.add con_z52 (Con.add con_z56 (Con.add con_z55 (Con.add con_z54 (Con.add con_z50 (Con.add con_z53 (Con.add con_z51 noSpec)))))))))))
theorem spec_z60_ok : SpecOk E spec_z60 := (Con.add_ok con_z59_ok (Con.add_ok con_z47_ok (Con.add_ok con_z58_ok (Con.add_ok con_z57_ok (Con.add_ok con_z52_ok (Con.add_ok con_z56_ok (Con.add_ok con_z55_ok (Con.add_ok con_z54_ok (Con.add_ok con_z50_ok (Con.add_ok con_z53_ok (Con.add_ok con_z51_ok noSpec_ok)))))))))))
theorem good_z60 : ∀ pt r, run_z60 pt = some r → Good E Tryz.f110 code_z60 1 (res_z60.av r) (res_z60.bx r) (place_z60 pt) (st_z60 pt) := by
  refine run_z60.partial_correctness (fun pt r => Good E Tryz.f110 code_z60 1 (res_z60.av r) (res_z60.bx r) (place_z60 pt) (st_z60 pt)) ?_
  intro run' ih pt r hr
  cases pt <;> exact fn_step (spec := spec_z60) (wr := (mkWr [] [] [59])) (l := tab_z60) (z := 230) (p := res_z60) E_ok tab_z60_ok.mem rfl spec_z60_ok ih (Eq.trans (by kernel_rfl) hr)
noncomputable def con_z60 : Con E := ⟨110, ((Unit × (Int × (Int × (Int × (Int × (Int × (Int × (Int × (Int × ((List machine_signal) × ((List machine_signal) × (Int × (Int × Unit))))))))))))) × Unit), ((ByteArray × (Unit × (Unit × (Unit × (Unit × (Unit × (Unit × Unit))))))) × ((List api_Element) × ((List api_Node) × ((List api_Rule) × Unit)))), (RwL.cons (Rw.agg (RwL.cons (Rd.bp 0 0).w (RwL.cons (Rd.int .i64).w (RwL.cons (Rd.int .i64).w (RwL.cons (Rd.int .i64).w (RwL.cons (Rd.int .i64).w (RwL.cons (Rd.int .i64).w (RwL.cons (Rd.int .i64).w (RwL.cons (Rd.int .i64).w (RwL.cons (Rd.int .i64).w (RwL.cons (Rw.sl 133) (RwL.cons (Rw.sl 133) (RwL.cons (Rd.int .i64).w (RwL.cons (Rd.int .i64).w RwL.nil)))))))))))))) RwL.nil), (RdBL.cons (RdB.var 75 (RdL.cons Rd.str (RdL.cons Rd.nl (RdL.cons (Rd.rw 1) (RdL.cons (Rd.rw 2) (RdL.cons (Rd.rw 3) (RdL.cons Rd.nl (RdL.cons Rd.nl RdL.nil)))))))) (RdBL.cons (RdB.row 82 true) (RdBL.cons (RdB.row 208 true) (RdBL.cons (RdB.row 85 true) RdBL.nil)))), 1, R_z60, fun a b => run_z60 (.start a.1.2.1 a.1.2.2.1 a.1.2.2.2.1 a.1.2.2.2.2.1 a.1.2.2.2.2.2.1 a.1.2.2.2.2.2.2.1 a.1.2.2.2.2.2.2.2.1 a.1.2.2.2.2.2.2.2.2.1 a.1.2.2.2.2.2.2.2.2.2.1 a.1.2.2.2.2.2.2.2.2.2.2.1 a.1.2.2.2.2.2.2.2.2.2.2.2.1 a.1.2.2.2.2.2.2.2.2.2.2.2.2.1 b.1.1 b.2.1 b.2.2.1 b.2.2.2.1), res_z60.av, res_z60.bx⟩
theorem con_z60_ok : con_z60.Ok := fun a b r h => fn_ok (fn := Tryz.f110) (code := code_z60) E_ok (by kernel_rfl) (by kernel_rfl) (by kernel_rfl) (Nat.le_of_ble_eq_true rfl) (good_z60 (.start a.1.2.1 a.1.2.2.1 a.1.2.2.2.1 a.1.2.2.2.2.1 a.1.2.2.2.2.2.1 a.1.2.2.2.2.2.2.1 a.1.2.2.2.2.2.2.2.1 a.1.2.2.2.2.2.2.2.2.1 a.1.2.2.2.2.2.2.2.2.2.1 a.1.2.2.2.2.2.2.2.2.2.2.1 a.1.2.2.2.2.2.2.2.2.2.2.2.1 a.1.2.2.2.2.2.2.2.2.2.2.2.2.1 b.1.1 b.2.1 b.2.2.1 b.2.2.2.1) r h)

/-! ### ratchet/machine.ProcessorOf -/
inductive P_z61 where
 | start (l0 : (List api_MachineCode)) (memory1 : (List Int))
noncomputable def place_z61 : P_z61 → List Bool
 | .start .. => []
noncomputable def st_z61 : P_z61 → St E.S
 | .start l0 memory1 => st0 30 [.sl 40 l0 false, .sl 3 memory1 false] []
abbrev R_z61 : Type := (((ByteArray × (Unit × ((List api_Element) × ((List api_Node) × ((List api_Rule) × (Unit × (Unit × Unit))))))) × (Int × Unit)) × Unit)
noncomputable def res_z61 : Res E ((ByteArray × (Unit × ((List api_Element) × ((List api_Node) × ((List api_Rule) × (Unit × (Unit × Unit))))))) × (Int × Unit)) Unit := { rows := [], flat := [], keep := 0, deep := [(false, 0, 2, 82), (false, 0, 3, 208), (false, 0, 4, 85)], done := [0, 1], rl := (RdL.cons (Rd.agg (RdL.cons Rd.str (RdL.cons Rd.nl (RdL.cons (Rd.sl 82 false) (RdL.cons (Rd.sl 208 false) (RdL.cons (Rd.sl 85 false) (RdL.cons Rd.nl (RdL.cons Rd.nl RdL.nil)))))))) (RdL.cons (Rd.int .i64) RdL.nil)), rb := RdBL.nil }
noncomputable def run_z61 : P_z61 → Option R_z61
 | .start l0 memory1 =>
   (run_z29 (.start l0)) >>= fun t1 =>
   (run_z34 (.start memory1)) >>= fun t2 =>
   (run_z25 (.start ([t1.1.1, t2.1.1] : List Int))) >>= fun t3 =>
   if (t3.1.1 != (0 : Int)) = true then
     some ((((⟨#[]⟩ : ByteArray), ((), ([], ([], ([], ((), ((), ()))))))), (t3.1.1, ())), ())
   else
     (run_z40 (.start memory1)) >>= fun t4 =>
     (run_z49 (.start t4.1.1.2.1 t4.1.1.2.2.1 t4.1.1.2.2.2.1 t4.1.1.2.2.2.2.1 t4.1.1.2.2.2.2.2.1 t4.1.1.2.2.2.2.2.2.1 t4.1.1.2.2.2.2.2.2.2.1 t4.1.1.2.2.2.2.2.2.2.2.1 t4.2.2.1 t4.2.2.2.1 t4.1.1.2.2.2.2.2.2.2.2.2.2.2.1 t4.1.1.2.2.2.2.2.2.2.2.2.2.2.2.1 l0 t4.2.1.1 t4.2.2.2.2.1 t4.2.2.2.2.2.1)) >>= fun t5 =>
     (run_z60 (.start t4.1.1.2.1 t4.1.1.2.2.1 t4.1.1.2.2.2.1 t4.1.1.2.2.2.2.1 t4.1.1.2.2.2.2.2.1 t4.1.1.2.2.2.2.2.2.1 t4.1.1.2.2.2.2.2.2.2.1 t4.1.1.2.2.2.2.2.2.2.2.1 t4.2.2.1 t4.2.2.2.1 t4.1.1.2.2.2.2.2.2.2.2.2.2.2.1 t4.1.1.2.2.2.2.2.2.2.2.2.2.2.2.1 t5.2.1.1 t5.2.2.1 t5.2.2.2.1 t5.2.2.2.2.1)) >>= fun t6 =>
     some (((t6.2.1.1, ((), (t6.2.2.1, (t6.2.2.2.1, (t6.2.2.2.2.1, ((), ((), ()))))))), ((0 : Int), ())), ())
noncomputable def tab_z61 : List (Plc E P_z61) := []
theorem tab_z61_ok : All (PlcOk 30 0 place_z61 st_z61) tab_z61 := trivial
noncomputable def code_z61 : Code := Tryz.f55.body.getD .skip
noncomputable def spec_z61 : Spec E.S := (Con.add con_z60 (Con.add con_z49 (Con.add con_z40 (Con.add con_z25 (Con.add con_z34 (Con.add con_z29 noSpec))))))
theorem spec_z61_ok : SpecOk E spec_z61 := (Con.add_ok con_z60_ok (Con.add_ok con_z49_ok (Con.add_ok con_z40_ok (Con.add_ok con_z25_ok (Con.add_ok con_z34_ok (Con.add_ok con_z29_ok noSpec_ok))))))
theorem good_z61 : ∀ pt r, run_z61 pt = some r → Good E Tryz.f55 code_z61 0 (res_z61.av r) (res_z61.bx r) (place_z61 pt) (st_z61 pt) := by
  intro pt r hr
  cases pt <;> exact fn_step (spec := spec_z61) (wr := (mkWr [] [])) (l := tab_z61) (z := 30) (p := res_z61) (run' := fun _ => none) E_ok tab_z61_ok.mem rfl spec_z61_ok (fun _ _ h => by cases h) (Eq.trans (by kernel_rfl) hr)
noncomputable def con_z61 : Con E := ⟨55, ((List api_MachineCode) × ((List Int) × Unit)), Unit, (RwL.cons (Rw.sl 40) (RwL.cons (Rw.sl 3) RwL.nil)), RdBL.nil, 0, R_z61, fun a b => run_z61 (.start a.1 a.2.1), res_z61.av, res_z61.bx⟩
theorem con_z61_ok : con_z61.Ok := fun a b r h => fn_ok (fn := Tryz.f55) (code := code_z61) E_ok (by kernel_rfl) (by kernel_rfl) (by kernel_rfl) (Nat.le_of_ble_eq_true rfl) (good_z61 (.start a.1 a.2.1) r h)

/-! ### ratchet/ratchetref31.shape -/
inductive P_z62 where
 | start (op0 : Int)
noncomputable def place_z62 : P_z62 → List Bool
 | .start .. => []
noncomputable def st_z62 : P_z62 → St E.S
 | .start op0 => st0 7 [.v (.int .i64 op0)] []
abbrev R_z62 : Type := ((ByteArray × Unit) × Unit)
noncomputable def res_z62 : Res E (ByteArray × Unit) Unit := { rows := [], flat := [], keep := 0, done := [0], rl := (RdL.cons Rd.str RdL.nil), rb := RdBL.nil }
noncomputable def run_z62 : P_z62 → Option R_z62
 | .start op0 =>
   (idx ([(⟨#[]⟩ : ByteArray), (⟨#[97, 110]⟩ : ByteArray), (⟨#[97, 98]⟩ : ByteArray), (⟨#[97, 98]⟩ : ByteArray), (⟨#[97, 98]⟩ : ByteArray), (⟨#[97, 98]⟩ : ByteArray), (⟨#[97, 98]⟩ : ByteArray), (⟨#[97, 98]⟩ : ByteArray), (⟨#[112]⟩ : ByteArray), (⟨#[97, 112]⟩ : ByteArray)] : List ByteArray) op0) >>= fun t1 =>
   some ((t1, ()), ())
noncomputable def tab_z62 : List (Plc E P_z62) := []
theorem tab_z62_ok : All (PlcOk 7 0 place_z62 st_z62) tab_z62 := trivial
noncomputable def code_z62 : Code := Tryz.f106.body.getD .skip
noncomputable def spec_z62 : Spec E.S := noSpec
theorem spec_z62_ok : SpecOk E spec_z62 := noSpec_ok
theorem good_z62 : ∀ pt r, run_z62 pt = some r → Good E Tryz.f106 code_z62 0 (res_z62.av r) (res_z62.bx r) (place_z62 pt) (st_z62 pt) := by
  intro pt r hr
  cases pt <;> exact fn_step (spec := spec_z62) (wr := (mkWr [] [])) (l := tab_z62) (z := 7) (p := res_z62) (run' := fun _ => none) E_ok tab_z62_ok.mem rfl spec_z62_ok (fun _ _ h => by cases h) (Eq.trans (by kernel_rfl) hr)
noncomputable def con_z62 : Con E := ⟨106, (Int × Unit), Unit, (RwL.cons (Rd.int .i64).w RwL.nil), RdBL.nil, 0, R_z62, fun a b => run_z62 (.start a.1), res_z62.av, res_z62.bx⟩
theorem con_z62_ok : con_z62.Ok := fun a b r h => fn_ok (fn := Tryz.f106) (code := code_z62) E_ok (by kernel_rfl) (by kernel_rfl) (by kernel_rfl) (Nat.le_of_ble_eq_true rfl) (good_z62 (.start a.1) r h)

/-! ### ratchet/ratchetref31.uses -/
inductive P_z63 where
 | start (op0 : Int) (kind1 : Int)
 | p116 (kind1 : Int) (s5 : ByteArray) (i6 : Int)
noncomputable def place_z63 : P_z63 → List Bool
 | .start .. => []
 | .p116 .. => [false, false, true, false, true, true]
noncomputable def st_z63 : P_z63 → St E.S
 | .start op0 kind1 => st0 20 [.v (.int .i64 op0), .v (.int .u8 kind1)] []
 | .p116 kind1 s5 i6 => mkSt 20 [1, 5, 6] [.v (.int .u8 kind1), .v (.string s5), .v (.int .i64 i6)] []
abbrev R_z63 : Type := ((Bool × Unit) × Unit)
noncomputable def res_z63 : Res E (Bool × Unit) Unit := { rows := [], flat := [], keep := 0, done := [0], rl := (RdL.cons Rd.bool RdL.nil), rb := RdBL.nil }
noncomputable def run_z63 : P_z63 → Option R_z63
 | .start op0 kind1 =>
   (run_z62 (.start op0)) >>= fun t1 =>
   run_z63 (.p116 kind1 t1.1.1 (0 : Int))
 | .p116 kind1 s5 i6 =>
   if (decide (i6 < (s5.size : Int))) = true then
     (sidx s5 i6) >>= fun t1 =>
     if (t1 == kind1) = true then
       some ((true, ()), ())
     else
       run_z63 (.p116 kind1 s5 (IntKind.wrap .i64 (i6 + (1 : Int))))
   else
     some ((false, ()), ())
  partial_fixpoint
noncomputable def tab_z63 : List (Plc E P_z63) := [⟨116, [false, false, true, false, true, true], { slots := [1, 5, 6], rows := [], flat := [], keep := 0 }, (Int × (ByteArray × (Int × Unit))), Unit, (RdL.cons (Rd.int .u8) (RdL.cons Rd.str (RdL.cons (Rd.int .i64) RdL.nil))), RdBL.nil, fun a b => .p116 a.1 a.2.1 a.2.2.1⟩]
theorem tab_z63_ok : All (PlcOk 20 0 place_z63 st_z63) tab_z63 := ⟨⟨rfl, rfl, fun _ _ => rfl, fun _ _ => rfl⟩, trivial⟩
noncomputable def code_z63 : Code := Tryz.f76.body.getD .skip
noncomputable def spec_z63 : Spec E.S := (Con.add con_z62 noSpec)
theorem spec_z63_ok : SpecOk E spec_z63 := (Con.add_ok con_z62_ok noSpec_ok)
theorem good_z63 : ∀ pt r, run_z63 pt = some r → Good E Tryz.f76 code_z63 0 (res_z63.av r) (res_z63.bx r) (place_z63 pt) (st_z63 pt) := by
  refine run_z63.partial_correctness (fun pt r => Good E Tryz.f76 code_z63 0 (res_z63.av r) (res_z63.bx r) (place_z63 pt) (st_z63 pt)) ?_
  intro run' ih pt r hr
  cases pt <;> exact fn_step (spec := spec_z63) (wr := (mkWr [] [])) (l := tab_z63) (z := 20) (p := res_z63) E_ok tab_z63_ok.mem rfl spec_z63_ok ih (Eq.trans (by kernel_rfl) hr)
noncomputable def con_z63 : Con E := ⟨76, (Int × (Int × Unit)), Unit, (RwL.cons (Rd.int .i64).w (RwL.cons (Rd.int .u8).w RwL.nil)), RdBL.nil, 0, R_z63, fun a b => run_z63 (.start a.1 a.2.1), res_z63.av, res_z63.bx⟩
theorem con_z63_ok : con_z63.Ok := fun a b r h => fn_ok (fn := Tryz.f76) (code := code_z63) E_ok (by kernel_rfl) (by kernel_rfl) (by kernel_rfl) (Nat.le_of_ble_eq_true rfl) (good_z63 (.start a.1 a.2.1) r h)

/-! ### ratchet/ratchetref31.CodeErr -/
inductive P_z64 where
 | start (c0_0 : Int) (c0_1 : Int) (c0_2 : Int) (c0_3 : Int)
 | p31 (most3 : Int) (B0_0 : Int) (B0_1 : Int) (B0_2 : Int) (B0_3 : Int)
 | p63 (B0_0 : Int) (B0_1 : Int) (B0_2 : Int) (B0_3 : Int)
noncomputable def place_z64 : P_z64 → List Bool
 | .start .. => []
 | .p31 .. => [true, true, true, true]
 | .p63 .. => [true, true, true, true, true]
noncomputable def st_z64 : P_z64 → St E.S
 | .start c0_0 c0_1 c0_2 c0_3 => st0 65 [.agg [.v (.int .i64 c0_0), .v (.int .i64 c0_1), .v (.int .i64 c0_2), .v (.int .i64 c0_3)]] []
 | .p31 most3 B0_0 B0_1 B0_2 B0_3 => mkSt 65 [1, 3] [.bp 0 0, .v (.int .i64 most3)] [.var 40 [.v (.int .i64 B0_0), .v (.int .i64 B0_1), .v (.int .i64 B0_2), .v (.int .i64 B0_3)]]
 | .p63 B0_0 B0_1 B0_2 B0_3 => mkSt 65 [1] [.bp 0 0] [.var 40 [.v (.int .i64 B0_0), .v (.int .i64 B0_1), .v (.int .i64 B0_2), .v (.int .i64 B0_3)]]
abbrev R_z64 : Type := ((Int × Unit) × Unit)
noncomputable def res_z64 : Res E (Int × Unit) Unit := { rows := [], flat := [], keep := 0, done := [0], rl := (RdL.cons (Rd.int .i64) RdL.nil), rb := RdBL.nil }
noncomputable def run_z64 : P_z64 → Option R_z64
 | .start c0_0 c0_1 c0_2 c0_3 =>
   (run_z12 (.start c0_0 (0 : Int) (9 : Int))) >>= fun t1 =>
   if (!t1.1.1) = true then
     some (((15 : Int), ()), ())
   else
     (run_z63 (.start c0_0 (112 : Int))) >>= fun t2 =>
     if t2.1.1 = true then
       run_z64 (.p31 (15 : Int) c0_0 c0_1 c0_2 c0_3)
     else
       run_z64 (.p31 (255 : Int) c0_0 c0_1 c0_2 c0_3)
 | .p31 most3 B0_0 B0_1 B0_2 B0_3 =>
   (run_z12 (.start B0_1 (0 : Int) (3 : Int))) >>= fun t1 =>
   if (!t1.1.1) = true then
     some (((2 : Int), ()), ())
   else
     (run_z12 (.start B0_2 (0 : Int) (3 : Int))) >>= fun t2 =>
     if (!t2.1.1) = true then
       some (((2 : Int), ()), ())
     else
       (run_z12 (.start B0_3 (0 : Int) most3)) >>= fun t3 =>
       if (!t3.1.1) = true then
         some (((2 : Int), ()), ())
       else
         run_z64 (.p63 B0_0 B0_1 B0_2 B0_3)
 | .p63 B0_0 B0_1 B0_2 B0_3 =>
   if (B0_1 != (0 : Int)) = true then
     (run_z63 (.start B0_0 (97 : Int))) >>= fun t1 =>
     if (!t1.1.1) = true then
       some (((3 : Int), ()), ())
     else
       if (B0_2 != (0 : Int)) = true then
         (run_z63 (.start B0_0 (98 : Int))) >>= fun t2 =>
         if (!t2.1.1) = true then
           some (((3 : Int), ()), ())
         else
           if (B0_3 != (0 : Int)) = true then
             (run_z63 (.start B0_0 (110 : Int))) >>= fun t3 =>
             if (!t3.1.1) = true then
               (run_z63 (.start B0_0 (112 : Int))) >>= fun t4 =>
               if (!t4.1.1) = true then
                 some (((3 : Int), ()), ())
               else
                 some (((0 : Int), ()), ())
             else
               some (((0 : Int), ()), ())
           else
             some (((0 : Int), ()), ())
       else
         if (B0_3 != (0 : Int)) = true then
           (run_z63 (.start B0_0 (110 : Int))) >>= fun t5 =>
           if (!t5.1.1) = true then
             (run_z63 (.start B0_0 (112 : Int))) >>= fun t6 =>
             if (!t6.1.1) = true then
               some (((3 : Int), ()), ())
             else
               some (((0 : Int), ()), ())
           else
             some (((0 : Int), ()), ())
         else
           some (((0 : Int), ()), ())
   else
     if (B0_2 != (0 : Int)) = true then
       (run_z63 (.start B0_0 (98 : Int))) >>= fun t7 =>
       if (!t7.1.1) = true then
         some (((3 : Int), ()), ())
       else
         if (B0_3 != (0 : Int)) = true then
           (run_z63 (.start B0_0 (110 : Int))) >>= fun t8 =>
           if (!t8.1.1) = true then
             (run_z63 (.start B0_0 (112 : Int))) >>= fun t9 =>
             if (!t9.1.1) = true then
               some (((3 : Int), ()), ())
             else
               some (((0 : Int), ()), ())
           else
             some (((0 : Int), ()), ())
         else
           some (((0 : Int), ()), ())
     else
       if (B0_3 != (0 : Int)) = true then
         (run_z63 (.start B0_0 (110 : Int))) >>= fun t10 =>
         if (!t10.1.1) = true then
           (run_z63 (.start B0_0 (112 : Int))) >>= fun t11 =>
           if (!t11.1.1) = true then
             some (((3 : Int), ()), ())
           else
             some (((0 : Int), ()), ())
         else
           some (((0 : Int), ()), ())
       else
         some (((0 : Int), ()), ())
  partial_fixpoint
noncomputable def tab_z64 : List (Plc E P_z64) := [⟨31, [true, true, true, true], { slots := [1, 3], rows := [], flat := [], keep := 0 }, (Unit × (Int × Unit)), ((Int × (Int × (Int × (Int × Unit)))) × Unit), (RdL.cons (Rd.bp 0 0) (RdL.cons (Rd.int .i64) RdL.nil)), (RdBL.cons (RdB.var 40 (RdL.cons (Rd.int .i64) (RdL.cons (Rd.int .i64) (RdL.cons (Rd.int .i64) (RdL.cons (Rd.int .i64) RdL.nil))))) RdBL.nil), fun a b => .p31 a.2.1 b.1.1 b.1.2.1 b.1.2.2.1 b.1.2.2.2.1⟩,
  ⟨63, [true, true, true, true, true], { slots := [1], rows := [], flat := [], keep := 0 }, (Unit × Unit), ((Int × (Int × (Int × (Int × Unit)))) × Unit), (RdL.cons (Rd.bp 0 0) RdL.nil), (RdBL.cons (RdB.var 40 (RdL.cons (Rd.int .i64) (RdL.cons (Rd.int .i64) (RdL.cons (Rd.int .i64) (RdL.cons (Rd.int .i64) RdL.nil))))) RdBL.nil), fun a b => .p63 b.1.1 b.1.2.1 b.1.2.2.1 b.1.2.2.2.1⟩]
theorem tab_z64_ok : All (PlcOk 65 0 place_z64 st_z64) tab_z64 := ⟨⟨rfl, rfl, fun _ _ => rfl, fun _ _ => rfl⟩, ⟨⟨rfl, rfl, fun _ _ => rfl, fun _ _ => rfl⟩, trivial⟩⟩
noncomputable def code_z64 : Code := Tryz.f25.body.getD .skip
noncomputable def spec_z64 : Spec E.S := (Con.add con_z63 (Con.add con_z12 noSpec))
theorem spec_z64_ok : SpecOk E spec_z64 := (Con.add_ok con_z63_ok (Con.add_ok con_z12_ok noSpec_ok))
theorem good_z64 : ∀ pt r, run_z64 pt = some r → Good E Tryz.f25 code_z64 0 (res_z64.av r) (res_z64.bx r) (place_z64 pt) (st_z64 pt) := by
  refine run_z64.partial_correctness (fun pt r => Good E Tryz.f25 code_z64 0 (res_z64.av r) (res_z64.bx r) (place_z64 pt) (st_z64 pt)) ?_
  intro run' ih pt r hr
  cases pt <;> exact fn_step (spec := spec_z64) (wr := (mkWr [] [])) (l := tab_z64) (z := 65) (p := res_z64) E_ok tab_z64_ok.mem rfl spec_z64_ok ih (Eq.trans (by kernel_rfl) hr)
noncomputable def con_z64 : Con E := ⟨25, ((Int × (Int × (Int × (Int × Unit)))) × Unit), Unit, (RwL.cons (Rw.agg (RwL.cons (Rd.int .i64).w (RwL.cons (Rd.int .i64).w (RwL.cons (Rd.int .i64).w (RwL.cons (Rd.int .i64).w RwL.nil))))) RwL.nil), RdBL.nil, 0, R_z64, fun a b => run_z64 (.start a.1.1 a.1.2.1 a.1.2.2.1 a.1.2.2.2.1), res_z64.av, res_z64.bx⟩
theorem con_z64_ok : con_z64.Ok := fun a b r h => fn_ok (fn := Tryz.f25) (code := code_z64) E_ok (by kernel_rfl) (by kernel_rfl) (by kernel_rfl) (Nat.le_of_ble_eq_true rfl) (good_z64 (.start a.1.1 a.1.2.1 a.1.2.2.1 a.1.2.2.2.1) r h)

/-! ### ratchet/ratchetref31.CheckProgram -/
inductive P_z65 where
 | start (l0 : (List api_MachineCode))
 | p116 (l0 : (List api_MachineCode)) (i4 : Int)
noncomputable def place_z65 : P_z65 → List Bool
 | .start .. => []
 | .p116 .. => [false, false, true, false, true, true]
noncomputable def st_z65 : P_z65 → St E.S
 | .start l0 => st0 24 [.sl 40 l0 false] []
 | .p116 l0 i4 => mkSt 24 [0, 4] [.sl 40 l0 false, .v (.int .i64 i4)] []
abbrev R_z65 : Type := ((Int × (Int × Unit)) × Unit)
noncomputable def res_z65 : Res E (Int × (Int × Unit)) Unit := { rows := [], flat := [], keep := 0, done := [0, 1], rl := (RdL.cons (Rd.int .i64) (RdL.cons (Rd.int .i64) RdL.nil)), rb := RdBL.nil }
noncomputable def run_z65 : P_z65 → Option R_z65
 | .start l0 =>
   if (decide ((List.length l0 : Int) > (16 : Int))) = true then
     some (((0 : Int), ((8 : Int), ())), ())
   else
     run_z65 (.p116 l0 (0 : Int))
 | .p116 l0 i4 =>
   if (decide (i4 < (List.length l0 : Int))) = true then
     (idx l0 i4) >>= fun t1 =>
     (run_z64 (.start t1.Op t1.A t1.B t1.N)) >>= fun t2 =>
     if (t2.1.1 != (0 : Int)) = true then
       some ((i4, (t2.1.1, ())), ())
     else
       run_z65 (.p116 l0 (IntKind.wrap .i64 (i4 + (1 : Int))))
   else
     some (((0 : Int), ((0 : Int), ())), ())
  partial_fixpoint
noncomputable def tab_z65 : List (Plc E P_z65) := [⟨116, [false, false, true, false, true, true], { slots := [0, 4], rows := [], flat := [], keep := 0 }, ((List api_MachineCode) × (Int × Unit)), Unit, (RdL.cons (Rd.sl 40 false) (RdL.cons (Rd.int .i64) RdL.nil)), RdBL.nil, fun a b => .p116 a.1 a.2.1⟩]
theorem tab_z65_ok : All (PlcOk 24 0 place_z65 st_z65) tab_z65 := ⟨⟨rfl, rfl, fun _ _ => rfl, fun _ _ => rfl⟩, trivial⟩
noncomputable def code_z65 : Code := Tryz.f23.body.getD .skip
noncomputable def spec_z65 : Spec E.S := (Con.add con_z64 noSpec)
theorem spec_z65_ok : SpecOk E spec_z65 := (Con.add_ok con_z64_ok noSpec_ok)
theorem good_z65 : ∀ pt r, run_z65 pt = some r → Good E Tryz.f23 code_z65 0 (res_z65.av r) (res_z65.bx r) (place_z65 pt) (st_z65 pt) := by
  refine run_z65.partial_correctness (fun pt r => Good E Tryz.f23 code_z65 0 (res_z65.av r) (res_z65.bx r) (place_z65 pt) (st_z65 pt)) ?_
  intro run' ih pt r hr
  cases pt <;> exact fn_step (spec := spec_z65) (wr := (mkWr [] [])) (l := tab_z65) (z := 24) (p := res_z65) E_ok tab_z65_ok.mem rfl spec_z65_ok ih (Eq.trans (by kernel_rfl) hr)
noncomputable def con_z65 : Con E := ⟨23, ((List api_MachineCode) × Unit), Unit, (RwL.cons (Rw.sl 40) RwL.nil), RdBL.nil, 0, R_z65, fun a b => run_z65 (.start a.1), res_z65.av, res_z65.bx⟩
theorem con_z65_ok : con_z65.Ok := fun a b r h => fn_ok (fn := Tryz.f23) (code := code_z65) E_ok (by kernel_rfl) (by kernel_rfl) (by kernel_rfl) (Nat.le_of_ble_eq_true rfl) (good_z65 (.start a.1) r h)

/-! ### ratchet/ratchetref31.ProgramErr -/
inductive P_z66 where
 | start (l0 : (List api_MachineCode))
noncomputable def place_z66 : P_z66 → List Bool
 | .start .. => []
noncomputable def st_z66 : P_z66 → St E.S
 | .start l0 => st0 11 [.sl 40 l0 false] []
abbrev R_z66 : Type := ((Int × Unit) × Unit)
noncomputable def res_z66 : Res E (Int × Unit) Unit := { rows := [], flat := [], keep := 0, done := [0], rl := (RdL.cons (Rd.int .i64) RdL.nil), rb := RdBL.nil }
noncomputable def run_z66 : P_z66 → Option R_z66
 | .start l0 =>
   (run_z65 (.start l0)) >>= fun t1 =>
   some ((t1.1.2.1, ()), ())
noncomputable def tab_z66 : List (Plc E P_z66) := []
theorem tab_z66_ok : All (PlcOk 11 0 place_z66 st_z66) tab_z66 := trivial
noncomputable def code_z66 : Code := Tryz.f16.body.getD .skip
noncomputable def spec_z66 : Spec E.S := (Con.add con_z65 noSpec)
theorem spec_z66_ok : SpecOk E spec_z66 := (Con.add_ok con_z65_ok noSpec_ok)
theorem good_z66 : ∀ pt r, run_z66 pt = some r → Good E Tryz.f16 code_z66 0 (res_z66.av r) (res_z66.bx r) (place_z66 pt) (st_z66 pt) := by
  intro pt r hr
  cases pt <;> exact fn_step (spec := spec_z66) (wr := (mkWr [] [])) (l := tab_z66) (z := 11) (p := res_z66) (run' := fun _ => none) E_ok tab_z66_ok.mem rfl spec_z66_ok (fun _ _ h => by cases h) (Eq.trans (by kernel_rfl) hr)
noncomputable def con_z66 : Con E := ⟨16, ((List api_MachineCode) × Unit), Unit, (RwL.cons (Rw.sl 40) RwL.nil), RdBL.nil, 0, R_z66, fun a b => run_z66 (.start a.1), res_z66.av, res_z66.bx⟩
theorem con_z66_ok : con_z66.Ok := fun a b r h => fn_ok (fn := Tryz.f16) (code := code_z66) E_ok (by kernel_rfl) (by kernel_rfl) (by kernel_rfl) (Nat.le_of_ble_eq_true rfl) (good_z66 (.start a.1) r h)

/-! ### ratchet/ratchetref31.bytesErr -/
inductive P_z67 where
 | start (l0 : (List Int)) (count1 : Int)
 | p116 (l0 : (List Int)) (i5 : Int)
noncomputable def place_z67 : P_z67 → List Bool
 | .start .. => []
 | .p116 .. => [false, false, true, false, true, true]
noncomputable def st_z67 : P_z67 → St E.S
 | .start l0 count1 => st0 22 [.sl 3 l0 false, .v (.int .i64 count1)] []
 | .p116 l0 i5 => mkSt 22 [0, 5] [.sl 3 l0 false, .v (.int .i64 i5)] []
abbrev R_z67 : Type := ((Int × Unit) × Unit)
noncomputable def res_z67 : Res E (Int × Unit) Unit := { rows := [], flat := [], keep := 0, done := [0], rl := (RdL.cons (Rd.int .i64) RdL.nil), rb := RdBL.nil }
noncomputable def run_z67 : P_z67 → Option R_z67
 | .start l0 count1 =>
   if ((List.length l0 : Int) != count1) = true then
     some (((10 : Int), ()), ())
   else
     run_z67 (.p116 l0 (0 : Int))
 | .p116 l0 i5 =>
   if (decide (i5 < (List.length l0 : Int))) = true then
     (idx l0 i5) >>= fun t1 =>
     (run_z12 (.start t1 (0 : Int) (255 : Int))) >>= fun t2 =>
     if (!t2.1.1) = true then
       some (((2 : Int), ()), ())
     else
       run_z67 (.p116 l0 (IntKind.wrap .i64 (i5 + (1 : Int))))
   else
     some (((0 : Int), ()), ())
  partial_fixpoint
noncomputable def tab_z67 : List (Plc E P_z67) := [⟨116, [false, false, true, false, true, true], { slots := [0, 5], rows := [], flat := [], keep := 0 }, ((List Int) × (Int × Unit)), Unit, (RdL.cons (Rd.sl 3 false) (RdL.cons (Rd.int .i64) RdL.nil)), RdBL.nil, fun a b => .p116 a.1 a.2.1⟩]
theorem tab_z67_ok : All (PlcOk 22 0 place_z67 st_z67) tab_z67 := ⟨⟨rfl, rfl, fun _ _ => rfl, fun _ _ => rfl⟩, trivial⟩
noncomputable def code_z67 : Code := Tryz.f71.body.getD .skip
noncomputable def spec_z67 : Spec E.S := (Con.add con_z12 noSpec)
theorem spec_z67_ok : SpecOk E spec_z67 := (Con.add_ok con_z12_ok noSpec_ok)
theorem good_z67 : ∀ pt r, run_z67 pt = some r → Good E Tryz.f71 code_z67 0 (res_z67.av r) (res_z67.bx r) (place_z67 pt) (st_z67 pt) := by
  refine run_z67.partial_correctness (fun pt r => Good E Tryz.f71 code_z67 0 (res_z67.av r) (res_z67.bx r) (place_z67 pt) (st_z67 pt)) ?_
  intro run' ih pt r hr
  cases pt <;> exact fn_step (spec := spec_z67) (wr := (mkWr [] [])) (l := tab_z67) (z := 22) (p := res_z67) E_ok tab_z67_ok.mem rfl spec_z67_ok ih (Eq.trans (by kernel_rfl) hr)
noncomputable def con_z67 : Con E := ⟨71, ((List Int) × (Int × Unit)), Unit, (RwL.cons (Rw.sl 3) (RwL.cons (Rd.int .i64).w RwL.nil)), RdBL.nil, 0, R_z67, fun a b => run_z67 (.start a.1 a.2.1), res_z67.av, res_z67.bx⟩
theorem con_z67_ok : con_z67.Ok := fun a b r h => fn_ok (fn := Tryz.f71) (code := code_z67) E_ok (by kernel_rfl) (by kernel_rfl) (by kernel_rfl) (Nat.le_of_ble_eq_true rfl) (good_z67 (.start a.1 a.2.1) r h)

/-! ### ratchet/ratchetref31.MemoryErr -/
inductive P_z68 where
 | start (memory0 : (List Int))
noncomputable def place_z68 : P_z68 → List Bool
 | .start .. => []
noncomputable def st_z68 : P_z68 → St E.S
 | .start memory0 => st0 5 [.sl 3 memory0 false] []
abbrev R_z68 : Type := ((Int × Unit) × Unit)
noncomputable def res_z68 : Res E (Int × Unit) Unit := { rows := [], flat := [], keep := 0, done := [0], rl := (RdL.cons (Rd.int .i64) RdL.nil), rb := RdBL.nil }
noncomputable def run_z68 : P_z68 → Option R_z68
 | .start memory0 =>
   (run_z67 (.start memory0 (8 : Int))) >>= fun t1 =>
   some ((t1.1.1, ()), ())
noncomputable def tab_z68 : List (Plc E P_z68) := []
theorem tab_z68_ok : All (PlcOk 5 0 place_z68 st_z68) tab_z68 := trivial
noncomputable def code_z68 : Code := Tryz.f17.body.getD .skip
noncomputable def spec_z68 : Spec E.S := (Con.add con_z67 noSpec)
theorem spec_z68_ok : SpecOk E spec_z68 := (Con.add_ok con_z67_ok noSpec_ok)
theorem good_z68 : ∀ pt r, run_z68 pt = some r → Good E Tryz.f17 code_z68 0 (res_z68.av r) (res_z68.bx r) (place_z68 pt) (st_z68 pt) := by
  intro pt r hr
  cases pt <;> exact fn_step (spec := spec_z68) (wr := (mkWr [] [])) (l := tab_z68) (z := 5) (p := res_z68) (run' := fun _ => none) E_ok tab_z68_ok.mem rfl spec_z68_ok (fun _ _ h => by cases h) (Eq.trans (by kernel_rfl) hr)
noncomputable def con_z68 : Con E := ⟨17, ((List Int) × Unit), Unit, (RwL.cons (Rw.sl 3) RwL.nil), RdBL.nil, 0, R_z68, fun a b => run_z68 (.start a.1), res_z68.av, res_z68.bx⟩
theorem con_z68_ok : con_z68.Ok := fun a b r h => fn_ok (fn := Tryz.f17) (code := code_z68) E_ok (by kernel_rfl) (by kernel_rfl) (by kernel_rfl) (Nat.le_of_ble_eq_true rfl) (good_z68 (.start a.1) r h)

/-! ### ratchet/ratchetbase.SamePorts -/
inductive P_z69 where
 | start (a0 : (List api_Port)) (b1 : (List api_Port))
 | p116 (a0 : (List api_Port)) (b1 : (List api_Port)) (i5 : Int)
noncomputable def place_z69 : P_z69 → List Bool
 | .start .. => []
 | .p116 .. => [false, false, true, false, true, true]
noncomputable def st_z69 : P_z69 → St E.S
 | .start a0 b1 => st0 26 [.sl 206 a0 false, .sl 206 b1 false] []
 | .p116 a0 b1 i5 => mkSt 26 [0, 1, 5] [.sl 206 a0 false, .sl 206 b1 false, .v (.int .i64 i5)] []
abbrev R_z69 : Type := ((Bool × Unit) × Unit)
noncomputable def res_z69 : Res E (Bool × Unit) Unit := { rows := [], flat := [], keep := 0, done := [0], rl := (RdL.cons Rd.bool RdL.nil), rb := RdBL.nil }
noncomputable def run_z69 : P_z69 → Option R_z69
 | .start a0 b1 =>
   if ((List.length a0 : Int) != (List.length b1 : Int)) = true then
     some ((false, ()), ())
   else
     run_z69 (.p116 a0 b1 (0 : Int))
 | .p116 a0 b1 i5 =>
   if (decide (i5 < (List.length a0 : Int))) = true then
     (idx a0 i5) >>= fun t1 =>
     (idx b1 i5) >>= fun t2 =>
     if (!((seq t1.Name t2.Name) && ((t1.Width == t2.Width) && true))) = true then
       some ((false, ()), ())
     else
       run_z69 (.p116 a0 b1 (IntKind.wrap .i64 (i5 + (1 : Int))))
   else
     some ((true, ()), ())
  partial_fixpoint
noncomputable def tab_z69 : List (Plc E P_z69) := [⟨116, [false, false, true, false, true, true], { slots := [0, 1, 5], rows := [], flat := [], keep := 0 }, ((List api_Port) × ((List api_Port) × (Int × Unit))), Unit, (RdL.cons (Rd.sl 206 false) (RdL.cons (Rd.sl 206 false) (RdL.cons (Rd.int .i64) RdL.nil))), RdBL.nil, fun a b => .p116 a.1 a.2.1 a.2.2.1⟩]
theorem tab_z69_ok : All (PlcOk 26 0 place_z69 st_z69) tab_z69 := ⟨⟨rfl, rfl, fun _ _ => rfl, fun _ _ => rfl⟩, trivial⟩
noncomputable def code_z69 : Code := Tryz.f87.body.getD .skip
noncomputable def spec_z69 : Spec E.S := noSpec
theorem spec_z69_ok : SpecOk E spec_z69 := noSpec_ok
theorem good_z69 : ∀ pt r, run_z69 pt = some r → Good E Tryz.f87 code_z69 0 (res_z69.av r) (res_z69.bx r) (place_z69 pt) (st_z69 pt) := by
  refine run_z69.partial_correctness (fun pt r => Good E Tryz.f87 code_z69 0 (res_z69.av r) (res_z69.bx r) (place_z69 pt) (st_z69 pt)) ?_
  intro run' ih pt r hr
  cases pt <;> exact fn_step (spec := spec_z69) (wr := (mkWr [] [])) (l := tab_z69) (z := 26) (p := res_z69) E_ok tab_z69_ok.mem rfl spec_z69_ok ih (Eq.trans (by kernel_rfl) hr)
noncomputable def con_z69 : Con E := ⟨87, ((List api_Port) × ((List api_Port) × Unit)), Unit, (RwL.cons (Rw.sl 206) (RwL.cons (Rw.sl 206) RwL.nil)), RdBL.nil, 0, R_z69, fun a b => run_z69 (.start a.1 a.2.1), res_z69.av, res_z69.bx⟩
theorem con_z69_ok : con_z69.Ok := fun a b r h => fn_ok (fn := Tryz.f87) (code := code_z69) E_ok (by kernel_rfl) (by kernel_rfl) (by kernel_rfl) (Nat.le_of_ble_eq_true rfl) (good_z69 (.start a.1 a.2.1) r h)

/-! ### ratchet/ratchetbase.SameNodes -/
inductive P_z70 where
 | start (a0 : (List api_Node)) (b1 : (List api_Node))
 | p116 (a0 : (List api_Node)) (b1 : (List api_Node)) (i5 : Int)
noncomputable def place_z70 : P_z70 → List Bool
 | .start .. => []
 | .p116 .. => [false, false, true, false, true, true]
noncomputable def st_z70 : P_z70 → St E.S
 | .start a0 b1 => st0 68 [.sl 208 a0 false, .sl 208 b1 false] []
 | .p116 a0 b1 i5 => mkSt 68 [0, 1, 5] [.sl 208 a0 false, .sl 208 b1 false, .v (.int .i64 i5)] []
abbrev R_z70 : Type := ((Bool × Unit) × Unit)
noncomputable def res_z70 : Res E (Bool × Unit) Unit := { rows := [], flat := [], keep := 0, done := [0], rl := (RdL.cons Rd.bool RdL.nil), rb := RdBL.nil }
noncomputable def run_z70 : P_z70 → Option R_z70
 | .start a0 b1 =>
   if ((List.length a0 : Int) != (List.length b1 : Int)) = true then
     some ((false, ()), ())
   else
     run_z70 (.p116 a0 b1 (0 : Int))
 | .p116 a0 b1 i5 =>
   if (decide (i5 < (List.length a0 : Int))) = true then
     (idx a0 i5) >>= fun t1 =>
     (idx b1 i5) >>= fun t2 =>
     if (t1.Op != t2.Op) = true then
       some ((false, ()), ())
     else
       (idx a0 i5) >>= fun t3 =>
       (idx b1 i5) >>= fun t4 =>
       if (t3.Width != t4.Width) = true then
         some ((false, ()), ())
       else
         (idx a0 i5) >>= fun t5 =>
         (idx b1 i5) >>= fun t6 =>
         if (t5.Value != t6.Value) = true then
           some ((false, ()), ())
         else
           (idx a0 i5) >>= fun t7 =>
           (idx b1 i5) >>= fun t8 =>
           (run_z16 (.start t7.Args t8.Args)) >>= fun t9 =>
           if (!t9.1.1) = true then
             some ((false, ()), ())
           else
             run_z70 (.p116 a0 b1 (IntKind.wrap .i64 (i5 + (1 : Int))))
   else
     some ((true, ()), ())
  partial_fixpoint
noncomputable def tab_z70 : List (Plc E P_z70) := [⟨116, [false, false, true, false, true, true], { slots := [0, 1, 5], rows := [], flat := [], keep := 0 }, ((List api_Node) × ((List api_Node) × (Int × Unit))), Unit, (RdL.cons (Rd.sl 208 false) (RdL.cons (Rd.sl 208 false) (RdL.cons (Rd.int .i64) RdL.nil))), RdBL.nil, fun a b => .p116 a.1 a.2.1 a.2.2.1⟩]
theorem tab_z70_ok : All (PlcOk 68 0 place_z70 st_z70) tab_z70 := ⟨⟨rfl, rfl, fun _ _ => rfl, fun _ _ => rfl⟩, trivial⟩
noncomputable def code_z70 : Code := Tryz.f88.body.getD .skip
noncomputable def spec_z70 : Spec E.S := (Con.add con_z16 noSpec)
theorem spec_z70_ok : SpecOk E spec_z70 := (Con.add_ok con_z16_ok noSpec_ok)
theorem good_z70 : ∀ pt r, run_z70 pt = some r → Good E Tryz.f88 code_z70 0 (res_z70.av r) (res_z70.bx r) (place_z70 pt) (st_z70 pt) := by
  refine run_z70.partial_correctness (fun pt r => Good E Tryz.f88 code_z70 0 (res_z70.av r) (res_z70.bx r) (place_z70 pt) (st_z70 pt)) ?_
  intro run' ih pt r hr
  cases pt <;> exact fn_step (spec := spec_z70) (wr := (mkWr [] [])) (l := tab_z70) (z := 68) (p := res_z70) E_ok tab_z70_ok.mem rfl spec_z70_ok ih (Eq.trans (by kernel_rfl) hr)
noncomputable def con_z70 : Con E := ⟨88, ((List api_Node) × ((List api_Node) × Unit)), Unit, (RwL.cons (Rw.sl 208) (RwL.cons (Rw.sl 208) RwL.nil)), RdBL.nil, 0, R_z70, fun a b => run_z70 (.start a.1 a.2.1), res_z70.av, res_z70.bx⟩
theorem con_z70_ok : con_z70.Ok := fun a b r h => fn_ok (fn := Tryz.f88) (code := code_z70) E_ok (by kernel_rfl) (by kernel_rfl) (by kernel_rfl) (Nat.le_of_ble_eq_true rfl) (good_z70 (.start a.1 a.2.1) r h)

/-! ### ratchet/ratchetbase.SameOutputs -/
inductive P_z71 where
 | start (a0 : (List api_Output)) (b1 : (List api_Output))
 | p116 (a0 : (List api_Output)) (b1 : (List api_Output)) (i5 : Int)
noncomputable def place_z71 : P_z71 → List Bool
 | .start .. => []
 | .p116 .. => [false, false, true, false, true, true]
noncomputable def st_z71 : P_z71 → St E.S
 | .start a0 b1 => st0 26 [.sl 190 a0 false, .sl 190 b1 false] []
 | .p116 a0 b1 i5 => mkSt 26 [0, 1, 5] [.sl 190 a0 false, .sl 190 b1 false, .v (.int .i64 i5)] []
abbrev R_z71 : Type := ((Bool × Unit) × Unit)
noncomputable def res_z71 : Res E (Bool × Unit) Unit := { rows := [], flat := [], keep := 0, done := [0], rl := (RdL.cons Rd.bool RdL.nil), rb := RdBL.nil }
noncomputable def run_z71 : P_z71 → Option R_z71
 | .start a0 b1 =>
   if ((List.length a0 : Int) != (List.length b1 : Int)) = true then
     some ((false, ()), ())
   else
     run_z71 (.p116 a0 b1 (0 : Int))
 | .p116 a0 b1 i5 =>
   if (decide (i5 < (List.length a0 : Int))) = true then
     (idx a0 i5) >>= fun t1 =>
     (idx b1 i5) >>= fun t2 =>
     if (!((seq t1.Name t2.Name) && ((t1.Node == t2.Node) && true))) = true then
       some ((false, ()), ())
     else
       run_z71 (.p116 a0 b1 (IntKind.wrap .i64 (i5 + (1 : Int))))
   else
     some ((true, ()), ())
  partial_fixpoint
noncomputable def tab_z71 : List (Plc E P_z71) := [⟨116, [false, false, true, false, true, true], { slots := [0, 1, 5], rows := [], flat := [], keep := 0 }, ((List api_Output) × ((List api_Output) × (Int × Unit))), Unit, (RdL.cons (Rd.sl 190 false) (RdL.cons (Rd.sl 190 false) (RdL.cons (Rd.int .i64) RdL.nil))), RdBL.nil, fun a b => .p116 a.1 a.2.1 a.2.2.1⟩]
theorem tab_z71_ok : All (PlcOk 26 0 place_z71 st_z71) tab_z71 := ⟨⟨rfl, rfl, fun _ _ => rfl, fun _ _ => rfl⟩, trivial⟩
noncomputable def code_z71 : Code := Tryz.f89.body.getD .skip
noncomputable def spec_z71 : Spec E.S := noSpec
theorem spec_z71_ok : SpecOk E spec_z71 := noSpec_ok
theorem good_z71 : ∀ pt r, run_z71 pt = some r → Good E Tryz.f89 code_z71 0 (res_z71.av r) (res_z71.bx r) (place_z71 pt) (st_z71 pt) := by
  refine run_z71.partial_correctness (fun pt r => Good E Tryz.f89 code_z71 0 (res_z71.av r) (res_z71.bx r) (place_z71 pt) (st_z71 pt)) ?_
  intro run' ih pt r hr
  cases pt <;> exact fn_step (spec := spec_z71) (wr := (mkWr [] [])) (l := tab_z71) (z := 26) (p := res_z71) E_ok tab_z71_ok.mem rfl spec_z71_ok ih (Eq.trans (by kernel_rfl) hr)
noncomputable def con_z71 : Con E := ⟨89, ((List api_Output) × ((List api_Output) × Unit)), Unit, (RwL.cons (Rw.sl 190) (RwL.cons (Rw.sl 190) RwL.nil)), RdBL.nil, 0, R_z71, fun a b => run_z71 (.start a.1 a.2.1), res_z71.av, res_z71.bx⟩
theorem con_z71_ok : con_z71.Ok := fun a b r h => fn_ok (fn := Tryz.f89) (code := code_z71) E_ok (by kernel_rfl) (by kernel_rfl) (by kernel_rfl) (Nat.le_of_ble_eq_true rfl) (good_z71 (.start a.1 a.2.1) r h)

/-! ### ratchet/ratchetbase.SameWrites -/
inductive P_z72 where
 | start (a0 : (List api_Write)) (b1 : (List api_Write))
 | p116 (a0 : (List api_Write)) (b1 : (List api_Write)) (i5 : Int)
noncomputable def place_z72 : P_z72 → List Bool
 | .start .. => []
 | .p116 .. => [false, false, true, false, true, true]
noncomputable def st_z72 : P_z72 → St E.S
 | .start a0 b1 => st0 26 [.sl 151 a0 false, .sl 151 b1 false] []
 | .p116 a0 b1 i5 => mkSt 26 [0, 1, 5] [.sl 151 a0 false, .sl 151 b1 false, .v (.int .i64 i5)] []
abbrev R_z72 : Type := ((Bool × Unit) × Unit)
noncomputable def res_z72 : Res E (Bool × Unit) Unit := { rows := [], flat := [], keep := 0, done := [0], rl := (RdL.cons Rd.bool RdL.nil), rb := RdBL.nil }
noncomputable def run_z72 : P_z72 → Option R_z72
 | .start a0 b1 =>
   if ((List.length a0 : Int) != (List.length b1 : Int)) = true then
     some ((false, ()), ())
   else
     run_z72 (.p116 a0 b1 (0 : Int))
 | .p116 a0 b1 i5 =>
   if (decide (i5 < (List.length a0 : Int))) = true then
     (idx a0 i5) >>= fun t1 =>
     (idx b1 i5) >>= fun t2 =>
     if (!((t1.Element == t2.Element) && ((t1.When == t2.When) && ((t1.Value == t2.Value) && true)))) = true then
       some ((false, ()), ())
     else
       run_z72 (.p116 a0 b1 (IntKind.wrap .i64 (i5 + (1 : Int))))
   else
     some ((true, ()), ())
  partial_fixpoint
noncomputable def tab_z72 : List (Plc E P_z72) := [⟨116, [false, false, true, false, true, true], { slots := [0, 1, 5], rows := [], flat := [], keep := 0 }, ((List api_Write) × ((List api_Write) × (Int × Unit))), Unit, (RdL.cons (Rd.sl 151 false) (RdL.cons (Rd.sl 151 false) (RdL.cons (Rd.int .i64) RdL.nil))), RdBL.nil, fun a b => .p116 a.1 a.2.1 a.2.2.1⟩]
theorem tab_z72_ok : All (PlcOk 26 0 place_z72 st_z72) tab_z72 := ⟨⟨rfl, rfl, fun _ _ => rfl, fun _ _ => rfl⟩, trivial⟩
noncomputable def code_z72 : Code := Tryz.f90.body.getD .skip
noncomputable def spec_z72 : Spec E.S := noSpec
theorem spec_z72_ok : SpecOk E spec_z72 := noSpec_ok
theorem good_z72 : ∀ pt r, run_z72 pt = some r → Good E Tryz.f90 code_z72 0 (res_z72.av r) (res_z72.bx r) (place_z72 pt) (st_z72 pt) := by
  refine run_z72.partial_correctness (fun pt r => Good E Tryz.f90 code_z72 0 (res_z72.av r) (res_z72.bx r) (place_z72 pt) (st_z72 pt)) ?_
  intro run' ih pt r hr
  cases pt <;> exact fn_step (spec := spec_z72) (wr := (mkWr [] [])) (l := tab_z72) (z := 26) (p := res_z72) E_ok tab_z72_ok.mem rfl spec_z72_ok ih (Eq.trans (by kernel_rfl) hr)
noncomputable def con_z72 : Con E := ⟨90, ((List api_Write) × ((List api_Write) × Unit)), Unit, (RwL.cons (Rw.sl 151) (RwL.cons (Rw.sl 151) RwL.nil)), RdBL.nil, 0, R_z72, fun a b => run_z72 (.start a.1 a.2.1), res_z72.av, res_z72.bx⟩
theorem con_z72_ok : con_z72.Ok := fun a b r h => fn_ok (fn := Tryz.f90) (code := code_z72) E_ok (by kernel_rfl) (by kernel_rfl) (by kernel_rfl) (Nat.le_of_ble_eq_true rfl) (good_z72 (.start a.1 a.2.1) r h)

/-! ### ratchet/ratchetbase.SameDesign -/
inductive P_z73 where
 | start (a0_0 : ByteArray) (a0_1 : (List api_Port)) (a0_2 : (List api_Element)) (a0_3 : (List api_Node)) (a0_4 : (List api_Rule)) (a0_5 : (List api_Output)) (a0_6 : (List api_Attribute)) (b1_0 : ByteArray) (b1_1 : (List api_Port)) (b1_2 : (List api_Element)) (b1_3 : (List api_Node)) (b1_4 : (List api_Rule)) (b1_5 : (List api_Output)) (b1_6 : (List api_Attribute))
 | p7 (B0_0 : ByteArray) (B0_1 : (List api_Port)) (B0_2 : (List api_Element)) (B0_3 : (List api_Node)) (B0_4 : (List api_Rule)) (B0_5 : (List api_Output)) (B0_6 : (List api_Attribute)) (B1_0 : ByteArray) (B1_1 : (List api_Port)) (B1_2 : (List api_Element)) (B1_3 : (List api_Node)) (B1_4 : (List api_Rule)) (B1_5 : (List api_Output)) (B1_6 : (List api_Attribute))
 | p116 (i5 : Int) (B0_0 : ByteArray) (B0_1 : (List api_Port)) (B0_2 : (List api_Element)) (B0_3 : (List api_Node)) (B0_4 : (List api_Rule)) (B0_5 : (List api_Output)) (B0_6 : (List api_Attribute)) (B1_0 : ByteArray) (B1_1 : (List api_Port)) (B1_2 : (List api_Element)) (B1_3 : (List api_Node)) (B1_4 : (List api_Rule)) (B1_5 : (List api_Output)) (B1_6 : (List api_Attribute))
 | p244 (i6 : Int) (B0_0 : ByteArray) (B0_1 : (List api_Port)) (B0_2 : (List api_Element)) (B0_3 : (List api_Node)) (B0_4 : (List api_Rule)) (B0_5 : (List api_Output)) (B0_6 : (List api_Attribute)) (B1_0 : ByteArray) (B1_1 : (List api_Port)) (B1_2 : (List api_Element)) (B1_3 : (List api_Node)) (B1_4 : (List api_Rule)) (B1_5 : (List api_Output)) (B1_6 : (List api_Attribute))
 | p500 (i7 : Int) (B0_0 : ByteArray) (B0_1 : (List api_Port)) (B0_2 : (List api_Element)) (B0_3 : (List api_Node)) (B0_4 : (List api_Rule)) (B0_5 : (List api_Output)) (B0_6 : (List api_Attribute)) (B1_0 : ByteArray) (B1_1 : (List api_Port)) (B1_2 : (List api_Element)) (B1_3 : (List api_Node)) (B1_4 : (List api_Rule)) (B1_5 : (List api_Output)) (B1_6 : (List api_Attribute))
noncomputable def place_z73 : P_z73 → List Bool
 | .start .. => []
 | .p7 .. => [true, true]
 | .p116 .. => [false, false, true, false, true, true]
 | .p244 .. => [false, false, true, false, true, true, true]
 | .p500 .. => [false, false, true, false, true, true, true, true]
noncomputable def st_z73 : P_z73 → St E.S
 | .start a0_0 a0_1 a0_2 a0_3 a0_4 a0_5 a0_6 b1_0 b1_1 b1_2 b1_3 b1_4 b1_5 b1_6 => st0 169 [.agg [.v (.string a0_0), .sl 206 a0_1 false, .sl 82 a0_2 false, .sl 208 a0_3 false, .sl 85 a0_4 false, .sl 190 a0_5 false, .sl 146 a0_6 false], .agg [.v (.string b1_0), .sl 206 b1_1 false, .sl 82 b1_2 false, .sl 208 b1_3 false, .sl 85 b1_4 false, .sl 190 b1_5 false, .sl 146 b1_6 false]] []
 | .p7 B0_0 B0_1 B0_2 B0_3 B0_4 B0_5 B0_6 B1_0 B1_1 B1_2 B1_3 B1_4 B1_5 B1_6 => mkSt 169 [2, 3] [.bp 0 0, .bp 1 0] [.var 75 [.v (.string B0_0), .sl 206 B0_1 false, .sl 82 B0_2 false, .sl 208 B0_3 false, .sl 85 B0_4 false, .sl 190 B0_5 false, .sl 146 B0_6 false], .var 75 [.v (.string B1_0), .sl 206 B1_1 false, .sl 82 B1_2 false, .sl 208 B1_3 false, .sl 85 B1_4 false, .sl 190 B1_5 false, .sl 146 B1_6 false]]
 | .p116 i5 B0_0 B0_1 B0_2 B0_3 B0_4 B0_5 B0_6 B1_0 B1_1 B1_2 B1_3 B1_4 B1_5 B1_6 => mkSt 169 [2, 3, 5] [.bp 0 0, .bp 1 0, .v (.int .i64 i5)] [.var 75 [.v (.string B0_0), .sl 206 B0_1 false, .sl 82 B0_2 false, .sl 208 B0_3 false, .sl 85 B0_4 false, .sl 190 B0_5 false, .sl 146 B0_6 false], .var 75 [.v (.string B1_0), .sl 206 B1_1 false, .sl 82 B1_2 false, .sl 208 B1_3 false, .sl 85 B1_4 false, .sl 190 B1_5 false, .sl 146 B1_6 false]]
 | .p244 i6 B0_0 B0_1 B0_2 B0_3 B0_4 B0_5 B0_6 B1_0 B1_1 B1_2 B1_3 B1_4 B1_5 B1_6 => mkSt 169 [2, 3, 6] [.bp 0 0, .bp 1 0, .v (.int .i64 i6)] [.var 75 [.v (.string B0_0), .sl 206 B0_1 false, .sl 82 B0_2 false, .sl 208 B0_3 false, .sl 85 B0_4 false, .sl 190 B0_5 false, .sl 146 B0_6 false], .var 75 [.v (.string B1_0), .sl 206 B1_1 false, .sl 82 B1_2 false, .sl 208 B1_3 false, .sl 85 B1_4 false, .sl 190 B1_5 false, .sl 146 B1_6 false]]
 | .p500 i7 B0_0 B0_1 B0_2 B0_3 B0_4 B0_5 B0_6 B1_0 B1_1 B1_2 B1_3 B1_4 B1_5 B1_6 => mkSt 169 [2, 3, 7] [.bp 0 0, .bp 1 0, .v (.int .i64 i7)] [.var 75 [.v (.string B0_0), .sl 206 B0_1 false, .sl 82 B0_2 false, .sl 208 B0_3 false, .sl 85 B0_4 false, .sl 190 B0_5 false, .sl 146 B0_6 false], .var 75 [.v (.string B1_0), .sl 206 B1_1 false, .sl 82 B1_2 false, .sl 208 B1_3 false, .sl 85 B1_4 false, .sl 190 B1_5 false, .sl 146 B1_6 false]]
abbrev R_z73 : Type := ((Bool × Unit) × Unit)
noncomputable def res_z73 : Res E (Bool × Unit) Unit := { rows := [], flat := [], keep := 0, done := [0], rl := (RdL.cons Rd.bool RdL.nil), rb := RdBL.nil }
noncomputable def run_z73 : P_z73 → Option R_z73
 | .start a0_0 a0_1 a0_2 a0_3 a0_4 a0_5 a0_6 b1_0 b1_1 b1_2 b1_3 b1_4 b1_5 b1_6 =>
   if (!(seq a0_0 b1_0)) = true then
     some ((false, ()), ())
   else
     (run_z69 (.start a0_1 b1_1)) >>= fun t1 =>
     if (!t1.1.1) = true then
       some ((false, ()), ())
     else
       if ((List.length a0_2 : Int) != (List.length b1_2 : Int)) = true then
         some ((false, ()), ())
       else
         (run_z70 (.start a0_3 b1_3)) >>= fun t2 =>
         if (!t2.1.1) = true then
           some ((false, ()), ())
         else
           if ((List.length a0_4 : Int) != (List.length b1_4 : Int)) = true then
             some ((false, ()), ())
           else
             (run_z71 (.start a0_5 b1_5)) >>= fun t3 =>
             if (!t3.1.1) = true then
               some ((false, ()), ())
             else
               if ((List.length a0_6 : Int) != (List.length b1_6 : Int)) = true then
                 some ((false, ()), ())
               else
                 run_z73 (.p7 a0_0 a0_1 a0_2 a0_3 a0_4 a0_5 a0_6 b1_0 b1_1 b1_2 b1_3 b1_4 b1_5 b1_6)
 | .p7 B0_0 B0_1 B0_2 B0_3 B0_4 B0_5 B0_6 B1_0 B1_1 B1_2 B1_3 B1_4 B1_5 B1_6 =>
   run_z73 (.p116 (0 : Int) B0_0 B0_1 B0_2 B0_3 B0_4 B0_5 B0_6 B1_0 B1_1 B1_2 B1_3 B1_4 B1_5 B1_6)
 | .p116 i5 B0_0 B0_1 B0_2 B0_3 B0_4 B0_5 B0_6 B1_0 B1_1 B1_2 B1_3 B1_4 B1_5 B1_6 =>
   if (decide (i5 < (List.length B0_2 : Int))) = true then
     (idx B0_2 i5) >>= fun t1 =>
     (idx B1_2 i5) >>= fun t2 =>
     if (!((seq t1.Name t2.Name) && ((t1.Kind == t2.Kind) && ((t1.Width == t2.Width) && ((t1.Init == t2.Init) && ((t1.Clock == t2.Clock) && true)))))) = true then
       some ((false, ()), ())
     else
       run_z73 (.p116 (IntKind.wrap .i64 (i5 + (1 : Int))) B0_0 B0_1 B0_2 B0_3 B0_4 B0_5 B0_6 B1_0 B1_1 B1_2 B1_3 B1_4 B1_5 B1_6)
   else
     run_z73 (.p244 (0 : Int) B0_0 B0_1 B0_2 B0_3 B0_4 B0_5 B0_6 B1_0 B1_1 B1_2 B1_3 B1_4 B1_5 B1_6)
 | .p244 i6 B0_0 B0_1 B0_2 B0_3 B0_4 B0_5 B0_6 B1_0 B1_1 B1_2 B1_3 B1_4 B1_5 B1_6 =>
   if (decide (i6 < (List.length B0_4 : Int))) = true then
     (idx B0_4 i6) >>= fun t1 =>
     (idx B1_4 i6) >>= fun t2 =>
     if (!(seq t1.Name t2.Name)) = true then
       some ((false, ()), ())
     else
       (idx B0_4 i6) >>= fun t3 =>
       (idx B1_4 i6) >>= fun t4 =>
       if (t3.Guard != t4.Guard) = true then
         some ((false, ()), ())
       else
         (idx B0_4 i6) >>= fun t5 =>
         (idx B1_4 i6) >>= fun t6 =>
         (run_z72 (.start t5.Writes t6.Writes)) >>= fun t7 =>
         if (!t7.1.1) = true then
           some ((false, ()), ())
         else
           run_z73 (.p244 (IntKind.wrap .i64 (i6 + (1 : Int))) B0_0 B0_1 B0_2 B0_3 B0_4 B0_5 B0_6 B1_0 B1_1 B1_2 B1_3 B1_4 B1_5 B1_6)
   else
     run_z73 (.p500 (0 : Int) B0_0 B0_1 B0_2 B0_3 B0_4 B0_5 B0_6 B1_0 B1_1 B1_2 B1_3 B1_4 B1_5 B1_6)
 | .p500 i7 B0_0 B0_1 B0_2 B0_3 B0_4 B0_5 B0_6 B1_0 B1_1 B1_2 B1_3 B1_4 B1_5 B1_6 =>
   if (decide (i7 < (List.length B0_6 : Int))) = true then
     (idx B0_6 i7) >>= fun t1 =>
     (idx B1_6 i7) >>= fun t2 =>
     if (t1.Kind != t2.Kind) = true then
       some ((false, ()), ())
     else
       (idx B0_6 i7) >>= fun t3 =>
       (idx B1_6 i7) >>= fun t4 =>
       (run_z16 (.start t3.Rules t4.Rules)) >>= fun t5 =>
       if (!t5.1.1) = true then
         some ((false, ()), ())
       else
         run_z73 (.p500 (IntKind.wrap .i64 (i7 + (1 : Int))) B0_0 B0_1 B0_2 B0_3 B0_4 B0_5 B0_6 B1_0 B1_1 B1_2 B1_3 B1_4 B1_5 B1_6)
   else
     some ((true, ()), ())
  partial_fixpoint
noncomputable def tab_z73 : List (Plc E P_z73) := [⟨7, [true, true], { slots := [2, 3], rows := [], flat := [], keep := 0 }, (Unit × (Unit × Unit)), ((ByteArray × ((List api_Port) × ((List api_Element) × ((List api_Node) × ((List api_Rule) × ((List api_Output) × ((List api_Attribute) × Unit))))))) × ((ByteArray × ((List api_Port) × ((List api_Element) × ((List api_Node) × ((List api_Rule) × ((List api_Output) × ((List api_Attribute) × Unit))))))) × Unit)), (RdL.cons (Rd.bp 0 0) (RdL.cons (Rd.bp 1 0) RdL.nil)), (RdBL.cons (RdB.var 75 (RdL.cons Rd.str (RdL.cons (Rd.sl 206 false) (RdL.cons (Rd.sl 82 false) (RdL.cons (Rd.sl 208 false) (RdL.cons (Rd.sl 85 false) (RdL.cons (Rd.sl 190 false) (RdL.cons (Rd.sl 146 false) RdL.nil)))))))) (RdBL.cons (RdB.var 75 (RdL.cons Rd.str (RdL.cons (Rd.sl 206 false) (RdL.cons (Rd.sl 82 false) (RdL.cons (Rd.sl 208 false) (RdL.cons (Rd.sl 85 false) (RdL.cons (Rd.sl 190 false) (RdL.cons (Rd.sl 146 false) RdL.nil)))))))) RdBL.nil)), fun a b => .p7 b.1.1 b.1.2.1 b.1.2.2.1 b.1.2.2.2.1 b.1.2.2.2.2.1 b.1.2.2.2.2.2.1 b.1.2.2.2.2.2.2.1 b.2.1.1 b.2.1.2.1 b.2.1.2.2.1 b.2.1.2.2.2.1 b.2.1.2.2.2.2.1 b.2.1.2.2.2.2.2.1 b.2.1.2.2.2.2.2.2.1⟩,
  ⟨116, [false, false, true, false, true, true], { slots := [2, 3, 5], rows := [], flat := [], keep := 0 }, (Unit × (Unit × (Int × Unit))), ((ByteArray × ((List api_Port) × ((List api_Element) × ((List api_Node) × ((List api_Rule) × ((List api_Output) × ((List api_Attribute) × Unit))))))) × ((ByteArray × ((List api_Port) × ((List api_Element) × ((List api_Node) × ((List api_Rule) × ((List api_Output) × ((List api_Attribute) × Unit))))))) × Unit)), (RdL.cons (Rd.bp 0 0) (RdL.cons (Rd.bp 1 0) (RdL.cons (Rd.int .i64) RdL.nil))), (RdBL.cons (RdB.var 75 (RdL.cons Rd.str (RdL.cons (Rd.sl 206 false) (RdL.cons (Rd.sl 82 false) (RdL.cons (Rd.sl 208 false) (RdL.cons (Rd.sl 85 false) (RdL.cons (Rd.sl 190 false) (RdL.cons (Rd.sl 146 false) RdL.nil)))))))) (RdBL.cons (RdB.var 75 (RdL.cons Rd.str (RdL.cons (Rd.sl 206 false) (RdL.cons (Rd.sl 82 false) (RdL.cons (Rd.sl 208 false) (RdL.cons (Rd.sl 85 false) (RdL.cons (Rd.sl 190 false) (RdL.cons (Rd.sl 146 false) RdL.nil)))))))) RdBL.nil)), fun a b => .p116 a.2.2.1 b.1.1 b.1.2.1 b.1.2.2.1 b.1.2.2.2.1 b.1.2.2.2.2.1 b.1.2.2.2.2.2.1 b.1.2.2.2.2.2.2.1 b.2.1.1 b.2.1.2.1 b.2.1.2.2.1 b.2.1.2.2.2.1 b.2.1.2.2.2.2.1 b.2.1.2.2.2.2.2.1 b.2.1.2.2.2.2.2.2.1⟩,
  ⟨244, [false, false, true, false, true, true, true], { slots := [2, 3, 6], rows := [], flat := [], keep := 0 }, (Unit × (Unit × (Int × Unit))), ((ByteArray × ((List api_Port) × ((List api_Element) × ((List api_Node) × ((List api_Rule) × ((List api_Output) × ((List api_Attribute) × Unit))))))) × ((ByteArray × ((List api_Port) × ((List api_Element) × ((List api_Node) × ((List api_Rule) × ((List api_Output) × ((List api_Attribute) × Unit))))))) × Unit)), (RdL.cons (Rd.bp 0 0) (RdL.cons (Rd.bp 1 0) (RdL.cons (Rd.int .i64) RdL.nil))), (RdBL.cons (RdB.var 75 (RdL.cons Rd.str (RdL.cons (Rd.sl 206 false) (RdL.cons (Rd.sl 82 false) (RdL.cons (Rd.sl 208 false) (RdL.cons (Rd.sl 85 false) (RdL.cons (Rd.sl 190 false) (RdL.cons (Rd.sl 146 false) RdL.nil)))))))) (RdBL.cons (RdB.var 75 (RdL.cons Rd.str (RdL.cons (Rd.sl 206 false) (RdL.cons (Rd.sl 82 false) (RdL.cons (Rd.sl 208 false) (RdL.cons (Rd.sl 85 false) (RdL.cons (Rd.sl 190 false) (RdL.cons (Rd.sl 146 false) RdL.nil)))))))) RdBL.nil)), fun a b => .p244 a.2.2.1 b.1.1 b.1.2.1 b.1.2.2.1 b.1.2.2.2.1 b.1.2.2.2.2.1 b.1.2.2.2.2.2.1 b.1.2.2.2.2.2.2.1 b.2.1.1 b.2.1.2.1 b.2.1.2.2.1 b.2.1.2.2.2.1 b.2.1.2.2.2.2.1 b.2.1.2.2.2.2.2.1 b.2.1.2.2.2.2.2.2.1⟩,
  ⟨500, [false, false, true, false, true, true, true, true], { slots := [2, 3, 7], rows := [], flat := [], keep := 0 }, (Unit × (Unit × (Int × Unit))), ((ByteArray × ((List api_Port) × ((List api_Element) × ((List api_Node) × ((List api_Rule) × ((List api_Output) × ((List api_Attribute) × Unit))))))) × ((ByteArray × ((List api_Port) × ((List api_Element) × ((List api_Node) × ((List api_Rule) × ((List api_Output) × ((List api_Attribute) × Unit))))))) × Unit)), (RdL.cons (Rd.bp 0 0) (RdL.cons (Rd.bp 1 0) (RdL.cons (Rd.int .i64) RdL.nil))), (RdBL.cons (RdB.var 75 (RdL.cons Rd.str (RdL.cons (Rd.sl 206 false) (RdL.cons (Rd.sl 82 false) (RdL.cons (Rd.sl 208 false) (RdL.cons (Rd.sl 85 false) (RdL.cons (Rd.sl 190 false) (RdL.cons (Rd.sl 146 false) RdL.nil)))))))) (RdBL.cons (RdB.var 75 (RdL.cons Rd.str (RdL.cons (Rd.sl 206 false) (RdL.cons (Rd.sl 82 false) (RdL.cons (Rd.sl 208 false) (RdL.cons (Rd.sl 85 false) (RdL.cons (Rd.sl 190 false) (RdL.cons (Rd.sl 146 false) RdL.nil)))))))) RdBL.nil)), fun a b => .p500 a.2.2.1 b.1.1 b.1.2.1 b.1.2.2.1 b.1.2.2.2.1 b.1.2.2.2.2.1 b.1.2.2.2.2.2.1 b.1.2.2.2.2.2.2.1 b.2.1.1 b.2.1.2.1 b.2.1.2.2.1 b.2.1.2.2.2.1 b.2.1.2.2.2.2.1 b.2.1.2.2.2.2.2.1 b.2.1.2.2.2.2.2.2.1⟩]
theorem tab_z73_ok : All (PlcOk 169 0 place_z73 st_z73) tab_z73 := ⟨⟨rfl, rfl, fun _ _ => rfl, fun _ _ => rfl⟩, ⟨⟨rfl, rfl, fun _ _ => rfl, fun _ _ => rfl⟩, ⟨⟨rfl, rfl, fun _ _ => rfl, fun _ _ => rfl⟩, ⟨⟨rfl, rfl, fun _ _ => rfl, fun _ _ => rfl⟩, trivial⟩⟩⟩⟩
noncomputable def code_z73 : Code := Tryz.f40.body.getD .skip
noncomputable def spec_z73 : Spec E.S := (Con.add con_z16 (Con.add con_z72 (Con.add con_z71 (Con.add con_z70 (Con.add con_z69 noSpec)))))
theorem spec_z73_ok : SpecOk E spec_z73 := (Con.add_ok con_z16_ok (Con.add_ok con_z72_ok (Con.add_ok con_z71_ok (Con.add_ok con_z70_ok (Con.add_ok con_z69_ok noSpec_ok)))))
theorem good_z73 : ∀ pt r, run_z73 pt = some r → Good E Tryz.f40 code_z73 0 (res_z73.av r) (res_z73.bx r) (place_z73 pt) (st_z73 pt) := by
  refine run_z73.partial_correctness (fun pt r => Good E Tryz.f40 code_z73 0 (res_z73.av r) (res_z73.bx r) (place_z73 pt) (st_z73 pt)) ?_
  intro run' ih pt r hr
  cases pt <;> exact fn_step (spec := spec_z73) (wr := (mkWr [] [])) (l := tab_z73) (z := 169) (p := res_z73) E_ok tab_z73_ok.mem rfl spec_z73_ok ih (Eq.trans (by kernel_rfl) hr)
noncomputable def con_z73 : Con E := ⟨40, ((ByteArray × ((List api_Port) × ((List api_Element) × ((List api_Node) × ((List api_Rule) × ((List api_Output) × ((List api_Attribute) × Unit))))))) × ((ByteArray × ((List api_Port) × ((List api_Element) × ((List api_Node) × ((List api_Rule) × ((List api_Output) × ((List api_Attribute) × Unit))))))) × Unit)), Unit, (RwL.cons (Rw.agg (RwL.cons Rd.str.w (RwL.cons (Rw.sl 206) (RwL.cons (Rw.sl 82) (RwL.cons (Rw.sl 208) (RwL.cons (Rw.sl 85) (RwL.cons (Rw.sl 190) (RwL.cons (Rw.sl 146) RwL.nil)))))))) (RwL.cons (Rw.agg (RwL.cons Rd.str.w (RwL.cons (Rw.sl 206) (RwL.cons (Rw.sl 82) (RwL.cons (Rw.sl 208) (RwL.cons (Rw.sl 85) (RwL.cons (Rw.sl 190) (RwL.cons (Rw.sl 146) RwL.nil)))))))) RwL.nil)), RdBL.nil, 0, R_z73, fun a b => run_z73 (.start a.1.1 a.1.2.1 a.1.2.2.1 a.1.2.2.2.1 a.1.2.2.2.2.1 a.1.2.2.2.2.2.1 a.1.2.2.2.2.2.2.1 a.2.1.1 a.2.1.2.1 a.2.1.2.2.1 a.2.1.2.2.2.1 a.2.1.2.2.2.2.1 a.2.1.2.2.2.2.2.1 a.2.1.2.2.2.2.2.2.1), res_z73.av, res_z73.bx⟩
theorem con_z73_ok : con_z73.Ok := fun a b r h => fn_ok (fn := Tryz.f40) (code := code_z73) E_ok (by kernel_rfl) (by kernel_rfl) (by kernel_rfl) (Nat.le_of_ble_eq_true rfl) (good_z73 (.start a.1.1 a.1.2.1 a.1.2.2.1 a.1.2.2.2.1 a.1.2.2.2.2.1 a.1.2.2.2.2.2.1 a.1.2.2.2.2.2.2.1 a.2.1.1 a.2.1.2.1 a.2.1.2.2.1 a.2.1.2.2.2.1 a.2.1.2.2.2.2.1 a.2.1.2.2.2.2.2.1 a.2.1.2.2.2.2.2.2.1) r h)

/-! ### ratchet/ratchetbase.IsName -/
inductive P_z74 where
 | start (s0 : ByteArray)
 | p7 (s0 : ByteArray)
 | p116 (s0 : ByteArray) (i3 : Int)
 | p3731 (s0 : ByteArray) (i3 : Int) (c4 : Int) (letter5 : Bool)
noncomputable def place_z74 : P_z74 → List Bool
 | .start .. => []
 | .p7 .. => [true, true]
 | .p116 .. => [false, false, true, false, true, true]
 | .p3731 .. => [true, true, false, false, true, false, false, true, false, true, true]
noncomputable def st_z74 : P_z74 → St E.S
 | .start s0 => st0 55 [.v (.string s0)] []
 | .p7 s0 => mkSt 55 [0] [.v (.string s0)] []
 | .p116 s0 i3 => mkSt 55 [0, 3] [.v (.string s0), .v (.int .i64 i3)] []
 | .p3731 s0 i3 c4 letter5 => mkSt 55 [0, 3, 4, 5] [.v (.string s0), .v (.int .i64 i3), .v (.int .u8 c4), .v (.bool letter5)] []
abbrev R_z74 : Type := ((Bool × Unit) × Unit)
noncomputable def res_z74 : Res E (Bool × Unit) Unit := { rows := [], flat := [], keep := 0, done := [0], rl := (RdL.cons Rd.bool RdL.nil), rb := RdBL.nil }
noncomputable def run_z74 : P_z74 → Option R_z74
 | .start s0 =>
   if (decide ((s0.size : Int) < (1 : Int))) = true then
     some ((false, ()), ())
   else
     if (decide ((s0.size : Int) > (16 : Int))) = true then
       some ((false, ()), ())
     else
       run_z74 (.p7 s0)
 | .p7 s0 =>
   run_z74 (.p116 s0 (0 : Int))
 | .p116 s0 i3 =>
   if (decide (i3 < (s0.size : Int))) = true then
     (sidx s0 i3) >>= fun t1 =>
     if (decide (t1 ≥ (97 : Int))) = true then
       if (decide (t1 ≤ (122 : Int))) = true then
         run_z74 (.p3731 s0 i3 t1 true)
       else
         if (decide (t1 ≥ (65 : Int))) = true then
           run_z74 (.p3731 s0 i3 t1 (decide (t1 ≤ (90 : Int))))
         else
           run_z74 (.p3731 s0 i3 t1 false)
     else
       if (decide (t1 ≥ (65 : Int))) = true then
         run_z74 (.p3731 s0 i3 t1 (decide (t1 ≤ (90 : Int))))
       else
         run_z74 (.p3731 s0 i3 t1 false)
   else
     some ((true, ()), ())
 | .p3731 s0 i3 c4 letter5 =>
   if (!letter5) = true then
     if (i3 == (0 : Int)) = true then
       some ((false, ()), ())
     else
       if (c4 != (95 : Int)) = true then
         if (decide (c4 < (48 : Int))) = true then
           some ((false, ()), ())
         else
           if (decide (c4 > (57 : Int))) = true then
             some ((false, ()), ())
           else
             run_z74 (.p116 s0 (IntKind.wrap .i64 (i3 + (1 : Int))))
       else
         run_z74 (.p116 s0 (IntKind.wrap .i64 (i3 + (1 : Int))))
   else
     run_z74 (.p116 s0 (IntKind.wrap .i64 (i3 + (1 : Int))))
  partial_fixpoint
noncomputable def tab_z74 : List (Plc E P_z74) := [⟨7, [true, true], { slots := [0], rows := [], flat := [], keep := 0 }, (ByteArray × Unit), Unit, (RdL.cons Rd.str RdL.nil), RdBL.nil, fun a b => .p7 a.1⟩,
  ⟨116, [false, false, true, false, true, true], { slots := [0, 3], rows := [], flat := [], keep := 0 }, (ByteArray × (Int × Unit)), Unit, (RdL.cons Rd.str (RdL.cons (Rd.int .i64) RdL.nil)), RdBL.nil, fun a b => .p116 a.1 a.2.1⟩,
  ⟨3731, [true, true, false, false, true, false, false, true, false, true, true], { slots := [0, 3, 4, 5], rows := [], flat := [], keep := 0 }, (ByteArray × (Int × (Int × (Bool × Unit)))), Unit, (RdL.cons Rd.str (RdL.cons (Rd.int .i64) (RdL.cons (Rd.int .u8) (RdL.cons Rd.bool RdL.nil)))), RdBL.nil, fun a b => .p3731 a.1 a.2.1 a.2.2.1 a.2.2.2.1⟩]
theorem tab_z74_ok : All (PlcOk 55 0 place_z74 st_z74) tab_z74 := ⟨⟨rfl, rfl, fun _ _ => rfl, fun _ _ => rfl⟩, ⟨⟨rfl, rfl, fun _ _ => rfl, fun _ _ => rfl⟩, ⟨⟨rfl, rfl, fun _ _ => rfl, fun _ _ => rfl⟩, trivial⟩⟩⟩
noncomputable def code_z74 : Code := Tryz.f136.body.getD .skip
noncomputable def spec_z74 : Spec E.S := noSpec
theorem spec_z74_ok : SpecOk E spec_z74 := noSpec_ok
theorem good_z74 : ∀ pt r, run_z74 pt = some r → Good E Tryz.f136 code_z74 0 (res_z74.av r) (res_z74.bx r) (place_z74 pt) (st_z74 pt) := by
  refine run_z74.partial_correctness (fun pt r => Good E Tryz.f136 code_z74 0 (res_z74.av r) (res_z74.bx r) (place_z74 pt) (st_z74 pt)) ?_
  intro run' ih pt r hr
  cases pt <;> exact fn_step (spec := spec_z74) (wr := (mkWr [] [])) (l := tab_z74) (z := 55) (p := res_z74) E_ok tab_z74_ok.mem rfl spec_z74_ok ih (Eq.trans (by kernel_rfl) hr)
noncomputable def con_z74 : Con E := ⟨136, (ByteArray × Unit), Unit, (RwL.cons Rd.str.w RwL.nil), RdBL.nil, 0, R_z74, fun a b => run_z74 (.start a.1), res_z74.av, res_z74.bx⟩
theorem con_z74_ok : con_z74.Ok := fun a b r h => fn_ok (fn := Tryz.f136) (code := code_z74) E_ok (by kernel_rfl) (by kernel_rfl) (by kernel_rfl) (Nat.le_of_ble_eq_true rfl) (good_z74 (.start a.1) r h)

/-! ### ratchet/ratchetbase.IsWidth -/
inductive P_z75 where
 | start (n0 : Int)
noncomputable def place_z75 : P_z75 → List Bool
 | .start .. => []
noncomputable def st_z75 : P_z75 → St E.S
 | .start n0 => st0 5 [.v (.int .i64 n0)] []
abbrev R_z75 : Type := ((Bool × Unit) × Unit)
noncomputable def res_z75 : Res E (Bool × Unit) Unit := { rows := [], flat := [], keep := 0, done := [0], rl := (RdL.cons Rd.bool RdL.nil), rb := RdBL.nil }
noncomputable def run_z75 : P_z75 → Option R_z75
 | .start n0 =>
   (run_z12 (.start n0 (1 : Int) (16 : Int))) >>= fun t1 =>
   some ((t1.1.1, ()), ())
noncomputable def tab_z75 : List (Plc E P_z75) := []
theorem tab_z75_ok : All (PlcOk 5 0 place_z75 st_z75) tab_z75 := trivial
noncomputable def code_z75 : Code := Tryz.f172.body.getD .skip
noncomputable def spec_z75 : Spec E.S := (Con.add con_z12 noSpec)
theorem spec_z75_ok : SpecOk E spec_z75 := (Con.add_ok con_z12_ok noSpec_ok)
theorem good_z75 : ∀ pt r, run_z75 pt = some r → Good E Tryz.f172 code_z75 0 (res_z75.av r) (res_z75.bx r) (place_z75 pt) (st_z75 pt) := by
  intro pt r hr
  cases pt <;> exact fn_step (spec := spec_z75) (wr := (mkWr [] [])) (l := tab_z75) (z := 5) (p := res_z75) (run' := fun _ => none) E_ok tab_z75_ok.mem rfl spec_z75_ok (fun _ _ h => by cases h) (Eq.trans (by kernel_rfl) hr)
noncomputable def con_z75 : Con E := ⟨172, (Int × Unit), Unit, (RwL.cons (Rd.int .i64).w RwL.nil), RdBL.nil, 0, R_z75, fun a b => run_z75 (.start a.1), res_z75.av, res_z75.bx⟩
theorem con_z75_ok : con_z75.Ok := fun a b r h => fn_ok (fn := Tryz.f172) (code := code_z75) E_ok (by kernel_rfl) (by kernel_rfl) (by kernel_rfl) (Nat.le_of_ble_eq_true rfl) (good_z75 (.start a.1) r h)

/-! ### ratchet/ratchetbase.PortsErr -/
inductive P_z76 where
 | start (l0 : (List api_Port))
 | p116 (l0 : (List api_Port)) (i4 : Int)
 | p29844 (l0 : (List api_Port)) (i4 : Int) (k5 : Int)
noncomputable def place_z76 : P_z76 → List Bool
 | .start .. => []
 | .p116 .. => [false, false, true, false, true, true]
 | .p29844 .. => [false, false, true, false, true, false, false, true, false, false, true, false, true, true]
noncomputable def st_z76 : P_z76 → St E.S
 | .start l0 => st0 48 [.sl 206 l0 false] []
 | .p116 l0 i4 => mkSt 48 [0, 4] [.sl 206 l0 false, .v (.int .i64 i4)] []
 | .p29844 l0 i4 k5 => mkSt 48 [0, 4, 5] [.sl 206 l0 false, .v (.int .i64 i4), .v (.int .i64 k5)] []
abbrev R_z76 : Type := ((Int × (Int × Unit)) × Unit)
noncomputable def res_z76 : Res E (Int × (Int × Unit)) Unit := { rows := [], flat := [], keep := 0, done := [0, 1], rl := (RdL.cons (Rd.int .i64) (RdL.cons (Rd.int .i64) RdL.nil)), rb := RdBL.nil }
noncomputable def run_z76 : P_z76 → Option R_z76
 | .start l0 =>
   if (decide ((List.length l0 : Int) > (12 : Int))) = true then
     some (((0 : Int), ((8 : Int), ())), ())
   else
     run_z76 (.p116 l0 (0 : Int))
 | .p116 l0 i4 =>
   if (decide (i4 < (List.length l0 : Int))) = true then
     (idx l0 i4) >>= fun t1 =>
     (run_z74 (.start t1.Name)) >>= fun t2 =>
     if (!t2.1.1) = true then
       some ((i4, ((4 : Int), ())), ())
     else
       run_z76 (.p29844 l0 i4 (0 : Int))
   else
     some (((0 : Int), ((0 : Int), ())), ())
 | .p29844 l0 i4 k5 =>
   if (decide (k5 < i4)) = true then
     (idx l0 k5) >>= fun t1 =>
     (idx l0 i4) >>= fun t2 =>
     if (seq t1.Name t2.Name) = true then
       some ((i4, ((5 : Int), ())), ())
     else
       run_z76 (.p29844 l0 i4 (IntKind.wrap .i64 (k5 + (1 : Int))))
   else
     (idx l0 i4) >>= fun t3 =>
     (run_z75 (.start t3.Width)) >>= fun t4 =>
     if (!t4.1.1) = true then
       some ((i4, ((2 : Int), ())), ())
     else
       run_z76 (.p116 l0 (IntKind.wrap .i64 (i4 + (1 : Int))))
  partial_fixpoint
noncomputable def tab_z76 : List (Plc E P_z76) := [⟨116, [false, false, true, false, true, true], { slots := [0, 4], rows := [], flat := [], keep := 0 }, ((List api_Port) × (Int × Unit)), Unit, (RdL.cons (Rd.sl 206 false) (RdL.cons (Rd.int .i64) RdL.nil)), RdBL.nil, fun a b => .p116 a.1 a.2.1⟩,
  ⟨29844, [false, false, true, false, true, false, false, true, false, false, true, false, true, true], { slots := [0, 4, 5], rows := [], flat := [], keep := 0 }, ((List api_Port) × (Int × (Int × Unit))), Unit, (RdL.cons (Rd.sl 206 false) (RdL.cons (Rd.int .i64) (RdL.cons (Rd.int .i64) RdL.nil))), RdBL.nil, fun a b => .p29844 a.1 a.2.1 a.2.2.1⟩]
theorem tab_z76_ok : All (PlcOk 48 0 place_z76 st_z76) tab_z76 := ⟨⟨rfl, rfl, fun _ _ => rfl, fun _ _ => rfl⟩, ⟨⟨rfl, rfl, fun _ _ => rfl, fun _ _ => rfl⟩, trivial⟩⟩
noncomputable def code_z76 : Code := Tryz.f137.body.getD .skip
noncomputable def spec_z76 : Spec E.S := (Con.add con_z75 (Con.add con_z74 noSpec))
theorem spec_z76_ok : SpecOk E spec_z76 := (Con.add_ok con_z75_ok (Con.add_ok con_z74_ok noSpec_ok))
theorem good_z76 : ∀ pt r, run_z76 pt = some r → Good E Tryz.f137 code_z76 0 (res_z76.av r) (res_z76.bx r) (place_z76 pt) (st_z76 pt) := by
  refine run_z76.partial_correctness (fun pt r => Good E Tryz.f137 code_z76 0 (res_z76.av r) (res_z76.bx r) (place_z76 pt) (st_z76 pt)) ?_
  intro run' ih pt r hr
  cases pt <;> exact fn_step (spec := spec_z76) (wr := (mkWr [] [])) (l := tab_z76) (z := 48) (p := res_z76) E_ok tab_z76_ok.mem rfl spec_z76_ok ih (Eq.trans (by kernel_rfl) hr)
noncomputable def con_z76 : Con E := ⟨137, ((List api_Port) × Unit), Unit, (RwL.cons (Rw.sl 206) RwL.nil), RdBL.nil, 0, R_z76, fun a b => run_z76 (.start a.1), res_z76.av, res_z76.bx⟩
theorem con_z76_ok : con_z76.Ok := fun a b r h => fn_ok (fn := Tryz.f137) (code := code_z76) E_ok (by kernel_rfl) (by kernel_rfl) (by kernel_rfl) (Nat.le_of_ble_eq_true rfl) (good_z76 (.start a.1) r h)

/-! ### ratchet/ratchetbase.ElementsErr -/
inductive P_z77 where
 | start (inputs0 : (List api_Port)) (l1 : (List api_Element))
 | p116 (inputs0 : (List api_Port)) (l1 : (List api_Element)) (i6 : Int)
 | p29844 (inputs0 : (List api_Port)) (l1 : (List api_Element)) (i6 : Int) (k7 : Int)
 | p59700 (inputs0 : (List api_Port)) (l1 : (List api_Element)) (i6 : Int) (k8 : Int)
noncomputable def place_z77 : P_z77 → List Bool
 | .start .. => []
 | .p116 .. => [false, false, true, false, true, true]
 | .p29844 .. => [false, false, true, false, true, false, false, true, false, false, true, false, true, true]
 | .p59700 .. => [false, false, true, false, true, true, false, false, true, false, false, true, false, true, true]
noncomputable def st_z77 : P_z77 → St E.S
 | .start inputs0 l1 => st0 103 [.sl 206 inputs0 false, .sl 82 l1 false] []
 | .p116 inputs0 l1 i6 => mkSt 103 [0, 1, 6] [.sl 206 inputs0 false, .sl 82 l1 false, .v (.int .i64 i6)] []
 | .p29844 inputs0 l1 i6 k7 => mkSt 103 [0, 1, 6, 7] [.sl 206 inputs0 false, .sl 82 l1 false, .v (.int .i64 i6), .v (.int .i64 k7)] []
 | .p59700 inputs0 l1 i6 k8 => mkSt 103 [0, 1, 6, 8] [.sl 206 inputs0 false, .sl 82 l1 false, .v (.int .i64 i6), .v (.int .i64 k8)] []
abbrev R_z77 : Type := ((Int × (Int × Unit)) × Unit)
noncomputable def res_z77 : Res E (Int × (Int × Unit)) Unit := { rows := [], flat := [], keep := 0, done := [0, 1], rl := (RdL.cons (Rd.int .i64) (RdL.cons (Rd.int .i64) RdL.nil)), rb := RdBL.nil }
noncomputable def run_z77 : P_z77 → Option R_z77
 | .start inputs0 l1 =>
   if (decide ((IntKind.wrap .i64 ((List.length inputs0 : Int) + (List.length l1 : Int))) > (40 : Int))) = true then
     some (((0 : Int), ((8 : Int), ())), ())
   else
     run_z77 (.p116 inputs0 l1 (0 : Int))
 | .p116 inputs0 l1 i6 =>
   if (decide (i6 < (List.length l1 : Int))) = true then
     (idx l1 i6) >>= fun t1 =>
     (run_z74 (.start t1.Name)) >>= fun t2 =>
     if (!t2.1.1) = true then
       some ((i6, ((4 : Int), ())), ())
     else
       run_z77 (.p29844 inputs0 l1 i6 (0 : Int))
   else
     some (((0 : Int), ((0 : Int), ())), ())
 | .p29844 inputs0 l1 i6 k7 =>
   if (decide (k7 < i6)) = true then
     (idx l1 k7) >>= fun t1 =>
     (idx l1 i6) >>= fun t2 =>
     if (seq t1.Name t2.Name) = true then
       some ((i6, ((5 : Int), ())), ())
     else
       run_z77 (.p29844 inputs0 l1 i6 (IntKind.wrap .i64 (k7 + (1 : Int))))
   else
     run_z77 (.p59700 inputs0 l1 i6 (0 : Int))
 | .p59700 inputs0 l1 i6 k8 =>
   if (decide (k8 < (List.length inputs0 : Int))) = true then
     (idx inputs0 k8) >>= fun t1 =>
     (idx l1 i6) >>= fun t2 =>
     if (seq t1.Name t2.Name) = true then
       some ((i6, ((5 : Int), ())), ())
     else
       run_z77 (.p59700 inputs0 l1 i6 (IntKind.wrap .i64 (k8 + (1 : Int))))
   else
     (idx l1 i6) >>= fun t3 =>
     (run_z12 (.start t3.Kind (0 : Int) (1 : Int))) >>= fun t4 =>
     if (!t4.1.1) = true then
       some ((i6, ((15 : Int), ())), ())
     else
       (idx l1 i6) >>= fun t5 =>
       (run_z75 (.start t5.Width)) >>= fun t6 =>
       if (!t6.1.1) = true then
         some ((i6, ((2 : Int), ())), ())
       else
         (idx l1 i6) >>= fun t7 =>
         (idx l1 i6) >>= fun t8 =>
         (run_z13 (.start t7.Init t8.Width)) >>= fun t9 =>
         if (!t9.1.1) = true then
           some ((i6, ((2 : Int), ())), ())
         else
           (idx l1 i6) >>= fun t10 =>
           (run_z12 (.start t10.Clock (0 : Int) (3 : Int))) >>= fun t11 =>
           if (!t11.1.1) = true then
             some ((i6, ((2 : Int), ())), ())
           else
             run_z77 (.p116 inputs0 l1 (IntKind.wrap .i64 (i6 + (1 : Int))))
  partial_fixpoint
noncomputable def tab_z77 : List (Plc E P_z77) := [⟨116, [false, false, true, false, true, true], { slots := [0, 1, 6], rows := [], flat := [], keep := 0 }, ((List api_Port) × ((List api_Element) × (Int × Unit))), Unit, (RdL.cons (Rd.sl 206 false) (RdL.cons (Rd.sl 82 false) (RdL.cons (Rd.int .i64) RdL.nil))), RdBL.nil, fun a b => .p116 a.1 a.2.1 a.2.2.1⟩,
  ⟨29844, [false, false, true, false, true, false, false, true, false, false, true, false, true, true], { slots := [0, 1, 6, 7], rows := [], flat := [], keep := 0 }, ((List api_Port) × ((List api_Element) × (Int × (Int × Unit)))), Unit, (RdL.cons (Rd.sl 206 false) (RdL.cons (Rd.sl 82 false) (RdL.cons (Rd.int .i64) (RdL.cons (Rd.int .i64) RdL.nil)))), RdBL.nil, fun a b => .p29844 a.1 a.2.1 a.2.2.1 a.2.2.2.1⟩,
  ⟨59700, [false, false, true, false, true, true, false, false, true, false, false, true, false, true, true], { slots := [0, 1, 6, 8], rows := [], flat := [], keep := 0 }, ((List api_Port) × ((List api_Element) × (Int × (Int × Unit)))), Unit, (RdL.cons (Rd.sl 206 false) (RdL.cons (Rd.sl 82 false) (RdL.cons (Rd.int .i64) (RdL.cons (Rd.int .i64) RdL.nil)))), RdBL.nil, fun a b => .p59700 a.1 a.2.1 a.2.2.1 a.2.2.2.1⟩]
theorem tab_z77_ok : All (PlcOk 103 0 place_z77 st_z77) tab_z77 := ⟨⟨rfl, rfl, fun _ _ => rfl, fun _ _ => rfl⟩, ⟨⟨rfl, rfl, fun _ _ => rfl, fun _ _ => rfl⟩, ⟨⟨rfl, rfl, fun _ _ => rfl, fun _ _ => rfl⟩, trivial⟩⟩⟩
noncomputable def code_z77 : Code := Tryz.f138.body.getD .skip
noncomputable def spec_z77 : Spec E.S := (Con.add con_z13 (Con.add con_z75 (Con.add con_z12 (Con.add con_z74 noSpec))))
theorem spec_z77_ok : SpecOk E spec_z77 := (Con.add_ok con_z13_ok (Con.add_ok con_z75_ok (Con.add_ok con_z12_ok (Con.add_ok con_z74_ok noSpec_ok))))
theorem good_z77 : ∀ pt r, run_z77 pt = some r → Good E Tryz.f138 code_z77 0 (res_z77.av r) (res_z77.bx r) (place_z77 pt) (st_z77 pt) := by
  refine run_z77.partial_correctness (fun pt r => Good E Tryz.f138 code_z77 0 (res_z77.av r) (res_z77.bx r) (place_z77 pt) (st_z77 pt)) ?_
  intro run' ih pt r hr
  cases pt <;> exact fn_step (spec := spec_z77) (wr := (mkWr [] [])) (l := tab_z77) (z := 103) (p := res_z77) E_ok tab_z77_ok.mem rfl spec_z77_ok ih (Eq.trans (by kernel_rfl) hr)
noncomputable def con_z77 : Con E := ⟨138, ((List api_Port) × ((List api_Element) × Unit)), Unit, (RwL.cons (Rw.sl 206) (RwL.cons (Rw.sl 82) RwL.nil)), RdBL.nil, 0, R_z77, fun a b => run_z77 (.start a.1 a.2.1), res_z77.av, res_z77.bx⟩
theorem con_z77_ok : con_z77.Ok := fun a b r h => fn_ok (fn := Tryz.f138) (code := code_z77) E_ok (by kernel_rfl) (by kernel_rfl) (by kernel_rfl) (Nat.le_of_ble_eq_true rfl) (good_z77 (.start a.1 a.2.1) r h)

/-! ### ratchet/ratchetbase.Leaves -/
inductive P_z78 where
 | start (d0_0 : ByteArray) (d0_1 : (List api_Port)) (d0_2 : (List api_Element)) (d0_3 : (List api_Node)) (d0_4 : (List api_Rule)) (d0_5 : (List api_Output)) (d0_6 : (List api_Attribute))
 | p116 (i4 : Int) (B0_0 : ByteArray) (B0_1 : (List api_Port)) (B0_2 : (List api_Element)) (B0_3 : (List api_Node)) (B0_4 : (List api_Rule)) (B0_5 : (List api_Output)) (B0_6 : (List api_Attribute)) (B1 : (List Int))
 | p244 (i5 : Int) (B0_0 : ByteArray) (B0_1 : (List api_Port)) (B0_2 : (List api_Element)) (B0_3 : (List api_Node)) (B0_4 : (List api_Rule)) (B0_5 : (List api_Output)) (B0_6 : (List api_Attribute)) (B1 : (List Int))
noncomputable def place_z78 : P_z78 → List Bool
 | .start .. => []
 | .p116 .. => [false, false, true, false, true, true]
 | .p244 .. => [false, false, true, false, true, true, true]
noncomputable def st_z78 : P_z78 → St E.S
 | .start d0_0 d0_1 d0_2 d0_3 d0_4 d0_5 d0_6 => st0 39 [.agg [.v (.string d0_0), .sl 206 d0_1 false, .sl 82 d0_2 false, .sl 208 d0_3 false, .sl 85 d0_4 false, .sl 190 d0_5 false, .sl 146 d0_6 false]] []
 | .p116 i4 B0_0 B0_1 B0_2 B0_3 B0_4 B0_5 B0_6 B1 => mkSt 39 [1, 3, 4] [.bp 0 0, .rw 1, .v (.int .i64 i4)] [.var 75 [.v (.string B0_0), .sl 206 B0_1 false, .sl 82 B0_2 false, .sl 208 B0_3 false, .sl 85 B0_4 false, .sl 190 B0_5 false, .sl 146 B0_6 false], .row 3 B1 false]
 | .p244 i5 B0_0 B0_1 B0_2 B0_3 B0_4 B0_5 B0_6 B1 => mkSt 39 [1, 3, 5] [.bp 0 0, .rw 1, .v (.int .i64 i5)] [.var 75 [.v (.string B0_0), .sl 206 B0_1 false, .sl 82 B0_2 false, .sl 208 B0_3 false, .sl 85 B0_4 false, .sl 190 B0_5 false, .sl 146 B0_6 false], .row 3 B1 false]
abbrev R_z78 : Type := ((Unit × Unit) × ((List Int) × Unit))
noncomputable def res_z78 : Res E (Unit × Unit) ((List Int) × Unit) := { rows := [], flat := [], keep := 0, done := [0], rl := (RdL.cons (Rd.rw 0) RdL.nil), rb := (RdBL.cons (RdB.row 3 true) RdBL.nil) }
noncomputable def run_z78 : P_z78 → Option R_z78
 | .start d0_0 d0_1 d0_2 d0_3 d0_4 d0_5 d0_6 =>
   run_z78 (.p116 (0 : Int) d0_0 d0_1 d0_2 d0_3 d0_4 d0_5 d0_6 ([] : List Int))
 | .p116 i4 B0_0 B0_1 B0_2 B0_3 B0_4 B0_5 B0_6 B1 =>
   if (decide (i4 < (List.length B0_1 : Int))) = true then
     (idx B0_1 i4) >>= fun t1 =>
     if (fits (List.length B1) (List.length ([t1.Width] : List Int)) 8) = true then
       run_z78 (.p116 (IntKind.wrap .i64 (i4 + (1 : Int))) B0_0 B0_1 B0_2 B0_3 B0_4 B0_5 B0_6 (B1 ++ ([t1.Width] : List Int)))
     else none
   else
     run_z78 (.p244 (0 : Int) B0_0 B0_1 B0_2 B0_3 B0_4 B0_5 B0_6 B1)
 | .p244 i5 B0_0 B0_1 B0_2 B0_3 B0_4 B0_5 B0_6 B1 =>
   if (decide (i5 < (List.length B0_2 : Int))) = true then
     (idx B0_2 i5) >>= fun t1 =>
     if (fits (List.length B1) (List.length ([t1.Width] : List Int)) 8) = true then
       run_z78 (.p244 (IntKind.wrap .i64 (i5 + (1 : Int))) B0_0 B0_1 B0_2 B0_3 B0_4 B0_5 B0_6 (B1 ++ ([t1.Width] : List Int)))
     else none
   else
     some (((), ()), (B1, ()))
  partial_fixpoint
noncomputable def tab_z78 : List (Plc E P_z78) := [⟨116, [false, false, true, false, true, true], { slots := [1, 3, 4], rows := [(3, 3)], flat := [], keep := 0 }, (Unit × (Unit × (Int × Unit))), ((ByteArray × ((List api_Port) × ((List api_Element) × ((List api_Node) × ((List api_Rule) × ((List api_Output) × ((List api_Attribute) × Unit))))))) × ((List Int) × Unit)), (RdL.cons (Rd.bp 0 0) (RdL.cons (Rd.rw 1) (RdL.cons (Rd.int .i64) RdL.nil))), (RdBL.cons (RdB.var 75 (RdL.cons Rd.str (RdL.cons (Rd.sl 206 false) (RdL.cons (Rd.sl 82 false) (RdL.cons (Rd.sl 208 false) (RdL.cons (Rd.sl 85 false) (RdL.cons (Rd.sl 190 false) (RdL.cons (Rd.sl 146 false) RdL.nil)))))))) (RdBL.cons (RdB.row 3 false) RdBL.nil)), fun a b => .p116 a.2.2.1 b.1.1 b.1.2.1 b.1.2.2.1 b.1.2.2.2.1 b.1.2.2.2.2.1 b.1.2.2.2.2.2.1 b.1.2.2.2.2.2.2.1 b.2.1⟩,
  ⟨244, [false, false, true, false, true, true, true], { slots := [1, 3, 5], rows := [], flat := [], keep := 0 }, (Unit × (Unit × (Int × Unit))), ((ByteArray × ((List api_Port) × ((List api_Element) × ((List api_Node) × ((List api_Rule) × ((List api_Output) × ((List api_Attribute) × Unit))))))) × ((List Int) × Unit)), (RdL.cons (Rd.bp 0 0) (RdL.cons (Rd.rw 1) (RdL.cons (Rd.int .i64) RdL.nil))), (RdBL.cons (RdB.var 75 (RdL.cons Rd.str (RdL.cons (Rd.sl 206 false) (RdL.cons (Rd.sl 82 false) (RdL.cons (Rd.sl 208 false) (RdL.cons (Rd.sl 85 false) (RdL.cons (Rd.sl 190 false) (RdL.cons (Rd.sl 146 false) RdL.nil)))))))) (RdBL.cons (RdB.row 3 false) RdBL.nil)), fun a b => .p244 a.2.2.1 b.1.1 b.1.2.1 b.1.2.2.1 b.1.2.2.2.1 b.1.2.2.2.2.1 b.1.2.2.2.2.2.1 b.1.2.2.2.2.2.2.1 b.2.1⟩]
theorem tab_z78_ok : All (PlcOk 39 0 place_z78 st_z78) tab_z78 := ⟨⟨rfl, rfl, fun _ _ => rfl, fun _ _ => rfl⟩, ⟨⟨rfl, rfl, fun _ _ => rfl, fun _ _ => rfl⟩, trivial⟩⟩
noncomputable def code_z78 : Code := Tryz.f140.body.getD .skip
noncomputable def spec_z78 : Spec E.S := noSpec
theorem spec_z78_ok : SpecOk E spec_z78 := noSpec_ok
theorem good_z78 : ∀ pt r, run_z78 pt = some r → Good E Tryz.f140 code_z78 0 (res_z78.av r) (res_z78.bx r) (place_z78 pt) (st_z78 pt) := by
  refine run_z78.partial_correctness (fun pt r => Good E Tryz.f140 code_z78 0 (res_z78.av r) (res_z78.bx r) (place_z78 pt) (st_z78 pt)) ?_
  intro run' ih pt r hr
  cases pt <;> exact fn_step (spec := spec_z78) (wr := (mkWr [] [])) (l := tab_z78) (z := 39) (p := res_z78) E_ok tab_z78_ok.mem rfl spec_z78_ok ih (Eq.trans (by kernel_rfl) hr)
noncomputable def con_z78 : Con E := ⟨140, ((ByteArray × ((List api_Port) × ((List api_Element) × ((List api_Node) × ((List api_Rule) × ((List api_Output) × ((List api_Attribute) × Unit))))))) × Unit), Unit, (RwL.cons (Rw.agg (RwL.cons Rd.str.w (RwL.cons (Rw.sl 206) (RwL.cons (Rw.sl 82) (RwL.cons (Rw.sl 208) (RwL.cons (Rw.sl 85) (RwL.cons (Rw.sl 190) (RwL.cons (Rw.sl 146) RwL.nil)))))))) RwL.nil), RdBL.nil, 0, R_z78, fun a b => run_z78 (.start a.1.1 a.1.2.1 a.1.2.2.1 a.1.2.2.2.1 a.1.2.2.2.2.1 a.1.2.2.2.2.2.1 a.1.2.2.2.2.2.2.1), res_z78.av, res_z78.bx⟩
theorem con_z78_ok : con_z78.Ok := fun a b r h => fn_ok (fn := Tryz.f140) (code := code_z78) E_ok (by kernel_rfl) (by kernel_rfl) (by kernel_rfl) (Nat.le_of_ble_eq_true rfl) (good_z78 (.start a.1.1 a.1.2.1 a.1.2.2.1 a.1.2.2.2.1 a.1.2.2.2.2.1 a.1.2.2.2.2.2.1 a.1.2.2.2.2.2.2.1) r h)

/-! ### ratchet/ratchetbase.ArgCount -/
inductive P_z79 where
 | start (op0 : Int)
 | p53 (s3 : Int) (s4 : Bool)
 | p215 (s3 : Int) (s7 : Bool)
noncomputable def place_z79 : P_z79 → List Bool
 | .start .. => []
 | .p53 .. => [true, false, true, false, true]
 | .p215 .. => [true, true, true, false, true, false, true]
noncomputable def st_z79 : P_z79 → St E.S
 | .start op0 => st0 14 [.v (.int .i64 op0)] []
 | .p53 s3 s4 => mkSt 14 [3, 4] [.v (.int .i64 s3), .v (.bool s4)] []
 | .p215 s3 s7 => mkSt 14 [3, 7] [.v (.int .i64 s3), .v (.bool s7)] []
abbrev R_z79 : Type := ((Int × Unit) × Unit)
noncomputable def res_z79 : Res E (Int × Unit) Unit := { rows := [], flat := [], keep := 0, done := [0], rl := (RdL.cons (Rd.int .i64) RdL.nil), rb := RdBL.nil }
noncomputable def run_z79 : P_z79 → Option R_z79
 | .start op0 =>
   if (op0 == (0 : Int)) = true then
     run_z79 (.p53 op0 (op0 == (0 : Int)))
   else
     run_z79 (.p53 op0 (op0 == (1 : Int)))
 | .p53 s3 s4 =>
   if s4 = true then
     some (((0 : Int), ()), ())
   else
     if (s3 == (2 : Int)) = true then
       run_z79 (.p215 s3 (s3 == (2 : Int)))
     else
       if (s3 == (14 : Int)) = true then
         run_z79 (.p215 s3 (s3 == (14 : Int)))
       else
         if (s3 == (15 : Int)) = true then
           run_z79 (.p215 s3 (s3 == (15 : Int)))
         else
           run_z79 (.p215 s3 (s3 == (16 : Int)))
 | .p215 s3 s7 =>
   if s7 = true then
     some (((1 : Int), ()), ())
   else
     if (s3 == (12 : Int)) = true then
       some (((3 : Int), ()), ())
     else
       some (((2 : Int), ()), ())
  partial_fixpoint
noncomputable def tab_z79 : List (Plc E P_z79) := [⟨53, [true, false, true, false, true], { slots := [3, 4], rows := [], flat := [], keep := 0 }, (Int × (Bool × Unit)), Unit, (RdL.cons (Rd.int .i64) (RdL.cons Rd.bool RdL.nil)), RdBL.nil, fun a b => .p53 a.1 a.2.1⟩,
  ⟨215, [true, true, true, false, true, false, true], { slots := [3, 7], rows := [], flat := [], keep := 0 }, (Int × (Bool × Unit)), Unit, (RdL.cons (Rd.int .i64) (RdL.cons Rd.bool RdL.nil)), RdBL.nil, fun a b => .p215 a.1 a.2.1⟩]
theorem tab_z79_ok : All (PlcOk 14 0 place_z79 st_z79) tab_z79 := ⟨⟨rfl, rfl, fun _ _ => rfl, fun _ _ => rfl⟩, ⟨⟨rfl, rfl, fun _ _ => rfl, fun _ _ => rfl⟩, trivial⟩⟩
noncomputable def code_z79 : Code := Tryz.f192.body.getD .skip
noncomputable def spec_z79 : Spec E.S := noSpec
theorem spec_z79_ok : SpecOk E spec_z79 := noSpec_ok
theorem good_z79 : ∀ pt r, run_z79 pt = some r → Good E Tryz.f192 code_z79 0 (res_z79.av r) (res_z79.bx r) (place_z79 pt) (st_z79 pt) := by
  refine run_z79.partial_correctness (fun pt r => Good E Tryz.f192 code_z79 0 (res_z79.av r) (res_z79.bx r) (place_z79 pt) (st_z79 pt)) ?_
  intro run' ih pt r hr
  cases pt <;> exact fn_step (spec := spec_z79) (wr := (mkWr [] [])) (l := tab_z79) (z := 14) (p := res_z79) E_ok tab_z79_ok.mem rfl spec_z79_ok ih (Eq.trans (by kernel_rfl) hr)
noncomputable def con_z79 : Con E := ⟨192, (Int × Unit), Unit, (RwL.cons (Rd.int .i64).w RwL.nil), RdBL.nil, 0, R_z79, fun a b => run_z79 (.start a.1), res_z79.av, res_z79.bx⟩
theorem con_z79_ok : con_z79.Ok := fun a b r h => fn_ok (fn := Tryz.f192) (code := code_z79) E_ok (by kernel_rfl) (by kernel_rfl) (by kernel_rfl) (Nat.le_of_ble_eq_true rfl) (good_z79 (.start a.1) r h)

/-! ### ratchet/ratchetbase.widthsFit -/
inductive P_z80 where
 | start (nodes0 : (List api_Node)) (x1_0 : Int) (x1_1 : Int) (x1_2 : (List Int)) (x1_3 : Int)
 | p116 (nodes0 : (List api_Node)) (k6 : Int) (B0_0 : Int) (B0_1 : Int) (B0_2 : (List Int)) (B0_3 : Int) (B1 : (List Int))
 | p983 (s27 : Int) (s36 : Bool) (B0_0 : Int) (B0_1 : Int) (B0_2 : (List Int)) (B0_3 : Int) (B1 : (List Int))
 | p3935 (s27 : Int) (s57 : Bool) (B0_0 : Int) (B0_1 : Int) (B0_2 : (List Int)) (B0_3 : Int) (B1 : (List Int))
 | p1007615 (s118 : Bool) (B0_0 : Int) (B0_1 : Int) (B0_2 : (List Int)) (B0_3 : Int) (B1 : (List Int))
noncomputable def place_z80 : P_z80 → List Bool
 | .start .. => []
 | .p116 .. => [false, false, true, false, true, true]
 | .p983 .. => [true, true, true, false, true, false, true, true, true]
 | .p3935 .. => [true, true, true, true, true, false, true, false, true, true, true]
 | .p1007615 .. => [true, true, true, true, true, true, true, true, true, true, true, true, true, false, true, false, true, true, true]
noncomputable def st_z80 : P_z80 → St E.S
 | .start nodes0 x1_0 x1_1 x1_2 x1_3 => st0 133 [.sl 208 nodes0 false, .agg [.v (.int .i64 x1_0), .v (.int .i64 x1_1), .sl 3 x1_2 false, .v (.int .i64 x1_3)]] []
 | .p116 nodes0 k6 B0_0 B0_1 B0_2 B0_3 B1 => mkSt 133 [0, 3, 5, 6] [.sl 208 nodes0 false, .bp 0 0, .rw 1, .v (.int .i64 k6)] [.var 208 [.v (.int .i64 B0_0), .v (.int .i64 B0_1), .sl 3 B0_2 false, .v (.int .i64 B0_3)], .row 3 B1 false]
 | .p983 s27 s36 B0_0 B0_1 B0_2 B0_3 B1 => mkSt 133 [3, 5, 27, 36] [.bp 0 0, .rw 1, .v (.int .i64 s27), .v (.bool s36)] [.var 208 [.v (.int .i64 B0_0), .v (.int .i64 B0_1), .sl 3 B0_2 false, .v (.int .i64 B0_3)], .row 3 B1 false]
 | .p3935 s27 s57 B0_0 B0_1 B0_2 B0_3 B1 => mkSt 133 [3, 5, 27, 57] [.bp 0 0, .rw 1, .v (.int .i64 s27), .v (.bool s57)] [.var 208 [.v (.int .i64 B0_0), .v (.int .i64 B0_1), .sl 3 B0_2 false, .v (.int .i64 B0_3)], .row 3 B1 false]
 | .p1007615 s118 B0_0 B0_1 B0_2 B0_3 B1 => mkSt 133 [3, 5, 118] [.bp 0 0, .rw 1, .v (.bool s118)] [.var 208 [.v (.int .i64 B0_0), .v (.int .i64 B0_1), .sl 3 B0_2 false, .v (.int .i64 B0_3)], .row 3 B1 false]
abbrev R_z80 : Type := ((Bool × Unit) × Unit)
noncomputable def res_z80 : Res E (Bool × Unit) Unit := { rows := [], flat := [], keep := 0, done := [0], rl := (RdL.cons Rd.bool RdL.nil), rb := RdBL.nil }
noncomputable def run_z80 : P_z80 → Option R_z80
 | .start nodes0 x1_0 x1_1 x1_2 x1_3 =>
   run_z80 (.p116 nodes0 (0 : Int) x1_0 x1_1 x1_2 x1_3 ([] : List Int))
 | .p116 nodes0 k6 B0_0 B0_1 B0_2 B0_3 B1 =>
   if (decide (k6 < (List.length B0_2 : Int))) = true then
     (idx B0_2 k6) >>= fun t1 =>
     (idx nodes0 t1) >>= fun t2 =>
     if (fits (List.length B1) (List.length ([t2.Width] : List Int)) 8) = true then
       run_z80 (.p116 nodes0 (IntKind.wrap .i64 (k6 + (1 : Int))) B0_0 B0_1 B0_2 B0_3 (B1 ++ ([t2.Width] : List Int)))
     else none
   else
     if (B0_0 == (2 : Int)) = true then
       if (decide ((0 : Int) ≤ (0 : Int)) && decide ((0 : Int) < (List.length B1 : Int))) = true then
         (idx B1 (0 : Int)) >>= fun t3 =>
         some ((t3 == B0_1, ()), ())
       else none
     else
       if (B0_0 == (3 : Int)) = true then
         run_z80 (.p983 B0_0 (B0_0 == (3 : Int)) B0_0 B0_1 B0_2 B0_3 B1)
       else
         if (B0_0 == (4 : Int)) = true then
           run_z80 (.p983 B0_0 (B0_0 == (4 : Int)) B0_0 B0_1 B0_2 B0_3 B1)
         else
           if (B0_0 == (5 : Int)) = true then
             run_z80 (.p983 B0_0 (B0_0 == (5 : Int)) B0_0 B0_1 B0_2 B0_3 B1)
           else
             if (B0_0 == (6 : Int)) = true then
               run_z80 (.p983 B0_0 (B0_0 == (6 : Int)) B0_0 B0_1 B0_2 B0_3 B1)
             else
               if (B0_0 == (7 : Int)) = true then
                 run_z80 (.p983 B0_0 (B0_0 == (7 : Int)) B0_0 B0_1 B0_2 B0_3 B1)
               else
                 run_z80 (.p983 B0_0 (B0_0 == (8 : Int)) B0_0 B0_1 B0_2 B0_3 B1)
 | .p983 s27 s36 B0_0 B0_1 B0_2 B0_3 B1 =>
   if s36 = true then
     if (decide ((0 : Int) ≤ (0 : Int)) && decide ((0 : Int) < (List.length B1 : Int))) = true then
       (idx B1 (0 : Int)) >>= fun t1 =>
       if (t1 == B0_1) = true then
         if (decide ((0 : Int) ≤ (1 : Int)) && decide ((1 : Int) < (List.length B1 : Int))) = true then
           (idx B1 (1 : Int)) >>= fun t2 =>
           some ((t2 == B0_1, ()), ())
         else none
       else
         some ((false, ()), ())
     else none
   else
     if (s27 == (9 : Int)) = true then
       run_z80 (.p3935 s27 (s27 == (9 : Int)) B0_0 B0_1 B0_2 B0_3 B1)
     else
       if (s27 == (10 : Int)) = true then
         run_z80 (.p3935 s27 (s27 == (10 : Int)) B0_0 B0_1 B0_2 B0_3 B1)
       else
         run_z80 (.p3935 s27 (s27 == (11 : Int)) B0_0 B0_1 B0_2 B0_3 B1)
 | .p3935 s27 s57 B0_0 B0_1 B0_2 B0_3 B1 =>
   if s57 = true then
     if (decide ((0 : Int) ≤ (0 : Int)) && decide ((0 : Int) < (List.length B1 : Int))) = true then
       (idx B1 (0 : Int)) >>= fun t1 =>
       if (decide ((0 : Int) ≤ (1 : Int)) && decide ((1 : Int) < (List.length B1 : Int))) = true then
         (idx B1 (1 : Int)) >>= fun t2 =>
         if (t1 == t2) = true then
           some ((B0_1 == (1 : Int), ()), ())
         else
           some ((false, ()), ())
       else none
     else none
   else
     if (s27 == (12 : Int)) = true then
       if (decide ((0 : Int) ≤ (0 : Int)) && decide ((0 : Int) < (List.length B1 : Int))) = true then
         (idx B1 (0 : Int)) >>= fun t3 =>
         if (t3 == (1 : Int)) = true then
           if (decide ((0 : Int) ≤ (1 : Int)) && decide ((1 : Int) < (List.length B1 : Int))) = true then
             (idx B1 (1 : Int)) >>= fun t4 =>
             if (t4 == B0_1) = true then
               if (decide ((0 : Int) ≤ (2 : Int)) && decide ((2 : Int) < (List.length B1 : Int))) = true then
                 (idx B1 (2 : Int)) >>= fun t5 =>
                 some ((t5 == B0_1, ()), ())
               else none
             else
               some ((false, ()), ())
           else none
         else
           some ((false, ()), ())
       else none
     else
       if (s27 == (13 : Int)) = true then
         if (decide ((0 : Int) ≤ (0 : Int)) && decide ((0 : Int) < (List.length B1 : Int))) = true then
           (idx B1 (0 : Int)) >>= fun t6 =>
           if (decide ((0 : Int) ≤ (1 : Int)) && decide ((1 : Int) < (List.length B1 : Int))) = true then
             (idx B1 (1 : Int)) >>= fun t7 =>
             some (((IntKind.wrap .i64 (t6 + t7)) == B0_1, ()), ())
           else none
         else none
       else
         if (s27 == (14 : Int)) = true then
           if (decide ((0 : Int) ≤ (0 : Int)) && decide ((0 : Int) < (List.length B1 : Int))) = true then
             (idx B1 (0 : Int)) >>= fun t8 =>
             some ((decide ((IntKind.wrap .i64 (B0_3 + B0_1)) ≤ t8), ()), ())
           else none
         else
           if (s27 == (15 : Int)) = true then
             run_z80 (.p1007615 (s27 == (15 : Int)) B0_0 B0_1 B0_2 B0_3 B1)
           else
             run_z80 (.p1007615 (s27 == (16 : Int)) B0_0 B0_1 B0_2 B0_3 B1)
 | .p1007615 s118 B0_0 B0_1 B0_2 B0_3 B1 =>
   if s118 = true then
     if (decide ((0 : Int) ≤ (0 : Int)) && decide ((0 : Int) < (List.length B1 : Int))) = true then
       (idx B1 (0 : Int)) >>= fun t1 =>
       some ((decide (t1 ≤ B0_1), ()), ())
     else none
   else
     if (decide ((0 : Int) ≤ (0 : Int)) && decide ((0 : Int) < (List.length B1 : Int))) = true then
       (idx B1 (0 : Int)) >>= fun t2 =>
       some ((t2 == B0_1, ()), ())
     else none
  partial_fixpoint
noncomputable def tab_z80 : List (Plc E P_z80) := [⟨116, [false, false, true, false, true, true], { slots := [0, 3, 5, 6], rows := [(5, 3)], flat := [], keep := 0 }, ((List api_Node) × (Unit × (Unit × (Int × Unit)))), ((Int × (Int × ((List Int) × (Int × Unit)))) × ((List Int) × Unit)), (RdL.cons (Rd.sl 208 false) (RdL.cons (Rd.bp 0 0) (RdL.cons (Rd.rw 1) (RdL.cons (Rd.int .i64) RdL.nil)))), (RdBL.cons (RdB.var 208 (RdL.cons (Rd.int .i64) (RdL.cons (Rd.int .i64) (RdL.cons (Rd.sl 3 false) (RdL.cons (Rd.int .i64) RdL.nil))))) (RdBL.cons (RdB.row 3 false) RdBL.nil)), fun a b => .p116 a.1 a.2.2.2.1 b.1.1 b.1.2.1 b.1.2.2.1 b.1.2.2.2.1 b.2.1⟩,
  ⟨983, [true, true, true, false, true, false, true, true, true], { slots := [3, 5, 27, 36], rows := [], flat := [], keep := 0 }, (Unit × (Unit × (Int × (Bool × Unit)))), ((Int × (Int × ((List Int) × (Int × Unit)))) × ((List Int) × Unit)), (RdL.cons (Rd.bp 0 0) (RdL.cons (Rd.rw 1) (RdL.cons (Rd.int .i64) (RdL.cons Rd.bool RdL.nil)))), (RdBL.cons (RdB.var 208 (RdL.cons (Rd.int .i64) (RdL.cons (Rd.int .i64) (RdL.cons (Rd.sl 3 false) (RdL.cons (Rd.int .i64) RdL.nil))))) (RdBL.cons (RdB.row 3 false) RdBL.nil)), fun a b => .p983 a.2.2.1 a.2.2.2.1 b.1.1 b.1.2.1 b.1.2.2.1 b.1.2.2.2.1 b.2.1⟩,
  ⟨3935, [true, true, true, true, true, false, true, false, true, true, true], { slots := [3, 5, 27, 57], rows := [], flat := [], keep := 0 }, (Unit × (Unit × (Int × (Bool × Unit)))), ((Int × (Int × ((List Int) × (Int × Unit)))) × ((List Int) × Unit)), (RdL.cons (Rd.bp 0 0) (RdL.cons (Rd.rw 1) (RdL.cons (Rd.int .i64) (RdL.cons Rd.bool RdL.nil)))), (RdBL.cons (RdB.var 208 (RdL.cons (Rd.int .i64) (RdL.cons (Rd.int .i64) (RdL.cons (Rd.sl 3 false) (RdL.cons (Rd.int .i64) RdL.nil))))) (RdBL.cons (RdB.row 3 false) RdBL.nil)), fun a b => .p3935 a.2.2.1 a.2.2.2.1 b.1.1 b.1.2.1 b.1.2.2.1 b.1.2.2.2.1 b.2.1⟩,
  ⟨1007615, [true, true, true, true, true, true, true, true, true, true, true, true, true, false, true, false, true, true, true], { slots := [3, 5, 118], rows := [], flat := [], keep := 0 }, (Unit × (Unit × (Bool × Unit))), ((Int × (Int × ((List Int) × (Int × Unit)))) × ((List Int) × Unit)), (RdL.cons (Rd.bp 0 0) (RdL.cons (Rd.rw 1) (RdL.cons Rd.bool RdL.nil))), (RdBL.cons (RdB.var 208 (RdL.cons (Rd.int .i64) (RdL.cons (Rd.int .i64) (RdL.cons (Rd.sl 3 false) (RdL.cons (Rd.int .i64) RdL.nil))))) (RdBL.cons (RdB.row 3 false) RdBL.nil)), fun a b => .p1007615 a.2.2.1 b.1.1 b.1.2.1 b.1.2.2.1 b.1.2.2.2.1 b.2.1⟩]
theorem tab_z80_ok : All (PlcOk 133 0 place_z80 st_z80) tab_z80 := ⟨⟨rfl, rfl, fun _ _ => rfl, fun _ _ => rfl⟩, ⟨⟨rfl, rfl, fun _ _ => rfl, fun _ _ => rfl⟩, ⟨⟨rfl, rfl, fun _ _ => rfl, fun _ _ => rfl⟩, ⟨⟨rfl, rfl, fun _ _ => rfl, fun _ _ => rfl⟩, trivial⟩⟩⟩⟩
noncomputable def code_z80 : Code := Tryz.f193.body.getD .skip
noncomputable def spec_z80 : Spec E.S := noSpec
theorem spec_z80_ok : SpecOk E spec_z80 := noSpec_ok
theorem good_z80 : ∀ pt r, run_z80 pt = some r → Good E Tryz.f193 code_z80 0 (res_z80.av r) (res_z80.bx r) (place_z80 pt) (st_z80 pt) := by
  refine run_z80.partial_correctness (fun pt r => Good E Tryz.f193 code_z80 0 (res_z80.av r) (res_z80.bx r) (place_z80 pt) (st_z80 pt)) ?_
  intro run' ih pt r hr
  cases pt <;> exact fn_step (spec := spec_z80) (wr := (mkWr [] [])) (l := tab_z80) (z := 133) (p := res_z80) E_ok tab_z80_ok.mem rfl spec_z80_ok ih (Eq.trans (by kernel_rfl) hr)
noncomputable def con_z80 : Con E := ⟨193, ((List api_Node) × ((Int × (Int × ((List Int) × (Int × Unit)))) × Unit)), Unit, (RwL.cons (Rw.sl 208) (RwL.cons (Rw.agg (RwL.cons (Rd.int .i64).w (RwL.cons (Rd.int .i64).w (RwL.cons (Rw.sl 3) (RwL.cons (Rd.int .i64).w RwL.nil))))) RwL.nil)), RdBL.nil, 0, R_z80, fun a b => run_z80 (.start a.1 a.2.1.1 a.2.1.2.1 a.2.1.2.2.1 a.2.1.2.2.2.1), res_z80.av, res_z80.bx⟩
theorem con_z80_ok : con_z80.Ok := fun a b r h => fn_ok (fn := Tryz.f193) (code := code_z80) E_ok (by kernel_rfl) (by kernel_rfl) (by kernel_rfl) (Nat.le_of_ble_eq_true rfl) (good_z80 (.start a.1 a.2.1.1 a.2.1.2.1 a.2.1.2.2.1 a.2.1.2.2.2.1) r h)

/-! ### ratchet/ratchetbase.nodeErr -/
inductive P_z81 where
 | start (leaves0 : (List Int)) (nodes1 : (List api_Node)) (i2 : Int)
 | p1012 (leaves0 : (List Int)) (nodes1 : (List api_Node)) (i2 : Int) (k8 : Int) (B0_0 : Int) (B0_1 : Int) (B0_2 : (List Int)) (B0_3 : Int)
 | p255 (nodes1 : (List api_Node)) (B0_0 : Int) (B0_1 : Int) (B0_2 : (List Int)) (B0_3 : Int)
noncomputable def place_z81 : P_z81 → List Bool
 | .start .. => []
 | .p1012 .. => [false, false, true, false, true, true, true, true, true]
 | .p255 .. => [true, true, true, true, true, true, true]
noncomputable def st_z81 : P_z81 → St E.S
 | .start leaves0 nodes1 i2 => st0 84 [.sl 3 leaves0 false, .sl 208 nodes1 false, .v (.int .i64 i2)] []
 | .p1012 leaves0 nodes1 i2 k8 B0_0 B0_1 B0_2 B0_3 => mkSt 84 [0, 1, 2, 7, 8] [.sl 3 leaves0 false, .sl 208 nodes1 false, .v (.int .i64 i2), .bp 0 0, .v (.int .i64 k8)] [.var 208 [.v (.int .i64 B0_0), .v (.int .i64 B0_1), .sl 3 B0_2 false, .v (.int .i64 B0_3)]]
 | .p255 nodes1 B0_0 B0_1 B0_2 B0_3 => mkSt 84 [1, 7] [.sl 208 nodes1 false, .bp 0 0] [.var 208 [.v (.int .i64 B0_0), .v (.int .i64 B0_1), .sl 3 B0_2 false, .v (.int .i64 B0_3)]]
abbrev R_z81 : Type := ((Int × Unit) × Unit)
noncomputable def res_z81 : Res E (Int × Unit) Unit := { rows := [], flat := [], keep := 0, done := [0], rl := (RdL.cons (Rd.int .i64) RdL.nil), rb := RdBL.nil }
noncomputable def run_z81 : P_z81 → Option R_z81
 | .start leaves0 nodes1 i2 =>
   (idx nodes1 i2) >>= fun t1 =>
   (run_z12 (.start t1.Op (0 : Int) (18 : Int))) >>= fun t2 =>
   if (!t2.1.1) = true then
     some (((15 : Int), ()), ())
   else
     (run_z75 (.start t1.Width)) >>= fun t3 =>
     if (!t3.1.1) = true then
       some (((2 : Int), ()), ())
     else
       (run_z79 (.start t1.Op)) >>= fun t4 =>
       if ((List.length t1.Args : Int) != t4.1.1) = true then
         some (((10 : Int), ()), ())
       else
         run_z81 (.p1012 leaves0 nodes1 i2 (0 : Int) t1.Op t1.Width t1.Args t1.Value)
 | .p1012 leaves0 nodes1 i2 k8 B0_0 B0_1 B0_2 B0_3 =>
   if (decide (k8 < (List.length B0_2 : Int))) = true then
     (idx B0_2 k8) >>= fun t1 =>
     (run_z12 (.start t1 (0 : Int) (IntKind.wrap .i64 (i2 - (1 : Int))))) >>= fun t2 =>
     if (!t2.1.1) = true then
       some (((9 : Int), ()), ())
     else
       run_z81 (.p1012 leaves0 nodes1 i2 (IntKind.wrap .i64 (k8 + (1 : Int))) B0_0 B0_1 B0_2 B0_3)
   else
     if (B0_0 == (0 : Int)) = true then
       (run_z13 (.start B0_3 B0_1)) >>= fun t3 =>
       if (!t3.1.1) = true then
         some (((2 : Int), ()), ())
       else
         some (((0 : Int), ()), ())
     else
       if (B0_0 == (1 : Int)) = true then
         (run_z12 (.start B0_3 (0 : Int) (IntKind.wrap .i64 ((List.length leaves0 : Int) - (1 : Int))))) >>= fun t4 =>
         if (!t4.1.1) = true then
           some (((6 : Int), ()), ())
         else
           (idx leaves0 B0_3) >>= fun t5 =>
           if (t5 != B0_1) = true then
             some (((25 : Int), ()), ())
           else
             some (((0 : Int), ()), ())
       else
         if (B0_0 == (14 : Int)) = true then
           (run_z12 (.start B0_3 (0 : Int) (15 : Int))) >>= fun t6 =>
           if (!t6.1.1) = true then
             some (((2 : Int), ()), ())
           else
             run_z81 (.p255 nodes1 B0_0 B0_1 B0_2 B0_3)
         else
           if (B0_3 != (0 : Int)) = true then
             some (((3 : Int), ()), ())
           else
             run_z81 (.p255 nodes1 B0_0 B0_1 B0_2 B0_3)
 | .p255 nodes1 B0_0 B0_1 B0_2 B0_3 =>
   (run_z80 (.start nodes1 B0_0 B0_1 B0_2 B0_3)) >>= fun t1 =>
   if (!t1.1.1) = true then
     some (((25 : Int), ()), ())
   else
     some (((0 : Int), ()), ())
  partial_fixpoint
noncomputable def tab_z81 : List (Plc E P_z81) := [⟨1012, [false, false, true, false, true, true, true, true, true], { slots := [0, 1, 2, 7, 8], rows := [], flat := [], keep := 0 }, ((List Int) × ((List api_Node) × (Int × (Unit × (Int × Unit))))), ((Int × (Int × ((List Int) × (Int × Unit)))) × Unit), (RdL.cons (Rd.sl 3 false) (RdL.cons (Rd.sl 208 false) (RdL.cons (Rd.int .i64) (RdL.cons (Rd.bp 0 0) (RdL.cons (Rd.int .i64) RdL.nil))))), (RdBL.cons (RdB.var 208 (RdL.cons (Rd.int .i64) (RdL.cons (Rd.int .i64) (RdL.cons (Rd.sl 3 false) (RdL.cons (Rd.int .i64) RdL.nil))))) RdBL.nil), fun a b => .p1012 a.1 a.2.1 a.2.2.1 a.2.2.2.2.1 b.1.1 b.1.2.1 b.1.2.2.1 b.1.2.2.2.1⟩,
  ⟨255, [true, true, true, true, true, true, true], { slots := [1, 7], rows := [], flat := [], keep := 0 }, ((List api_Node) × (Unit × Unit)), ((Int × (Int × ((List Int) × (Int × Unit)))) × Unit), (RdL.cons (Rd.sl 208 false) (RdL.cons (Rd.bp 0 0) RdL.nil)), (RdBL.cons (RdB.var 208 (RdL.cons (Rd.int .i64) (RdL.cons (Rd.int .i64) (RdL.cons (Rd.sl 3 false) (RdL.cons (Rd.int .i64) RdL.nil))))) RdBL.nil), fun a b => .p255 a.1 b.1.1 b.1.2.1 b.1.2.2.1 b.1.2.2.2.1⟩]
theorem tab_z81_ok : All (PlcOk 84 0 place_z81 st_z81) tab_z81 := ⟨⟨rfl, rfl, fun _ _ => rfl, fun _ _ => rfl⟩, ⟨⟨rfl, rfl, fun _ _ => rfl, fun _ _ => rfl⟩, trivial⟩⟩
noncomputable def code_z81 : Code := Tryz.f173.body.getD .skip
noncomputable def spec_z81 : Spec E.S := (Con.add con_z80 (Con.add con_z13 (Con.add con_z79 (Con.add con_z75 (Con.add con_z12 noSpec)))))
theorem spec_z81_ok : SpecOk E spec_z81 := (Con.add_ok con_z80_ok (Con.add_ok con_z13_ok (Con.add_ok con_z79_ok (Con.add_ok con_z75_ok (Con.add_ok con_z12_ok noSpec_ok)))))
theorem good_z81 : ∀ pt r, run_z81 pt = some r → Good E Tryz.f173 code_z81 0 (res_z81.av r) (res_z81.bx r) (place_z81 pt) (st_z81 pt) := by
  refine run_z81.partial_correctness (fun pt r => Good E Tryz.f173 code_z81 0 (res_z81.av r) (res_z81.bx r) (place_z81 pt) (st_z81 pt)) ?_
  intro run' ih pt r hr
  cases pt <;> exact fn_step (spec := spec_z81) (wr := (mkWr [] [])) (l := tab_z81) (z := 84) (p := res_z81) E_ok tab_z81_ok.mem rfl spec_z81_ok ih (Eq.trans (by kernel_rfl) hr)
noncomputable def con_z81 : Con E := ⟨173, ((List Int) × ((List api_Node) × (Int × Unit))), Unit, (RwL.cons (Rw.sl 3) (RwL.cons (Rw.sl 208) (RwL.cons (Rd.int .i64).w RwL.nil))), RdBL.nil, 0, R_z81, fun a b => run_z81 (.start a.1 a.2.1 a.2.2.1), res_z81.av, res_z81.bx⟩
theorem con_z81_ok : con_z81.Ok := fun a b r h => fn_ok (fn := Tryz.f173) (code := code_z81) E_ok (by kernel_rfl) (by kernel_rfl) (by kernel_rfl) (Nat.le_of_ble_eq_true rfl) (good_z81 (.start a.1 a.2.1 a.2.2.1) r h)

/-! ### ratchet/ratchetbase.NodesErr -/
inductive P_z82 where
 | start (leaves0 : (List Int)) (nodes1 : (List api_Node))
 | p116 (leaves0 : (List Int)) (nodes1 : (List api_Node)) (i6 : Int)
noncomputable def place_z82 : P_z82 → List Bool
 | .start .. => []
 | .p116 .. => [false, false, true, false, true, true]
noncomputable def st_z82 : P_z82 → St E.S
 | .start leaves0 nodes1 => st0 25 [.sl 3 leaves0 false, .sl 208 nodes1 false] []
 | .p116 leaves0 nodes1 i6 => mkSt 25 [0, 1, 6] [.sl 3 leaves0 false, .sl 208 nodes1 false, .v (.int .i64 i6)] []
abbrev R_z82 : Type := ((Int × (Int × Unit)) × Unit)
noncomputable def res_z82 : Res E (Int × (Int × Unit)) Unit := { rows := [], flat := [], keep := 0, done := [0, 1], rl := (RdL.cons (Rd.int .i64) (RdL.cons (Rd.int .i64) RdL.nil)), rb := RdBL.nil }
noncomputable def run_z82 : P_z82 → Option R_z82
 | .start leaves0 nodes1 =>
   if (decide ((List.length nodes1 : Int) > (400 : Int))) = true then
     some (((0 : Int), ((8 : Int), ())), ())
   else
     run_z82 (.p116 leaves0 nodes1 (0 : Int))
 | .p116 leaves0 nodes1 i6 =>
   if (decide (i6 < (List.length nodes1 : Int))) = true then
     (run_z81 (.start leaves0 nodes1 i6)) >>= fun t1 =>
     if (t1.1.1 != (0 : Int)) = true then
       some ((i6, (t1.1.1, ())), ())
     else
       run_z82 (.p116 leaves0 nodes1 (IntKind.wrap .i64 (i6 + (1 : Int))))
   else
     some (((0 : Int), ((0 : Int), ())), ())
  partial_fixpoint
noncomputable def tab_z82 : List (Plc E P_z82) := [⟨116, [false, false, true, false, true, true], { slots := [0, 1, 6], rows := [], flat := [], keep := 0 }, ((List Int) × ((List api_Node) × (Int × Unit))), Unit, (RdL.cons (Rd.sl 3 false) (RdL.cons (Rd.sl 208 false) (RdL.cons (Rd.int .i64) RdL.nil))), RdBL.nil, fun a b => .p116 a.1 a.2.1 a.2.2.1⟩]
theorem tab_z82_ok : All (PlcOk 25 0 place_z82 st_z82) tab_z82 := ⟨⟨rfl, rfl, fun _ _ => rfl, fun _ _ => rfl⟩, trivial⟩
noncomputable def code_z82 : Code := Tryz.f139.body.getD .skip
noncomputable def spec_z82 : Spec E.S := (Con.add con_z81 noSpec)
theorem spec_z82_ok : SpecOk E spec_z82 := (Con.add_ok con_z81_ok noSpec_ok)
theorem good_z82 : ∀ pt r, run_z82 pt = some r → Good E Tryz.f139 code_z82 0 (res_z82.av r) (res_z82.bx r) (place_z82 pt) (st_z82 pt) := by
  refine run_z82.partial_correctness (fun pt r => Good E Tryz.f139 code_z82 0 (res_z82.av r) (res_z82.bx r) (place_z82 pt) (st_z82 pt)) ?_
  intro run' ih pt r hr
  cases pt <;> exact fn_step (spec := spec_z82) (wr := (mkWr [] [])) (l := tab_z82) (z := 25) (p := res_z82) E_ok tab_z82_ok.mem rfl spec_z82_ok ih (Eq.trans (by kernel_rfl) hr)
noncomputable def con_z82 : Con E := ⟨139, ((List Int) × ((List api_Node) × Unit)), Unit, (RwL.cons (Rw.sl 3) (RwL.cons (Rw.sl 208) RwL.nil)), RdBL.nil, 0, R_z82, fun a b => run_z82 (.start a.1 a.2.1), res_z82.av, res_z82.bx⟩
theorem con_z82_ok : con_z82.Ok := fun a b r h => fn_ok (fn := Tryz.f139) (code := code_z82) E_ok (by kernel_rfl) (by kernel_rfl) (by kernel_rfl) (Nat.le_of_ble_eq_true rfl) (good_z82 (.start a.1 a.2.1) r h)

/-! ### ratchet/ratchetbase.IsNode -/
inductive P_z83 where
 | start (nodes0 : (List api_Node)) (i1 : Int)
noncomputable def place_z83 : P_z83 → List Bool
 | .start .. => []
noncomputable def st_z83 : P_z83 → St E.S
 | .start nodes0 i1 => st0 10 [.sl 208 nodes0 false, .v (.int .i64 i1)] []
abbrev R_z83 : Type := ((Bool × Unit) × Unit)
noncomputable def res_z83 : Res E (Bool × Unit) Unit := { rows := [], flat := [], keep := 0, done := [0], rl := (RdL.cons Rd.bool RdL.nil), rb := RdBL.nil }
noncomputable def run_z83 : P_z83 → Option R_z83
 | .start nodes0 i1 =>
   (run_z12 (.start i1 (0 : Int) (IntKind.wrap .i64 ((List.length nodes0 : Int) - (1 : Int))))) >>= fun t1 =>
   some ((t1.1.1, ()), ())
noncomputable def tab_z83 : List (Plc E P_z83) := []
theorem tab_z83_ok : All (PlcOk 10 0 place_z83 st_z83) tab_z83 := trivial
noncomputable def code_z83 : Code := Tryz.f174.body.getD .skip
noncomputable def spec_z83 : Spec E.S := (Con.add con_z12 noSpec)
theorem spec_z83_ok : SpecOk E spec_z83 := (Con.add_ok con_z12_ok noSpec_ok)
theorem good_z83 : ∀ pt r, run_z83 pt = some r → Good E Tryz.f174 code_z83 0 (res_z83.av r) (res_z83.bx r) (place_z83 pt) (st_z83 pt) := by
  intro pt r hr
  cases pt <;> exact fn_step (spec := spec_z83) (wr := (mkWr [] [])) (l := tab_z83) (z := 10) (p := res_z83) (run' := fun _ => none) E_ok tab_z83_ok.mem rfl spec_z83_ok (fun _ _ h => by cases h) (Eq.trans (by kernel_rfl) hr)
noncomputable def con_z83 : Con E := ⟨174, ((List api_Node) × (Int × Unit)), Unit, (RwL.cons (Rw.sl 208) (RwL.cons (Rd.int .i64).w RwL.nil)), RdBL.nil, 0, R_z83, fun a b => run_z83 (.start a.1 a.2.1), res_z83.av, res_z83.bx⟩
theorem con_z83_ok : con_z83.Ok := fun a b r h => fn_ok (fn := Tryz.f174) (code := code_z83) E_ok (by kernel_rfl) (by kernel_rfl) (by kernel_rfl) (Nat.le_of_ble_eq_true rfl) (good_z83 (.start a.1 a.2.1) r h)

/-! ### ratchet/ratchetbase.OutputsErr -/
inductive P_z84 where
 | start (nodes0 : (List api_Node)) (l1 : (List api_Output))
 | p116 (nodes0 : (List api_Node)) (l1 : (List api_Output)) (i6 : Int)
 | p29844 (nodes0 : (List api_Node)) (l1 : (List api_Output)) (i6 : Int) (k7 : Int)
noncomputable def place_z84 : P_z84 → List Bool
 | .start .. => []
 | .p116 .. => [false, false, true, false, true, true]
 | .p29844 .. => [false, false, true, false, true, false, false, true, false, false, true, false, true, true]
noncomputable def st_z84 : P_z84 → St E.S
 | .start nodes0 l1 => st0 51 [.sl 208 nodes0 false, .sl 190 l1 false] []
 | .p116 nodes0 l1 i6 => mkSt 51 [0, 1, 6] [.sl 208 nodes0 false, .sl 190 l1 false, .v (.int .i64 i6)] []
 | .p29844 nodes0 l1 i6 k7 => mkSt 51 [0, 1, 6, 7] [.sl 208 nodes0 false, .sl 190 l1 false, .v (.int .i64 i6), .v (.int .i64 k7)] []
abbrev R_z84 : Type := ((Int × (Int × Unit)) × Unit)
noncomputable def res_z84 : Res E (Int × (Int × Unit)) Unit := { rows := [], flat := [], keep := 0, done := [0, 1], rl := (RdL.cons (Rd.int .i64) (RdL.cons (Rd.int .i64) RdL.nil)), rb := RdBL.nil }
noncomputable def run_z84 : P_z84 → Option R_z84
 | .start nodes0 l1 =>
   if (decide ((List.length l1 : Int) > (12 : Int))) = true then
     some (((0 : Int), ((8 : Int), ())), ())
   else
     run_z84 (.p116 nodes0 l1 (0 : Int))
 | .p116 nodes0 l1 i6 =>
   if (decide (i6 < (List.length l1 : Int))) = true then
     (idx l1 i6) >>= fun t1 =>
     (run_z74 (.start t1.Name)) >>= fun t2 =>
     if (!t2.1.1) = true then
       some ((i6, ((4 : Int), ())), ())
     else
       run_z84 (.p29844 nodes0 l1 i6 (0 : Int))
   else
     some (((0 : Int), ((0 : Int), ())), ())
 | .p29844 nodes0 l1 i6 k7 =>
   if (decide (k7 < i6)) = true then
     (idx l1 k7) >>= fun t1 =>
     (idx l1 i6) >>= fun t2 =>
     if (seq t1.Name t2.Name) = true then
       some ((i6, ((5 : Int), ())), ())
     else
       run_z84 (.p29844 nodes0 l1 i6 (IntKind.wrap .i64 (k7 + (1 : Int))))
   else
     (idx l1 i6) >>= fun t3 =>
     (run_z83 (.start nodes0 t3.Node)) >>= fun t4 =>
     if (!t4.1.1) = true then
       some ((i6, ((9 : Int), ())), ())
     else
       run_z84 (.p116 nodes0 l1 (IntKind.wrap .i64 (i6 + (1 : Int))))
  partial_fixpoint
noncomputable def tab_z84 : List (Plc E P_z84) := [⟨116, [false, false, true, false, true, true], { slots := [0, 1, 6], rows := [], flat := [], keep := 0 }, ((List api_Node) × ((List api_Output) × (Int × Unit))), Unit, (RdL.cons (Rd.sl 208 false) (RdL.cons (Rd.sl 190 false) (RdL.cons (Rd.int .i64) RdL.nil))), RdBL.nil, fun a b => .p116 a.1 a.2.1 a.2.2.1⟩,
  ⟨29844, [false, false, true, false, true, false, false, true, false, false, true, false, true, true], { slots := [0, 1, 6, 7], rows := [], flat := [], keep := 0 }, ((List api_Node) × ((List api_Output) × (Int × (Int × Unit)))), Unit, (RdL.cons (Rd.sl 208 false) (RdL.cons (Rd.sl 190 false) (RdL.cons (Rd.int .i64) (RdL.cons (Rd.int .i64) RdL.nil)))), RdBL.nil, fun a b => .p29844 a.1 a.2.1 a.2.2.1 a.2.2.2.1⟩]
theorem tab_z84_ok : All (PlcOk 51 0 place_z84 st_z84) tab_z84 := ⟨⟨rfl, rfl, fun _ _ => rfl, fun _ _ => rfl⟩, ⟨⟨rfl, rfl, fun _ _ => rfl, fun _ _ => rfl⟩, trivial⟩⟩
noncomputable def code_z84 : Code := Tryz.f143.body.getD .skip
noncomputable def spec_z84 : Spec E.S := (Con.add con_z83 (Con.add con_z74 noSpec))
theorem spec_z84_ok : SpecOk E spec_z84 := (Con.add_ok con_z83_ok (Con.add_ok con_z74_ok noSpec_ok))
theorem good_z84 : ∀ pt r, run_z84 pt = some r → Good E Tryz.f143 code_z84 0 (res_z84.av r) (res_z84.bx r) (place_z84 pt) (st_z84 pt) := by
  refine run_z84.partial_correctness (fun pt r => Good E Tryz.f143 code_z84 0 (res_z84.av r) (res_z84.bx r) (place_z84 pt) (st_z84 pt)) ?_
  intro run' ih pt r hr
  cases pt <;> exact fn_step (spec := spec_z84) (wr := (mkWr [] [])) (l := tab_z84) (z := 51) (p := res_z84) E_ok tab_z84_ok.mem rfl spec_z84_ok ih (Eq.trans (by kernel_rfl) hr)
noncomputable def con_z84 : Con E := ⟨143, ((List api_Node) × ((List api_Output) × Unit)), Unit, (RwL.cons (Rw.sl 208) (RwL.cons (Rw.sl 190) RwL.nil)), RdBL.nil, 0, R_z84, fun a b => run_z84 (.start a.1 a.2.1), res_z84.av, res_z84.bx⟩
theorem con_z84_ok : con_z84.Ok := fun a b r h => fn_ok (fn := Tryz.f143) (code := code_z84) E_ok (by kernel_rfl) (by kernel_rfl) (by kernel_rfl) (Nat.le_of_ble_eq_true rfl) (good_z84 (.start a.1 a.2.1) r h)

/-! ### ratchet/ratchetbase.IsCondition -/
inductive P_z85 where
 | start (nodes0 : (List api_Node)) (i1 : Int)
noncomputable def place_z85 : P_z85 → List Bool
 | .start .. => []
noncomputable def st_z85 : P_z85 → St E.S
 | .start nodes0 i1 => st0 16 [.sl 208 nodes0 false, .v (.int .i64 i1)] []
abbrev R_z85 : Type := ((Bool × Unit) × Unit)
noncomputable def res_z85 : Res E (Bool × Unit) Unit := { rows := [], flat := [], keep := 0, done := [0], rl := (RdL.cons Rd.bool RdL.nil), rb := RdBL.nil }
noncomputable def run_z85 : P_z85 → Option R_z85
 | .start nodes0 i1 =>
   (run_z83 (.start nodes0 i1)) >>= fun t1 =>
   if t1.1.1 = true then
     (idx nodes0 i1) >>= fun t2 =>
     some ((t2.Width == (1 : Int), ()), ())
   else
     some ((false, ()), ())
noncomputable def tab_z85 : List (Plc E P_z85) := []
theorem tab_z85_ok : All (PlcOk 16 0 place_z85 st_z85) tab_z85 := trivial
noncomputable def code_z85 : Code := Tryz.f141.body.getD .skip
noncomputable def spec_z85 : Spec E.S := (Con.add con_z83 noSpec)
theorem spec_z85_ok : SpecOk E spec_z85 := (Con.add_ok con_z83_ok noSpec_ok)
theorem good_z85 : ∀ pt r, run_z85 pt = some r → Good E Tryz.f141 code_z85 0 (res_z85.av r) (res_z85.bx r) (place_z85 pt) (st_z85 pt) := by
  intro pt r hr
  cases pt <;> exact fn_step (spec := spec_z85) (wr := (mkWr [] [])) (l := tab_z85) (z := 16) (p := res_z85) (run' := fun _ => none) E_ok tab_z85_ok.mem rfl spec_z85_ok (fun _ _ h => by cases h) (Eq.trans (by kernel_rfl) hr)
noncomputable def con_z85 : Con E := ⟨141, ((List api_Node) × (Int × Unit)), Unit, (RwL.cons (Rw.sl 208) (RwL.cons (Rd.int .i64).w RwL.nil)), RdBL.nil, 0, R_z85, fun a b => run_z85 (.start a.1 a.2.1), res_z85.av, res_z85.bx⟩
theorem con_z85_ok : con_z85.Ok := fun a b r h => fn_ok (fn := Tryz.f141) (code := code_z85) E_ok (by kernel_rfl) (by kernel_rfl) (by kernel_rfl) (Nat.le_of_ble_eq_true rfl) (good_z85 (.start a.1 a.2.1) r h)

/-! ### ratchet/ratchetbase.WritesErr -/
inductive P_z86 where
 | start (elements0 : (List api_Element)) (nodes1 : (List api_Node)) (l2 : (List api_Write))
 | p116 (elements0 : (List api_Element)) (nodes1 : (List api_Node)) (l2 : (List api_Write)) (i7 : Int)
 | p3731 (elements0 : (List api_Element)) (nodes1 : (List api_Node)) (l2 : (List api_Write)) (i7 : Int)
noncomputable def place_z86 : P_z86 → List Bool
 | .start .. => []
 | .p116 .. => [false, false, true, false, true, true]
 | .p3731 .. => [true, true, false, false, true, false, false, true, false, true, true]
noncomputable def st_z86 : P_z86 → St E.S
 | .start elements0 nodes1 l2 => st0 64 [.sl 82 elements0 false, .sl 208 nodes1 false, .sl 151 l2 false] []
 | .p116 elements0 nodes1 l2 i7 => mkSt 64 [0, 1, 2, 7] [.sl 82 elements0 false, .sl 208 nodes1 false, .sl 151 l2 false, .v (.int .i64 i7)] []
 | .p3731 elements0 nodes1 l2 i7 => mkSt 64 [0, 1, 2, 7] [.sl 82 elements0 false, .sl 208 nodes1 false, .sl 151 l2 false, .v (.int .i64 i7)] []
abbrev R_z86 : Type := ((Int × Unit) × Unit)
noncomputable def res_z86 : Res E (Int × Unit) Unit := { rows := [], flat := [], keep := 0, done := [0], rl := (RdL.cons (Rd.int .i64) RdL.nil), rb := RdBL.nil }
noncomputable def run_z86 : P_z86 → Option R_z86
 | .start elements0 nodes1 l2 =>
   if (decide ((List.length l2 : Int) > (16 : Int))) = true then
     some (((8 : Int), ()), ())
   else
     run_z86 (.p116 elements0 nodes1 l2 (0 : Int))
 | .p116 elements0 nodes1 l2 i7 =>
   if (decide (i7 < (List.length l2 : Int))) = true then
     (idx l2 i7) >>= fun t1 =>
     (run_z12 (.start t1.Element (0 : Int) (IntKind.wrap .i64 ((List.length elements0 : Int) - (1 : Int))))) >>= fun t2 =>
     if (!t2.1.1) = true then
       some (((6 : Int), ()), ())
     else
       (idx l2 i7) >>= fun t3 =>
       (run_z85 (.start nodes1 t3.When)) >>= fun t4 =>
       if (!t4.1.1) = true then
         some (((9 : Int), ()), ())
       else
         (idx l2 i7) >>= fun t5 =>
         (run_z83 (.start nodes1 t5.Value)) >>= fun t6 =>
         if (!t6.1.1) = true then
           some (((9 : Int), ()), ())
         else
           run_z86 (.p3731 elements0 nodes1 l2 i7)
   else
     some (((0 : Int), ()), ())
 | .p3731 elements0 nodes1 l2 i7 =>
   (idx l2 i7) >>= fun t1 =>
   (idx nodes1 t1.Value) >>= fun t2 =>
   (idx l2 i7) >>= fun t3 =>
   (idx elements0 t3.Element) >>= fun t4 =>
   if (t2.Width != t4.Width) = true then
     some (((25 : Int), ()), ())
   else
     run_z86 (.p116 elements0 nodes1 l2 (IntKind.wrap .i64 (i7 + (1 : Int))))
  partial_fixpoint
noncomputable def tab_z86 : List (Plc E P_z86) := [⟨116, [false, false, true, false, true, true], { slots := [0, 1, 2, 7], rows := [], flat := [], keep := 0 }, ((List api_Element) × ((List api_Node) × ((List api_Write) × (Int × Unit)))), Unit, (RdL.cons (Rd.sl 82 false) (RdL.cons (Rd.sl 208 false) (RdL.cons (Rd.sl 151 false) (RdL.cons (Rd.int .i64) RdL.nil)))), RdBL.nil, fun a b => .p116 a.1 a.2.1 a.2.2.1 a.2.2.2.1⟩,
  ⟨3731, [true, true, false, false, true, false, false, true, false, true, true], { slots := [0, 1, 2, 7], rows := [], flat := [], keep := 0 }, ((List api_Element) × ((List api_Node) × ((List api_Write) × (Int × Unit)))), Unit, (RdL.cons (Rd.sl 82 false) (RdL.cons (Rd.sl 208 false) (RdL.cons (Rd.sl 151 false) (RdL.cons (Rd.int .i64) RdL.nil)))), RdBL.nil, fun a b => .p3731 a.1 a.2.1 a.2.2.1 a.2.2.2.1⟩]
theorem tab_z86_ok : All (PlcOk 64 0 place_z86 st_z86) tab_z86 := ⟨⟨rfl, rfl, fun _ _ => rfl, fun _ _ => rfl⟩, ⟨⟨rfl, rfl, fun _ _ => rfl, fun _ _ => rfl⟩, trivial⟩⟩
noncomputable def code_z86 : Code := Tryz.f142.body.getD .skip
noncomputable def spec_z86 : Spec E.S := (Con.add con_z83 (Con.add con_z85 (Con.add con_z12 noSpec)))
theorem spec_z86_ok : SpecOk E spec_z86 := (Con.add_ok con_z83_ok (Con.add_ok con_z85_ok (Con.add_ok con_z12_ok noSpec_ok)))
theorem good_z86 : ∀ pt r, run_z86 pt = some r → Good E Tryz.f142 code_z86 0 (res_z86.av r) (res_z86.bx r) (place_z86 pt) (st_z86 pt) := by
  refine run_z86.partial_correctness (fun pt r => Good E Tryz.f142 code_z86 0 (res_z86.av r) (res_z86.bx r) (place_z86 pt) (st_z86 pt)) ?_
  intro run' ih pt r hr
  cases pt <;> exact fn_step (spec := spec_z86) (wr := (mkWr [] [])) (l := tab_z86) (z := 64) (p := res_z86) E_ok tab_z86_ok.mem rfl spec_z86_ok ih (Eq.trans (by kernel_rfl) hr)
noncomputable def con_z86 : Con E := ⟨142, ((List api_Element) × ((List api_Node) × ((List api_Write) × Unit))), Unit, (RwL.cons (Rw.sl 82) (RwL.cons (Rw.sl 208) (RwL.cons (Rw.sl 151) RwL.nil))), RdBL.nil, 0, R_z86, fun a b => run_z86 (.start a.1 a.2.1 a.2.2.1), res_z86.av, res_z86.bx⟩
theorem con_z86_ok : con_z86.Ok := fun a b r h => fn_ok (fn := Tryz.f142) (code := code_z86) E_ok (by kernel_rfl) (by kernel_rfl) (by kernel_rfl) (Nat.le_of_ble_eq_true rfl) (good_z86 (.start a.1 a.2.1 a.2.2.1) r h)

/-! ### ratchet/ratchetbase.Has -/
inductive P_z87 where
 | start (l0 : (List Int)) (n1 : Int)
 | p52 (l0 : (List Int)) (n1 : Int) (i5 : Int)
noncomputable def place_z87 : P_z87 → List Bool
 | .start .. => []
 | .p52 .. => [false, false, true, false, true]
noncomputable def st_z87 : P_z87 → St E.S
 | .start l0 n1 => st0 18 [.sl 3 l0 false, .v (.int .i64 n1)] []
 | .p52 l0 n1 i5 => mkSt 18 [0, 1, 5] [.sl 3 l0 false, .v (.int .i64 n1), .v (.int .i64 i5)] []
abbrev R_z87 : Type := ((Bool × Unit) × Unit)
noncomputable def res_z87 : Res E (Bool × Unit) Unit := { rows := [], flat := [], keep := 0, done := [0], rl := (RdL.cons Rd.bool RdL.nil), rb := RdBL.nil }
noncomputable def run_z87 : P_z87 → Option R_z87
 | .start l0 n1 =>
   run_z87 (.p52 l0 n1 (0 : Int))
 | .p52 l0 n1 i5 =>
   if (decide (i5 < (List.length l0 : Int))) = true then
     (idx l0 i5) >>= fun t1 =>
     if (t1 == n1) = true then
       some ((true, ()), ())
     else
       run_z87 (.p52 l0 n1 (IntKind.wrap .i64 (i5 + (1 : Int))))
   else
     some ((false, ()), ())
  partial_fixpoint
noncomputable def tab_z87 : List (Plc E P_z87) := [⟨52, [false, false, true, false, true], { slots := [0, 1, 5], rows := [], flat := [], keep := 0 }, ((List Int) × (Int × (Int × Unit))), Unit, (RdL.cons (Rd.sl 3 false) (RdL.cons (Rd.int .i64) (RdL.cons (Rd.int .i64) RdL.nil))), RdBL.nil, fun a b => .p52 a.1 a.2.1 a.2.2.1⟩]
theorem tab_z87_ok : All (PlcOk 18 0 place_z87 st_z87) tab_z87 := ⟨⟨rfl, rfl, fun _ _ => rfl, fun _ _ => rfl⟩, trivial⟩
noncomputable def code_z87 : Code := Tryz.f144.body.getD .skip
noncomputable def spec_z87 : Spec E.S := noSpec
theorem spec_z87_ok : SpecOk E spec_z87 := noSpec_ok
theorem good_z87 : ∀ pt r, run_z87 pt = some r → Good E Tryz.f144 code_z87 0 (res_z87.av r) (res_z87.bx r) (place_z87 pt) (st_z87 pt) := by
  refine run_z87.partial_correctness (fun pt r => Good E Tryz.f144 code_z87 0 (res_z87.av r) (res_z87.bx r) (place_z87 pt) (st_z87 pt)) ?_
  intro run' ih pt r hr
  cases pt <;> exact fn_step (spec := spec_z87) (wr := (mkWr [] [])) (l := tab_z87) (z := 18) (p := res_z87) E_ok tab_z87_ok.mem rfl spec_z87_ok ih (Eq.trans (by kernel_rfl) hr)
noncomputable def con_z87 : Con E := ⟨144, ((List Int) × (Int × Unit)), Unit, (RwL.cons (Rw.sl 3) (RwL.cons (Rd.int .i64).w RwL.nil)), RdBL.nil, 0, R_z87, fun a b => run_z87 (.start a.1 a.2.1), res_z87.av, res_z87.bx⟩
theorem con_z87_ok : con_z87.Ok := fun a b r h => fn_ok (fn := Tryz.f144) (code := code_z87) E_ok (by kernel_rfl) (by kernel_rfl) (by kernel_rfl) (Nat.le_of_ble_eq_true rfl) (good_z87 (.start a.1 a.2.1) r h)

/-! ### ratchet/ratchetbase.DesignErr -/
inductive P_z88 where
 | start (d0_0 : ByteArray) (d0_1 : (List api_Port)) (d0_2 : (List api_Element)) (d0_3 : (List api_Node)) (d0_4 : (List api_Rule)) (d0_5 : (List api_Output)) (d0_6 : (List api_Attribute))
 | p2036 (i10 : Int) (B0_0 : ByteArray) (B0_1 : (List api_Port)) (B0_2 : (List api_Element)) (B0_3 : (List api_Node)) (B0_4 : (List api_Rule)) (B0_5 : (List api_Output)) (B0_6 : (List api_Attribute))
 | p1042740 (i10 : Int) (k12 : Int) (B0_0 : ByteArray) (B0_1 : (List api_Port)) (B0_2 : (List api_Element)) (B0_3 : (List api_Node)) (B0_4 : (List api_Rule)) (B0_5 : (List api_Output)) (B0_6 : (List api_Attribute)) (B1_0 : ByteArray) (B1_1 : Int) (B1_2 : (List api_Write))
 | p16372 (i16 : Int) (B0_0 : ByteArray) (B0_1 : (List api_Port)) (B0_2 : (List api_Element)) (B0_3 : (List api_Node)) (B0_4 : (List api_Rule)) (B0_5 : (List api_Output)) (B0_6 : (List api_Attribute))
 | p1047847 (i16 : Int) (B0_0 : ByteArray) (B0_1 : (List api_Port)) (B0_2 : (List api_Element)) (B0_3 : (List api_Node)) (B0_4 : (List api_Rule)) (B0_5 : (List api_Output)) (B0_6 : (List api_Attribute)) (B1_0 : Int) (B1_1 : (List Int))
 | p8382780 (i16 : Int) (k18 : Int) (B0_0 : ByteArray) (B0_1 : (List api_Port)) (B0_2 : (List api_Element)) (B0_3 : (List api_Node)) (B0_4 : (List api_Rule)) (B0_5 : (List api_Output)) (B0_6 : (List api_Attribute)) (B1_0 : Int) (B1_1 : (List Int))
noncomputable def place_z88 : P_z88 → List Bool
 | .start .. => []
 | .p2036 .. => [false, false, true, false, true, true, true, true, true, true]
 | .p1042740 .. => [false, false, true, false, true, true, false, false, true, false, false, true, false, true, true, true, true, true, true]
 | .p16372 .. => [false, false, true, false, true, true, true, true, true, true, true, true, true]
 | .p1047847 .. => [true, true, true, false, false, true, false, false, true, false, true, true, true, true, true, true, true, true, true]
 | .p8382780 .. => [false, false, true, true, true, true, false, false, true, false, false, true, false, true, true, true, true, true, true, true, true, true]
noncomputable def st_z88 : P_z88 → St E.S
 | .start d0_0 d0_1 d0_2 d0_3 d0_4 d0_5 d0_6 => st0 185 [.agg [.v (.string d0_0), .sl 206 d0_1 false, .sl 82 d0_2 false, .sl 208 d0_3 false, .sl 85 d0_4 false, .sl 190 d0_5 false, .sl 146 d0_6 false]] []
 | .p2036 i10 B0_0 B0_1 B0_2 B0_3 B0_4 B0_5 B0_6 => mkSt 185 [1, 10] [.bp 0 0, .v (.int .i64 i10)] [.var 75 [.v (.string B0_0), .sl 206 B0_1 false, .sl 82 B0_2 false, .sl 208 B0_3 false, .sl 85 B0_4 false, .sl 190 B0_5 false, .sl 146 B0_6 false]]
 | .p1042740 i10 k12 B0_0 B0_1 B0_2 B0_3 B0_4 B0_5 B0_6 B1_0 B1_1 B1_2 => mkSt 185 [1, 10, 11, 12] [.bp 0 0, .v (.int .i64 i10), .bp 1 0, .v (.int .i64 k12)] [.var 75 [.v (.string B0_0), .sl 206 B0_1 false, .sl 82 B0_2 false, .sl 208 B0_3 false, .sl 85 B0_4 false, .sl 190 B0_5 false, .sl 146 B0_6 false], .var 85 [.v (.string B1_0), .v (.int .i64 B1_1), .sl 151 B1_2 false]]
 | .p16372 i16 B0_0 B0_1 B0_2 B0_3 B0_4 B0_5 B0_6 => mkSt 185 [1, 16] [.bp 0 0, .v (.int .i64 i16)] [.var 75 [.v (.string B0_0), .sl 206 B0_1 false, .sl 82 B0_2 false, .sl 208 B0_3 false, .sl 85 B0_4 false, .sl 190 B0_5 false, .sl 146 B0_6 false]]
 | .p1047847 i16 B0_0 B0_1 B0_2 B0_3 B0_4 B0_5 B0_6 B1_0 B1_1 => mkSt 185 [1, 16, 17] [.bp 0 0, .v (.int .i64 i16), .bp 1 0] [.var 75 [.v (.string B0_0), .sl 206 B0_1 false, .sl 82 B0_2 false, .sl 208 B0_3 false, .sl 85 B0_4 false, .sl 190 B0_5 false, .sl 146 B0_6 false], .var 146 [.v (.int .i64 B1_0), .sl 3 B1_1 false]]
 | .p8382780 i16 k18 B0_0 B0_1 B0_2 B0_3 B0_4 B0_5 B0_6 B1_0 B1_1 => mkSt 185 [1, 16, 17, 18] [.bp 0 0, .v (.int .i64 i16), .bp 1 0, .v (.int .i64 k18)] [.var 75 [.v (.string B0_0), .sl 206 B0_1 false, .sl 82 B0_2 false, .sl 208 B0_3 false, .sl 85 B0_4 false, .sl 190 B0_5 false, .sl 146 B0_6 false], .var 146 [.v (.int .i64 B1_0), .sl 3 B1_1 false]]
abbrev R_z88 : Type := ((Int × (Int × Unit)) × Unit)
noncomputable def res_z88 : Res E (Int × (Int × Unit)) Unit := { rows := [], flat := [], keep := 0, done := [0, 1], rl := (RdL.cons (Rd.int .i64) (RdL.cons (Rd.int .i64) RdL.nil)), rb := RdBL.nil }
noncomputable def run_z88 : P_z88 → Option R_z88
 | .start d0_0 d0_1 d0_2 d0_3 d0_4 d0_5 d0_6 =>
   (run_z74 (.start d0_0)) >>= fun t1 =>
   if (!t1.1.1) = true then
     some (((0 : Int), ((4 : Int), ())), ())
   else
     (run_z76 (.start d0_1)) >>= fun t2 =>
     if (t2.1.2.1 != (0 : Int)) = true then
       some ((t2.1.1, (t2.1.2.1, ())), ())
     else
       (run_z77 (.start d0_1 d0_2)) >>= fun t3 =>
       if (t3.1.2.1 != (0 : Int)) = true then
         some ((t3.1.1, (t3.1.2.1, ())), ())
       else
         (run_z78 (.start d0_0 d0_1 d0_2 d0_3 d0_4 d0_5 d0_6)) >>= fun t4 =>
         (run_z82 (.start t4.2.1 d0_3)) >>= fun t5 =>
         if (t5.1.2.1 != (0 : Int)) = true then
           some ((t5.1.1, (t5.1.2.1, ())), ())
         else
           if (decide ((List.length d0_4 : Int) > (16 : Int))) = true then
             some (((0 : Int), ((8 : Int), ())), ())
           else
             run_z88 (.p2036 (0 : Int) d0_0 d0_1 d0_2 d0_3 d0_4 d0_5 d0_6)
 | .p2036 i10 B0_0 B0_1 B0_2 B0_3 B0_4 B0_5 B0_6 =>
   if (decide (i10 < (List.length B0_4 : Int))) = true then
     (idx B0_4 i10) >>= fun t1 =>
     (run_z74 (.start t1.Name)) >>= fun t2 =>
     if (!t2.1.1) = true then
       some ((i10, ((4 : Int), ())), ())
     else
       run_z88 (.p1042740 i10 (0 : Int) B0_0 B0_1 B0_2 B0_3 B0_4 B0_5 B0_6 t1.Name t1.Guard t1.Writes)
   else
     (run_z84 (.start B0_3 B0_5)) >>= fun t3 =>
     if (t3.1.2.1 != (0 : Int)) = true then
       some ((t3.1.1, (t3.1.2.1, ())), ())
     else
       if (decide ((List.length B0_6 : Int) > (16 : Int))) = true then
         some (((0 : Int), ((8 : Int), ())), ())
       else
         run_z88 (.p16372 (0 : Int) B0_0 B0_1 B0_2 B0_3 B0_4 B0_5 B0_6)
 | .p1042740 i10 k12 B0_0 B0_1 B0_2 B0_3 B0_4 B0_5 B0_6 B1_0 B1_1 B1_2 =>
   if (decide (k12 < i10)) = true then
     (idx B0_4 k12) >>= fun t1 =>
     if (seq t1.Name B1_0) = true then
       some ((i10, ((5 : Int), ())), ())
     else
       run_z88 (.p1042740 i10 (IntKind.wrap .i64 (k12 + (1 : Int))) B0_0 B0_1 B0_2 B0_3 B0_4 B0_5 B0_6 B1_0 B1_1 B1_2)
   else
     (run_z85 (.start B0_3 B1_1)) >>= fun t2 =>
     if (!t2.1.1) = true then
       some ((i10, ((9 : Int), ())), ())
     else
       (run_z86 (.start B0_2 B0_3 B1_2)) >>= fun t3 =>
       if (t3.1.1 != (0 : Int)) = true then
         some ((i10, (t3.1.1, ())), ())
       else
         run_z88 (.p2036 (IntKind.wrap .i64 (i10 + (1 : Int))) B0_0 B0_1 B0_2 B0_3 B0_4 B0_5 B0_6)
 | .p16372 i16 B0_0 B0_1 B0_2 B0_3 B0_4 B0_5 B0_6 =>
   if (decide (i16 < (List.length B0_6 : Int))) = true then
     (idx B0_6 i16) >>= fun t1 =>
     (run_z12 (.start t1.Kind (0 : Int) (3 : Int))) >>= fun t2 =>
     if (!t2.1.1) = true then
       some ((i16, ((15 : Int), ())), ())
     else
       if ((List.length t1.Rules : Int) == (0 : Int)) = true then
         some ((i16, ((10 : Int), ())), ())
       else
         if (decide ((List.length t1.Rules : Int) > (16 : Int))) = true then
           some ((i16, ((10 : Int), ())), ())
         else
           run_z88 (.p1047847 i16 B0_0 B0_1 B0_2 B0_3 B0_4 B0_5 B0_6 t1.Kind t1.Rules)
   else
     some (((0 : Int), ((0 : Int), ())), ())
 | .p1047847 i16 B0_0 B0_1 B0_2 B0_3 B0_4 B0_5 B0_6 B1_0 B1_1 =>
   run_z88 (.p8382780 i16 (0 : Int) B0_0 B0_1 B0_2 B0_3 B0_4 B0_5 B0_6 B1_0 B1_1)
 | .p8382780 i16 k18 B0_0 B0_1 B0_2 B0_3 B0_4 B0_5 B0_6 B1_0 B1_1 =>
   if (decide (k18 < (List.length B1_1 : Int))) = true then
     (idx B1_1 k18) >>= fun t1 =>
     (run_z12 (.start t1 (0 : Int) (IntKind.wrap .i64 ((List.length B0_4 : Int) - (1 : Int))))) >>= fun t2 =>
     if (!t2.1.1) = true then
       some ((i16, ((6 : Int), ())), ())
     else
       (span (List.length B1_1) (0 : Int) k18) >>= fun t3 =>
       (idx B1_1 k18) >>= fun t4 =>
       (run_z87 (.start (cut B1_1 t3) t4)) >>= fun t5 =>
       if t5.1.1 = true then
         some ((i16, ((23 : Int), ())), ())
       else
         run_z88 (.p8382780 i16 (IntKind.wrap .i64 (k18 + (1 : Int))) B0_0 B0_1 B0_2 B0_3 B0_4 B0_5 B0_6 B1_0 B1_1)
   else
     run_z88 (.p16372 (IntKind.wrap .i64 (i16 + (1 : Int))) B0_0 B0_1 B0_2 B0_3 B0_4 B0_5 B0_6)
  partial_fixpoint
noncomputable def tab_z88 : List (Plc E P_z88) := [⟨2036, [false, false, true, false, true, true, true, true, true, true], { slots := [1, 10], rows := [], flat := [], keep := 0 }, (Unit × (Int × Unit)), ((ByteArray × ((List api_Port) × ((List api_Element) × ((List api_Node) × ((List api_Rule) × ((List api_Output) × ((List api_Attribute) × Unit))))))) × Unit), (RdL.cons (Rd.bp 0 0) (RdL.cons (Rd.int .i64) RdL.nil)), (RdBL.cons (RdB.var 75 (RdL.cons Rd.str (RdL.cons (Rd.sl 206 false) (RdL.cons (Rd.sl 82 false) (RdL.cons (Rd.sl 208 false) (RdL.cons (Rd.sl 85 false) (RdL.cons (Rd.sl 190 false) (RdL.cons (Rd.sl 146 false) RdL.nil)))))))) RdBL.nil), fun a b => .p2036 a.2.1 b.1.1 b.1.2.1 b.1.2.2.1 b.1.2.2.2.1 b.1.2.2.2.2.1 b.1.2.2.2.2.2.1 b.1.2.2.2.2.2.2.1⟩,
  ⟨1042740, [false, false, true, false, true, true, false, false, true, false, false, true, false, true, true, true, true, true, true], { slots := [1, 10, 11, 12], rows := [], flat := [], keep := 0 }, (Unit × (Int × (Unit × (Int × Unit)))), ((ByteArray × ((List api_Port) × ((List api_Element) × ((List api_Node) × ((List api_Rule) × ((List api_Output) × ((List api_Attribute) × Unit))))))) × ((ByteArray × (Int × ((List api_Write) × Unit))) × Unit)), (RdL.cons (Rd.bp 0 0) (RdL.cons (Rd.int .i64) (RdL.cons (Rd.bp 1 0) (RdL.cons (Rd.int .i64) RdL.nil)))), (RdBL.cons (RdB.var 75 (RdL.cons Rd.str (RdL.cons (Rd.sl 206 false) (RdL.cons (Rd.sl 82 false) (RdL.cons (Rd.sl 208 false) (RdL.cons (Rd.sl 85 false) (RdL.cons (Rd.sl 190 false) (RdL.cons (Rd.sl 146 false) RdL.nil)))))))) (RdBL.cons (RdB.var 85 (RdL.cons Rd.str (RdL.cons (Rd.int .i64) (RdL.cons (Rd.sl 151 false) RdL.nil)))) RdBL.nil)), fun a b => .p1042740 a.2.1 a.2.2.2.1 b.1.1 b.1.2.1 b.1.2.2.1 b.1.2.2.2.1 b.1.2.2.2.2.1 b.1.2.2.2.2.2.1 b.1.2.2.2.2.2.2.1 b.2.1.1 b.2.1.2.1 b.2.1.2.2.1⟩,
  ⟨16372, [false, false, true, false, true, true, true, true, true, true, true, true, true], { slots := [1, 16], rows := [], flat := [], keep := 0 }, (Unit × (Int × Unit)), ((ByteArray × ((List api_Port) × ((List api_Element) × ((List api_Node) × ((List api_Rule) × ((List api_Output) × ((List api_Attribute) × Unit))))))) × Unit), (RdL.cons (Rd.bp 0 0) (RdL.cons (Rd.int .i64) RdL.nil)), (RdBL.cons (RdB.var 75 (RdL.cons Rd.str (RdL.cons (Rd.sl 206 false) (RdL.cons (Rd.sl 82 false) (RdL.cons (Rd.sl 208 false) (RdL.cons (Rd.sl 85 false) (RdL.cons (Rd.sl 190 false) (RdL.cons (Rd.sl 146 false) RdL.nil)))))))) RdBL.nil), fun a b => .p16372 a.2.1 b.1.1 b.1.2.1 b.1.2.2.1 b.1.2.2.2.1 b.1.2.2.2.2.1 b.1.2.2.2.2.2.1 b.1.2.2.2.2.2.2.1⟩,
  ⟨1047847, [true, true, true, false, false, true, false, false, true, false, true, true, true, true, true, true, true, true, true], { slots := [1, 16, 17], rows := [], flat := [], keep := 0 }, (Unit × (Int × (Unit × Unit))), ((ByteArray × ((List api_Port) × ((List api_Element) × ((List api_Node) × ((List api_Rule) × ((List api_Output) × ((List api_Attribute) × Unit))))))) × ((Int × ((List Int) × Unit)) × Unit)), (RdL.cons (Rd.bp 0 0) (RdL.cons (Rd.int .i64) (RdL.cons (Rd.bp 1 0) RdL.nil))), (RdBL.cons (RdB.var 75 (RdL.cons Rd.str (RdL.cons (Rd.sl 206 false) (RdL.cons (Rd.sl 82 false) (RdL.cons (Rd.sl 208 false) (RdL.cons (Rd.sl 85 false) (RdL.cons (Rd.sl 190 false) (RdL.cons (Rd.sl 146 false) RdL.nil)))))))) (RdBL.cons (RdB.var 146 (RdL.cons (Rd.int .i64) (RdL.cons (Rd.sl 3 false) RdL.nil))) RdBL.nil)), fun a b => .p1047847 a.2.1 b.1.1 b.1.2.1 b.1.2.2.1 b.1.2.2.2.1 b.1.2.2.2.2.1 b.1.2.2.2.2.2.1 b.1.2.2.2.2.2.2.1 b.2.1.1 b.2.1.2.1⟩,
  ⟨8382780, [false, false, true, true, true, true, false, false, true, false, false, true, false, true, true, true, true, true, true, true, true, true], { slots := [1, 16, 17, 18], rows := [], flat := [], keep := 0 }, (Unit × (Int × (Unit × (Int × Unit)))), ((ByteArray × ((List api_Port) × ((List api_Element) × ((List api_Node) × ((List api_Rule) × ((List api_Output) × ((List api_Attribute) × Unit))))))) × ((Int × ((List Int) × Unit)) × Unit)), (RdL.cons (Rd.bp 0 0) (RdL.cons (Rd.int .i64) (RdL.cons (Rd.bp 1 0) (RdL.cons (Rd.int .i64) RdL.nil)))), (RdBL.cons (RdB.var 75 (RdL.cons Rd.str (RdL.cons (Rd.sl 206 false) (RdL.cons (Rd.sl 82 false) (RdL.cons (Rd.sl 208 false) (RdL.cons (Rd.sl 85 false) (RdL.cons (Rd.sl 190 false) (RdL.cons (Rd.sl 146 false) RdL.nil)))))))) (RdBL.cons (RdB.var 146 (RdL.cons (Rd.int .i64) (RdL.cons (Rd.sl 3 false) RdL.nil))) RdBL.nil)), fun a b => .p8382780 a.2.1 a.2.2.2.1 b.1.1 b.1.2.1 b.1.2.2.1 b.1.2.2.2.1 b.1.2.2.2.2.1 b.1.2.2.2.2.2.1 b.1.2.2.2.2.2.2.1 b.2.1.1 b.2.1.2.1⟩]
theorem tab_z88_ok : All (PlcOk 185 0 place_z88 st_z88) tab_z88 := ⟨⟨rfl, rfl, fun _ _ => rfl, fun _ _ => rfl⟩, ⟨⟨rfl, rfl, fun _ _ => rfl, fun _ _ => rfl⟩, ⟨⟨rfl, rfl, fun _ _ => rfl, fun _ _ => rfl⟩, ⟨⟨rfl, rfl, fun _ _ => rfl, fun _ _ => rfl⟩, ⟨⟨rfl, rfl, fun _ _ => rfl, fun _ _ => rfl⟩, trivial⟩⟩⟩⟩⟩
noncomputable def code_z88 : Code := Tryz.f91.body.getD .skip
noncomputable def spec_z88 : Spec E.S := (Con.add con_z87 (Con.add con_z12 (Con.add con_z86 (Con.add con_z85 (Con.add con_z84 (Con.add con_z82 (Con.add con_z78 (Con.add con_z77 (Con.add con_z76 (Con.add con_z74 noSpec))))))))))
theorem spec_z88_ok : SpecOk E spec_z88 := (Con.add_ok con_z87_ok (Con.add_ok con_z12_ok (Con.add_ok con_z86_ok (Con.add_ok con_z85_ok (Con.add_ok con_z84_ok (Con.add_ok con_z82_ok (Con.add_ok con_z78_ok (Con.add_ok con_z77_ok (Con.add_ok con_z76_ok (Con.add_ok con_z74_ok noSpec_ok))))))))))
theorem good_z88 : ∀ pt r, run_z88 pt = some r → Good E Tryz.f91 code_z88 0 (res_z88.av r) (res_z88.bx r) (place_z88 pt) (st_z88 pt) := by
  refine run_z88.partial_correctness (fun pt r => Good E Tryz.f91 code_z88 0 (res_z88.av r) (res_z88.bx r) (place_z88 pt) (st_z88 pt)) ?_
  intro run' ih pt r hr
  cases pt <;> exact fn_step (spec := spec_z88) (wr := (mkWr [] [])) (l := tab_z88) (z := 185) (p := res_z88) E_ok tab_z88_ok.mem rfl spec_z88_ok ih (Eq.trans (by kernel_rfl) hr)
noncomputable def con_z88 : Con E := ⟨91, ((ByteArray × ((List api_Port) × ((List api_Element) × ((List api_Node) × ((List api_Rule) × ((List api_Output) × ((List api_Attribute) × Unit))))))) × Unit), Unit, (RwL.cons (Rw.agg (RwL.cons Rd.str.w (RwL.cons (Rw.sl 206) (RwL.cons (Rw.sl 82) (RwL.cons (Rw.sl 208) (RwL.cons (Rw.sl 85) (RwL.cons (Rw.sl 190) (RwL.cons (Rw.sl 146) RwL.nil)))))))) RwL.nil), RdBL.nil, 0, R_z88, fun a b => run_z88 (.start a.1.1 a.1.2.1 a.1.2.2.1 a.1.2.2.2.1 a.1.2.2.2.2.1 a.1.2.2.2.2.2.1 a.1.2.2.2.2.2.2.1), res_z88.av, res_z88.bx⟩
theorem con_z88_ok : con_z88.Ok := fun a b r h => fn_ok (fn := Tryz.f91) (code := code_z88) E_ok (by kernel_rfl) (by kernel_rfl) (by kernel_rfl) (Nat.le_of_ble_eq_true rfl) (good_z88 (.start a.1.1 a.1.2.1 a.1.2.2.1 a.1.2.2.2.1 a.1.2.2.2.2.1 a.1.2.2.2.2.2.1 a.1.2.2.2.2.2.2.1) r h)

/-! ### ratchet/ratchetbase.IsDesign -/
inductive P_z89 where
 | start (d0_0 : ByteArray) (d0_1 : (List api_Port)) (d0_2 : (List api_Element)) (d0_3 : (List api_Node)) (d0_4 : (List api_Rule)) (d0_5 : (List api_Output)) (d0_6 : (List api_Attribute))
noncomputable def place_z89 : P_z89 → List Bool
 | .start .. => []
noncomputable def st_z89 : P_z89 → St E.S
 | .start d0_0 d0_1 d0_2 d0_3 d0_4 d0_5 d0_6 => st0 12 [.agg [.v (.string d0_0), .sl 206 d0_1 false, .sl 82 d0_2 false, .sl 208 d0_3 false, .sl 85 d0_4 false, .sl 190 d0_5 false, .sl 146 d0_6 false]] []
abbrev R_z89 : Type := ((Bool × Unit) × Unit)
noncomputable def res_z89 : Res E (Bool × Unit) Unit := { rows := [], flat := [], keep := 0, done := [0], rl := (RdL.cons Rd.bool RdL.nil), rb := RdBL.nil }
noncomputable def run_z89 : P_z89 → Option R_z89
 | .start d0_0 d0_1 d0_2 d0_3 d0_4 d0_5 d0_6 =>
   (run_z88 (.start d0_0 d0_1 d0_2 d0_3 d0_4 d0_5 d0_6)) >>= fun t1 =>
   some ((t1.1.2.1 == (0 : Int), ()), ())
noncomputable def tab_z89 : List (Plc E P_z89) := []
theorem tab_z89_ok : All (PlcOk 12 0 place_z89 st_z89) tab_z89 := trivial
noncomputable def code_z89 : Code := Tryz.f41.body.getD .skip
noncomputable def spec_z89 : Spec E.S := (Con.add con_z88 noSpec)
theorem spec_z89_ok : SpecOk E spec_z89 := (Con.add_ok con_z88_ok noSpec_ok)
theorem good_z89 : ∀ pt r, run_z89 pt = some r → Good E Tryz.f41 code_z89 0 (res_z89.av r) (res_z89.bx r) (place_z89 pt) (st_z89 pt) := by
  intro pt r hr
  cases pt <;> exact fn_step (spec := spec_z89) (wr := (mkWr [] [])) (l := tab_z89) (z := 12) (p := res_z89) (run' := fun _ => none) E_ok tab_z89_ok.mem rfl spec_z89_ok (fun _ _ h => by cases h) (Eq.trans (by kernel_rfl) hr)
noncomputable def con_z89 : Con E := ⟨41, ((ByteArray × ((List api_Port) × ((List api_Element) × ((List api_Node) × ((List api_Rule) × ((List api_Output) × ((List api_Attribute) × Unit))))))) × Unit), Unit, (RwL.cons (Rw.agg (RwL.cons Rd.str.w (RwL.cons (Rw.sl 206) (RwL.cons (Rw.sl 82) (RwL.cons (Rw.sl 208) (RwL.cons (Rw.sl 85) (RwL.cons (Rw.sl 190) (RwL.cons (Rw.sl 146) RwL.nil)))))))) RwL.nil), RdBL.nil, 0, R_z89, fun a b => run_z89 (.start a.1.1 a.1.2.1 a.1.2.2.1 a.1.2.2.2.1 a.1.2.2.2.2.1 a.1.2.2.2.2.2.1 a.1.2.2.2.2.2.2.1), res_z89.av, res_z89.bx⟩
theorem con_z89_ok : con_z89.Ok := fun a b r h => fn_ok (fn := Tryz.f41) (code := code_z89) E_ok (by kernel_rfl) (by kernel_rfl) (by kernel_rfl) (Nat.le_of_ble_eq_true rfl) (good_z89 (.start a.1.1 a.1.2.1 a.1.2.2.1 a.1.2.2.2.1 a.1.2.2.2.2.1 a.1.2.2.2.2.2.1 a.1.2.2.2.2.2.2.1) r h)

/-! ### ratchet/ratchetref31.Names -/
inductive P_z90 where
 | start
noncomputable def place_z90 : P_z90 → List Bool
 | .start => []
noncomputable def st_z90 : P_z90 → St E.S
 | .start => st0 2 [] []
abbrev R_z90 : Type := (((List ByteArray) × Unit) × Unit)
noncomputable def res_z90 : Res E ((List ByteArray) × Unit) Unit := { rows := [], flat := [], keep := 0, done := [0], rl := (RdL.cons (Rd.sl 9 true) RdL.nil), rb := RdBL.nil }
noncomputable def run_z90 : P_z90 → Option R_z90
 | .start =>
   some ((([(⟨#[112, 99]⟩ : ByteArray), (⟨#[104, 97, 108, 116, 101, 100]⟩ : ByteArray), (⟨#[118, 97, 108, 105, 100]⟩ : ByteArray), (⟨#[99, 111, 100, 101]⟩ : ByteArray), (⟨#[114, 48]⟩ : ByteArray), (⟨#[114, 49]⟩ : ByteArray), (⟨#[114, 50]⟩ : ByteArray), (⟨#[114, 51]⟩ : ByteArray), (⟨#[109, 48]⟩ : ByteArray), (⟨#[109, 49]⟩ : ByteArray), (⟨#[109, 50]⟩ : ByteArray), (⟨#[109, 51]⟩ : ByteArray), (⟨#[109, 52]⟩ : ByteArray), (⟨#[109, 53]⟩ : ByteArray), (⟨#[109, 54]⟩ : ByteArray), (⟨#[109, 55]⟩ : ByteArray)] : List ByteArray), ()), ())
noncomputable def tab_z90 : List (Plc E P_z90) := []
theorem tab_z90_ok : All (PlcOk 2 0 place_z90 st_z90) tab_z90 := trivial
noncomputable def code_z90 : Code := Tryz.f61.body.getD .skip
noncomputable def spec_z90 : Spec E.S := noSpec
theorem spec_z90_ok : SpecOk E spec_z90 := noSpec_ok
theorem good_z90 : ∀ pt r, run_z90 pt = some r → Good E Tryz.f61 code_z90 0 (res_z90.av r) (res_z90.bx r) (place_z90 pt) (st_z90 pt) := by
  intro pt r hr
  cases pt <;> exact fn_step (spec := spec_z90) (wr := (mkWr [] [])) (l := tab_z90) (z := 2) (p := res_z90) (run' := fun _ => none) E_ok tab_z90_ok.mem rfl spec_z90_ok (fun _ _ h => by cases h) (Eq.trans (by kernel_rfl) hr)
noncomputable def con_z90 : Con E := ⟨61, Unit, Unit, RwL.nil, RdBL.nil, 0, R_z90, fun a b => run_z90 (.start), res_z90.av, res_z90.bx⟩
theorem con_z90_ok : con_z90.Ok := fun a b r h => fn_ok (fn := Tryz.f61) (code := code_z90) E_ok (by kernel_rfl) (by kernel_rfl) (by kernel_rfl) (Nat.le_of_ble_eq_true rfl) (good_z90 (.start) r h)

/-! ### ratchet/ratchetlaw31.MachineProcessors -/
inductive P_z91 where
 | start (l0 : (List api_MachineCode)) (memory1 : (List Int)) (state2 : (List Int))
 | p15 (l0 : (List api_MachineCode)) (memory1 : (List Int)) (state2 : (List Int))
 | p63 (l0 : (List api_MachineCode)) (memory1 : (List Int))
 | p511 (memory1 : (List Int)) (e11 : Int) (c12 : Int) (B0_0 : ByteArray) (B0_1 : (List api_Element)) (B0_2 : (List api_Node)) (B0_3 : (List api_Rule))
 | p2047 (memory1 : (List Int)) (B0_0 : ByteArray) (B0_1 : (List api_Element)) (B0_2 : (List api_Node)) (B0_3 : (List api_Rule))
 | p32756 (memory1 : (List Int)) (i13 : Int) (B0_0 : ByteArray) (B0_1 : (List api_Element)) (B0_2 : (List api_Node)) (B0_3 : (List api_Rule))
 | p1048211 (memory1 : (List Int)) (i13 : Int) (init14 : Int) (B0_0 : ByteArray) (B0_1 : (List api_Element)) (B0_2 : (List api_Node)) (B0_3 : (List api_Rule))
noncomputable def place_z91 : P_z91 → List Bool
 | .start .. => []
 | .p15 .. => [true, true, true]
 | .p63 .. => [true, true, true, true, true]
 | .p511 .. => [true, true, true, true, true, true, true, true]
 | .p2047 .. => [true, true, true, true, true, true, true, true, true, true]
 | .p32756 .. => [false, false, true, false, true, true, true, true, true, true, true, true, true, true]
 | .p1048211 .. => [true, true, false, false, true, false, false, true, false, true, true, true, true, true, true, true, true, true, true]
noncomputable def st_z91 : P_z91 → St E.S
 | .start l0 memory1 state2 => st0 166 [.sl 40 l0 false, .sl 3 memory1 false, .sl 3 state2 false] []
 | .p15 l0 memory1 state2 => mkSt 166 [0, 1, 2] [.sl 40 l0 false, .sl 3 memory1 false, .sl 3 state2 false] []
 | .p63 l0 memory1 => mkSt 166 [0, 1] [.sl 40 l0 false, .sl 3 memory1 false] []
 | .p511 memory1 e11 c12 B0_0 B0_1 B0_2 B0_3 => mkSt 166 [1, 10, 11, 12] [.sl 3 memory1 false, .bp 0 0, .v (.int .i64 e11), .v (.int .i64 c12)] [.var 75 [.v (.string B0_0), .nl, .sl 82 B0_1 false, .sl 208 B0_2 false, .sl 85 B0_3 false, .nl, .nl]]
 | .p2047 memory1 B0_0 B0_1 B0_2 B0_3 => mkSt 166 [1, 10] [.sl 3 memory1 false, .bp 0 0] [.var 75 [.v (.string B0_0), .nl, .sl 82 B0_1 false, .sl 208 B0_2 false, .sl 85 B0_3 false, .nl, .nl]]
 | .p32756 memory1 i13 B0_0 B0_1 B0_2 B0_3 => mkSt 166 [1, 10, 13] [.sl 3 memory1 false, .bp 0 0, .v (.int .i64 i13)] [.var 75 [.v (.string B0_0), .nl, .sl 82 B0_1 false, .sl 208 B0_2 false, .sl 85 B0_3 false, .nl, .nl]]
 | .p1048211 memory1 i13 init14 B0_0 B0_1 B0_2 B0_3 => mkSt 166 [1, 10, 13, 14] [.sl 3 memory1 false, .bp 0 0, .v (.int .i64 i13), .v (.int .i64 init14)] [.var 75 [.v (.string B0_0), .nl, .sl 82 B0_1 false, .sl 208 B0_2 false, .sl 85 B0_3 false, .nl, .nl]]
abbrev R_z91 : Type := ((Bool × Unit) × Unit)
noncomputable def res_z91 : Res E (Bool × Unit) Unit := { rows := [], flat := [], keep := 0, done := [0], rl := (RdL.cons Rd.bool RdL.nil), rb := RdBL.nil }
noncomputable def run_z91 : P_z91 → Option R_z91
 | .start l0 memory1 state2 =>
   (some () : Option Unit) >>= fun t1 =>
   if (!true) = true then
     some ((false, ()), ())
   else
     if (decide ((List.length l0 : Int) > (20 : Int))) = true then
       some ((true, ()), ())
     else
       if (decide ((List.length memory1 : Int) > (10 : Int))) = true then
         some ((true, ()), ())
       else
         if (decide ((List.length state2 : Int) > (20 : Int))) = true then
           some ((true, ()), ())
         else
           run_z91 (.p15 l0 memory1 state2)
 | .p15 l0 memory1 state2 =>
   (run_z0 (.start state2)) >>= fun t1 =>
   (run_z9 (.start t1.2.1)) >>= fun t2 =>
   (run_z15 (.start state2)) >>= fun t3 =>
   if (t3.1.1 != (0 : Int)) = true then
     if (t2.1.2.1 != t3.1.1) = true then
       some ((false, ()), ())
     else
       (run_z17 (.start t2.1.1.1 t2.1.1.2.1 t2.1.1.2.2.1 t2.1.1.2.2.2.1 (0 : Int) (0 : Int) ([]) ([]))) >>= fun t4 =>
       if (!t4.1.1) = true then
         some ((false, ()), ())
       else
         if (t3.1.1 == (0 : Int)) = true then
           if (t2.1.2.1 != (0 : Int)) = true then
             some ((false, ()), ())
           else
             (run_z18 (.start state2)) >>= fun t5 =>
             (run_z17 (.start t2.1.1.1 t2.1.1.2.1 t2.1.1.2.2.1 t2.1.1.2.2.2.1 t5.1.1.1 t5.1.1.2.1 t5.2.1 t5.2.2.1)) >>= fun t6 =>
             if (!t6.1.1) = true then
               some ((false, ()), ())
             else
               run_z91 (.p63 l0 memory1)
         else
           run_z91 (.p63 l0 memory1)
   else
     if (t3.1.1 == (0 : Int)) = true then
       if (t2.1.2.1 != (0 : Int)) = true then
         some ((false, ()), ())
       else
         (run_z18 (.start state2)) >>= fun t7 =>
         (run_z17 (.start t2.1.1.1 t2.1.1.2.1 t2.1.1.2.2.1 t2.1.1.2.2.2.1 t7.1.1.1 t7.1.1.2.1 t7.2.1 t7.2.2.1)) >>= fun t8 =>
         if (!t8.1.1) = true then
           some ((false, ()), ())
         else
           run_z91 (.p63 l0 memory1)
     else
       run_z91 (.p63 l0 memory1)
 | .p63 l0 memory1 =>
   (run_z19 (.start l0)) >>= fun t1 =>
   (run_z0 (.start memory1)) >>= fun t2 =>
   (run_z61 (.start t1.2.1 t2.2.1)) >>= fun t3 =>
   (run_z66 (.start l0)) >>= fun t4 =>
   if (t4.1.1 == (0 : Int)) = true then
     (run_z68 (.start memory1)) >>= fun t5 =>
     run_z91 (.p511 memory1 t3.1.2.1 t5.1.1 t3.1.1.1 t3.1.1.2.2.1 t3.1.1.2.2.2.1 t3.1.1.2.2.2.2.1)
   else
     run_z91 (.p511 memory1 t3.1.2.1 t4.1.1 t3.1.1.1 t3.1.1.2.2.1 t3.1.1.2.2.2.1 t3.1.1.2.2.2.2.1)
 | .p511 memory1 e11 c12 B0_0 B0_1 B0_2 B0_3 =>
   if (c12 != (0 : Int)) = true then
     if (e11 == c12) = true then
       (run_z73 (.start B0_0 ([]) B0_1 B0_2 B0_3 ([]) ([]) (⟨#[]⟩ : ByteArray) ([]) ([]) ([]) ([]) ([]) ([]))) >>= fun t1 =>
       some ((t1.1.1, ()), ())
     else
       some ((false, ()), ())
   else
     if (e11 != (0 : Int)) = true then
       some ((false, ()), ())
     else
       (run_z89 (.start B0_0 ([]) B0_1 B0_2 B0_3 ([]) ([]))) >>= fun t2 =>
       if (!t2.1.1) = true then
         some ((false, ()), ())
       else
         if (decide ((IntKind.wrap .i64 ((IntKind.wrap .i64 ((0 : Int) + (0 : Int))) + (0 : Int))) > (0 : Int))) = true then
           some ((false, ()), ())
         else
           if ((List.length B0_1 : Int) != (16 : Int)) = true then
             some ((false, ()), ())
           else
             if ((List.length B0_3 : Int) != (2 : Int)) = true then
               some ((false, ()), ())
             else
               (idx B0_3 (0 : Int)) >>= fun t3 =>
               if (!(seq t3.Name (⟨#[102, 101, 116, 99, 104]⟩ : ByteArray))) = true then
                 some ((false, ()), ())
               else
                 (idx B0_3 (1 : Int)) >>= fun t4 =>
                 if (!(seq t4.Name (⟨#[101, 120, 101, 99, 117, 116, 101]⟩ : ByteArray))) = true then
                   some ((false, ()), ())
                 else
                   run_z91 (.p2047 memory1 B0_0 B0_1 B0_2 B0_3)
 | .p2047 memory1 B0_0 B0_1 B0_2 B0_3 =>
   run_z91 (.p32756 memory1 (0 : Int) B0_0 B0_1 B0_2 B0_3)
 | .p32756 memory1 i13 B0_0 B0_1 B0_2 B0_3 =>
   if (decide (i13 < (16 : Int))) = true then
     if (decide (i13 ≥ (8 : Int))) = true then
       (idx memory1 (IntKind.wrap .i64 (i13 - (8 : Int)))) >>= fun t1 =>
       run_z91 (.p1048211 memory1 i13 t1 B0_0 B0_1 B0_2 B0_3)
     else
       run_z91 (.p1048211 memory1 i13 (0 : Int) B0_0 B0_1 B0_2 B0_3)
   else
     some ((true, ()), ())
 | .p1048211 memory1 i13 init14 B0_0 B0_1 B0_2 B0_3 =>
   (idx B0_1 i13) >>= fun t1 =>
   (run_z90 .start) >>= fun t2 =>
   (idx t2.1.1 i13) >>= fun t3 =>
   (run_z10 .start) >>= fun t4 =>
   (idx t4.1.1 i13) >>= fun t5 =>
   if (!((seq t1.Name t3) && ((t1.Kind == (0 : Int)) && ((t1.Width == t5) && ((t1.Init == init14) && ((t1.Clock == (0 : Int)) && true)))))) = true then
     some ((false, ()), ())
   else
     run_z91 (.p32756 memory1 (IntKind.wrap .i64 (i13 + (1 : Int))) B0_0 B0_1 B0_2 B0_3)
  partial_fixpoint
noncomputable def tab_z91 : List (Plc E P_z91) := [⟨15, [true, true, true], { slots := [0, 1, 2], rows := [], flat := [], keep := 0 }, ((List api_MachineCode) × ((List Int) × ((List Int) × Unit))), Unit, (RdL.cons (Rd.sl 40 false) (RdL.cons (Rd.sl 3 false) (RdL.cons (Rd.sl 3 false) RdL.nil))), RdBL.nil, fun a b => .p15 a.1 a.2.1 a.2.2.1⟩,
  ⟨63, [true, true, true, true, true], { slots := [0, 1], rows := [], flat := [], keep := 0 }, ((List api_MachineCode) × ((List Int) × Unit)), Unit, (RdL.cons (Rd.sl 40 false) (RdL.cons (Rd.sl 3 false) RdL.nil)), RdBL.nil, fun a b => .p63 a.1 a.2.1⟩,
  ⟨511, [true, true, true, true, true, true, true, true], { slots := [1, 10, 11, 12], rows := [], flat := [], keep := 0 }, ((List Int) × (Unit × (Int × (Int × Unit)))), ((ByteArray × (Unit × ((List api_Element) × ((List api_Node) × ((List api_Rule) × (Unit × (Unit × Unit))))))) × Unit), (RdL.cons (Rd.sl 3 false) (RdL.cons (Rd.bp 0 0) (RdL.cons (Rd.int .i64) (RdL.cons (Rd.int .i64) RdL.nil)))), (RdBL.cons (RdB.var 75 (RdL.cons Rd.str (RdL.cons Rd.nl (RdL.cons (Rd.sl 82 false) (RdL.cons (Rd.sl 208 false) (RdL.cons (Rd.sl 85 false) (RdL.cons Rd.nl (RdL.cons Rd.nl RdL.nil)))))))) RdBL.nil), fun a b => .p511 a.1 a.2.2.1 a.2.2.2.1 b.1.1 b.1.2.2.1 b.1.2.2.2.1 b.1.2.2.2.2.1⟩,
  ⟨2047, [true, true, true, true, true, true, true, true, true, true], { slots := [1, 10], rows := [], flat := [], keep := 0 }, ((List Int) × (Unit × Unit)), ((ByteArray × (Unit × ((List api_Element) × ((List api_Node) × ((List api_Rule) × (Unit × (Unit × Unit))))))) × Unit), (RdL.cons (Rd.sl 3 false) (RdL.cons (Rd.bp 0 0) RdL.nil)), (RdBL.cons (RdB.var 75 (RdL.cons Rd.str (RdL.cons Rd.nl (RdL.cons (Rd.sl 82 false) (RdL.cons (Rd.sl 208 false) (RdL.cons (Rd.sl 85 false) (RdL.cons Rd.nl (RdL.cons Rd.nl RdL.nil)))))))) RdBL.nil), fun a b => .p2047 a.1 b.1.1 b.1.2.2.1 b.1.2.2.2.1 b.1.2.2.2.2.1⟩,
  ⟨32756, [false, false, true, false, true, true, true, true, true, true, true, true, true, true], { slots := [1, 10, 13], rows := [], flat := [], keep := 0 }, ((List Int) × (Unit × (Int × Unit))), ((ByteArray × (Unit × ((List api_Element) × ((List api_Node) × ((List api_Rule) × (Unit × (Unit × Unit))))))) × Unit), (RdL.cons (Rd.sl 3 false) (RdL.cons (Rd.bp 0 0) (RdL.cons (Rd.int .i64) RdL.nil))), (RdBL.cons (RdB.var 75 (RdL.cons Rd.str (RdL.cons Rd.nl (RdL.cons (Rd.sl 82 false) (RdL.cons (Rd.sl 208 false) (RdL.cons (Rd.sl 85 false) (RdL.cons Rd.nl (RdL.cons Rd.nl RdL.nil)))))))) RdBL.nil), fun a b => .p32756 a.1 a.2.2.1 b.1.1 b.1.2.2.1 b.1.2.2.2.1 b.1.2.2.2.2.1⟩,
  ⟨1048211, [true, true, false, false, true, false, false, true, false, true, true, true, true, true, true, true, true, true, true], { slots := [1, 10, 13, 14], rows := [], flat := [], keep := 0 }, ((List Int) × (Unit × (Int × (Int × Unit)))), ((ByteArray × (Unit × ((List api_Element) × ((List api_Node) × ((List api_Rule) × (Unit × (Unit × Unit))))))) × Unit), (RdL.cons (Rd.sl 3 false) (RdL.cons (Rd.bp 0 0) (RdL.cons (Rd.int .i64) (RdL.cons (Rd.int .i64) RdL.nil)))), (RdBL.cons (RdB.var 75 (RdL.cons Rd.str (RdL.cons Rd.nl (RdL.cons (Rd.sl 82 false) (RdL.cons (Rd.sl 208 false) (RdL.cons (Rd.sl 85 false) (RdL.cons Rd.nl (RdL.cons Rd.nl RdL.nil)))))))) RdBL.nil), fun a b => .p1048211 a.1 a.2.2.1 a.2.2.2.1 b.1.1 b.1.2.2.1 b.1.2.2.2.1 b.1.2.2.2.2.1⟩]
theorem tab_z91_ok : All (PlcOk 166 0 place_z91 st_z91) tab_z91 := ⟨⟨rfl, rfl, fun _ _ => rfl, fun _ _ => rfl⟩, ⟨⟨rfl, rfl, fun _ _ => rfl, fun _ _ => rfl⟩, ⟨⟨rfl, rfl, fun _ _ => rfl, fun _ _ => rfl⟩, ⟨⟨rfl, rfl, fun _ _ => rfl, fun _ _ => rfl⟩, ⟨⟨rfl, rfl, fun _ _ => rfl, fun _ _ => rfl⟩, ⟨⟨rfl, rfl, fun _ _ => rfl, fun _ _ => rfl⟩, trivial⟩⟩⟩⟩⟩⟩
noncomputable def code_z91 : Code := Tryz.f10.body.getD .skip
noncomputable def spec_z91 : Spec E.S := (Con.add con_z10 (Con.add con_z90 (Con.add con_z89 (Con.add con_z73 (Con.add con_z68 (Con.add con_z66 (Con.add con_z61 (Con.add con_z19 (Con.add con_z18 (Con.add con_z17 (Con.add con_z15 (Con.add con_z9 (Con.add con_z0 (Con.add con_ratchetlaw31_awake noSpec))))))))))))))
theorem spec_z91_ok : SpecOk E spec_z91 := (Con.add_ok con_z10_ok (Con.add_ok con_z90_ok (Con.add_ok con_z89_ok (Con.add_ok con_z73_ok (Con.add_ok con_z68_ok (Con.add_ok con_z66_ok (Con.add_ok con_z61_ok (Con.add_ok con_z19_ok (Con.add_ok con_z18_ok (Con.add_ok con_z17_ok (Con.add_ok con_z15_ok (Con.add_ok con_z9_ok (Con.add_ok con_z0_ok (Con.add_ok con_ratchetlaw31_awake_ok noSpec_ok))))))))))))))
theorem good_z91 : ∀ pt r, run_z91 pt = some r → Good E Tryz.f10 code_z91 0 (res_z91.av r) (res_z91.bx r) (place_z91 pt) (st_z91 pt) := by
  refine run_z91.partial_correctness (fun pt r => Good E Tryz.f10 code_z91 0 (res_z91.av r) (res_z91.bx r) (place_z91 pt) (st_z91 pt)) ?_
  intro run' ih pt r hr
  cases pt <;> exact fn_step (spec := spec_z91) (wr := (mkWr [] [])) (l := tab_z91) (z := 166) (p := res_z91) E_ok tab_z91_ok.mem rfl spec_z91_ok ih (Eq.trans (by kernel_rfl) hr)
noncomputable def con_z91 : Con E := ⟨10, ((List api_MachineCode) × ((List Int) × ((List Int) × Unit))), Unit, (RwL.cons (Rw.sl 40) (RwL.cons (Rw.sl 3) (RwL.cons (Rw.sl 3) RwL.nil))), RdBL.nil, 0, R_z91, fun a b => run_z91 (.start a.1 a.2.1 a.2.2.1), res_z91.av, res_z91.bx⟩
theorem con_z91_ok : con_z91.Ok := fun a b r h => fn_ok (fn := Tryz.f10) (code := code_z91) E_ok (by kernel_rfl) (by kernel_rfl) (by kernel_rfl) (Nat.le_of_ble_eq_true rfl) (good_z91 (.start a.1 a.2.1 a.2.2.1) r h)

end Go.Proofs.YtjededkgblbamaaGreatDoor.Ev.F
