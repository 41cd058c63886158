/- PRINTED by wip/gen/evp.py: what the functions come to. -/
import Derived.Test.YtcgkjbglijganaaDoorF1
set_option linter.unusedVariables false
namespace Go.Proofs.YtcgkjbglijganaaDoor.Ev.F
open Go.Proofs Go.Proofs.YtcgkjbglijganaaDoor.Ev

/-! ### ratchet/ratchetlaw01.BitsGray -/
inductive P_ratchetlaw01_BitsGray where
 | start (a0_0 : Int) (a0_1 : Int)
 | p127 (B0_0 : Int) (B0_1 : Int) (B1_0 : Int) (B1_1 : Int)
 | p1023 (B0_0 : Int) (B0_1 : Int) (B1_0 : Int) (B1_1 : Int) (B2_0 : Int) (B2_1 : Int)
 | p65524 (count12 : Int) (k15 : Int) (B0_0 : Int) (B0_1 : Int) (B1 : (List Int)) (B2 : (List Int))
noncomputable def place_ratchetlaw01_BitsGray : P_ratchetlaw01_BitsGray → List Bool
 | .start .. => []
 | .p127 .. => [true, true, true, true, true, true]
 | .p1023 .. => [true, true, true, true, true, true, true, true, true]
 | .p65524 .. => [false, false, true, false, true, true, true, true, true, true, true, true, true, true, true]
noncomputable def st_ratchetlaw01_BitsGray : P_ratchetlaw01_BitsGray → St E.S
 | .start a0_0 a0_1 => st0 133 [.agg [.v (.int .i64 a0_0), .v (.int .i64 a0_1)]] []
 | .p127 B0_0 B0_1 B1_0 B1_1 => mkSt 133 [1, 3] [.bp 0 0, .bp 1 0] [.var 23 [.v (.int .i64 B0_0), .v (.int .i64 B0_1)], .var 23 [.v (.int .i64 B1_0), .v (.int .i64 B1_1)]]
 | .p1023 B0_0 B0_1 B1_0 B1_1 B2_0 B2_1 => mkSt 133 [1, 3, 10] [.bp 0 0, .bp 1 0, .bp 2 0] [.var 23 [.v (.int .i64 B0_0), .v (.int .i64 B0_1)], .var 23 [.v (.int .i64 B1_0), .v (.int .i64 B1_1)], .var 23 [.v (.int .i64 B2_0), .v (.int .i64 B2_1)]]
 | .p65524 count12 k15 B0_0 B0_1 B1 B2 => mkSt 133 [1, 12, 13, 14, 15] [.bp 0 0, .v (.int .i64 count12), .rw 1, .rw 2, .v (.int .i64 k15)] [.var 23 [.v (.int .i64 B0_0), .v (.int .i64 B0_1)], .row 3 B1 false, .row 3 B2 false]
abbrev R_ratchetlaw01_BitsGray : Type := ((Bool × Unit) × Unit)
noncomputable def res_ratchetlaw01_BitsGray : Res E (Bool × Unit) Unit := { rows := [], flat := [], keep := 0, rl := (RdL.cons Rd.bool RdL.nil), rb := RdBL.nil }
noncomputable def run_ratchetlaw01_BitsGray : P_ratchetlaw01_BitsGray → Option R_ratchetlaw01_BitsGray
 | .start a0_0 a0_1 =>
   (some () : Option Unit) >>= fun t1 =>
   if (!true) = true then
     some ((false, ()), ())
   else
     (run_bits_GrayOf (.start a0_0 a0_1)) >>= fun t2 =>
     (run_bits_FromGray (.start a0_0 a0_1)) >>= fun t3 =>
     (run_ratchetref01_BitsErr (.start a0_0 a0_1)) >>= fun t4 =>
     if (t4.1.1 != (0 : Int)) = true then
       if (t2.1.2.1 == t4.1.1) = true then
         if (t3.1.2.1 == t4.1.1) = true then
           if ((t2.1.1.1 == (0 : Int)) && ((t2.1.1.2.1 == (0 : Int)) && true)) = true then
             some ((((t3.1.1.1 == (0 : Int)) && ((t3.1.1.2.1 == (0 : Int)) && true)), ()), ())
           else
             some ((false, ()), ())
         else
           some ((false, ()), ())
       else
         some ((false, ()), ())
     else
       if (t2.1.2.1 != (0 : Int)) = true then
         some ((false, ()), ())
       else
         if (t3.1.2.1 != (0 : Int)) = true then
           some ((false, ()), ())
         else
           (run_ratchetref01_Gray (.start a0_0 a0_1)) >>= fun t5 =>
           if (!((t2.1.1.1 == t5.1.1.1) && ((t2.1.1.2.1 == t5.1.1.2.1) && true))) = true then
             some ((false, ()), ())
           else
             (run_ratchetref01_Ungray (.start a0_0 a0_1)) >>= fun t6 =>
             if (!((t3.1.1.1 == t6.1.1.1) && ((t3.1.1.2.1 == t6.1.1.2.1) && true))) = true then
               some ((false, ()), ())
             else
               run_ratchetlaw01_BitsGray (.p127 a0_0 a0_1 t2.1.1.1 t2.1.1.2.1)
 | .p127 B0_0 B0_1 B1_0 B1_1 =>
   (run_bits_FromGray (.start B1_0 B1_1)) >>= fun t1 =>
   (run_ratchetbase_Power (.start B0_0)) >>= fun t2 =>
   (run_ratchetbase_Mod (.start (IntKind.wrap .i64 (B0_1 + (1 : Int))) t2.1.1)) >>= fun t3 =>
   (run_ratchetlaw01_of (.start B0_0 t3.1.1)) >>= fun t4 =>
   (run_bits_GrayOf (.start t4.1.1.1 t4.1.1.2.1)) >>= fun t5 =>
   if (t1.1.2.1 != (0 : Int)) = true then
     some ((false, ()), ())
   else
     if (!((t1.1.1.1 == B0_0) && ((t1.1.1.2.1 == B0_1) && true))) = true then
       some ((false, ()), ())
     else
       if (t5.1.2.1 != (0 : Int)) = true then
         some ((false, ()), ())
       else
         (run_ratchetref01_BitsErr (.start t5.1.1.1 t5.1.1.2.1)) >>= fun t6 =>
         if (t6.1.1 != (0 : Int)) = true then
           some ((false, ()), ())
         else
           run_ratchetlaw01_BitsGray (.p1023 B0_0 B0_1 B1_0 B1_1 t5.1.1.1 t5.1.1.2.1)
 | .p1023 B0_0 B0_1 B1_0 B1_1 B2_0 B2_1 =>
   (run_ratchetbase_BitsOf (.start B1_1 B0_0)) >>= fun t1 =>
   (run_ratchetbase_BitsOf (.start B2_1 B0_0)) >>= fun t2 =>
   run_ratchetlaw01_BitsGray (.p65524 (0 : Int) (0 : Int) B0_0 B0_1 t1.2.1 t2.2.1)
 | .p65524 count12 k15 B0_0 B0_1 B1 B2 =>
   if (decide (k15 < B0_0)) = true then
     if (decide ((0 : Int) ≤ k15) && decide (k15 < (List.length B1 : Int))) = true then
       (idx B1 k15) >>= fun t1 =>
       if (decide ((0 : Int) ≤ k15) && decide (k15 < (List.length B2 : Int))) = true then
         (idx B2 k15) >>= fun t2 =>
         (run_ratchetbase_Bit (.start (t1 != t2))) >>= fun t3 =>
         run_ratchetlaw01_BitsGray (.p65524 (IntKind.wrap .i64 (count12 + t3.1.1)) (IntKind.wrap .i64 (k15 + (1 : Int))) B0_0 B0_1 B1 B2)
       else none
     else none
   else
     some ((count12 == (1 : Int), ()), ())
  partial_fixpoint
noncomputable def tab_ratchetlaw01_BitsGray : List (Plc E P_ratchetlaw01_BitsGray) := [⟨127, [true, true, true, true, true, true], { slots := [1, 3], rows := [], flat := [], keep := 0 }, (Unit × (Unit × Unit)), ((Int × (Int × Unit)) × ((Int × (Int × Unit)) × Unit)), (RdL.cons (Rd.bp 0 0) (RdL.cons (Rd.bp 1 0) RdL.nil)), (RdBL.cons (RdB.var 23 (RdL.cons (Rd.int .i64) (RdL.cons (Rd.int .i64) RdL.nil))) (RdBL.cons (RdB.var 23 (RdL.cons (Rd.int .i64) (RdL.cons (Rd.int .i64) RdL.nil))) RdBL.nil)), fun a b => .p127 b.1.1 b.1.2.1 b.2.1.1 b.2.1.2.1⟩,
  ⟨1023, [true, true, true, true, true, true, true, true, true], { slots := [1, 3, 10], rows := [], flat := [], keep := 0 }, (Unit × (Unit × (Unit × Unit))), ((Int × (Int × Unit)) × ((Int × (Int × Unit)) × ((Int × (Int × Unit)) × Unit))), (RdL.cons (Rd.bp 0 0) (RdL.cons (Rd.bp 1 0) (RdL.cons (Rd.bp 2 0) RdL.nil))), (RdBL.cons (RdB.var 23 (RdL.cons (Rd.int .i64) (RdL.cons (Rd.int .i64) RdL.nil))) (RdBL.cons (RdB.var 23 (RdL.cons (Rd.int .i64) (RdL.cons (Rd.int .i64) RdL.nil))) (RdBL.cons (RdB.var 23 (RdL.cons (Rd.int .i64) (RdL.cons (Rd.int .i64) RdL.nil))) RdBL.nil))), fun a b => .p1023 b.1.1 b.1.2.1 b.2.1.1 b.2.1.2.1 b.2.2.1.1 b.2.2.1.2.1⟩,
  ⟨65524, [false, false, true, false, true, true, true, true, true, true, true, true, true, true, true], { slots := [1, 12, 13, 14, 15], rows := [], flat := [], keep := 0 }, (Unit × (Int × (Unit × (Unit × (Int × Unit))))), ((Int × (Int × Unit)) × ((List Int) × ((List Int) × Unit))), (RdL.cons (Rd.bp 0 0) (RdL.cons (Rd.int .i64) (RdL.cons (Rd.rw 1) (RdL.cons (Rd.rw 2) (RdL.cons (Rd.int .i64) RdL.nil))))), (RdBL.cons (RdB.var 23 (RdL.cons (Rd.int .i64) (RdL.cons (Rd.int .i64) RdL.nil))) (RdBL.cons (RdB.row 3 false) (RdBL.cons (RdB.row 3 false) RdBL.nil))), fun a b => .p65524 a.2.1 a.2.2.2.2.1 b.1.1 b.1.2.1 b.2.1 b.2.2.1⟩]
theorem tab_ratchetlaw01_BitsGray_ok : All (PlcOk 133 0 place_ratchetlaw01_BitsGray st_ratchetlaw01_BitsGray) tab_ratchetlaw01_BitsGray := ⟨⟨rfl, rfl, fun _ _ => rfl, fun _ _ => rfl⟩, ⟨⟨rfl, rfl, fun _ _ => rfl, fun _ _ => rfl⟩, ⟨⟨rfl, rfl, fun _ _ => rfl, fun _ _ => rfl⟩, trivial⟩⟩⟩
noncomputable def spec_ratchetlaw01_BitsGray : Spec E.S := (Con.add con_ratchetbase_Bit (Con.add con_ratchetbase_BitsOf (Con.add con_ratchetlaw01_of (Con.add con_ratchetbase_Mod (Con.add con_ratchetbase_Power (Con.add con_ratchetref01_Ungray (Con.add con_ratchetref01_Gray (Con.add con_ratchetref01_BitsErr (Con.add con_bits_FromGray (Con.add con_bits_GrayOf (Con.add con_ratchetlaw01_awake noSpec)))))))))))
theorem spec_ratchetlaw01_BitsGray_ok : SpecOk E spec_ratchetlaw01_BitsGray := (Con.add_ok con_ratchetbase_Bit_ok (Con.add_ok con_ratchetbase_BitsOf_ok (Con.add_ok con_ratchetlaw01_of_ok (Con.add_ok con_ratchetbase_Mod_ok (Con.add_ok con_ratchetbase_Power_ok (Con.add_ok con_ratchetref01_Ungray_ok (Con.add_ok con_ratchetref01_Gray_ok (Con.add_ok con_ratchetref01_BitsErr_ok (Con.add_ok con_bits_FromGray_ok (Con.add_ok con_bits_GrayOf_ok (Con.add_ok con_ratchetlaw01_awake_ok noSpec_ok)))))))))))
noncomputable def code_ratchetlaw01_BitsGray : Code := Tryd.f8.body.getD .skip
theorem good_ratchetlaw01_BitsGray : ∀ pt r, run_ratchetlaw01_BitsGray pt = some r → Good E Tryd.f8 code_ratchetlaw01_BitsGray 0 (res_ratchetlaw01_BitsGray.av r) (res_ratchetlaw01_BitsGray.bx r) (place_ratchetlaw01_BitsGray pt) (st_ratchetlaw01_BitsGray pt) := by
  refine run_ratchetlaw01_BitsGray.partial_correctness (fun pt r => Good E Tryd.f8 code_ratchetlaw01_BitsGray 0 (res_ratchetlaw01_BitsGray.av r) (res_ratchetlaw01_BitsGray.bx r) (place_ratchetlaw01_BitsGray pt) (st_ratchetlaw01_BitsGray pt)) ?_
  intro run' ih pt r hr
  cases pt <;> exact fn_step (spec := spec_ratchetlaw01_BitsGray) (wr := (fun i => mem i [])) (l := tab_ratchetlaw01_BitsGray) (z := 133) (p := res_ratchetlaw01_BitsGray) E_ok tab_ratchetlaw01_BitsGray_ok.mem rfl spec_ratchetlaw01_BitsGray_ok ih (Eq.trans (by kernel_rfl) hr)
noncomputable def con_ratchetlaw01_BitsGray : Con E := ⟨8, ((Int × (Int × Unit)) × Unit), Unit, (RwL.cons (Rw.agg (RwL.cons (Rd.int .i64).w (RwL.cons (Rd.int .i64).w RwL.nil))) RwL.nil), RdBL.nil, 0, R_ratchetlaw01_BitsGray, fun a b => run_ratchetlaw01_BitsGray (.start a.1.1 a.1.2.1), res_ratchetlaw01_BitsGray.av, res_ratchetlaw01_BitsGray.bx⟩
theorem con_ratchetlaw01_BitsGray_ok : con_ratchetlaw01_BitsGray.Ok := fun a b r h => fn_ok (fn := Tryd.f8) (code := code_ratchetlaw01_BitsGray) E_ok (by kernel_rfl) (by kernel_rfl) (by kernel_rfl) (Nat.le_of_ble_eq_true rfl) (good_ratchetlaw01_BitsGray (.start a.1.1 a.1.2.1) r h)

/-! ### math/bits.OnesCount64 -/
inductive P_math_bits_OnesCount64 where
 | start (x0 : Int)
noncomputable def place_math_bits_OnesCount64 : P_math_bits_OnesCount64 → List Bool
 | .start .. => []
noncomputable def st_math_bits_OnesCount64 : P_math_bits_OnesCount64 → St E.S
 | .start x0 => st0 35 [.v (.int .u64 x0)] []
abbrev R_math_bits_OnesCount64 : Type := ((Int × Unit) × Unit)
noncomputable def res_math_bits_OnesCount64 : Res E (Int × Unit) Unit := { rows := [], flat := [], keep := 0, rl := (RdL.cons (Rd.int .i64) RdL.nil), rb := RdBL.nil }
noncomputable def run_math_bits_OnesCount64 : P_math_bits_OnesCount64 → Option R_math_bits_OnesCount64
 | .start x0 =>
   if (decide ((0 : Int) ≤ (1 : Int))) = true then
     if (decide ((0 : Int) ≤ (2 : Int))) = true then
       if (decide ((0 : Int) ≤ (4 : Int))) = true then
         if (decide ((0 : Int) ≤ (8 : Int))) = true then
           if (decide ((0 : Int) ≤ (16 : Int))) = true then
             if (decide ((0 : Int) ≤ (32 : Int))) = true then
               some ((bits .and .i64 (IntKind.wrap .i64 (IntKind.wrap .u64 ((IntKind.wrap .u64 ((IntKind.wrap .u64 ((bits .and .u64 (IntKind.wrap .u64 ((shr .u64 (IntKind.wrap .u64 ((bits .and .u64 (shr .u64 (IntKind.wrap .u64 ((bits .and .u64 (shr .u64 x0 (1 : Int)) (6148914691236517205 : Int)) + (bits .and .u64 x0 (6148914691236517205 : Int)))) (2 : Int)) (3689348814741910323 : Int)) + (bits .and .u64 (IntKind.wrap .u64 ((bits .and .u64 (shr .u64 x0 (1 : Int)) (6148914691236517205 : Int)) + (bits .and .u64 x0 (6148914691236517205 : Int)))) (3689348814741910323 : Int)))) (4 : Int)) + (IntKind.wrap .u64 ((bits .and .u64 (shr .u64 (IntKind.wrap .u64 ((bits .and .u64 (shr .u64 x0 (1 : Int)) (6148914691236517205 : Int)) + (bits .and .u64 x0 (6148914691236517205 : Int)))) (2 : Int)) (3689348814741910323 : Int)) + (bits .and .u64 (IntKind.wrap .u64 ((bits .and .u64 (shr .u64 x0 (1 : Int)) (6148914691236517205 : Int)) + (bits .and .u64 x0 (6148914691236517205 : Int)))) (3689348814741910323 : Int)))))) (1085102592571150095 : Int)) + (shr .u64 (bits .and .u64 (IntKind.wrap .u64 ((shr .u64 (IntKind.wrap .u64 ((bits .and .u64 (shr .u64 (IntKind.wrap .u64 ((bits .and .u64 (shr .u64 x0 (1 : Int)) (6148914691236517205 : Int)) + (bits .and .u64 x0 (6148914691236517205 : Int)))) (2 : Int)) (3689348814741910323 : Int)) + (bits .and .u64 (IntKind.wrap .u64 ((bits .and .u64 (shr .u64 x0 (1 : Int)) (6148914691236517205 : Int)) + (bits .and .u64 x0 (6148914691236517205 : Int)))) (3689348814741910323 : Int)))) (4 : Int)) + (IntKind.wrap .u64 ((bits .and .u64 (shr .u64 (IntKind.wrap .u64 ((bits .and .u64 (shr .u64 x0 (1 : Int)) (6148914691236517205 : Int)) + (bits .and .u64 x0 (6148914691236517205 : Int)))) (2 : Int)) (3689348814741910323 : Int)) + (bits .and .u64 (IntKind.wrap .u64 ((bits .and .u64 (shr .u64 x0 (1 : Int)) (6148914691236517205 : Int)) + (bits .and .u64 x0 (6148914691236517205 : Int)))) (3689348814741910323 : Int)))))) (1085102592571150095 : Int)) (8 : Int)))) + (shr .u64 (IntKind.wrap .u64 ((bits .and .u64 (IntKind.wrap .u64 ((shr .u64 (IntKind.wrap .u64 ((bits .and .u64 (shr .u64 (IntKind.wrap .u64 ((bits .and .u64 (shr .u64 x0 (1 : Int)) (6148914691236517205 : Int)) + (bits .and .u64 x0 (6148914691236517205 : Int)))) (2 : Int)) (3689348814741910323 : Int)) + (bits .and .u64 (IntKind.wrap .u64 ((bits .and .u64 (shr .u64 x0 (1 : Int)) (6148914691236517205 : Int)) + (bits .and .u64 x0 (6148914691236517205 : Int)))) (3689348814741910323 : Int)))) (4 : Int)) + (IntKind.wrap .u64 ((bits .and .u64 (shr .u64 (IntKind.wrap .u64 ((bits .and .u64 (shr .u64 x0 (1 : Int)) (6148914691236517205 : Int)) + (bits .and .u64 x0 (6148914691236517205 : Int)))) (2 : Int)) (3689348814741910323 : Int)) + (bits .and .u64 (IntKind.wrap .u64 ((bits .and .u64 (shr .u64 x0 (1 : Int)) (6148914691236517205 : Int)) + (bits .and .u64 x0 (6148914691236517205 : Int)))) (3689348814741910323 : Int)))))) (1085102592571150095 : Int)) + (shr .u64 (bits .and .u64 (IntKind.wrap .u64 ((shr .u64 (IntKind.wrap .u64 ((bits .and .u64 (shr .u64 (IntKind.wrap .u64 ((bits .and .u64 (shr .u64 x0 (1 : Int)) (6148914691236517205 : Int)) + (bits .and .u64 x0 (6148914691236517205 : Int)))) (2 : Int)) (3689348814741910323 : Int)) + (bits .and .u64 (IntKind.wrap .u64 ((bits .and .u64 (shr .u64 x0 (1 : Int)) (6148914691236517205 : Int)) + (bits .and .u64 x0 (6148914691236517205 : Int)))) (3689348814741910323 : Int)))) (4 : Int)) + (IntKind.wrap .u64 ((bits .and .u64 (shr .u64 (IntKind.wrap .u64 ((bits .and .u64 (shr .u64 x0 (1 : Int)) (6148914691236517205 : Int)) + (bits .and .u64 x0 (6148914691236517205 : Int)))) (2 : Int)) (3689348814741910323 : Int)) + (bits .and .u64 (IntKind.wrap .u64 ((bits .and .u64 (shr .u64 x0 (1 : Int)) (6148914691236517205 : Int)) + (bits .and .u64 x0 (6148914691236517205 : Int)))) (3689348814741910323 : Int)))))) (1085102592571150095 : Int)) (8 : Int)))) (16 : Int)))) + (shr .u64 (IntKind.wrap .u64 ((IntKind.wrap .u64 ((bits .and .u64 (IntKind.wrap .u64 ((shr .u64 (IntKind.wrap .u64 ((bits .and .u64 (shr .u64 (IntKind.wrap .u64 ((bits .and .u64 (shr .u64 x0 (1 : Int)) (6148914691236517205 : Int)) + (bits .and .u64 x0 (6148914691236517205 : Int)))) (2 : Int)) (3689348814741910323 : Int)) + (bits .and .u64 (IntKind.wrap .u64 ((bits .and .u64 (shr .u64 x0 (1 : Int)) (6148914691236517205 : Int)) + (bits .and .u64 x0 (6148914691236517205 : Int)))) (3689348814741910323 : Int)))) (4 : Int)) + (IntKind.wrap .u64 ((bits .and .u64 (shr .u64 (IntKind.wrap .u64 ((bits .and .u64 (shr .u64 x0 (1 : Int)) (6148914691236517205 : Int)) + (bits .and .u64 x0 (6148914691236517205 : Int)))) (2 : Int)) (3689348814741910323 : Int)) + (bits .and .u64 (IntKind.wrap .u64 ((bits .and .u64 (shr .u64 x0 (1 : Int)) (6148914691236517205 : Int)) + (bits .and .u64 x0 (6148914691236517205 : Int)))) (3689348814741910323 : Int)))))) (1085102592571150095 : Int)) + (shr .u64 (bits .and .u64 (IntKind.wrap .u64 ((shr .u64 (IntKind.wrap .u64 ((bits .and .u64 (shr .u64 (IntKind.wrap .u64 ((bits .and .u64 (shr .u64 x0 (1 : Int)) (6148914691236517205 : Int)) + (bits .and .u64 x0 (6148914691236517205 : Int)))) (2 : Int)) (3689348814741910323 : Int)) + (bits .and .u64 (IntKind.wrap .u64 ((bits .and .u64 (shr .u64 x0 (1 : Int)) (6148914691236517205 : Int)) + (bits .and .u64 x0 (6148914691236517205 : Int)))) (3689348814741910323 : Int)))) (4 : Int)) + (IntKind.wrap .u64 ((bits .and .u64 (shr .u64 (IntKind.wrap .u64 ((bits .and .u64 (shr .u64 x0 (1 : Int)) (6148914691236517205 : Int)) + (bits .and .u64 x0 (6148914691236517205 : Int)))) (2 : Int)) (3689348814741910323 : Int)) + (bits .and .u64 (IntKind.wrap .u64 ((bits .and .u64 (shr .u64 x0 (1 : Int)) (6148914691236517205 : Int)) + (bits .and .u64 x0 (6148914691236517205 : Int)))) (3689348814741910323 : Int)))))) (1085102592571150095 : Int)) (8 : Int)))) + (shr .u64 (IntKind.wrap .u64 ((bits .and .u64 (IntKind.wrap .u64 ((shr .u64 (IntKind.wrap .u64 ((bits .and .u64 (shr .u64 (IntKind.wrap .u64 ((bits .and .u64 (shr .u64 x0 (1 : Int)) (6148914691236517205 : Int)) + (bits .and .u64 x0 (6148914691236517205 : Int)))) (2 : Int)) (3689348814741910323 : Int)) + (bits .and .u64 (IntKind.wrap .u64 ((bits .and .u64 (shr .u64 x0 (1 : Int)) (6148914691236517205 : Int)) + (bits .and .u64 x0 (6148914691236517205 : Int)))) (3689348814741910323 : Int)))) (4 : Int)) + (IntKind.wrap .u64 ((bits .and .u64 (shr .u64 (IntKind.wrap .u64 ((bits .and .u64 (shr .u64 x0 (1 : Int)) (6148914691236517205 : Int)) + (bits .and .u64 x0 (6148914691236517205 : Int)))) (2 : Int)) (3689348814741910323 : Int)) + (bits .and .u64 (IntKind.wrap .u64 ((bits .and .u64 (shr .u64 x0 (1 : Int)) (6148914691236517205 : Int)) + (bits .and .u64 x0 (6148914691236517205 : Int)))) (3689348814741910323 : Int)))))) (1085102592571150095 : Int)) + (shr .u64 (bits .and .u64 (IntKind.wrap .u64 ((shr .u64 (IntKind.wrap .u64 ((bits .and .u64 (shr .u64 (IntKind.wrap .u64 ((bits .and .u64 (shr .u64 x0 (1 : Int)) (6148914691236517205 : Int)) + (bits .and .u64 x0 (6148914691236517205 : Int)))) (2 : Int)) (3689348814741910323 : Int)) + (bits .and .u64 (IntKind.wrap .u64 ((bits .and .u64 (shr .u64 x0 (1 : Int)) (6148914691236517205 : Int)) + (bits .and .u64 x0 (6148914691236517205 : Int)))) (3689348814741910323 : Int)))) (4 : Int)) + (IntKind.wrap .u64 ((bits .and .u64 (shr .u64 (IntKind.wrap .u64 ((bits .and .u64 (shr .u64 x0 (1 : Int)) (6148914691236517205 : Int)) + (bits .and .u64 x0 (6148914691236517205 : Int)))) (2 : Int)) (3689348814741910323 : Int)) + (bits .and .u64 (IntKind.wrap .u64 ((bits .and .u64 (shr .u64 x0 (1 : Int)) (6148914691236517205 : Int)) + (bits .and .u64 x0 (6148914691236517205 : Int)))) (3689348814741910323 : Int)))))) (1085102592571150095 : Int)) (8 : Int)))) (16 : Int)))) (32 : Int))))) (127 : Int), ()), ())
             else none
           else none
         else none
       else none
     else none
   else none
noncomputable def tab_math_bits_OnesCount64 : List (Plc E P_math_bits_OnesCount64) := []
theorem tab_math_bits_OnesCount64_ok : All (PlcOk 35 0 place_math_bits_OnesCount64 st_math_bits_OnesCount64) tab_math_bits_OnesCount64 := trivial
noncomputable def spec_math_bits_OnesCount64 : Spec E.S := noSpec
theorem spec_math_bits_OnesCount64_ok : SpecOk E spec_math_bits_OnesCount64 := noSpec_ok
noncomputable def code_math_bits_OnesCount64 : Code := Tryd.f98.body.getD .skip
theorem good_math_bits_OnesCount64 : ∀ pt r, run_math_bits_OnesCount64 pt = some r → Good E Tryd.f98 code_math_bits_OnesCount64 0 (res_math_bits_OnesCount64.av r) (res_math_bits_OnesCount64.bx r) (place_math_bits_OnesCount64 pt) (st_math_bits_OnesCount64 pt) := by
  intro pt r hr
  cases pt <;> exact fn_step (spec := spec_math_bits_OnesCount64) (wr := (fun i => mem i [])) (l := tab_math_bits_OnesCount64) (z := 35) (p := res_math_bits_OnesCount64) (run' := fun _ => none) E_ok tab_math_bits_OnesCount64_ok.mem rfl spec_math_bits_OnesCount64_ok (fun _ _ h => by cases h) (Eq.trans (by kernel_rfl) hr)
noncomputable def con_math_bits_OnesCount64 : Con E := ⟨98, (Int × Unit), Unit, (RwL.cons (Rd.int .u64).w RwL.nil), RdBL.nil, 0, R_math_bits_OnesCount64, fun a b => run_math_bits_OnesCount64 (.start a.1), res_math_bits_OnesCount64.av, res_math_bits_OnesCount64.bx⟩
theorem con_math_bits_OnesCount64_ok : con_math_bits_OnesCount64.Ok := fun a b r h => fn_ok (fn := Tryd.f98) (code := code_math_bits_OnesCount64) E_ok (by kernel_rfl) (by kernel_rfl) (by kernel_rfl) (Nat.le_of_ble_eq_true rfl) (good_math_bits_OnesCount64 (.start a.1) r h)

/-! ### math/bits.OnesCount -/
inductive P_math_bits_OnesCount where
 | start (x0 : Int)
noncomputable def place_math_bits_OnesCount : P_math_bits_OnesCount → List Bool
 | .start .. => []
noncomputable def st_math_bits_OnesCount : P_math_bits_OnesCount → St E.S
 | .start x0 => st0 8 [.v (.int .u64 x0)] []
abbrev R_math_bits_OnesCount : Type := ((Int × Unit) × Unit)
noncomputable def res_math_bits_OnesCount : Res E (Int × Unit) Unit := { rows := [], flat := [], keep := 0, rl := (RdL.cons (Rd.int .i64) RdL.nil), rb := RdBL.nil }
noncomputable def run_math_bits_OnesCount : P_math_bits_OnesCount → Option R_math_bits_OnesCount
 | .start x0 =>
   (run_math_bits_OnesCount64 (.start x0)) >>= fun t1 =>
   some ((t1.1.1, ()), ())
noncomputable def tab_math_bits_OnesCount : List (Plc E P_math_bits_OnesCount) := []
theorem tab_math_bits_OnesCount_ok : All (PlcOk 8 0 place_math_bits_OnesCount st_math_bits_OnesCount) tab_math_bits_OnesCount := trivial
noncomputable def spec_math_bits_OnesCount : Spec E.S := (Con.add con_math_bits_OnesCount64 noSpec)
theorem spec_math_bits_OnesCount_ok : SpecOk E spec_math_bits_OnesCount := (Con.add_ok con_math_bits_OnesCount64_ok noSpec_ok)
noncomputable def code_math_bits_OnesCount : Code := Tryd.f84.body.getD .skip
theorem good_math_bits_OnesCount : ∀ pt r, run_math_bits_OnesCount pt = some r → Good E Tryd.f84 code_math_bits_OnesCount 0 (res_math_bits_OnesCount.av r) (res_math_bits_OnesCount.bx r) (place_math_bits_OnesCount pt) (st_math_bits_OnesCount pt) := by
  intro pt r hr
  cases pt <;> exact fn_step (spec := spec_math_bits_OnesCount) (wr := (fun i => mem i [])) (l := tab_math_bits_OnesCount) (z := 8) (p := res_math_bits_OnesCount) (run' := fun _ => none) E_ok tab_math_bits_OnesCount_ok.mem rfl spec_math_bits_OnesCount_ok (fun _ _ h => by cases h) (Eq.trans (by kernel_rfl) hr)
noncomputable def con_math_bits_OnesCount : Con E := ⟨84, (Int × Unit), Unit, (RwL.cons (Rd.int .u64).w RwL.nil), RdBL.nil, 0, R_math_bits_OnesCount, fun a b => run_math_bits_OnesCount (.start a.1), res_math_bits_OnesCount.av, res_math_bits_OnesCount.bx⟩
theorem con_math_bits_OnesCount_ok : con_math_bits_OnesCount.Ok := fun a b r h => fn_ok (fn := Tryd.f84) (code := code_math_bits_OnesCount) E_ok (by kernel_rfl) (by kernel_rfl) (by kernel_rfl) (Nat.le_of_ble_eq_true rfl) (good_math_bits_OnesCount (.start a.1) r h)

/-! ### math/bits.Len64 -/
inductive P_math_bits_Len64 where
 | start (x0 : Int)
 | p7 (x0 : Int) (n2 : Int)
 | p15 (x0 : Int) (n2 : Int)
 | p31 (x0 : Int) (n2 : Int)
noncomputable def place_math_bits_Len64 : P_math_bits_Len64 → List Bool
 | .start .. => []
 | .p7 .. => [true, true]
 | .p15 .. => [true, true, true]
 | .p31 .. => [true, true, true, true]
noncomputable def st_math_bits_Len64 : P_math_bits_Len64 → St E.S
 | .start x0 => st0 25 [.v (.int .u64 x0)] []
 | .p7 x0 n2 => mkSt 25 [0, 2] [.v (.int .u64 x0), .v (.int .i64 n2)] []
 | .p15 x0 n2 => mkSt 25 [0, 2] [.v (.int .u64 x0), .v (.int .i64 n2)] []
 | .p31 x0 n2 => mkSt 25 [0, 2] [.v (.int .u64 x0), .v (.int .i64 n2)] []
abbrev R_math_bits_Len64 : Type := ((Int × Unit) × Unit)
noncomputable def res_math_bits_Len64 : Res E (Int × Unit) Unit := { rows := [], flat := [], keep := 0, rl := (RdL.cons (Rd.int .i64) RdL.nil), rb := RdBL.nil }
noncomputable def run_math_bits_Len64 : P_math_bits_Len64 → Option R_math_bits_Len64
 | .start x0 =>
   if (decide (x0 ≥ (4294967296 : Int))) = true then
     if (decide ((0 : Int) ≤ (32 : Int))) = true then
       run_math_bits_Len64 (.p7 (shr .u64 x0 (32 : Int)) (32 : Int))
     else none
   else
     run_math_bits_Len64 (.p7 x0 (0 : Int))
 | .p7 x0 n2 =>
   if (decide (x0 ≥ (65536 : Int))) = true then
     if (decide ((0 : Int) ≤ (16 : Int))) = true then
       run_math_bits_Len64 (.p15 (shr .u64 x0 (16 : Int)) (IntKind.wrap .i64 (n2 + (16 : Int))))
     else none
   else
     run_math_bits_Len64 (.p15 x0 n2)
 | .p15 x0 n2 =>
   if (decide (x0 ≥ (256 : Int))) = true then
     if (decide ((0 : Int) ≤ (8 : Int))) = true then
       run_math_bits_Len64 (.p31 (shr .u64 x0 (8 : Int)) (IntKind.wrap .i64 (n2 + (8 : Int))))
     else none
   else
     run_math_bits_Len64 (.p31 x0 n2)
 | .p31 x0 n2 =>
   (sidx (⟨#[0, 1, 2, 2, 3, 3, 3, 3, 4, 4, 4, 4, 4, 4, 4, 4, 5, 5, 5, 5, 5, 5, 5, 5, 5, 5, 5, 5, 5, 5, 5, 5, 6, 6, 6, 6, 6, 6, 6, 6, 6, 6, 6, 6, 6, 6, 6, 6, 6, 6, 6, 6, 6, 6, 6, 6, 6, 6, 6, 6, 6, 6, 6, 6, 7, 7, 7, 7, 7, 7, 7, 7, 7, 7, 7, 7, 7, 7, 7, 7, 7, 7, 7, 7, 7, 7, 7, 7, 7, 7, 7, 7, 7, 7, 7, 7, 7, 7, 7, 7, 7, 7, 7, 7, 7, 7, 7, 7, 7, 7, 7, 7, 7, 7, 7, 7, 7, 7, 7, 7, 7, 7, 7, 7, 7, 7, 7, 7, 8, 8, 8, 8, 8, 8, 8, 8, 8, 8, 8, 8, 8, 8, 8, 8, 8, 8, 8, 8, 8, 8, 8, 8, 8, 8, 8, 8, 8, 8, 8, 8, 8, 8, 8, 8, 8, 8, 8, 8, 8, 8, 8, 8, 8, 8, 8, 8, 8, 8, 8, 8, 8, 8, 8, 8, 8, 8, 8, 8, 8, 8, 8, 8, 8, 8, 8, 8, 8, 8, 8, 8, 8, 8, 8, 8, 8, 8, 8, 8, 8, 8, 8, 8, 8, 8, 8, 8, 8, 8, 8, 8, 8, 8, 8, 8, 8, 8, 8, 8, 8, 8, 8, 8, 8, 8, 8, 8, 8, 8, 8, 8, 8, 8, 8, 8, 8, 8, 8, 8, 8, 8, 8, 8, 8, 8, 8, 8]⟩ : ByteArray) (IntKind.wrap .u8 x0)) >>= fun t1 =>
   some ((IntKind.wrap .i64 (n2 + (IntKind.wrap .i64 t1)), ()), ())
  partial_fixpoint
noncomputable def tab_math_bits_Len64 : List (Plc E P_math_bits_Len64) := [⟨7, [true, true], { slots := [0, 2], rows := [], flat := [], keep := 0 }, (Int × (Int × Unit)), Unit, (RdL.cons (Rd.int .u64) (RdL.cons (Rd.int .i64) RdL.nil)), RdBL.nil, fun a b => .p7 a.1 a.2.1⟩,
  ⟨15, [true, true, true], { slots := [0, 2], rows := [], flat := [], keep := 0 }, (Int × (Int × Unit)), Unit, (RdL.cons (Rd.int .u64) (RdL.cons (Rd.int .i64) RdL.nil)), RdBL.nil, fun a b => .p15 a.1 a.2.1⟩,
  ⟨31, [true, true, true, true], { slots := [0, 2], rows := [], flat := [], keep := 0 }, (Int × (Int × Unit)), Unit, (RdL.cons (Rd.int .u64) (RdL.cons (Rd.int .i64) RdL.nil)), RdBL.nil, fun a b => .p31 a.1 a.2.1⟩]
theorem tab_math_bits_Len64_ok : All (PlcOk 25 0 place_math_bits_Len64 st_math_bits_Len64) tab_math_bits_Len64 := ⟨⟨rfl, rfl, fun _ _ => rfl, fun _ _ => rfl⟩, ⟨⟨rfl, rfl, fun _ _ => rfl, fun _ _ => rfl⟩, ⟨⟨rfl, rfl, fun _ _ => rfl, fun _ _ => rfl⟩, trivial⟩⟩⟩
noncomputable def spec_math_bits_Len64 : Spec E.S := noSpec
theorem spec_math_bits_Len64_ok : SpecOk E spec_math_bits_Len64 := noSpec_ok
noncomputable def code_math_bits_Len64 : Code := Tryd.f100.body.getD .skip
theorem good_math_bits_Len64 : ∀ pt r, run_math_bits_Len64 pt = some r → Good E Tryd.f100 code_math_bits_Len64 0 (res_math_bits_Len64.av r) (res_math_bits_Len64.bx r) (place_math_bits_Len64 pt) (st_math_bits_Len64 pt) := by
  refine run_math_bits_Len64.partial_correctness (fun pt r => Good E Tryd.f100 code_math_bits_Len64 0 (res_math_bits_Len64.av r) (res_math_bits_Len64.bx r) (place_math_bits_Len64 pt) (st_math_bits_Len64 pt)) ?_
  intro run' ih pt r hr
  cases pt <;> exact fn_step (spec := spec_math_bits_Len64) (wr := (fun i => mem i [])) (l := tab_math_bits_Len64) (z := 25) (p := res_math_bits_Len64) E_ok tab_math_bits_Len64_ok.mem rfl spec_math_bits_Len64_ok ih (Eq.trans (by kernel_rfl) hr)
noncomputable def con_math_bits_Len64 : Con E := ⟨100, (Int × Unit), Unit, (RwL.cons (Rd.int .u64).w RwL.nil), RdBL.nil, 0, R_math_bits_Len64, fun a b => run_math_bits_Len64 (.start a.1), res_math_bits_Len64.av, res_math_bits_Len64.bx⟩
theorem con_math_bits_Len64_ok : con_math_bits_Len64.Ok := fun a b r h => fn_ok (fn := Tryd.f100) (code := code_math_bits_Len64) E_ok (by kernel_rfl) (by kernel_rfl) (by kernel_rfl) (Nat.le_of_ble_eq_true rfl) (good_math_bits_Len64 (.start a.1) r h)

/-! ### math/bits.Len -/
inductive P_math_bits_Len where
 | start (x0 : Int)
noncomputable def place_math_bits_Len : P_math_bits_Len → List Bool
 | .start .. => []
noncomputable def st_math_bits_Len : P_math_bits_Len → St E.S
 | .start x0 => st0 8 [.v (.int .u64 x0)] []
abbrev R_math_bits_Len : Type := ((Int × Unit) × Unit)
noncomputable def res_math_bits_Len : Res E (Int × Unit) Unit := { rows := [], flat := [], keep := 0, rl := (RdL.cons (Rd.int .i64) RdL.nil), rb := RdBL.nil }
noncomputable def run_math_bits_Len : P_math_bits_Len → Option R_math_bits_Len
 | .start x0 =>
   (run_math_bits_Len64 (.start x0)) >>= fun t1 =>
   some ((t1.1.1, ()), ())
noncomputable def tab_math_bits_Len : List (Plc E P_math_bits_Len) := []
theorem tab_math_bits_Len_ok : All (PlcOk 8 0 place_math_bits_Len st_math_bits_Len) tab_math_bits_Len := trivial
noncomputable def spec_math_bits_Len : Spec E.S := (Con.add con_math_bits_Len64 noSpec)
theorem spec_math_bits_Len_ok : SpecOk E spec_math_bits_Len := (Con.add_ok con_math_bits_Len64_ok noSpec_ok)
noncomputable def code_math_bits_Len : Code := Tryd.f85.body.getD .skip
theorem good_math_bits_Len : ∀ pt r, run_math_bits_Len pt = some r → Good E Tryd.f85 code_math_bits_Len 0 (res_math_bits_Len.av r) (res_math_bits_Len.bx r) (place_math_bits_Len pt) (st_math_bits_Len pt) := by
  intro pt r hr
  cases pt <;> exact fn_step (spec := spec_math_bits_Len) (wr := (fun i => mem i [])) (l := tab_math_bits_Len) (z := 8) (p := res_math_bits_Len) (run' := fun _ => none) E_ok tab_math_bits_Len_ok.mem rfl spec_math_bits_Len_ok (fun _ _ h => by cases h) (Eq.trans (by kernel_rfl) hr)
noncomputable def con_math_bits_Len : Con E := ⟨85, (Int × Unit), Unit, (RwL.cons (Rd.int .u64).w RwL.nil), RdBL.nil, 0, R_math_bits_Len, fun a b => run_math_bits_Len (.start a.1), res_math_bits_Len.av, res_math_bits_Len.bx⟩
theorem con_math_bits_Len_ok : con_math_bits_Len.Ok := fun a b r h => fn_ok (fn := Tryd.f85) (code := code_math_bits_Len) E_ok (by kernel_rfl) (by kernel_rfl) (by kernel_rfl) (Nat.le_of_ble_eq_true rfl) (good_math_bits_Len (.start a.1) r h)

/-! ### math/bits.TrailingZeros64 -/
inductive P_math_bits_TrailingZeros64 where
 | start (x0 : Int)
noncomputable def place_math_bits_TrailingZeros64 : P_math_bits_TrailingZeros64 → List Bool
 | .start .. => []
noncomputable def st_math_bits_TrailingZeros64 : P_math_bits_TrailingZeros64 → St E.S
 | .start x0 => st0 14 [.v (.int .u64 x0)] []
abbrev R_math_bits_TrailingZeros64 : Type := ((Int × Unit) × Unit)
noncomputable def res_math_bits_TrailingZeros64 : Res E (Int × Unit) Unit := { rows := [], flat := [], keep := 0, rl := (RdL.cons (Rd.int .i64) RdL.nil), rb := RdBL.nil }
noncomputable def run_math_bits_TrailingZeros64 : P_math_bits_TrailingZeros64 → Option R_math_bits_TrailingZeros64
 | .start x0 =>
   if (x0 == (0 : Int)) = true then
     some (((64 : Int), ()), ())
   else
     if (decide ((0 : Int) ≤ (58 : Int))) = true then
       (idx glob2 (shr .u64 (IntKind.wrap .u64 ((bits .and .u64 x0 (IntKind.wrap .u64 (0 - x0))) * (285870213051353865 : Int))) (58 : Int))) >>= fun t1 =>
       some ((IntKind.wrap .i64 t1, ()), ())
     else none
noncomputable def tab_math_bits_TrailingZeros64 : List (Plc E P_math_bits_TrailingZeros64) := []
theorem tab_math_bits_TrailingZeros64_ok : All (PlcOk 14 0 place_math_bits_TrailingZeros64 st_math_bits_TrailingZeros64) tab_math_bits_TrailingZeros64 := trivial
noncomputable def spec_math_bits_TrailingZeros64 : Spec E.S := noSpec
theorem spec_math_bits_TrailingZeros64_ok : SpecOk E spec_math_bits_TrailingZeros64 := noSpec_ok
noncomputable def code_math_bits_TrailingZeros64 : Code := Tryd.f102.body.getD .skip
theorem good_math_bits_TrailingZeros64 : ∀ pt r, run_math_bits_TrailingZeros64 pt = some r → Good E Tryd.f102 code_math_bits_TrailingZeros64 0 (res_math_bits_TrailingZeros64.av r) (res_math_bits_TrailingZeros64.bx r) (place_math_bits_TrailingZeros64 pt) (st_math_bits_TrailingZeros64 pt) := by
  intro pt r hr
  cases pt <;> exact fn_step (spec := spec_math_bits_TrailingZeros64) (wr := (fun i => mem i [])) (l := tab_math_bits_TrailingZeros64) (z := 14) (p := res_math_bits_TrailingZeros64) (run' := fun _ => none) E_ok tab_math_bits_TrailingZeros64_ok.mem rfl spec_math_bits_TrailingZeros64_ok (fun _ _ h => by cases h) (Eq.trans (by kernel_rfl) hr)
noncomputable def con_math_bits_TrailingZeros64 : Con E := ⟨102, (Int × Unit), Unit, (RwL.cons (Rd.int .u64).w RwL.nil), RdBL.nil, 0, R_math_bits_TrailingZeros64, fun a b => run_math_bits_TrailingZeros64 (.start a.1), res_math_bits_TrailingZeros64.av, res_math_bits_TrailingZeros64.bx⟩
theorem con_math_bits_TrailingZeros64_ok : con_math_bits_TrailingZeros64.Ok := fun a b r h => fn_ok (fn := Tryd.f102) (code := code_math_bits_TrailingZeros64) E_ok (by kernel_rfl) (by kernel_rfl) (by kernel_rfl) (Nat.le_of_ble_eq_true rfl) (good_math_bits_TrailingZeros64 (.start a.1) r h)

/-! ### math/bits.TrailingZeros -/
inductive P_math_bits_TrailingZeros where
 | start (x0 : Int)
noncomputable def place_math_bits_TrailingZeros : P_math_bits_TrailingZeros → List Bool
 | .start .. => []
noncomputable def st_math_bits_TrailingZeros : P_math_bits_TrailingZeros → St E.S
 | .start x0 => st0 8 [.v (.int .u64 x0)] []
abbrev R_math_bits_TrailingZeros : Type := ((Int × Unit) × Unit)
noncomputable def res_math_bits_TrailingZeros : Res E (Int × Unit) Unit := { rows := [], flat := [], keep := 0, rl := (RdL.cons (Rd.int .i64) RdL.nil), rb := RdBL.nil }
noncomputable def run_math_bits_TrailingZeros : P_math_bits_TrailingZeros → Option R_math_bits_TrailingZeros
 | .start x0 =>
   (run_math_bits_TrailingZeros64 (.start x0)) >>= fun t1 =>
   some ((t1.1.1, ()), ())
noncomputable def tab_math_bits_TrailingZeros : List (Plc E P_math_bits_TrailingZeros) := []
theorem tab_math_bits_TrailingZeros_ok : All (PlcOk 8 0 place_math_bits_TrailingZeros st_math_bits_TrailingZeros) tab_math_bits_TrailingZeros := trivial
noncomputable def spec_math_bits_TrailingZeros : Spec E.S := (Con.add con_math_bits_TrailingZeros64 noSpec)
theorem spec_math_bits_TrailingZeros_ok : SpecOk E spec_math_bits_TrailingZeros := (Con.add_ok con_math_bits_TrailingZeros64_ok noSpec_ok)
noncomputable def code_math_bits_TrailingZeros : Code := Tryd.f86.body.getD .skip
theorem good_math_bits_TrailingZeros : ∀ pt r, run_math_bits_TrailingZeros pt = some r → Good E Tryd.f86 code_math_bits_TrailingZeros 0 (res_math_bits_TrailingZeros.av r) (res_math_bits_TrailingZeros.bx r) (place_math_bits_TrailingZeros pt) (st_math_bits_TrailingZeros pt) := by
  intro pt r hr
  cases pt <;> exact fn_step (spec := spec_math_bits_TrailingZeros) (wr := (fun i => mem i [])) (l := tab_math_bits_TrailingZeros) (z := 8) (p := res_math_bits_TrailingZeros) (run' := fun _ => none) E_ok tab_math_bits_TrailingZeros_ok.mem rfl spec_math_bits_TrailingZeros_ok (fun _ _ h => by cases h) (Eq.trans (by kernel_rfl) hr)
noncomputable def con_math_bits_TrailingZeros : Con E := ⟨86, (Int × Unit), Unit, (RwL.cons (Rd.int .u64).w RwL.nil), RdBL.nil, 0, R_math_bits_TrailingZeros, fun a b => run_math_bits_TrailingZeros (.start a.1), res_math_bits_TrailingZeros.av, res_math_bits_TrailingZeros.bx⟩
theorem con_math_bits_TrailingZeros_ok : con_math_bits_TrailingZeros.Ok := fun a b r h => fn_ok (fn := Tryd.f86) (code := code_math_bits_TrailingZeros) E_ok (by kernel_rfl) (by kernel_rfl) (by kernel_rfl) (Nat.le_of_ble_eq_true rfl) (good_math_bits_TrailingZeros (.start a.1) r h)

/-! ### ratchet/bits.CountsOf -/
inductive P_bits_CountsOf where
 | start (a0_0 : Int) (a0_1 : Int)
noncomputable def place_bits_CountsOf : P_bits_CountsOf → List Bool
 | .start .. => []
noncomputable def st_bits_CountsOf : P_bits_CountsOf → St E.S
 | .start a0_0 a0_1 => st0 34 [.agg [.v (.int .i64 a0_0), .v (.int .i64 a0_1)]] []
abbrev R_bits_CountsOf : Type := (((Int × (Int × (Int × (Int × Unit)))) × (Int × Unit)) × Unit)
noncomputable def res_bits_CountsOf : Res E ((Int × (Int × (Int × (Int × Unit)))) × (Int × Unit)) Unit := { rows := [], flat := [], keep := 0, rl := (RdL.cons (Rd.agg (RdL.cons (Rd.int .i64) (RdL.cons (Rd.int .i64) (RdL.cons (Rd.int .i64) (RdL.cons (Rd.int .i64) RdL.nil))))) (RdL.cons (Rd.int .i64) RdL.nil)), rb := RdBL.nil }
noncomputable def run_bits_CountsOf : P_bits_CountsOf → Option R_bits_CountsOf
 | .start a0_0 a0_1 =>
   (run_bits_CheckBits (.start a0_0 a0_1)) >>= fun t1 =>
   if (t1.1.1 != (0 : Int)) = true then
     some ((((0 : Int), ((0 : Int), ((0 : Int), ((0 : Int), ())))), (t1.1.1, ())), ())
   else
     (run_math_bits_OnesCount (.start (IntKind.wrap .u64 a0_1))) >>= fun t2 =>
     (run_math_bits_Len (.start (IntKind.wrap .u64 a0_1))) >>= fun t3 =>
     (run_math_bits_TrailingZeros (.start (IntKind.wrap .u64 a0_1))) >>= fun t4 =>
     if (!((2 : Int) == (0 : Int))) = true then
       some (((t2.1.1, (IntKind.wrap .i64 (a0_0 - t3.1.1), (if t4.1.1 < a0_0 then t4.1.1 else a0_0, (Int.tmod t2.1.1 (2 : Int), ())))), ((0 : Int), ())), ())
     else none
noncomputable def tab_bits_CountsOf : List (Plc E P_bits_CountsOf) := []
theorem tab_bits_CountsOf_ok : All (PlcOk 34 0 place_bits_CountsOf st_bits_CountsOf) tab_bits_CountsOf := trivial
noncomputable def spec_bits_CountsOf : Spec E.S := (Con.add con_math_bits_TrailingZeros (Con.add con_math_bits_Len (Con.add con_math_bits_OnesCount (Con.add con_bits_CheckBits noSpec))))
theorem spec_bits_CountsOf_ok : SpecOk E spec_bits_CountsOf := (Con.add_ok con_math_bits_TrailingZeros_ok (Con.add_ok con_math_bits_Len_ok (Con.add_ok con_math_bits_OnesCount_ok (Con.add_ok con_bits_CheckBits_ok noSpec_ok))))
noncomputable def code_bits_CountsOf : Code := Tryd.f50.body.getD .skip
theorem good_bits_CountsOf : ∀ pt r, run_bits_CountsOf pt = some r → Good E Tryd.f50 code_bits_CountsOf 0 (res_bits_CountsOf.av r) (res_bits_CountsOf.bx r) (place_bits_CountsOf pt) (st_bits_CountsOf pt) := by
  intro pt r hr
  cases pt <;> exact fn_step (spec := spec_bits_CountsOf) (wr := (fun i => mem i [])) (l := tab_bits_CountsOf) (z := 34) (p := res_bits_CountsOf) (run' := fun _ => none) E_ok tab_bits_CountsOf_ok.mem rfl spec_bits_CountsOf_ok (fun _ _ h => by cases h) (Eq.trans (by kernel_rfl) hr)
noncomputable def con_bits_CountsOf : Con E := ⟨50, ((Int × (Int × Unit)) × Unit), Unit, (RwL.cons (Rw.agg (RwL.cons (Rd.int .i64).w (RwL.cons (Rd.int .i64).w RwL.nil))) RwL.nil), RdBL.nil, 0, R_bits_CountsOf, fun a b => run_bits_CountsOf (.start a.1.1 a.1.2.1), res_bits_CountsOf.av, res_bits_CountsOf.bx⟩
theorem con_bits_CountsOf_ok : con_bits_CountsOf.Ok := fun a b r h => fn_ok (fn := Tryd.f50) (code := code_bits_CountsOf) E_ok (by kernel_rfl) (by kernel_rfl) (by kernel_rfl) (Nat.le_of_ble_eq_true rfl) (good_bits_CountsOf (.start a.1.1 a.1.2.1) r h)

/-! ### ratchet/bits.OneHot -/
inductive P_bits_OneHot where
 | start (index0 : Int) (width1 : Int)
noncomputable def place_bits_OneHot : P_bits_OneHot → List Bool
 | .start .. => []
noncomputable def st_bits_OneHot : P_bits_OneHot → St E.S
 | .start index0 width1 => st0 26 [.v (.int .i64 index0), .v (.int .i64 width1)] []
abbrev R_bits_OneHot : Type := (((Int × (Int × Unit)) × (Int × Unit)) × Unit)
noncomputable def res_bits_OneHot : Res E ((Int × (Int × Unit)) × (Int × Unit)) Unit := { rows := [], flat := [], keep := 0, rl := (RdL.cons (Rd.agg (RdL.cons (Rd.int .i64) (RdL.cons (Rd.int .i64) RdL.nil))) (RdL.cons (Rd.int .i64) RdL.nil)), rb := RdBL.nil }
noncomputable def run_bits_OneHot : P_bits_OneHot → Option R_bits_OneHot
 | .start index0 width1 =>
   (run_bits_isWidth (.start width1)) >>= fun t1 =>
   (run_bits_unless (.start t1.1.1 (25 : Int))) >>= fun t2 =>
   (run_bits_within (.start index0 (0 : Int) (IntKind.wrap .i64 (width1 - (1 : Int))))) >>= fun t3 =>
   (run_bits_unless (.start t3.1.1 (2 : Int))) >>= fun t4 =>
   (run_bits_first (.start ([t2.1.1, t4.1.1] : List Int))) >>= fun t5 =>
   if (t5.1.1 != (0 : Int)) = true then
     some ((((0 : Int), ((0 : Int), ())), (t5.1.1, ())), ())
   else
     if (decide ((0 : Int) ≤ index0)) = true then
       (run_bits_of (.start (shl .i64 (1 : Int) index0) width1)) >>= fun t6 =>
       some (((t6.1.1.1, (t6.1.1.2.1, ())), ((0 : Int), ())), ())
     else none
noncomputable def tab_bits_OneHot : List (Plc E P_bits_OneHot) := []
theorem tab_bits_OneHot_ok : All (PlcOk 26 0 place_bits_OneHot st_bits_OneHot) tab_bits_OneHot := trivial
noncomputable def spec_bits_OneHot : Spec E.S := (Con.add con_bits_of (Con.add con_bits_first (Con.add con_bits_within (Con.add con_bits_unless (Con.add con_bits_isWidth noSpec)))))
theorem spec_bits_OneHot_ok : SpecOk E spec_bits_OneHot := (Con.add_ok con_bits_of_ok (Con.add_ok con_bits_first_ok (Con.add_ok con_bits_within_ok (Con.add_ok con_bits_unless_ok (Con.add_ok con_bits_isWidth_ok noSpec_ok)))))
noncomputable def code_bits_OneHot : Code := Tryd.f51.body.getD .skip
theorem good_bits_OneHot : ∀ pt r, run_bits_OneHot pt = some r → Good E Tryd.f51 code_bits_OneHot 0 (res_bits_OneHot.av r) (res_bits_OneHot.bx r) (place_bits_OneHot pt) (st_bits_OneHot pt) := by
  intro pt r hr
  cases pt <;> exact fn_step (spec := spec_bits_OneHot) (wr := (fun i => mem i [])) (l := tab_bits_OneHot) (z := 26) (p := res_bits_OneHot) (run' := fun _ => none) E_ok tab_bits_OneHot_ok.mem rfl spec_bits_OneHot_ok (fun _ _ h => by cases h) (Eq.trans (by kernel_rfl) hr)
noncomputable def con_bits_OneHot : Con E := ⟨51, (Int × (Int × Unit)), Unit, (RwL.cons (Rd.int .i64).w (RwL.cons (Rd.int .i64).w RwL.nil)), RdBL.nil, 0, R_bits_OneHot, fun a b => run_bits_OneHot (.start a.1 a.2.1), res_bits_OneHot.av, res_bits_OneHot.bx⟩
theorem con_bits_OneHot_ok : con_bits_OneHot.Ok := fun a b r h => fn_ok (fn := Tryd.f51) (code := code_bits_OneHot) E_ok (by kernel_rfl) (by kernel_rfl) (by kernel_rfl) (Nat.le_of_ble_eq_true rfl) (good_bits_OneHot (.start a.1 a.2.1) r h)

/-! ### ratchet/bits.IndexOf -/
inductive P_bits_IndexOf where
 | start (a0_0 : Int) (a0_1 : Int)
noncomputable def place_bits_IndexOf : P_bits_IndexOf → List Bool
 | .start .. => []
noncomputable def st_bits_IndexOf : P_bits_IndexOf → St E.S
 | .start a0_0 a0_1 => st0 22 [.agg [.v (.int .i64 a0_0), .v (.int .i64 a0_1)]] []
abbrev R_bits_IndexOf : Type := ((Int × (Int × Unit)) × Unit)
noncomputable def res_bits_IndexOf : Res E (Int × (Int × Unit)) Unit := { rows := [], flat := [], keep := 0, rl := (RdL.cons (Rd.int .i64) (RdL.cons (Rd.int .i64) RdL.nil)), rb := RdBL.nil }
noncomputable def run_bits_IndexOf : P_bits_IndexOf → Option R_bits_IndexOf
 | .start a0_0 a0_1 =>
   (run_bits_CheckBits (.start a0_0 a0_1)) >>= fun t1 =>
   (run_math_bits_OnesCount (.start (IntKind.wrap .u64 a0_1))) >>= fun t2 =>
   (run_bits_unless (.start (t2.1.1 == (1 : Int)) (3 : Int))) >>= fun t3 =>
   (run_bits_first (.start ([t1.1.1, t3.1.1] : List Int))) >>= fun t4 =>
   if (t4.1.1 != (0 : Int)) = true then
     some (((0 : Int), (t4.1.1, ())), ())
   else
     (run_math_bits_TrailingZeros (.start (IntKind.wrap .u64 a0_1))) >>= fun t5 =>
     some ((t5.1.1, ((0 : Int), ())), ())
noncomputable def tab_bits_IndexOf : List (Plc E P_bits_IndexOf) := []
theorem tab_bits_IndexOf_ok : All (PlcOk 22 0 place_bits_IndexOf st_bits_IndexOf) tab_bits_IndexOf := trivial
noncomputable def spec_bits_IndexOf : Spec E.S := (Con.add con_math_bits_TrailingZeros (Con.add con_bits_first (Con.add con_bits_unless (Con.add con_math_bits_OnesCount (Con.add con_bits_CheckBits noSpec)))))
theorem spec_bits_IndexOf_ok : SpecOk E spec_bits_IndexOf := (Con.add_ok con_math_bits_TrailingZeros_ok (Con.add_ok con_bits_first_ok (Con.add_ok con_bits_unless_ok (Con.add_ok con_math_bits_OnesCount_ok (Con.add_ok con_bits_CheckBits_ok noSpec_ok)))))
noncomputable def code_bits_IndexOf : Code := Tryd.f52.body.getD .skip
theorem good_bits_IndexOf : ∀ pt r, run_bits_IndexOf pt = some r → Good E Tryd.f52 code_bits_IndexOf 0 (res_bits_IndexOf.av r) (res_bits_IndexOf.bx r) (place_bits_IndexOf pt) (st_bits_IndexOf pt) := by
  intro pt r hr
  cases pt <;> exact fn_step (spec := spec_bits_IndexOf) (wr := (fun i => mem i [])) (l := tab_bits_IndexOf) (z := 22) (p := res_bits_IndexOf) (run' := fun _ => none) E_ok tab_bits_IndexOf_ok.mem rfl spec_bits_IndexOf_ok (fun _ _ h => by cases h) (Eq.trans (by kernel_rfl) hr)
noncomputable def con_bits_IndexOf : Con E := ⟨52, ((Int × (Int × Unit)) × Unit), Unit, (RwL.cons (Rw.agg (RwL.cons (Rd.int .i64).w (RwL.cons (Rd.int .i64).w RwL.nil))) RwL.nil), RdBL.nil, 0, R_bits_IndexOf, fun a b => run_bits_IndexOf (.start a.1.1 a.1.2.1), res_bits_IndexOf.av, res_bits_IndexOf.bx⟩
theorem con_bits_IndexOf_ok : con_bits_IndexOf.Ok := fun a b r h => fn_ok (fn := Tryd.f52) (code := code_bits_IndexOf) E_ok (by kernel_rfl) (by kernel_rfl) (by kernel_rfl) (Nat.le_of_ble_eq_true rfl) (good_bits_IndexOf (.start a.1.1 a.1.2.1) r h)

/-! ### ratchet/ratchetbase.CopyInts -/
inductive P_ratchetbase_CopyInts_v1 where
 | start (l0 : (List Int))
noncomputable def place_ratchetbase_CopyInts_v1 : P_ratchetbase_CopyInts_v1 → List Bool
 | .start .. => []
noncomputable def st_ratchetbase_CopyInts_v1 : P_ratchetbase_CopyInts_v1 → St E.S
 | .start l0 => st0 6 [.sl 3 l0 false] []
abbrev R_ratchetbase_CopyInts_v1 : Type := ((Unit × Unit) × ((List Int) × Unit))
noncomputable def res_ratchetbase_CopyInts_v1 : Res E (Unit × Unit) ((List Int) × Unit) := { rows := [], flat := [], keep := 0, rl := (RdL.cons (Rd.rw 0) RdL.nil), rb := (RdBL.cons (RdB.row 3 true) RdBL.nil) }
noncomputable def run_ratchetbase_CopyInts_v1 : P_ratchetbase_CopyInts_v1 → Option R_ratchetbase_CopyInts_v1
 | .start l0 =>
   if (fits (List.length ([] : List Int)) (List.length l0) 8) = true then
     some (((), ()), (([] : List Int) ++ l0, ()))
   else none
noncomputable def tab_ratchetbase_CopyInts_v1 : List (Plc E P_ratchetbase_CopyInts_v1) := []
theorem tab_ratchetbase_CopyInts_v1_ok : All (PlcOk 6 0 place_ratchetbase_CopyInts_v1 st_ratchetbase_CopyInts_v1) tab_ratchetbase_CopyInts_v1 := trivial
noncomputable def spec_ratchetbase_CopyInts_v1 : Spec E.S := noSpec
theorem spec_ratchetbase_CopyInts_v1_ok : SpecOk E spec_ratchetbase_CopyInts_v1 := noSpec_ok
noncomputable def code_ratchetbase_CopyInts_v1 : Code := Tryd.f54.body.getD .skip
theorem good_ratchetbase_CopyInts_v1 : ∀ pt r, run_ratchetbase_CopyInts_v1 pt = some r → Good E Tryd.f54 code_ratchetbase_CopyInts_v1 0 (res_ratchetbase_CopyInts_v1.av r) (res_ratchetbase_CopyInts_v1.bx r) (place_ratchetbase_CopyInts_v1 pt) (st_ratchetbase_CopyInts_v1 pt) := by
  intro pt r hr
  cases pt <;> exact fn_step (spec := spec_ratchetbase_CopyInts_v1) (wr := (fun i => mem i [])) (l := tab_ratchetbase_CopyInts_v1) (z := 6) (p := res_ratchetbase_CopyInts_v1) (run' := fun _ => none) E_ok tab_ratchetbase_CopyInts_v1_ok.mem rfl spec_ratchetbase_CopyInts_v1_ok (fun _ _ h => by cases h) (Eq.trans (by kernel_rfl) hr)
noncomputable def con_ratchetbase_CopyInts_v1 : Con E := ⟨54, ((List Int) × Unit), Unit, (RwL.cons (Rw.sl 3) RwL.nil), RdBL.nil, 0, R_ratchetbase_CopyInts_v1, fun a b => run_ratchetbase_CopyInts_v1 (.start a.1), res_ratchetbase_CopyInts_v1.av, res_ratchetbase_CopyInts_v1.bx⟩
theorem con_ratchetbase_CopyInts_v1_ok : con_ratchetbase_CopyInts_v1.Ok := fun a b r h => fn_ok (fn := Tryd.f54) (code := code_ratchetbase_CopyInts_v1) E_ok (by kernel_rfl) (by kernel_rfl) (by kernel_rfl) (Nat.le_of_ble_eq_true rfl) (good_ratchetbase_CopyInts_v1 (.start a.1) r h)

/-! ### slices.Index[[]int,int] -/
inductive P_slices_Index_int_int where
 | start (s0 : (List Int)) (v1 : Int)
 | p52 (s0 : (List Int)) (v1 : Int) (s7 : Int) (s8 : Int)
noncomputable def place_slices_Index_int_int : P_slices_Index_int_int → List Bool
 | .start .. => []
 | .p52 .. => [false, false, true, false, true]
noncomputable def st_slices_Index_int_int : P_slices_Index_int_int → St E.S
 | .start s0 v1 => st0 19 [.sl 3 s0 false, .v (.int .i64 v1)] []
 | .p52 s0 v1 s7 s8 => mkSt 19 [0, 1, 7, 8] [.sl 3 s0 false, .v (.int .i64 v1), .v (.int .i64 s7), .v (.int .i64 s8)] []
abbrev R_slices_Index_int_int : Type := ((Int × Unit) × Unit)
noncomputable def res_slices_Index_int_int : Res E (Int × Unit) Unit := { rows := [], flat := [], keep := 0, rl := (RdL.cons (Rd.int .i64) RdL.nil), rb := RdBL.nil }
noncomputable def run_slices_Index_int_int : P_slices_Index_int_int → Option R_slices_Index_int_int
 | .start s0 v1 =>
   run_slices_Index_int_int (.p52 s0 v1 (List.length s0 : Int) (0 : Int))
 | .p52 s0 v1 s7 s8 =>
   if (decide (s8 < s7)) = true then
     (idx s0 s8) >>= fun t1 =>
     if (v1 == t1) = true then
       some ((s8, ()), ())
     else
       run_slices_Index_int_int (.p52 s0 v1 s7 (IntKind.wrap .i64 (s8 + (1 : Int))))
   else
     some (((-1 : Int), ()), ())
  partial_fixpoint
noncomputable def tab_slices_Index_int_int : List (Plc E P_slices_Index_int_int) := [⟨52, [false, false, true, false, true], { slots := [0, 1, 7, 8], rows := [], flat := [], keep := 0 }, ((List Int) × (Int × (Int × (Int × Unit)))), Unit, (RdL.cons (Rd.sl 3 false) (RdL.cons (Rd.int .i64) (RdL.cons (Rd.int .i64) (RdL.cons (Rd.int .i64) RdL.nil)))), RdBL.nil, fun a b => .p52 a.1 a.2.1 a.2.2.1 a.2.2.2.1⟩]
theorem tab_slices_Index_int_int_ok : All (PlcOk 19 0 place_slices_Index_int_int st_slices_Index_int_int) tab_slices_Index_int_int := ⟨⟨rfl, rfl, fun _ _ => rfl, fun _ _ => rfl⟩, trivial⟩
noncomputable def spec_slices_Index_int_int : Spec E.S := noSpec
theorem spec_slices_Index_int_int_ok : SpecOk E spec_slices_Index_int_int := noSpec_ok
noncomputable def code_slices_Index_int_int : Code := Tryd.f103.body.getD .skip
theorem good_slices_Index_int_int : ∀ pt r, run_slices_Index_int_int pt = some r → Good E Tryd.f103 code_slices_Index_int_int 0 (res_slices_Index_int_int.av r) (res_slices_Index_int_int.bx r) (place_slices_Index_int_int pt) (st_slices_Index_int_int pt) := by
  refine run_slices_Index_int_int.partial_correctness (fun pt r => Good E Tryd.f103 code_slices_Index_int_int 0 (res_slices_Index_int_int.av r) (res_slices_Index_int_int.bx r) (place_slices_Index_int_int pt) (st_slices_Index_int_int pt)) ?_
  intro run' ih pt r hr
  cases pt <;> exact fn_step (spec := spec_slices_Index_int_int) (wr := (fun i => mem i [])) (l := tab_slices_Index_int_int) (z := 19) (p := res_slices_Index_int_int) E_ok tab_slices_Index_int_int_ok.mem rfl spec_slices_Index_int_int_ok ih (Eq.trans (by kernel_rfl) hr)
noncomputable def con_slices_Index_int_int : Con E := ⟨103, ((List Int) × (Int × Unit)), Unit, (RwL.cons (Rw.sl 3) (RwL.cons (Rd.int .i64).w RwL.nil)), RdBL.nil, 0, R_slices_Index_int_int, fun a b => run_slices_Index_int_int (.start a.1 a.2.1), res_slices_Index_int_int.av, res_slices_Index_int_int.bx⟩
theorem con_slices_Index_int_int_ok : con_slices_Index_int_int.Ok := fun a b r h => fn_ok (fn := Tryd.f103) (code := code_slices_Index_int_int) E_ok (by kernel_rfl) (by kernel_rfl) (by kernel_rfl) (Nat.le_of_ble_eq_true rfl) (good_slices_Index_int_int (.start a.1 a.2.1) r h)

/-! ### slices.Contains[[]int,int] -/
inductive P_slices_Contains_int_int where
 | start (s0 : (List Int)) (v1 : Int)
noncomputable def place_slices_Contains_int_int : P_slices_Contains_int_int → List Bool
 | .start .. => []
noncomputable def st_slices_Contains_int_int : P_slices_Contains_int_int → St E.S
 | .start s0 v1 => st0 9 [.sl 3 s0 false, .v (.int .i64 v1)] []
abbrev R_slices_Contains_int_int : Type := ((Bool × Unit) × Unit)
noncomputable def res_slices_Contains_int_int : Res E (Bool × Unit) Unit := { rows := [], flat := [], keep := 0, rl := (RdL.cons Rd.bool RdL.nil), rb := RdBL.nil }
noncomputable def run_slices_Contains_int_int : P_slices_Contains_int_int → Option R_slices_Contains_int_int
 | .start s0 v1 =>
   (run_slices_Index_int_int (.start s0 v1)) >>= fun t1 =>
   some ((decide (t1.1.1 ≥ (0 : Int)), ()), ())
noncomputable def tab_slices_Contains_int_int : List (Plc E P_slices_Contains_int_int) := []
theorem tab_slices_Contains_int_int_ok : All (PlcOk 9 0 place_slices_Contains_int_int st_slices_Contains_int_int) tab_slices_Contains_int_int := trivial
noncomputable def spec_slices_Contains_int_int : Spec E.S := (Con.add con_slices_Index_int_int noSpec)
theorem spec_slices_Contains_int_int_ok : SpecOk E spec_slices_Contains_int_int := (Con.add_ok con_slices_Index_int_int_ok noSpec_ok)
noncomputable def code_slices_Contains_int_int : Code := Tryd.f87.body.getD .skip
theorem good_slices_Contains_int_int : ∀ pt r, run_slices_Contains_int_int pt = some r → Good E Tryd.f87 code_slices_Contains_int_int 0 (res_slices_Contains_int_int.av r) (res_slices_Contains_int_int.bx r) (place_slices_Contains_int_int pt) (st_slices_Contains_int_int pt) := by
  intro pt r hr
  cases pt <;> exact fn_step (spec := spec_slices_Contains_int_int) (wr := (fun i => mem i [])) (l := tab_slices_Contains_int_int) (z := 9) (p := res_slices_Contains_int_int) (run' := fun _ => none) E_ok tab_slices_Contains_int_int_ok.mem rfl spec_slices_Contains_int_int_ok (fun _ _ h => by cases h) (Eq.trans (by kernel_rfl) hr)
noncomputable def con_slices_Contains_int_int : Con E := ⟨87, ((List Int) × (Int × Unit)), Unit, (RwL.cons (Rw.sl 3) (RwL.cons (Rd.int .i64).w RwL.nil)), RdBL.nil, 0, R_slices_Contains_int_int, fun a b => run_slices_Contains_int_int (.start a.1 a.2.1), res_slices_Contains_int_int.av, res_slices_Contains_int_int.bx⟩
theorem con_slices_Contains_int_int_ok : con_slices_Contains_int_int.Ok := fun a b r h => fn_ok (fn := Tryd.f87) (code := code_slices_Contains_int_int) E_ok (by kernel_rfl) (by kernel_rfl) (by kernel_rfl) (Nat.le_of_ble_eq_true rfl) (good_slices_Contains_int_int (.start a.1 a.2.1) r h)

/-! ### (ratchet/bits.word).bit -/
inductive P_bits_word_bit where
 | start (w0_0 : Int) (w0_1 : Int) (i1 : Int)
noncomputable def place_bits_word_bit : P_bits_word_bit → List Bool
 | .start .. => []
noncomputable def st_bits_word_bit : P_bits_word_bit → St E.S
 | .start w0_0 w0_1 i1 => st0 11 [.agg [.v (.int .i64 w0_0), .v (.int .i64 w0_1)], .v (.int .i64 i1)] []
abbrev R_bits_word_bit : Type := ((Int × Unit) × Unit)
noncomputable def res_bits_word_bit : Res E (Int × Unit) Unit := { rows := [], flat := [], keep := 0, rl := (RdL.cons (Rd.int .i64) RdL.nil), rb := RdBL.nil }
noncomputable def run_bits_word_bit : P_bits_word_bit → Option R_bits_word_bit
 | .start w0_0 w0_1 i1 =>
   if (decide ((0 : Int) ≤ i1)) = true then
     some ((bits .and .i64 (shr .i64 w0_1 i1) (1 : Int), ()), ())
   else none
noncomputable def tab_bits_word_bit : List (Plc E P_bits_word_bit) := []
theorem tab_bits_word_bit_ok : All (PlcOk 11 0 place_bits_word_bit st_bits_word_bit) tab_bits_word_bit := trivial
noncomputable def spec_bits_word_bit : Spec E.S := noSpec
theorem spec_bits_word_bit_ok : SpecOk E spec_bits_word_bit := noSpec_ok
noncomputable def code_bits_word_bit : Code := Tryd.f88.body.getD .skip
theorem good_bits_word_bit : ∀ pt r, run_bits_word_bit pt = some r → Good E Tryd.f88 code_bits_word_bit 0 (res_bits_word_bit.av r) (res_bits_word_bit.bx r) (place_bits_word_bit pt) (st_bits_word_bit pt) := by
  intro pt r hr
  cases pt <;> exact fn_step (spec := spec_bits_word_bit) (wr := (fun i => mem i [])) (l := tab_bits_word_bit) (z := 11) (p := res_bits_word_bit) (run' := fun _ => none) E_ok tab_bits_word_bit_ok.mem rfl spec_bits_word_bit_ok (fun _ _ h => by cases h) (Eq.trans (by kernel_rfl) hr)
noncomputable def con_bits_word_bit : Con E := ⟨88, ((Int × (Int × Unit)) × (Int × Unit)), Unit, (RwL.cons (Rw.agg (RwL.cons (Rd.int .i64).w (RwL.cons (Rd.int .i64).w RwL.nil))) (RwL.cons (Rd.int .i64).w RwL.nil)), RdBL.nil, 0, R_bits_word_bit, fun a b => run_bits_word_bit (.start a.1.1 a.1.2.1 a.2.1), res_bits_word_bit.av, res_bits_word_bit.bx⟩
theorem con_bits_word_bit_ok : con_bits_word_bit.Ok := fun a b r h => fn_ok (fn := Tryd.f88) (code := code_bits_word_bit) E_ok (by kernel_rfl) (by kernel_rfl) (by kernel_rfl) (Nat.le_of_ble_eq_true rfl) (good_bits_word_bit (.start a.1.1 a.1.2.1 a.2.1) r h)

/-! ### ratchet/bits.Permuted -/
inductive P_bits_Permuted where
 | start (a0_0 : Int) (a0_1 : Int) (order1 : (List Int))
 | p244 (order1 : (List Int)) (out7 : Int) (s25 : (List Int)) (s26 : Int) (s27 : Int) (B0_0 : Int) (B0_1 : Int) (B1_0 : Int) (B1_1 : Int)
noncomputable def place_bits_Permuted : P_bits_Permuted → List Bool
 | .start .. => []
 | .p244 .. => [false, false, true, false, true, true, true]
noncomputable def st_bits_Permuted : P_bits_Permuted → St E.S
 | .start a0_0 a0_1 order1 => st0 65 [.agg [.v (.int .i64 a0_0), .v (.int .i64 a0_1)], .sl 3 order1 false] []
 | .p244 order1 out7 s25 s26 s27 B0_0 B0_1 B1_0 B1_1 => mkSt 65 [1, 2, 4, 7, 25, 26, 27] [.sl 3 order1 false, .bp 0 0, .bp 1 0, .v (.int .i64 out7), .sl 3 s25 false, .v (.int .i64 s26), .v (.int .i64 s27)] [.var 23 [.v (.int .i64 B0_0), .v (.int .i64 B0_1)], .var 23 [.v (.int .i64 B1_0), .v (.int .i64 B1_1)]]
abbrev R_bits_Permuted : Type := (((Int × (Int × Unit)) × (Int × Unit)) × Unit)
noncomputable def res_bits_Permuted : Res E ((Int × (Int × Unit)) × (Int × Unit)) Unit := { rows := [], flat := [], keep := 0, rl := (RdL.cons (Rd.agg (RdL.cons (Rd.int .i64) (RdL.cons (Rd.int .i64) RdL.nil))) (RdL.cons (Rd.int .i64) RdL.nil)), rb := RdBL.nil }
noncomputable def run_bits_Permuted : P_bits_Permuted → Option R_bits_Permuted
 | .start a0_0 a0_1 order1 =>
   (run_bits_CheckBits (.start a0_0 a0_1)) >>= fun t1 =>
   (run_bits_unless (.start ((List.length order1 : Int) == a0_0) (10 : Int))) >>= fun t2 =>
   (run_bits_first (.start ([t1.1.1, t2.1.1] : List Int))) >>= fun t3 =>
   if (t3.1.1 != (0 : Int)) = true then
     some ((((0 : Int), ((0 : Int), ())), (t3.1.1, ())), ())
   else
     run_bits_Permuted (.p244 order1 (0 : Int) order1 (List.length order1 : Int) (0 : Int) a0_0 a0_1 (0 : Int) (0 : Int))
 | .p244 order1 out7 s25 s26 s27 B0_0 B0_1 B1_0 B1_1 =>
   if (decide (s27 < s26)) = true then
     (idx s25 s27) >>= fun t1 =>
     (run_bits_within (.start t1 (0 : Int) (IntKind.wrap .i64 (B0_0 - (1 : Int))))) >>= fun t2 =>
     (run_bits_unless (.start t2.1.1 (6 : Int))) >>= fun t3 =>
     (span (List.length order1) (0 : Int) s27) >>= fun t4 =>
     (run_slices_Contains_int_int (.start (cut order1 t4) t1)) >>= fun t5 =>
     (run_bits_unless (.start (!t5.1.1) (23 : Int))) >>= fun t6 =>
     (run_bits_first (.start ([t3.1.1, t6.1.1] : List Int))) >>= fun t7 =>
     if (t7.1.1 != (0 : Int)) = true then
       some ((((0 : Int), ((0 : Int), ())), (t7.1.1, ())), ())
     else
       (run_bits_word_bit (.start B0_0 B0_1 t1)) >>= fun t8 =>
       if (decide ((0 : Int) ≤ s27)) = true then
         run_bits_Permuted (.p244 order1 (bits .or .i64 out7 (shl .i64 t8.1.1 s27)) s25 s26 (IntKind.wrap .i64 (s27 + (1 : Int))) B0_0 B0_1 B1_0 B1_1)
       else none
   else
     (run_bits_of (.start out7 B0_0)) >>= fun t9 =>
     some (((t9.1.1.1, (t9.1.1.2.1, ())), ((0 : Int), ())), ())
  partial_fixpoint
noncomputable def tab_bits_Permuted : List (Plc E P_bits_Permuted) := [⟨244, [false, false, true, false, true, true, true], { slots := [1, 2, 4, 7, 25, 26, 27], rows := [], flat := [], keep := 0 }, ((List Int) × (Unit × (Unit × (Int × ((List Int) × (Int × (Int × Unit))))))), ((Int × (Int × Unit)) × ((Int × (Int × Unit)) × Unit)), (RdL.cons (Rd.sl 3 false) (RdL.cons (Rd.bp 0 0) (RdL.cons (Rd.bp 1 0) (RdL.cons (Rd.int .i64) (RdL.cons (Rd.sl 3 false) (RdL.cons (Rd.int .i64) (RdL.cons (Rd.int .i64) RdL.nil))))))), (RdBL.cons (RdB.var 23 (RdL.cons (Rd.int .i64) (RdL.cons (Rd.int .i64) RdL.nil))) (RdBL.cons (RdB.var 23 (RdL.cons (Rd.int .i64) (RdL.cons (Rd.int .i64) RdL.nil))) RdBL.nil)), fun a b => .p244 a.1 a.2.2.2.1 a.2.2.2.2.1 a.2.2.2.2.2.1 a.2.2.2.2.2.2.1 b.1.1 b.1.2.1 b.2.1.1 b.2.1.2.1⟩]
theorem tab_bits_Permuted_ok : All (PlcOk 65 0 place_bits_Permuted st_bits_Permuted) tab_bits_Permuted := ⟨⟨rfl, rfl, fun _ _ => rfl, fun _ _ => rfl⟩, trivial⟩
noncomputable def spec_bits_Permuted : Spec E.S := (Con.add con_bits_of (Con.add con_bits_word_bit (Con.add con_slices_Contains_int_int (Con.add con_bits_within (Con.add con_bits_first (Con.add con_bits_unless (Con.add con_bits_CheckBits noSpec)))))))
theorem spec_bits_Permuted_ok : SpecOk E spec_bits_Permuted := (Con.add_ok con_bits_of_ok (Con.add_ok con_bits_word_bit_ok (Con.add_ok con_slices_Contains_int_int_ok (Con.add_ok con_bits_within_ok (Con.add_ok con_bits_first_ok (Con.add_ok con_bits_unless_ok (Con.add_ok con_bits_CheckBits_ok noSpec_ok)))))))
noncomputable def code_bits_Permuted : Code := Tryd.f53.body.getD .skip
theorem good_bits_Permuted : ∀ pt r, run_bits_Permuted pt = some r → Good E Tryd.f53 code_bits_Permuted 0 (res_bits_Permuted.av r) (res_bits_Permuted.bx r) (place_bits_Permuted pt) (st_bits_Permuted pt) := by
  refine run_bits_Permuted.partial_correctness (fun pt r => Good E Tryd.f53 code_bits_Permuted 0 (res_bits_Permuted.av r) (res_bits_Permuted.bx r) (place_bits_Permuted pt) (st_bits_Permuted pt)) ?_
  intro run' ih pt r hr
  cases pt <;> exact fn_step (spec := spec_bits_Permuted) (wr := (fun i => mem i [])) (l := tab_bits_Permuted) (z := 65) (p := res_bits_Permuted) E_ok tab_bits_Permuted_ok.mem rfl spec_bits_Permuted_ok ih (Eq.trans (by kernel_rfl) hr)
noncomputable def con_bits_Permuted : Con E := ⟨53, ((Int × (Int × Unit)) × ((List Int) × Unit)), Unit, (RwL.cons (Rw.agg (RwL.cons (Rd.int .i64).w (RwL.cons (Rd.int .i64).w RwL.nil))) (RwL.cons (Rw.sl 3) RwL.nil)), RdBL.nil, 0, R_bits_Permuted, fun a b => run_bits_Permuted (.start a.1.1 a.1.2.1 a.2.1), res_bits_Permuted.av, res_bits_Permuted.bx⟩
theorem con_bits_Permuted_ok : con_bits_Permuted.Ok := fun a b r h => fn_ok (fn := Tryd.f53) (code := code_bits_Permuted) E_ok (by kernel_rfl) (by kernel_rfl) (by kernel_rfl) (Nat.le_of_ble_eq_true rfl) (good_bits_Permuted (.start a.1.1 a.1.2.1 a.2.1) r h)

/-! ### ratchet/ratchetref01.Counts -/
inductive P_ratchetref01_Counts where
 | start (a0_0 : Int) (a0_1 : Int)
 | p244 (i5 : Int) (B0_0 : Int) (B0_1 : Int) (B1_0 : Int) (B1_1 : Int) (B1_2 : Int) (B1_3 : Int) (B2 : (List Int)) (B3_0 : Int) (B3_1 : Int) (B3_2 : Int) (B3_3 : Int)
noncomputable def place_ratchetref01_Counts : P_ratchetref01_Counts → List Bool
 | .start .. => []
 | .p244 .. => [false, false, true, false, true, true, true]
noncomputable def st_ratchetref01_Counts : P_ratchetref01_Counts → St E.S
 | .start a0_0 a0_1 => st0 47 [.agg [.v (.int .i64 a0_0), .v (.int .i64 a0_1)]] []
 | .p244 i5 B0_0 B0_1 B1_0 B1_1 B1_2 B1_3 B2 B3_0 B3_1 B3_2 B3_3 => mkSt 47 [1, 2, 3, 4, 5] [.bp 0 0, .bp 1 0, .rw 2, .bp 3 0, .v (.int .i64 i5)] [.var 23 [.v (.int .i64 B0_0), .v (.int .i64 B0_1)], .var 69 [.v (.int .i64 B1_0), .v (.int .i64 B1_1), .v (.int .i64 B1_2), .v (.int .i64 B1_3)], .row 3 B2 true, .var 69 [.v (.int .i64 B3_0), .v (.int .i64 B3_1), .v (.int .i64 B3_2), .v (.int .i64 B3_3)]]
abbrev R_ratchetref01_Counts : Type := (((Int × (Int × (Int × (Int × Unit)))) × Unit) × Unit)
noncomputable def res_ratchetref01_Counts : Res E ((Int × (Int × (Int × (Int × Unit)))) × Unit) Unit := { rows := [], flat := [], keep := 0, rl := (RdL.cons (Rd.agg (RdL.cons (Rd.int .i64) (RdL.cons (Rd.int .i64) (RdL.cons (Rd.int .i64) (RdL.cons (Rd.int .i64) RdL.nil))))) RdL.nil), rb := RdBL.nil }
noncomputable def run_ratchetref01_Counts : P_ratchetref01_Counts → Option R_ratchetref01_Counts
 | .start a0_0 a0_1 =>
   (run_ratchetref01_low (.start a0_1 a0_0)) >>= fun t1 =>
   run_ratchetref01_Counts (.p244 (0 : Int) a0_0 a0_1 (0 : Int) (0 : Int) (0 : Int) (0 : Int) t1.2.1 (0 : Int) a0_0 a0_0 (0 : Int))
 | .p244 i5 B0_0 B0_1 B1_0 B1_1 B1_2 B1_3 B2 B3_0 B3_1 B3_2 B3_3 =>
   if (decide (i5 < B0_0)) = true then
     if (decide ((0 : Int) ≤ i5) && decide (i5 < (List.length B2 : Int))) = true then
       (idx B2 i5) >>= fun t1 =>
       if (t1 == (1 : Int)) = true then
         run_ratchetref01_Counts (.p244 (IntKind.wrap .i64 (i5 + (1 : Int))) B0_0 B0_1 B1_0 B1_1 B1_2 B1_3 B2 (IntKind.wrap .i64 (B3_0 + (1 : Int))) (IntKind.wrap .i64 ((IntKind.wrap .i64 (B0_0 - (1 : Int))) - i5)) (if i5 < B3_2 then i5 else B3_2) B3_3)
       else
         run_ratchetref01_Counts (.p244 (IntKind.wrap .i64 (i5 + (1 : Int))) B0_0 B0_1 B1_0 B1_1 B1_2 B1_3 B2 B3_0 B3_1 B3_2 B3_3)
     else none
   else
     if (!((2 : Int) == (0 : Int))) = true then
       some (((B3_0, (B3_1, (B3_2, (Int.tmod B3_0 (2 : Int), ())))), ()), ())
     else none
  partial_fixpoint
noncomputable def tab_ratchetref01_Counts : List (Plc E P_ratchetref01_Counts) := [⟨244, [false, false, true, false, true, true, true], { slots := [1, 2, 3, 4, 5], rows := [], flat := [], keep := 0 }, (Unit × (Unit × (Unit × (Unit × (Int × Unit))))), ((Int × (Int × Unit)) × ((Int × (Int × (Int × (Int × Unit)))) × ((List Int) × ((Int × (Int × (Int × (Int × Unit)))) × Unit)))), (RdL.cons (Rd.bp 0 0) (RdL.cons (Rd.bp 1 0) (RdL.cons (Rd.rw 2) (RdL.cons (Rd.bp 3 0) (RdL.cons (Rd.int .i64) RdL.nil))))), (RdBL.cons (RdB.var 23 (RdL.cons (Rd.int .i64) (RdL.cons (Rd.int .i64) RdL.nil))) (RdBL.cons (RdB.var 69 (RdL.cons (Rd.int .i64) (RdL.cons (Rd.int .i64) (RdL.cons (Rd.int .i64) (RdL.cons (Rd.int .i64) RdL.nil))))) (RdBL.cons (RdB.row 3 true) (RdBL.cons (RdB.var 69 (RdL.cons (Rd.int .i64) (RdL.cons (Rd.int .i64) (RdL.cons (Rd.int .i64) (RdL.cons (Rd.int .i64) RdL.nil))))) RdBL.nil)))), fun a b => .p244 a.2.2.2.2.1 b.1.1 b.1.2.1 b.2.1.1 b.2.1.2.1 b.2.1.2.2.1 b.2.1.2.2.2.1 b.2.2.1 b.2.2.2.1.1 b.2.2.2.1.2.1 b.2.2.2.1.2.2.1 b.2.2.2.1.2.2.2.1⟩]
theorem tab_ratchetref01_Counts_ok : All (PlcOk 47 0 place_ratchetref01_Counts st_ratchetref01_Counts) tab_ratchetref01_Counts := ⟨⟨rfl, rfl, fun _ _ => rfl, fun _ _ => rfl⟩, trivial⟩
noncomputable def spec_ratchetref01_Counts : Spec E.S := (Con.add con_ratchetref01_low noSpec)
theorem spec_ratchetref01_Counts_ok : SpecOk E spec_ratchetref01_Counts := (Con.add_ok con_ratchetref01_low_ok noSpec_ok)
noncomputable def code_ratchetref01_Counts : Code := Tryd.f55.body.getD .skip
theorem good_ratchetref01_Counts : ∀ pt r, run_ratchetref01_Counts pt = some r → Good E Tryd.f55 code_ratchetref01_Counts 0 (res_ratchetref01_Counts.av r) (res_ratchetref01_Counts.bx r) (place_ratchetref01_Counts pt) (st_ratchetref01_Counts pt) := by
  refine run_ratchetref01_Counts.partial_correctness (fun pt r => Good E Tryd.f55 code_ratchetref01_Counts 0 (res_ratchetref01_Counts.av r) (res_ratchetref01_Counts.bx r) (place_ratchetref01_Counts pt) (st_ratchetref01_Counts pt)) ?_
  intro run' ih pt r hr
  cases pt <;> exact fn_step (spec := spec_ratchetref01_Counts) (wr := (fun i => mem i [])) (l := tab_ratchetref01_Counts) (z := 47) (p := res_ratchetref01_Counts) E_ok tab_ratchetref01_Counts_ok.mem rfl spec_ratchetref01_Counts_ok ih (Eq.trans (by kernel_rfl) hr)
noncomputable def con_ratchetref01_Counts : Con E := ⟨55, ((Int × (Int × Unit)) × Unit), Unit, (RwL.cons (Rw.agg (RwL.cons (Rd.int .i64).w (RwL.cons (Rd.int .i64).w RwL.nil))) RwL.nil), RdBL.nil, 0, R_ratchetref01_Counts, fun a b => run_ratchetref01_Counts (.start a.1.1 a.1.2.1), res_ratchetref01_Counts.av, res_ratchetref01_Counts.bx⟩
theorem con_ratchetref01_Counts_ok : con_ratchetref01_Counts.Ok := fun a b r h => fn_ok (fn := Tryd.f55) (code := code_ratchetref01_Counts) E_ok (by kernel_rfl) (by kernel_rfl) (by kernel_rfl) (Nat.le_of_ble_eq_true rfl) (good_ratchetref01_Counts (.start a.1.1 a.1.2.1) r h)

/-! ### ratchet/ratchetref01.HotErr -/
inductive P_ratchetref01_HotErr where
 | start (index0 : Int) (width1 : Int)
noncomputable def place_ratchetref01_HotErr : P_ratchetref01_HotErr → List Bool
 | .start .. => []
noncomputable def st_ratchetref01_HotErr : P_ratchetref01_HotErr → St E.S
 | .start index0 width1 => st0 13 [.v (.int .i64 index0), .v (.int .i64 width1)] []
abbrev R_ratchetref01_HotErr : Type := ((Int × Unit) × Unit)
noncomputable def res_ratchetref01_HotErr : Res E (Int × Unit) Unit := { rows := [], flat := [], keep := 0, rl := (RdL.cons (Rd.int .i64) RdL.nil), rb := RdBL.nil }
noncomputable def run_ratchetref01_HotErr : P_ratchetref01_HotErr → Option R_ratchetref01_HotErr
 | .start index0 width1 =>
   (run_ratchetbase_IsWidth (.start width1)) >>= fun t1 =>
   if (!t1.1.1) = true then
     some (((25 : Int), ()), ())
   else
     (run_ratchetbase_Within (.start index0 (0 : Int) (IntKind.wrap .i64 (width1 - (1 : Int))))) >>= fun t2 =>
     if (!t2.1.1) = true then
       some (((2 : Int), ()), ())
     else
       some (((0 : Int), ()), ())
noncomputable def tab_ratchetref01_HotErr : List (Plc E P_ratchetref01_HotErr) := []
theorem tab_ratchetref01_HotErr_ok : All (PlcOk 13 0 place_ratchetref01_HotErr st_ratchetref01_HotErr) tab_ratchetref01_HotErr := trivial
noncomputable def spec_ratchetref01_HotErr : Spec E.S := (Con.add con_ratchetbase_Within (Con.add con_ratchetbase_IsWidth noSpec))
theorem spec_ratchetref01_HotErr_ok : SpecOk E spec_ratchetref01_HotErr := (Con.add_ok con_ratchetbase_Within_ok (Con.add_ok con_ratchetbase_IsWidth_ok noSpec_ok))
noncomputable def code_ratchetref01_HotErr : Code := Tryd.f56.body.getD .skip
theorem good_ratchetref01_HotErr : ∀ pt r, run_ratchetref01_HotErr pt = some r → Good E Tryd.f56 code_ratchetref01_HotErr 0 (res_ratchetref01_HotErr.av r) (res_ratchetref01_HotErr.bx r) (place_ratchetref01_HotErr pt) (st_ratchetref01_HotErr pt) := by
  intro pt r hr
  cases pt <;> exact fn_step (spec := spec_ratchetref01_HotErr) (wr := (fun i => mem i [])) (l := tab_ratchetref01_HotErr) (z := 13) (p := res_ratchetref01_HotErr) (run' := fun _ => none) E_ok tab_ratchetref01_HotErr_ok.mem rfl spec_ratchetref01_HotErr_ok (fun _ _ h => by cases h) (Eq.trans (by kernel_rfl) hr)
noncomputable def con_ratchetref01_HotErr : Con E := ⟨56, (Int × (Int × Unit)), Unit, (RwL.cons (Rd.int .i64).w (RwL.cons (Rd.int .i64).w RwL.nil)), RdBL.nil, 0, R_ratchetref01_HotErr, fun a b => run_ratchetref01_HotErr (.start a.1 a.2.1), res_ratchetref01_HotErr.av, res_ratchetref01_HotErr.bx⟩
theorem con_ratchetref01_HotErr_ok : con_ratchetref01_HotErr.Ok := fun a b r h => fn_ok (fn := Tryd.f56) (code := code_ratchetref01_HotErr) E_ok (by kernel_rfl) (by kernel_rfl) (by kernel_rfl) (Nat.le_of_ble_eq_true rfl) (good_ratchetref01_HotErr (.start a.1 a.2.1) r h)

/-! ### ratchet/ratchetref01.IndexErr -/
inductive P_ratchetref01_IndexErr where
 | start (a0_0 : Int) (a0_1 : Int)
noncomputable def place_ratchetref01_IndexErr : P_ratchetref01_IndexErr → List Bool
 | .start .. => []
noncomputable def st_ratchetref01_IndexErr : P_ratchetref01_IndexErr → St E.S
 | .start a0_0 a0_1 => st0 13 [.agg [.v (.int .i64 a0_0), .v (.int .i64 a0_1)]] []
abbrev R_ratchetref01_IndexErr : Type := ((Int × Unit) × Unit)
noncomputable def res_ratchetref01_IndexErr : Res E (Int × Unit) Unit := { rows := [], flat := [], keep := 0, rl := (RdL.cons (Rd.int .i64) RdL.nil), rb := RdBL.nil }
noncomputable def run_ratchetref01_IndexErr : P_ratchetref01_IndexErr → Option R_ratchetref01_IndexErr
 | .start a0_0 a0_1 =>
   (run_ratchetref01_BitsErr (.start a0_0 a0_1)) >>= fun t1 =>
   if (t1.1.1 != (0 : Int)) = true then
     some ((t1.1.1, ()), ())
   else
     (run_ratchetref01_Counts (.start a0_0 a0_1)) >>= fun t2 =>
     if (t2.1.1.1 != (1 : Int)) = true then
       some (((3 : Int), ()), ())
     else
       some (((0 : Int), ()), ())
noncomputable def tab_ratchetref01_IndexErr : List (Plc E P_ratchetref01_IndexErr) := []
theorem tab_ratchetref01_IndexErr_ok : All (PlcOk 13 0 place_ratchetref01_IndexErr st_ratchetref01_IndexErr) tab_ratchetref01_IndexErr := trivial
noncomputable def spec_ratchetref01_IndexErr : Spec E.S := (Con.add con_ratchetref01_Counts (Con.add con_ratchetref01_BitsErr noSpec))
theorem spec_ratchetref01_IndexErr_ok : SpecOk E spec_ratchetref01_IndexErr := (Con.add_ok con_ratchetref01_Counts_ok (Con.add_ok con_ratchetref01_BitsErr_ok noSpec_ok))
noncomputable def code_ratchetref01_IndexErr : Code := Tryd.f57.body.getD .skip
theorem good_ratchetref01_IndexErr : ∀ pt r, run_ratchetref01_IndexErr pt = some r → Good E Tryd.f57 code_ratchetref01_IndexErr 0 (res_ratchetref01_IndexErr.av r) (res_ratchetref01_IndexErr.bx r) (place_ratchetref01_IndexErr pt) (st_ratchetref01_IndexErr pt) := by
  intro pt r hr
  cases pt <;> exact fn_step (spec := spec_ratchetref01_IndexErr) (wr := (fun i => mem i [])) (l := tab_ratchetref01_IndexErr) (z := 13) (p := res_ratchetref01_IndexErr) (run' := fun _ => none) E_ok tab_ratchetref01_IndexErr_ok.mem rfl spec_ratchetref01_IndexErr_ok (fun _ _ h => by cases h) (Eq.trans (by kernel_rfl) hr)
noncomputable def con_ratchetref01_IndexErr : Con E := ⟨57, ((Int × (Int × Unit)) × Unit), Unit, (RwL.cons (Rw.agg (RwL.cons (Rd.int .i64).w (RwL.cons (Rd.int .i64).w RwL.nil))) RwL.nil), RdBL.nil, 0, R_ratchetref01_IndexErr, fun a b => run_ratchetref01_IndexErr (.start a.1.1 a.1.2.1), res_ratchetref01_IndexErr.av, res_ratchetref01_IndexErr.bx⟩
theorem con_ratchetref01_IndexErr_ok : con_ratchetref01_IndexErr.Ok := fun a b r h => fn_ok (fn := Tryd.f57) (code := code_ratchetref01_IndexErr) E_ok (by kernel_rfl) (by kernel_rfl) (by kernel_rfl) (Nat.le_of_ble_eq_true rfl) (good_ratchetref01_IndexErr (.start a.1.1 a.1.2.1) r h)

/-! ### ratchet/ratchetbase.Has -/
inductive P_ratchetbase_Has where
 | start (l0 : (List Int)) (n1 : Int)
 | p52 (l0 : (List Int)) (n1 : Int) (i5 : Int)
noncomputable def place_ratchetbase_Has : P_ratchetbase_Has → List Bool
 | .start .. => []
 | .p52 .. => [false, false, true, false, true]
noncomputable def st_ratchetbase_Has : P_ratchetbase_Has → St E.S
 | .start l0 n1 => st0 18 [.sl 3 l0 false, .v (.int .i64 n1)] []
 | .p52 l0 n1 i5 => mkSt 18 [0, 1, 5] [.sl 3 l0 false, .v (.int .i64 n1), .v (.int .i64 i5)] []
abbrev R_ratchetbase_Has : Type := ((Bool × Unit) × Unit)
noncomputable def res_ratchetbase_Has : Res E (Bool × Unit) Unit := { rows := [], flat := [], keep := 0, rl := (RdL.cons Rd.bool RdL.nil), rb := RdBL.nil }
noncomputable def run_ratchetbase_Has : P_ratchetbase_Has → Option R_ratchetbase_Has
 | .start l0 n1 =>
   run_ratchetbase_Has (.p52 l0 n1 (0 : Int))
 | .p52 l0 n1 i5 =>
   if (decide (i5 < (List.length l0 : Int))) = true then
     (idx l0 i5) >>= fun t1 =>
     if (t1 == n1) = true then
       some ((true, ()), ())
     else
       run_ratchetbase_Has (.p52 l0 n1 (IntKind.wrap .i64 (i5 + (1 : Int))))
   else
     some ((false, ()), ())
  partial_fixpoint
noncomputable def tab_ratchetbase_Has : List (Plc E P_ratchetbase_Has) := [⟨52, [false, false, true, false, true], { slots := [0, 1, 5], rows := [], flat := [], keep := 0 }, ((List Int) × (Int × (Int × Unit))), Unit, (RdL.cons (Rd.sl 3 false) (RdL.cons (Rd.int .i64) (RdL.cons (Rd.int .i64) RdL.nil))), RdBL.nil, fun a b => .p52 a.1 a.2.1 a.2.2.1⟩]
theorem tab_ratchetbase_Has_ok : All (PlcOk 18 0 place_ratchetbase_Has st_ratchetbase_Has) tab_ratchetbase_Has := ⟨⟨rfl, rfl, fun _ _ => rfl, fun _ _ => rfl⟩, trivial⟩
noncomputable def spec_ratchetbase_Has : Spec E.S := noSpec
theorem spec_ratchetbase_Has_ok : SpecOk E spec_ratchetbase_Has := noSpec_ok
noncomputable def code_ratchetbase_Has : Code := Tryd.f89.body.getD .skip
theorem good_ratchetbase_Has : ∀ pt r, run_ratchetbase_Has pt = some r → Good E Tryd.f89 code_ratchetbase_Has 0 (res_ratchetbase_Has.av r) (res_ratchetbase_Has.bx r) (place_ratchetbase_Has pt) (st_ratchetbase_Has pt) := by
  refine run_ratchetbase_Has.partial_correctness (fun pt r => Good E Tryd.f89 code_ratchetbase_Has 0 (res_ratchetbase_Has.av r) (res_ratchetbase_Has.bx r) (place_ratchetbase_Has pt) (st_ratchetbase_Has pt)) ?_
  intro run' ih pt r hr
  cases pt <;> exact fn_step (spec := spec_ratchetbase_Has) (wr := (fun i => mem i [])) (l := tab_ratchetbase_Has) (z := 18) (p := res_ratchetbase_Has) E_ok tab_ratchetbase_Has_ok.mem rfl spec_ratchetbase_Has_ok ih (Eq.trans (by kernel_rfl) hr)
noncomputable def con_ratchetbase_Has : Con E := ⟨89, ((List Int) × (Int × Unit)), Unit, (RwL.cons (Rw.sl 3) (RwL.cons (Rd.int .i64).w RwL.nil)), RdBL.nil, 0, R_ratchetbase_Has, fun a b => run_ratchetbase_Has (.start a.1 a.2.1), res_ratchetbase_Has.av, res_ratchetbase_Has.bx⟩
theorem con_ratchetbase_Has_ok : con_ratchetbase_Has.Ok := fun a b r h => fn_ok (fn := Tryd.f89) (code := code_ratchetbase_Has) E_ok (by kernel_rfl) (by kernel_rfl) (by kernel_rfl) (Nat.le_of_ble_eq_true rfl) (good_ratchetbase_Has (.start a.1 a.2.1) r h)

/-! ### ratchet/ratchetref01.OrderErr -/
inductive P_ratchetref01_OrderErr where
 | start (a0_0 : Int) (a0_1 : Int) (order1 : (List Int))
 | p244 (order1 : (List Int)) (i6 : Int) (B0_0 : Int) (B0_1 : Int)
noncomputable def place_ratchetref01_OrderErr : P_ratchetref01_OrderErr → List Bool
 | .start .. => []
 | .p244 .. => [false, false, true, false, true, true, true]
noncomputable def st_ratchetref01_OrderErr : P_ratchetref01_OrderErr → St E.S
 | .start a0_0 a0_1 order1 => st0 40 [.agg [.v (.int .i64 a0_0), .v (.int .i64 a0_1)], .sl 3 order1 false] []
 | .p244 order1 i6 B0_0 B0_1 => mkSt 40 [1, 2, 6] [.sl 3 order1 false, .bp 0 0, .v (.int .i64 i6)] [.var 23 [.v (.int .i64 B0_0), .v (.int .i64 B0_1)]]
abbrev R_ratchetref01_OrderErr : Type := ((Int × Unit) × Unit)
noncomputable def res_ratchetref01_OrderErr : Res E (Int × Unit) Unit := { rows := [], flat := [], keep := 0, rl := (RdL.cons (Rd.int .i64) RdL.nil), rb := RdBL.nil }
noncomputable def run_ratchetref01_OrderErr : P_ratchetref01_OrderErr → Option R_ratchetref01_OrderErr
 | .start a0_0 a0_1 order1 =>
   (run_ratchetref01_BitsErr (.start a0_0 a0_1)) >>= fun t1 =>
   if (t1.1.1 != (0 : Int)) = true then
     some ((t1.1.1, ()), ())
   else
     if ((List.length order1 : Int) != a0_0) = true then
       some (((10 : Int), ()), ())
     else
       run_ratchetref01_OrderErr (.p244 order1 (0 : Int) a0_0 a0_1)
 | .p244 order1 i6 B0_0 B0_1 =>
   if (decide (i6 < (List.length order1 : Int))) = true then
     (idx order1 i6) >>= fun t1 =>
     (run_ratchetbase_Within (.start t1 (0 : Int) (IntKind.wrap .i64 (B0_0 - (1 : Int))))) >>= fun t2 =>
     if (!t2.1.1) = true then
       some (((6 : Int), ()), ())
     else
       (span (List.length order1) (0 : Int) i6) >>= fun t3 =>
       (idx order1 i6) >>= fun t4 =>
       (run_ratchetbase_Has (.start (cut order1 t3) t4)) >>= fun t5 =>
       if t5.1.1 = true then
         some (((23 : Int), ()), ())
       else
         run_ratchetref01_OrderErr (.p244 order1 (IntKind.wrap .i64 (i6 + (1 : Int))) B0_0 B0_1)
   else
     some (((0 : Int), ()), ())
  partial_fixpoint
noncomputable def tab_ratchetref01_OrderErr : List (Plc E P_ratchetref01_OrderErr) := [⟨244, [false, false, true, false, true, true, true], { slots := [1, 2, 6], rows := [], flat := [], keep := 0 }, ((List Int) × (Unit × (Int × Unit))), ((Int × (Int × Unit)) × Unit), (RdL.cons (Rd.sl 3 false) (RdL.cons (Rd.bp 0 0) (RdL.cons (Rd.int .i64) RdL.nil))), (RdBL.cons (RdB.var 23 (RdL.cons (Rd.int .i64) (RdL.cons (Rd.int .i64) RdL.nil))) RdBL.nil), fun a b => .p244 a.1 a.2.2.1 b.1.1 b.1.2.1⟩]
theorem tab_ratchetref01_OrderErr_ok : All (PlcOk 40 0 place_ratchetref01_OrderErr st_ratchetref01_OrderErr) tab_ratchetref01_OrderErr := ⟨⟨rfl, rfl, fun _ _ => rfl, fun _ _ => rfl⟩, trivial⟩
noncomputable def spec_ratchetref01_OrderErr : Spec E.S := (Con.add con_ratchetbase_Has (Con.add con_ratchetbase_Within (Con.add con_ratchetref01_BitsErr noSpec)))
theorem spec_ratchetref01_OrderErr_ok : SpecOk E spec_ratchetref01_OrderErr := (Con.add_ok con_ratchetbase_Has_ok (Con.add_ok con_ratchetbase_Within_ok (Con.add_ok con_ratchetref01_BitsErr_ok noSpec_ok)))
noncomputable def code_ratchetref01_OrderErr : Code := Tryd.f58.body.getD .skip
theorem good_ratchetref01_OrderErr : ∀ pt r, run_ratchetref01_OrderErr pt = some r → Good E Tryd.f58 code_ratchetref01_OrderErr 0 (res_ratchetref01_OrderErr.av r) (res_ratchetref01_OrderErr.bx r) (place_ratchetref01_OrderErr pt) (st_ratchetref01_OrderErr pt) := by
  refine run_ratchetref01_OrderErr.partial_correctness (fun pt r => Good E Tryd.f58 code_ratchetref01_OrderErr 0 (res_ratchetref01_OrderErr.av r) (res_ratchetref01_OrderErr.bx r) (place_ratchetref01_OrderErr pt) (st_ratchetref01_OrderErr pt)) ?_
  intro run' ih pt r hr
  cases pt <;> exact fn_step (spec := spec_ratchetref01_OrderErr) (wr := (fun i => mem i [])) (l := tab_ratchetref01_OrderErr) (z := 40) (p := res_ratchetref01_OrderErr) E_ok tab_ratchetref01_OrderErr_ok.mem rfl spec_ratchetref01_OrderErr_ok ih (Eq.trans (by kernel_rfl) hr)
noncomputable def con_ratchetref01_OrderErr : Con E := ⟨58, ((Int × (Int × Unit)) × ((List Int) × Unit)), Unit, (RwL.cons (Rw.agg (RwL.cons (Rd.int .i64).w (RwL.cons (Rd.int .i64).w RwL.nil))) (RwL.cons (Rw.sl 3) RwL.nil)), RdBL.nil, 0, R_ratchetref01_OrderErr, fun a b => run_ratchetref01_OrderErr (.start a.1.1 a.1.2.1 a.2.1), res_ratchetref01_OrderErr.av, res_ratchetref01_OrderErr.bx⟩
theorem con_ratchetref01_OrderErr_ok : con_ratchetref01_OrderErr.Ok := fun a b r h => fn_ok (fn := Tryd.f58) (code := code_ratchetref01_OrderErr) E_ok (by kernel_rfl) (by kernel_rfl) (by kernel_rfl) (Nat.le_of_ble_eq_true rfl) (good_ratchetref01_OrderErr (.start a.1.1 a.1.2.1 a.2.1) r h)

/-! ### ratchet/ratchetref01.Permute -/
inductive P_ratchetref01_Permute where
 | start (a0_0 : Int) (a0_1 : Int) (order1 : (List Int))
 | p244 (order1 : (List Int)) (i7 : Int) (B0_0 : Int) (B0_1 : Int) (B1_0 : Int) (B1_1 : Int) (B2 : (List Int)) (B3 : (List Int))
noncomputable def place_ratchetref01_Permute : P_ratchetref01_Permute → List Bool
 | .start .. => []
 | .p244 .. => [false, false, true, false, true, true, true]
noncomputable def st_ratchetref01_Permute : P_ratchetref01_Permute → St E.S
 | .start a0_0 a0_1 order1 => st0 34 [.agg [.v (.int .i64 a0_0), .v (.int .i64 a0_1)], .sl 3 order1 false] []
 | .p244 order1 i7 B0_0 B0_1 B1_0 B1_1 B2 B3 => mkSt 34 [1, 2, 4, 5, 6, 7] [.sl 3 order1 false, .bp 0 0, .bp 1 0, .rw 2, .rw 3, .v (.int .i64 i7)] [.var 23 [.v (.int .i64 B0_0), .v (.int .i64 B0_1)], .var 23 [.v (.int .i64 B1_0), .v (.int .i64 B1_1)], .row 3 B2 true, .row 3 B3 true]
abbrev R_ratchetref01_Permute : Type := (((Int × (Int × Unit)) × Unit) × Unit)
noncomputable def res_ratchetref01_Permute : Res E ((Int × (Int × Unit)) × Unit) Unit := { rows := [], flat := [], keep := 0, rl := (RdL.cons (Rd.agg (RdL.cons (Rd.int .i64) (RdL.cons (Rd.int .i64) RdL.nil))) RdL.nil), rb := RdBL.nil }
noncomputable def run_ratchetref01_Permute : P_ratchetref01_Permute → Option R_ratchetref01_Permute
 | .start a0_0 a0_1 order1 =>
   (run_ratchetref01_low (.start a0_1 a0_0)) >>= fun t1 =>
   run_ratchetref01_Permute (.p244 order1 (0 : Int) a0_0 a0_1 (0 : Int) (0 : Int) t1.2.1 ([]))
 | .p244 order1 i7 B0_0 B0_1 B1_0 B1_1 B2 B3 =>
   if (decide (i7 < (List.length order1 : Int))) = true then
     (idx order1 i7) >>= fun t1 =>
     if (decide ((0 : Int) ≤ t1) && decide (t1 < (List.length B2 : Int))) = true then
       (idx B2 t1) >>= fun t2 =>
       if (fits (List.length B3) (List.length ([t2] : List Int)) 8) = true then
         run_ratchetref01_Permute (.p244 order1 (IntKind.wrap .i64 (i7 + (1 : Int))) B0_0 B0_1 B1_0 B1_1 B2 (B3 ++ ([t2] : List Int)))
       else none
     else none
   else
     (run_ratchetref01_whole (.start B3)) >>= fun t3 =>
     some (((B0_0, (t3.1.1, ())), ()), ())
  partial_fixpoint
noncomputable def tab_ratchetref01_Permute : List (Plc E P_ratchetref01_Permute) := [⟨244, [false, false, true, false, true, true, true], { slots := [1, 2, 4, 5, 6, 7], rows := [(6, 3)], flat := [], keep := 0 }, ((List Int) × (Unit × (Unit × (Unit × (Unit × (Int × Unit)))))), ((Int × (Int × Unit)) × ((Int × (Int × Unit)) × ((List Int) × ((List Int) × Unit)))), (RdL.cons (Rd.sl 3 false) (RdL.cons (Rd.bp 0 0) (RdL.cons (Rd.bp 1 0) (RdL.cons (Rd.rw 2) (RdL.cons (Rd.rw 3) (RdL.cons (Rd.int .i64) RdL.nil)))))), (RdBL.cons (RdB.var 23 (RdL.cons (Rd.int .i64) (RdL.cons (Rd.int .i64) RdL.nil))) (RdBL.cons (RdB.var 23 (RdL.cons (Rd.int .i64) (RdL.cons (Rd.int .i64) RdL.nil))) (RdBL.cons (RdB.row 3 true) (RdBL.cons (RdB.row 3 true) RdBL.nil)))), fun a b => .p244 a.1 a.2.2.2.2.2.1 b.1.1 b.1.2.1 b.2.1.1 b.2.1.2.1 b.2.2.1 b.2.2.2.1⟩]
theorem tab_ratchetref01_Permute_ok : All (PlcOk 34 0 place_ratchetref01_Permute st_ratchetref01_Permute) tab_ratchetref01_Permute := ⟨⟨rfl, rfl, fun _ _ => rfl, fun _ _ => rfl⟩, trivial⟩
noncomputable def spec_ratchetref01_Permute : Spec E.S := (Con.add con_ratchetref01_whole (Con.add con_ratchetref01_low noSpec))
theorem spec_ratchetref01_Permute_ok : SpecOk E spec_ratchetref01_Permute := (Con.add_ok con_ratchetref01_whole_ok (Con.add_ok con_ratchetref01_low_ok noSpec_ok))
noncomputable def code_ratchetref01_Permute : Code := Tryd.f59.body.getD .skip
theorem good_ratchetref01_Permute : ∀ pt r, run_ratchetref01_Permute pt = some r → Good E Tryd.f59 code_ratchetref01_Permute 0 (res_ratchetref01_Permute.av r) (res_ratchetref01_Permute.bx r) (place_ratchetref01_Permute pt) (st_ratchetref01_Permute pt) := by
  refine run_ratchetref01_Permute.partial_correctness (fun pt r => Good E Tryd.f59 code_ratchetref01_Permute 0 (res_ratchetref01_Permute.av r) (res_ratchetref01_Permute.bx r) (place_ratchetref01_Permute pt) (st_ratchetref01_Permute pt)) ?_
  intro run' ih pt r hr
  cases pt <;> exact fn_step (spec := spec_ratchetref01_Permute) (wr := (fun i => mem i [])) (l := tab_ratchetref01_Permute) (z := 34) (p := res_ratchetref01_Permute) E_ok tab_ratchetref01_Permute_ok.mem rfl spec_ratchetref01_Permute_ok ih (Eq.trans (by kernel_rfl) hr)
noncomputable def con_ratchetref01_Permute : Con E := ⟨59, ((Int × (Int × Unit)) × ((List Int) × Unit)), Unit, (RwL.cons (Rw.agg (RwL.cons (Rd.int .i64).w (RwL.cons (Rd.int .i64).w RwL.nil))) (RwL.cons (Rw.sl 3) RwL.nil)), RdBL.nil, 0, R_ratchetref01_Permute, fun a b => run_ratchetref01_Permute (.start a.1.1 a.1.2.1 a.2.1), res_ratchetref01_Permute.av, res_ratchetref01_Permute.bx⟩
theorem con_ratchetref01_Permute_ok : con_ratchetref01_Permute.Ok := fun a b r h => fn_ok (fn := Tryd.f59) (code := code_ratchetref01_Permute) E_ok (by kernel_rfl) (by kernel_rfl) (by kernel_rfl) (Nat.le_of_ble_eq_true rfl) (good_ratchetref01_Permute (.start a.1.1 a.1.2.1 a.2.1) r h)

/-! ### ratchet/ratchetlaw01.BitsCounts -/
inductive P_ratchetlaw01_BitsCounts where
 | start (a0_0 : Int) (a0_1 : Int) (x1_0 : Int) (x1_1 : Int) (order2 : (List Int))
 | p511 (order2 : (List Int)) (f10 : Int) (i11 : Int) (g12 : Int) (h14 : Int) (B0_0 : Int) (B0_1 : Int) (B1_0 : Int) (B1_1 : Int) (B2_0 : Int) (B2_1 : Int) (B3_0 : Int) (B3_1 : Int)
 | p1023 (order2 : (List Int)) (i11 : Int) (g12 : Int) (h14 : Int) (B0_0 : Int) (B0_1 : Int) (B1_0 : Int) (B1_1 : Int)
 | p2047 (order2 : (List Int)) (h14 : Int) (B0_0 : Int) (B0_1 : Int) (B1_0 : Int) (B1_1 : Int)
noncomputable def place_ratchetlaw01_BitsCounts : P_ratchetlaw01_BitsCounts → List Bool
 | .start .. => []
 | .p511 .. => [true, true, true, true, true, true, true, true]
 | .p1023 .. => [true, true, true, true, true, true, true, true, true]
 | .p2047 .. => [true, true, true, true, true, true, true, true, true, true]
noncomputable def st_ratchetlaw01_BitsCounts : P_ratchetlaw01_BitsCounts → St E.S
 | .start a0_0 a0_1 x1_0 x1_1 order2 => st0 162 [.agg [.v (.int .i64 a0_0), .v (.int .i64 a0_1)], .agg [.v (.int .i64 x1_0), .v (.int .i64 x1_1)], .sl 3 order2 false] []
 | .p511 order2 f10 i11 g12 h14 B0_0 B0_1 B1_0 B1_1 B2_0 B2_1 B3_0 B3_1 => mkSt 162 [2, 3, 4, 9, 10, 11, 12, 13, 14] [.sl 3 order2 false, .bp 0 0, .bp 1 0, .bp 2 0, .v (.int .i64 f10), .v (.int .i64 i11), .v (.int .i64 g12), .bp 3 0, .v (.int .i64 h14)] [.var 23 [.v (.int .i64 B0_0), .v (.int .i64 B0_1)], .var 57 [.v (.int .i64 B1_0), .v (.int .i64 B1_1)], .var 23 [.v (.int .i64 B2_0), .v (.int .i64 B2_1)], .var 23 [.v (.int .i64 B3_0), .v (.int .i64 B3_1)]]
 | .p1023 order2 i11 g12 h14 B0_0 B0_1 B1_0 B1_1 => mkSt 162 [2, 3, 11, 12, 13, 14] [.sl 3 order2 false, .bp 0 0, .v (.int .i64 i11), .v (.int .i64 g12), .bp 1 0, .v (.int .i64 h14)] [.var 23 [.v (.int .i64 B0_0), .v (.int .i64 B0_1)], .var 23 [.v (.int .i64 B1_0), .v (.int .i64 B1_1)]]
 | .p2047 order2 h14 B0_0 B0_1 B1_0 B1_1 => mkSt 162 [2, 3, 13, 14] [.sl 3 order2 false, .bp 0 0, .bp 1 0, .v (.int .i64 h14)] [.var 23 [.v (.int .i64 B0_0), .v (.int .i64 B0_1)], .var 23 [.v (.int .i64 B1_0), .v (.int .i64 B1_1)]]
abbrev R_ratchetlaw01_BitsCounts : Type := ((Bool × Unit) × Unit)
noncomputable def res_ratchetlaw01_BitsCounts : Res E (Bool × Unit) Unit := { rows := [], flat := [], keep := 0, rl := (RdL.cons Rd.bool RdL.nil), rb := RdBL.nil }
noncomputable def run_ratchetlaw01_BitsCounts : P_ratchetlaw01_BitsCounts → Option R_ratchetlaw01_BitsCounts
 | .start a0_0 a0_1 x1_0 x1_1 order2 =>
   (some () : Option Unit) >>= fun t1 =>
   if (!true) = true then
     some ((false, ()), ())
   else
     if (decide ((List.length order2 : Int) > (18 : Int))) = true then
       some ((true, ()), ())
     else
       (run_bits_CountsOf (.start a0_0 a0_1)) >>= fun t2 =>
       (run_bits_OneHot (.start x1_0 x1_1)) >>= fun t3 =>
       (run_bits_IndexOf (.start a0_0 a0_1)) >>= fun t4 =>
       (run_ratchetbase_CopyInts_v1 (.start order2)) >>= fun t5 =>
       (run_bits_Permuted (.start a0_0 a0_1 t5.2.1)) >>= fun t6 =>
       (run_ratchetref01_BitsErr (.start a0_0 a0_1)) >>= fun t7 =>
       if (t7.1.1 != (0 : Int)) = true then
         if (t2.1.2.1 != t7.1.1) = true then
           some ((false, ()), ())
         else
           if (!((t2.1.1.1 == (0 : Int)) && ((t2.1.1.2.1 == (0 : Int)) && ((t2.1.1.2.2.1 == (0 : Int)) && ((t2.1.1.2.2.2.1 == (0 : Int)) && true))))) = true then
             some ((false, ()), ())
           else
             if (t7.1.1 == (0 : Int)) = true then
               if (t2.1.2.1 != (0 : Int)) = true then
                 some ((false, ()), ())
               else
                 (run_ratchetref01_Counts (.start a0_0 a0_1)) >>= fun t8 =>
                 if (!((t2.1.1.1 == t8.1.1.1) && ((t2.1.1.2.1 == t8.1.1.2.1) && ((t2.1.1.2.2.1 == t8.1.1.2.2.1) && ((t2.1.1.2.2.2.1 == t8.1.1.2.2.2.1) && true))))) = true then
                   some ((false, ()), ())
                 else
                   run_ratchetlaw01_BitsCounts (.p511 order2 t3.1.2.1 t4.1.1 t4.1.2.1 t6.1.2.1 a0_0 a0_1 x1_0 x1_1 t3.1.1.1 t3.1.1.2.1 t6.1.1.1 t6.1.1.2.1)
             else
               run_ratchetlaw01_BitsCounts (.p511 order2 t3.1.2.1 t4.1.1 t4.1.2.1 t6.1.2.1 a0_0 a0_1 x1_0 x1_1 t3.1.1.1 t3.1.1.2.1 t6.1.1.1 t6.1.1.2.1)
       else
         if (t7.1.1 == (0 : Int)) = true then
           if (t2.1.2.1 != (0 : Int)) = true then
             some ((false, ()), ())
           else
             (run_ratchetref01_Counts (.start a0_0 a0_1)) >>= fun t9 =>
             if (!((t2.1.1.1 == t9.1.1.1) && ((t2.1.1.2.1 == t9.1.1.2.1) && ((t2.1.1.2.2.1 == t9.1.1.2.2.1) && ((t2.1.1.2.2.2.1 == t9.1.1.2.2.2.1) && true))))) = true then
               some ((false, ()), ())
             else
               run_ratchetlaw01_BitsCounts (.p511 order2 t3.1.2.1 t4.1.1 t4.1.2.1 t6.1.2.1 a0_0 a0_1 x1_0 x1_1 t3.1.1.1 t3.1.1.2.1 t6.1.1.1 t6.1.1.2.1)
         else
           run_ratchetlaw01_BitsCounts (.p511 order2 t3.1.2.1 t4.1.1 t4.1.2.1 t6.1.2.1 a0_0 a0_1 x1_0 x1_1 t3.1.1.1 t3.1.1.2.1 t6.1.1.1 t6.1.1.2.1)
 | .p511 order2 f10 i11 g12 h14 B0_0 B0_1 B1_0 B1_1 B2_0 B2_1 B3_0 B3_1 =>
   (run_ratchetref01_HotErr (.start B1_0 B1_1)) >>= fun t1 =>
   if (t1.1.1 != (0 : Int)) = true then
     if (f10 != t1.1.1) = true then
       some ((false, ()), ())
     else
       if (!((B2_0 == (0 : Int)) && ((B2_1 == (0 : Int)) && true))) = true then
         some ((false, ()), ())
       else
         if (t1.1.1 == (0 : Int)) = true then
           if (f10 != (0 : Int)) = true then
             some ((false, ()), ())
           else
             (run_ratchetbase_Power (.start B1_0)) >>= fun t2 =>
             (run_ratchetlaw01_of (.start B1_1 t2.1.1)) >>= fun t3 =>
             if (!((B2_0 == t3.1.1.1) && ((B2_1 == t3.1.1.2.1) && true))) = true then
               some ((false, ()), ())
             else
               run_ratchetlaw01_BitsCounts (.p1023 order2 i11 g12 h14 B0_0 B0_1 B3_0 B3_1)
         else
           run_ratchetlaw01_BitsCounts (.p1023 order2 i11 g12 h14 B0_0 B0_1 B3_0 B3_1)
   else
     if (t1.1.1 == (0 : Int)) = true then
       if (f10 != (0 : Int)) = true then
         some ((false, ()), ())
       else
         (run_ratchetbase_Power (.start B1_0)) >>= fun t4 =>
         (run_ratchetlaw01_of (.start B1_1 t4.1.1)) >>= fun t5 =>
         if (!((B2_0 == t5.1.1.1) && ((B2_1 == t5.1.1.2.1) && true))) = true then
           some ((false, ()), ())
         else
           run_ratchetlaw01_BitsCounts (.p1023 order2 i11 g12 h14 B0_0 B0_1 B3_0 B3_1)
     else
       run_ratchetlaw01_BitsCounts (.p1023 order2 i11 g12 h14 B0_0 B0_1 B3_0 B3_1)
 | .p1023 order2 i11 g12 h14 B0_0 B0_1 B1_0 B1_1 =>
   (run_ratchetref01_IndexErr (.start B0_0 B0_1)) >>= fun t1 =>
   if (t1.1.1 != (0 : Int)) = true then
     if (g12 != t1.1.1) = true then
       some ((false, ()), ())
     else
       if (i11 != (0 : Int)) = true then
         some ((false, ()), ())
       else
         if (t1.1.1 == (0 : Int)) = true then
           if (g12 != (0 : Int)) = true then
             some ((false, ()), ())
           else
             (run_ratchetref01_Counts (.start B0_0 B0_1)) >>= fun t2 =>
             if (i11 != t2.1.1.2.2.1) = true then
               some ((false, ()), ())
             else
               run_ratchetlaw01_BitsCounts (.p2047 order2 h14 B0_0 B0_1 B1_0 B1_1)
         else
           run_ratchetlaw01_BitsCounts (.p2047 order2 h14 B0_0 B0_1 B1_0 B1_1)
   else
     if (t1.1.1 == (0 : Int)) = true then
       if (g12 != (0 : Int)) = true then
         some ((false, ()), ())
       else
         (run_ratchetref01_Counts (.start B0_0 B0_1)) >>= fun t3 =>
         if (i11 != t3.1.1.2.2.1) = true then
           some ((false, ()), ())
         else
           run_ratchetlaw01_BitsCounts (.p2047 order2 h14 B0_0 B0_1 B1_0 B1_1)
     else
       run_ratchetlaw01_BitsCounts (.p2047 order2 h14 B0_0 B0_1 B1_0 B1_1)
 | .p2047 order2 h14 B0_0 B0_1 B1_0 B1_1 =>
   (run_ratchetref01_OrderErr (.start B0_0 B0_1 order2)) >>= fun t1 =>
   if (t1.1.1 != (0 : Int)) = true then
     if (h14 == t1.1.1) = true then
       some ((((B1_0 == (0 : Int)) && ((B1_1 == (0 : Int)) && true)), ()), ())
     else
       some ((false, ()), ())
   else
     if (h14 == (0 : Int)) = true then
       (run_ratchetref01_Permute (.start B0_0 B0_1 order2)) >>= fun t2 =>
       some ((((B1_0 == t2.1.1.1) && ((B1_1 == t2.1.1.2.1) && true)), ()), ())
     else
       some ((false, ()), ())
  partial_fixpoint
noncomputable def tab_ratchetlaw01_BitsCounts : List (Plc E P_ratchetlaw01_BitsCounts) := [⟨511, [true, true, true, true, true, true, true, true], { slots := [2, 3, 4, 9, 10, 11, 12, 13, 14], rows := [], flat := [], keep := 0 }, ((List Int) × (Unit × (Unit × (Unit × (Int × (Int × (Int × (Unit × (Int × Unit))))))))), ((Int × (Int × Unit)) × ((Int × (Int × Unit)) × ((Int × (Int × Unit)) × ((Int × (Int × Unit)) × Unit)))), (RdL.cons (Rd.sl 3 false) (RdL.cons (Rd.bp 0 0) (RdL.cons (Rd.bp 1 0) (RdL.cons (Rd.bp 2 0) (RdL.cons (Rd.int .i64) (RdL.cons (Rd.int .i64) (RdL.cons (Rd.int .i64) (RdL.cons (Rd.bp 3 0) (RdL.cons (Rd.int .i64) RdL.nil))))))))), (RdBL.cons (RdB.var 23 (RdL.cons (Rd.int .i64) (RdL.cons (Rd.int .i64) RdL.nil))) (RdBL.cons (RdB.var 57 (RdL.cons (Rd.int .i64) (RdL.cons (Rd.int .i64) RdL.nil))) (RdBL.cons (RdB.var 23 (RdL.cons (Rd.int .i64) (RdL.cons (Rd.int .i64) RdL.nil))) (RdBL.cons (RdB.var 23 (RdL.cons (Rd.int .i64) (RdL.cons (Rd.int .i64) RdL.nil))) RdBL.nil)))), fun a b => .p511 a.1 a.2.2.2.2.1 a.2.2.2.2.2.1 a.2.2.2.2.2.2.1 a.2.2.2.2.2.2.2.2.1 b.1.1 b.1.2.1 b.2.1.1 b.2.1.2.1 b.2.2.1.1 b.2.2.1.2.1 b.2.2.2.1.1 b.2.2.2.1.2.1⟩,
  ⟨1023, [true, true, true, true, true, true, true, true, true], { slots := [2, 3, 11, 12, 13, 14], rows := [], flat := [], keep := 0 }, ((List Int) × (Unit × (Int × (Int × (Unit × (Int × Unit)))))), ((Int × (Int × Unit)) × ((Int × (Int × Unit)) × Unit)), (RdL.cons (Rd.sl 3 false) (RdL.cons (Rd.bp 0 0) (RdL.cons (Rd.int .i64) (RdL.cons (Rd.int .i64) (RdL.cons (Rd.bp 1 0) (RdL.cons (Rd.int .i64) RdL.nil)))))), (RdBL.cons (RdB.var 23 (RdL.cons (Rd.int .i64) (RdL.cons (Rd.int .i64) RdL.nil))) (RdBL.cons (RdB.var 23 (RdL.cons (Rd.int .i64) (RdL.cons (Rd.int .i64) RdL.nil))) RdBL.nil)), fun a b => .p1023 a.1 a.2.2.1 a.2.2.2.1 a.2.2.2.2.2.1 b.1.1 b.1.2.1 b.2.1.1 b.2.1.2.1⟩,
  ⟨2047, [true, true, true, true, true, true, true, true, true, true], { slots := [2, 3, 13, 14], rows := [], flat := [], keep := 0 }, ((List Int) × (Unit × (Unit × (Int × Unit)))), ((Int × (Int × Unit)) × ((Int × (Int × Unit)) × Unit)), (RdL.cons (Rd.sl 3 false) (RdL.cons (Rd.bp 0 0) (RdL.cons (Rd.bp 1 0) (RdL.cons (Rd.int .i64) RdL.nil)))), (RdBL.cons (RdB.var 23 (RdL.cons (Rd.int .i64) (RdL.cons (Rd.int .i64) RdL.nil))) (RdBL.cons (RdB.var 23 (RdL.cons (Rd.int .i64) (RdL.cons (Rd.int .i64) RdL.nil))) RdBL.nil)), fun a b => .p2047 a.1 a.2.2.2.1 b.1.1 b.1.2.1 b.2.1.1 b.2.1.2.1⟩]
theorem tab_ratchetlaw01_BitsCounts_ok : All (PlcOk 162 0 place_ratchetlaw01_BitsCounts st_ratchetlaw01_BitsCounts) tab_ratchetlaw01_BitsCounts := ⟨⟨rfl, rfl, fun _ _ => rfl, fun _ _ => rfl⟩, ⟨⟨rfl, rfl, fun _ _ => rfl, fun _ _ => rfl⟩, ⟨⟨rfl, rfl, fun _ _ => rfl, fun _ _ => rfl⟩, trivial⟩⟩⟩
noncomputable def spec_ratchetlaw01_BitsCounts : Spec E.S := (Con.add con_ratchetref01_Permute (Con.add con_ratchetref01_OrderErr (Con.add con_ratchetref01_IndexErr (Con.add con_ratchetlaw01_of (Con.add con_ratchetbase_Power (Con.add con_ratchetref01_HotErr (Con.add con_ratchetref01_Counts (Con.add con_ratchetref01_BitsErr (Con.add con_bits_Permuted (Con.add con_ratchetbase_CopyInts_v1 (Con.add con_bits_IndexOf (Con.add con_bits_OneHot (Con.add con_bits_CountsOf (Con.add con_ratchetlaw01_awake noSpec))))))))))))))
theorem spec_ratchetlaw01_BitsCounts_ok : SpecOk E spec_ratchetlaw01_BitsCounts := (Con.add_ok con_ratchetref01_Permute_ok (Con.add_ok con_ratchetref01_OrderErr_ok (Con.add_ok con_ratchetref01_IndexErr_ok (Con.add_ok con_ratchetlaw01_of_ok (Con.add_ok con_ratchetbase_Power_ok (Con.add_ok con_ratchetref01_HotErr_ok (Con.add_ok con_ratchetref01_Counts_ok (Con.add_ok con_ratchetref01_BitsErr_ok (Con.add_ok con_bits_Permuted_ok (Con.add_ok con_ratchetbase_CopyInts_v1_ok (Con.add_ok con_bits_IndexOf_ok (Con.add_ok con_bits_OneHot_ok (Con.add_ok con_bits_CountsOf_ok (Con.add_ok con_ratchetlaw01_awake_ok noSpec_ok))))))))))))))
noncomputable def code_ratchetlaw01_BitsCounts : Code := Tryd.f10.body.getD .skip
theorem good_ratchetlaw01_BitsCounts : ∀ pt r, run_ratchetlaw01_BitsCounts pt = some r → Good E Tryd.f10 code_ratchetlaw01_BitsCounts 0 (res_ratchetlaw01_BitsCounts.av r) (res_ratchetlaw01_BitsCounts.bx r) (place_ratchetlaw01_BitsCounts pt) (st_ratchetlaw01_BitsCounts pt) := by
  refine run_ratchetlaw01_BitsCounts.partial_correctness (fun pt r => Good E Tryd.f10 code_ratchetlaw01_BitsCounts 0 (res_ratchetlaw01_BitsCounts.av r) (res_ratchetlaw01_BitsCounts.bx r) (place_ratchetlaw01_BitsCounts pt) (st_ratchetlaw01_BitsCounts pt)) ?_
  intro run' ih pt r hr
  cases pt <;> exact fn_step (spec := spec_ratchetlaw01_BitsCounts) (wr := (fun i => mem i [])) (l := tab_ratchetlaw01_BitsCounts) (z := 162) (p := res_ratchetlaw01_BitsCounts) E_ok tab_ratchetlaw01_BitsCounts_ok.mem rfl spec_ratchetlaw01_BitsCounts_ok ih (Eq.trans (by kernel_rfl) hr)
noncomputable def con_ratchetlaw01_BitsCounts : Con E := ⟨10, ((Int × (Int × Unit)) × ((Int × (Int × Unit)) × ((List Int) × Unit))), Unit, (RwL.cons (Rw.agg (RwL.cons (Rd.int .i64).w (RwL.cons (Rd.int .i64).w RwL.nil))) (RwL.cons (Rw.agg (RwL.cons (Rd.int .i64).w (RwL.cons (Rd.int .i64).w RwL.nil))) (RwL.cons (Rw.sl 3) RwL.nil))), RdBL.nil, 0, R_ratchetlaw01_BitsCounts, fun a b => run_ratchetlaw01_BitsCounts (.start a.1.1 a.1.2.1 a.2.1.1 a.2.1.2.1 a.2.2.1), res_ratchetlaw01_BitsCounts.av, res_ratchetlaw01_BitsCounts.bx⟩
theorem con_ratchetlaw01_BitsCounts_ok : con_ratchetlaw01_BitsCounts.Ok := fun a b r h => fn_ok (fn := Tryd.f10) (code := code_ratchetlaw01_BitsCounts) E_ok (by kernel_rfl) (by kernel_rfl) (by kernel_rfl) (Nat.le_of_ble_eq_true rfl) (good_ratchetlaw01_BitsCounts (.start a.1.1 a.1.2.1 a.2.1.1 a.2.1.2.1 a.2.2.1) r h)

end Go.Proofs.YtcgkjbglijganaaDoor.Ev.F
