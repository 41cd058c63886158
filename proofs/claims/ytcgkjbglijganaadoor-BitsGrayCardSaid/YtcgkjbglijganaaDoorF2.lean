/- PRINTED by wip/gen/evp.py: what the functions come to. -/
import Derived.Test.YtcgkjbglijganaaDoorF1
set_option linter.unusedVariables false
namespace Go.Proofs.YtcgkjbglijganaaDoor.Ev.F
open Go.Proofs Go.Proofs.YtcgkjbglijganaaDoor.Ev

/-! ### ratchet/ratchetlaw01.BitsGray -/
inductive P_ratchetlaw01_BitsGray where
 | start (a0_0 : Int) (a0_1 : Int)
 | p127 (B0_0 : Int) (B0_1 : Int) (B1_0 : Int) (B1_1 : Int)
 | p1023 (B0_0 : Int) (B0_1 : Int) (B1_0 : Int) (B1_1 : Int) (B2_0 : Int) (B2_1 : Int)
 | p65524 (count12 : Int) (k15 : Int) (B0_0 : Int) (B0_1 : Int) (B1 : (List Int)) (B2 : (List Int))
noncomputable def place_ratchetlaw01_BitsGray : P_ratchetlaw01_BitsGray → List Bool
 | .start .. => []
 | .p127 .. => [true, true, true, true, true, true]
 | .p1023 .. => [true, true, true, true, true, true, true, true, true]
 | .p65524 .. => [false, false, true, false, true, true, true, true, true, true, true, true, true, true, true]
noncomputable def st_ratchetlaw01_BitsGray : P_ratchetlaw01_BitsGray → St E.S
 | .start a0_0 a0_1 => st0 133 [.agg [.v (.int .i64 a0_0), .v (.int .i64 a0_1)]] []
 | .p127 B0_0 B0_1 B1_0 B1_1 => mkSt 133 [1, 3] [.bp 0 0, .bp 1 0] [.var 23 [.v (.int .i64 B0_0), .v (.int .i64 B0_1)], .var 23 [.v (.int .i64 B1_0), .v (.int .i64 B1_1)]]
 | .p1023 B0_0 B0_1 B1_0 B1_1 B2_0 B2_1 => mkSt 133 [1, 3, 10] [.bp 0 0, .bp 1 0, .bp 2 0] [.var 23 [.v (.int .i64 B0_0), .v (.int .i64 B0_1)], .var 23 [.v (.int .i64 B1_0), .v (.int .i64 B1_1)], .var 23 [.v (.int .i64 B2_0), .v (.int .i64 B2_1)]]
 | .p65524 count12 k15 B0_0 B0_1 B1 B2 => mkSt 133 [1, 12, 13, 14, 15] [.bp 0 0, .v (.int .i64 count12), .rw 1, .rw 2, .v (.int .i64 k15)] [.var 23 [.v (.int .i64 B0_0), .v (.int .i64 B0_1)], .row 3 B1 false, .row 3 B2 false]
abbrev R_ratchetlaw01_BitsGray : Type := ((Bool × Unit) × Unit)
noncomputable def res_ratchetlaw01_BitsGray : Res E (Bool × Unit) Unit := { rows := [], flat := [], keep := 0, rl := (RdL.cons Rd.bool RdL.nil), rb := RdBL.nil }
noncomputable def run_ratchetlaw01_BitsGray : P_ratchetlaw01_BitsGray → Option R_ratchetlaw01_BitsGray
 | .start a0_0 a0_1 =>
   (some () : Option Unit) >>= fun t1 =>
   if (!true) = true then
     some ((false, ()), ())
   else
     (run_bits_GrayOf (.start a0_0 a0_1)) >>= fun t2 =>
     (run_bits_FromGray (.start a0_0 a0_1)) >>= fun t3 =>
     (run_ratchetref01_BitsErr (.start a0_0 a0_1)) >>= fun t4 =>
     if (t4.1.1 != (0 : Int)) = true then
       if (t2.1.2.1 == t4.1.1) = true then
         if (t3.1.2.1 == t4.1.1) = true then
           if ((t2.1.1.1 == (0 : Int)) && ((t2.1.1.2.1 == (0 : Int)) && true)) = true then
             some ((((t3.1.1.1 == (0 : Int)) && ((t3.1.1.2.1 == (0 : Int)) && true)), ()), ())
           else
             some ((false, ()), ())
         else
           some ((false, ()), ())
       else
         some ((false, ()), ())
     else
       if (t2.1.2.1 != (0 : Int)) = true then
         some ((false, ()), ())
       else
         if (t3.1.2.1 != (0 : Int)) = true then
           some ((false, ()), ())
         else
           (run_ratchetref01_Gray (.start a0_0 a0_1)) >>= fun t5 =>
           if (!((t2.1.1.1 == t5.1.1.1) && ((t2.1.1.2.1 == t5.1.1.2.1) && true))) = true then
             some ((false, ()), ())
           else
             (run_ratchetref01_Ungray (.start a0_0 a0_1)) >>= fun t6 =>
             if (!((t3.1.1.1 == t6.1.1.1) && ((t3.1.1.2.1 == t6.1.1.2.1) && true))) = true then
               some ((false, ()), ())
             else
               run_ratchetlaw01_BitsGray (.p127 a0_0 a0_1 t2.1.1.1 t2.1.1.2.1)
 | .p127 B0_0 B0_1 B1_0 B1_1 =>
   (run_bits_FromGray (.start B1_0 B1_1)) >>= fun t1 =>
   (run_ratchetbase_Power (.start B0_0)) >>= fun t2 =>
   (run_ratchetbase_Mod (.start (IntKind.wrap .i64 (B0_1 + (1 : Int))) t2.1.1)) >>= fun t3 =>
   (run_ratchetlaw01_of (.start B0_0 t3.1.1)) >>= fun t4 =>
   (run_bits_GrayOf (.start t4.1.1.1 t4.1.1.2.1)) >>= fun t5 =>
   if (t1.1.2.1 != (0 : Int)) = true then
     some ((false, ()), ())
   else
     if (!((t1.1.1.1 == B0_0) && ((t1.1.1.2.1 == B0_1) && true))) = true then
       some ((false, ()), ())
     else
       if (t5.1.2.1 != (0 : Int)) = true then
         some ((false, ()), ())
       else
         (run_ratchetref01_BitsErr (.start t5.1.1.1 t5.1.1.2.1)) >>= fun t6 =>
         if (t6.1.1 != (0 : Int)) = true then
           some ((false, ()), ())
         else
           run_ratchetlaw01_BitsGray (.p1023 B0_0 B0_1 B1_0 B1_1 t5.1.1.1 t5.1.1.2.1)
 | .p1023 B0_0 B0_1 B1_0 B1_1 B2_0 B2_1 =>
   (run_ratchetbase_BitsOf (.start B1_1 B0_0)) >>= fun t1 =>
   (run_ratchetbase_BitsOf (.start B2_1 B0_0)) >>= fun t2 =>
   run_ratchetlaw01_BitsGray (.p65524 (0 : Int) (0 : Int) B0_0 B0_1 t1.2.1 t2.2.1)
 | .p65524 count12 k15 B0_0 B0_1 B1 B2 =>
   if (decide (k15 < B0_0)) = true then
     if (decide ((0 : Int) ≤ k15) && decide (k15 < (List.length B1 : Int))) = true then
       (idx B1 k15) >>= fun t1 =>
       if (decide ((0 : Int) ≤ k15) && decide (k15 < (List.length B2 : Int))) = true then
         (idx B2 k15) >>= fun t2 =>
         (run_ratchetbase_Bit (.start (t1 != t2))) >>= fun t3 =>
         run_ratchetlaw01_BitsGray (.p65524 (IntKind.wrap .i64 (count12 + t3.1.1)) (IntKind.wrap .i64 (k15 + (1 : Int))) B0_0 B0_1 B1 B2)
       else none
     else none
   else
     some ((count12 == (1 : Int), ()), ())
  partial_fixpoint
noncomputable def tab_ratchetlaw01_BitsGray : List (Plc E P_ratchetlaw01_BitsGray) := [⟨127, [true, true, true, true, true, true], { slots := [1, 3], rows := [], flat := [], keep := 0 }, (Unit × (Unit × Unit)), ((Int × (Int × Unit)) × ((Int × (Int × Unit)) × Unit)), (RdL.cons (Rd.bp 0 0) (RdL.cons (Rd.bp 1 0) RdL.nil)), (RdBL.cons (RdB.var 23 (RdL.cons (Rd.int .i64) (RdL.cons (Rd.int .i64) RdL.nil))) (RdBL.cons (RdB.var 23 (RdL.cons (Rd.int .i64) (RdL.cons (Rd.int .i64) RdL.nil))) RdBL.nil)), fun a b => .p127 b.1.1 b.1.2.1 b.2.1.1 b.2.1.2.1⟩,
  ⟨1023, [true, true, true, true, true, true, true, true, true], { slots := [1, 3, 10], rows := [], flat := [], keep := 0 }, (Unit × (Unit × (Unit × Unit))), ((Int × (Int × Unit)) × ((Int × (Int × Unit)) × ((Int × (Int × Unit)) × Unit))), (RdL.cons (Rd.bp 0 0) (RdL.cons (Rd.bp 1 0) (RdL.cons (Rd.bp 2 0) RdL.nil))), (RdBL.cons (RdB.var 23 (RdL.cons (Rd.int .i64) (RdL.cons (Rd.int .i64) RdL.nil))) (RdBL.cons (RdB.var 23 (RdL.cons (Rd.int .i64) (RdL.cons (Rd.int .i64) RdL.nil))) (RdBL.cons (RdB.var 23 (RdL.cons (Rd.int .i64) (RdL.cons (Rd.int .i64) RdL.nil))) RdBL.nil))), fun a b => .p1023 b.1.1 b.1.2.1 b.2.1.1 b.2.1.2.1 b.2.2.1.1 b.2.2.1.2.1⟩,
  ⟨65524, [false, false, true, false, true, true, true, true, true, true, true, true, true, true, true], { slots := [1, 12, 13, 14, 15], rows := [], flat := [], keep := 0 }, (Unit × (Int × (Unit × (Unit × (Int × Unit))))), ((Int × (Int × Unit)) × ((List Int) × ((List Int) × Unit))), (RdL.cons (Rd.bp 0 0) (RdL.cons (Rd.int .i64) (RdL.cons (Rd.rw 1) (RdL.cons (Rd.rw 2) (RdL.cons (Rd.int .i64) RdL.nil))))), (RdBL.cons (RdB.var 23 (RdL.cons (Rd.int .i64) (RdL.cons (Rd.int .i64) RdL.nil))) (RdBL.cons (RdB.row 3 false) (RdBL.cons (RdB.row 3 false) RdBL.nil))), fun a b => .p65524 a.2.1 a.2.2.2.2.1 b.1.1 b.1.2.1 b.2.1 b.2.2.1⟩]
theorem tab_ratchetlaw01_BitsGray_ok : All (PlcOk 133 0 place_ratchetlaw01_BitsGray st_ratchetlaw01_BitsGray) tab_ratchetlaw01_BitsGray := ⟨⟨rfl, rfl, fun _ _ => rfl, fun _ _ => rfl⟩, ⟨⟨rfl, rfl, fun _ _ => rfl, fun _ _ => rfl⟩, ⟨⟨rfl, rfl, fun _ _ => rfl, fun _ _ => rfl⟩, trivial⟩⟩⟩
noncomputable def spec_ratchetlaw01_BitsGray : Spec E.S := (Con.add con_ratchetbase_Bit (Con.add con_ratchetbase_BitsOf (Con.add con_ratchetlaw01_of (Con.add con_ratchetbase_Mod (Con.add con_ratchetbase_Power (Con.add con_ratchetref01_Ungray (Con.add con_ratchetref01_Gray (Con.add con_ratchetref01_BitsErr (Con.add con_bits_FromGray (Con.add con_bits_GrayOf (Con.add con_ratchetlaw01_awake noSpec)))))))))))
theorem spec_ratchetlaw01_BitsGray_ok : SpecOk E spec_ratchetlaw01_BitsGray := (Con.add_ok con_ratchetbase_Bit_ok (Con.add_ok con_ratchetbase_BitsOf_ok (Con.add_ok con_ratchetlaw01_of_ok (Con.add_ok con_ratchetbase_Mod_ok (Con.add_ok con_ratchetbase_Power_ok (Con.add_ok con_ratchetref01_Ungray_ok (Con.add_ok con_ratchetref01_Gray_ok (Con.add_ok con_ratchetref01_BitsErr_ok (Con.add_ok con_bits_FromGray_ok (Con.add_ok con_bits_GrayOf_ok (Con.add_ok con_ratchetlaw01_awake_ok noSpec_ok)))))))))))
noncomputable def code_ratchetlaw01_BitsGray : Code := Tryd.f8.body.getD .skip
theorem good_ratchetlaw01_BitsGray : ∀ pt r, run_ratchetlaw01_BitsGray pt = some r → Good E Tryd.f8 code_ratchetlaw01_BitsGray 0 (res_ratchetlaw01_BitsGray.av r) (res_ratchetlaw01_BitsGray.bx r) (place_ratchetlaw01_BitsGray pt) (st_ratchetlaw01_BitsGray pt) := by
  refine run_ratchetlaw01_BitsGray.partial_correctness (fun pt r => Good E Tryd.f8 code_ratchetlaw01_BitsGray 0 (res_ratchetlaw01_BitsGray.av r) (res_ratchetlaw01_BitsGray.bx r) (place_ratchetlaw01_BitsGray pt) (st_ratchetlaw01_BitsGray pt)) ?_
  intro run' ih pt r hr
  cases pt <;> exact fn_step (spec := spec_ratchetlaw01_BitsGray) (wr := (fun i => mem i [])) (l := tab_ratchetlaw01_BitsGray) (z := 133) (p := res_ratchetlaw01_BitsGray) E_ok tab_ratchetlaw01_BitsGray_ok.mem rfl spec_ratchetlaw01_BitsGray_ok ih (Eq.trans (by kernel_rfl) hr)
noncomputable def con_ratchetlaw01_BitsGray : Con E := ⟨8, ((Int × (Int × Unit)) × Unit), Unit, (RwL.cons (Rw.agg (RwL.cons (Rd.int .i64).w (RwL.cons (Rd.int .i64).w RwL.nil))) RwL.nil), RdBL.nil, 0, R_ratchetlaw01_BitsGray, fun a b => run_ratchetlaw01_BitsGray (.start a.1.1 a.1.2.1), res_ratchetlaw01_BitsGray.av, res_ratchetlaw01_BitsGray.bx⟩
theorem con_ratchetlaw01_BitsGray_ok : con_ratchetlaw01_BitsGray.Ok := fun a b r h => fn_ok (fn := Tryd.f8) (code := code_ratchetlaw01_BitsGray) E_ok (by kernel_rfl) (by kernel_rfl) (by kernel_rfl) (Nat.le_of_ble_eq_true rfl) (good_ratchetlaw01_BitsGray (.start a.1.1 a.1.2.1) r h)

end Go.Proofs.YtcgkjbglijganaaDoor.Ev.F
