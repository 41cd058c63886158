/- PRINTED by wip/gen/evp.py: what the functions come to. -/
import Derived.Test.YtjededkgblbamaaGreatDoorCF1
set_option linter.unusedVariables false
set_option maxRecDepth 100000
namespace Go.Proofs.YtjededkgblbamaaGreatDoor.Ev.F
open Go.Proofs Go.Proofs.YtjededkgblbamaaGreatDoor.Ev

/-! ### ratchet/ratchetbase.WritesErr -/
inductive P_ratchetbase_WritesErr where
 | start (elements0 : (List api_Element)) (nodes1 : (List api_Node)) (l2 : (List api_Write))
 | p116 (elements0 : (List api_Element)) (nodes1 : (List api_Node)) (l2 : (List api_Write)) (i7 : Int)
 | p3731 (elements0 : (List api_Element)) (nodes1 : (List api_Node)) (l2 : (List api_Write)) (i7 : Int)
noncomputable def place_ratchetbase_WritesErr : P_ratchetbase_WritesErr → List Bool
 | .start .. => []
 | .p116 .. => [false, false, true, false, true, true]
 | .p3731 .. => [true, true, false, false, true, false, false, true, false, true, true]
noncomputable def st_ratchetbase_WritesErr : P_ratchetbase_WritesErr → St E.S
 | .start elements0 nodes1 l2 => st0 64 [.sl 82 elements0 false, .sl 208 nodes1 false, .sl 151 l2 false] []
 | .p116 elements0 nodes1 l2 i7 => mkSt 64 [0, 1, 2, 7] [.sl 82 elements0 false, .sl 208 nodes1 false, .sl 151 l2 false, .v (.int .i64 i7)] []
 | .p3731 elements0 nodes1 l2 i7 => mkSt 64 [0, 1, 2, 7] [.sl 82 elements0 false, .sl 208 nodes1 false, .sl 151 l2 false, .v (.int .i64 i7)] []
abbrev R_ratchetbase_WritesErr : Type := ((Int × Unit) × Unit)
noncomputable def res_ratchetbase_WritesErr : Res E (Int × Unit) Unit := { rows := [], flat := [], keep := 0, done := [0], rl := (RdL.cons (Rd.int .i64) RdL.nil), rb := RdBL.nil }
noncomputable def run_ratchetbase_WritesErr : P_ratchetbase_WritesErr → Option R_ratchetbase_WritesErr
 | .start elements0 nodes1 l2 =>
   if (decide ((List.length l2 : Int) > (16 : Int))) = true then
     some (((8 : Int), ()), ())
   else
     run_ratchetbase_WritesErr (.p116 elements0 nodes1 l2 (0 : Int))
 | .p116 elements0 nodes1 l2 i7 =>
   if (decide (i7 < (List.length l2 : Int))) = true then
     (idx l2 i7) >>= fun t1 =>
     (run_ratchetbase_Within (.start t1.Element (0 : Int) (IntKind.wrap .i64 ((List.length elements0 : Int) - (1 : Int))))) >>= fun t2 =>
     if (!t2.1.1) = true then
       some (((6 : Int), ()), ())
     else
       (idx l2 i7) >>= fun t3 =>
       (run_ratchetbase_IsCondition (.start nodes1 t3.When)) >>= fun t4 =>
       if (!t4.1.1) = true then
         some (((9 : Int), ()), ())
       else
         (idx l2 i7) >>= fun t5 =>
         (run_ratchetbase_IsNode (.start nodes1 t5.Value)) >>= fun t6 =>
         if (!t6.1.1) = true then
           some (((9 : Int), ()), ())
         else
           run_ratchetbase_WritesErr (.p3731 elements0 nodes1 l2 i7)
   else
     some (((0 : Int), ()), ())
 | .p3731 elements0 nodes1 l2 i7 =>
   (idx l2 i7) >>= fun t1 =>
   (idx nodes1 t1.Value) >>= fun t2 =>
   (idx l2 i7) >>= fun t3 =>
   (idx elements0 t3.Element) >>= fun t4 =>
   if (t2.Width != t4.Width) = true then
     some (((25 : Int), ()), ())
   else
     run_ratchetbase_WritesErr (.p116 elements0 nodes1 l2 (IntKind.wrap .i64 (i7 + (1 : Int))))
  partial_fixpoint
noncomputable def tab_ratchetbase_WritesErr : List (Plc E P_ratchetbase_WritesErr) := [⟨116, [false, false, true, false, true, true], { slots := [0, 1, 2, 7], rows := [], flat := [], keep := 0 }, ((List api_Element) × ((List api_Node) × ((List api_Write) × (Int × Unit)))), Unit, (RdL.cons (Rd.sl 82 false) (RdL.cons (Rd.sl 208 false) (RdL.cons (Rd.sl 151 false) (RdL.cons (Rd.int .i64) RdL.nil)))), RdBL.nil, fun a b => .p116 a.1 a.2.1 a.2.2.1 a.2.2.2.1⟩,
  ⟨3731, [true, true, false, false, true, false, false, true, false, true, true], { slots := [0, 1, 2, 7], rows := [], flat := [], keep := 0 }, ((List api_Element) × ((List api_Node) × ((List api_Write) × (Int × Unit)))), Unit, (RdL.cons (Rd.sl 82 false) (RdL.cons (Rd.sl 208 false) (RdL.cons (Rd.sl 151 false) (RdL.cons (Rd.int .i64) RdL.nil)))), RdBL.nil, fun a b => .p3731 a.1 a.2.1 a.2.2.1 a.2.2.2.1⟩]
theorem tab_ratchetbase_WritesErr_ok : All (PlcOk 64 0 place_ratchetbase_WritesErr st_ratchetbase_WritesErr) tab_ratchetbase_WritesErr := ⟨⟨rfl, rfl, fun _ _ => rfl, fun _ _ => rfl⟩, ⟨⟨rfl, rfl, fun _ _ => rfl, fun _ _ => rfl⟩, trivial⟩⟩
noncomputable def code_ratchetbase_WritesErr : Code := Tryz.f142.body.getD .skip
noncomputable def spec_ratchetbase_WritesErr : Spec E.S := (Con.add con_ratchetbase_IsNode (Con.add con_ratchetbase_IsCondition (Con.add con_ratchetbase_Within noSpec)))
theorem spec_ratchetbase_WritesErr_ok : SpecOk E spec_ratchetbase_WritesErr := (Con.add_ok con_ratchetbase_IsNode_ok (Con.add_ok con_ratchetbase_IsCondition_ok (Con.add_ok con_ratchetbase_Within_ok noSpec_ok)))
theorem good_ratchetbase_WritesErr : ∀ pt r, run_ratchetbase_WritesErr pt = some r → Good E Tryz.f142 code_ratchetbase_WritesErr 0 (res_ratchetbase_WritesErr.av r) (res_ratchetbase_WritesErr.bx r) (place_ratchetbase_WritesErr pt) (st_ratchetbase_WritesErr pt) := by
  refine run_ratchetbase_WritesErr.partial_correctness (fun pt r => Good E Tryz.f142 code_ratchetbase_WritesErr 0 (res_ratchetbase_WritesErr.av r) (res_ratchetbase_WritesErr.bx r) (place_ratchetbase_WritesErr pt) (st_ratchetbase_WritesErr pt)) ?_
  intro run' ih pt r hr
  cases pt <;> exact fn_step (spec := spec_ratchetbase_WritesErr) (wr := (mkWr [] [])) (l := tab_ratchetbase_WritesErr) (z := 64) (p := res_ratchetbase_WritesErr) E_ok tab_ratchetbase_WritesErr_ok.mem rfl spec_ratchetbase_WritesErr_ok ih (Eq.trans (by kernel_rfl) hr)
noncomputable def con_ratchetbase_WritesErr : Con E := ⟨142, ((List api_Element) × ((List api_Node) × ((List api_Write) × Unit))), Unit, (RwL.cons (Rw.sl 82) (RwL.cons (Rw.sl 208) (RwL.cons (Rw.sl 151) RwL.nil))), RdBL.nil, 0, R_ratchetbase_WritesErr, fun a b => run_ratchetbase_WritesErr (.start a.1 a.2.1 a.2.2.1), res_ratchetbase_WritesErr.av, res_ratchetbase_WritesErr.bx⟩
theorem con_ratchetbase_WritesErr_ok : con_ratchetbase_WritesErr.Ok := fun a b r h => fn_ok (fn := Tryz.f142) (code := code_ratchetbase_WritesErr) E_ok (by kernel_rfl) (by kernel_rfl) (by kernel_rfl) (Nat.le_of_ble_eq_true rfl) (good_ratchetbase_WritesErr (.start a.1 a.2.1 a.2.2.1) r h)

/-! ### ratchet/ratchetbase.Has -/
inductive P_ratchetbase_Has where
 | start (l0 : (List Int)) (n1 : Int)
 | p52 (l0 : (List Int)) (n1 : Int) (i5 : Int)
noncomputable def place_ratchetbase_Has : P_ratchetbase_Has → List Bool
 | .start .. => []
 | .p52 .. => [false, false, true, false, true]
noncomputable def st_ratchetbase_Has : P_ratchetbase_Has → St E.S
 | .start l0 n1 => st0 18 [.sl 3 l0 false, .v (.int .i64 n1)] []
 | .p52 l0 n1 i5 => mkSt 18 [0, 1, 5] [.sl 3 l0 false, .v (.int .i64 n1), .v (.int .i64 i5)] []
abbrev R_ratchetbase_Has : Type := ((Bool × Unit) × Unit)
noncomputable def res_ratchetbase_Has : Res E (Bool × Unit) Unit := { rows := [], flat := [], keep := 0, done := [0], rl := (RdL.cons Rd.bool RdL.nil), rb := RdBL.nil }
noncomputable def run_ratchetbase_Has : P_ratchetbase_Has → Option R_ratchetbase_Has
 | .start l0 n1 =>
   run_ratchetbase_Has (.p52 l0 n1 (0 : Int))
 | .p52 l0 n1 i5 =>
   if (decide (i5 < (List.length l0 : Int))) = true then
     (idx l0 i5) >>= fun t1 =>
     if (t1 == n1) = true then
       some ((true, ()), ())
     else
       run_ratchetbase_Has (.p52 l0 n1 (IntKind.wrap .i64 (i5 + (1 : Int))))
   else
     some ((false, ()), ())
  partial_fixpoint
noncomputable def tab_ratchetbase_Has : List (Plc E P_ratchetbase_Has) := [⟨52, [false, false, true, false, true], { slots := [0, 1, 5], rows := [], flat := [], keep := 0 }, ((List Int) × (Int × (Int × Unit))), Unit, (RdL.cons (Rd.sl 3 false) (RdL.cons (Rd.int .i64) (RdL.cons (Rd.int .i64) RdL.nil))), RdBL.nil, fun a b => .p52 a.1 a.2.1 a.2.2.1⟩]
theorem tab_ratchetbase_Has_ok : All (PlcOk 18 0 place_ratchetbase_Has st_ratchetbase_Has) tab_ratchetbase_Has := ⟨⟨rfl, rfl, fun _ _ => rfl, fun _ _ => rfl⟩, trivial⟩
noncomputable def code_ratchetbase_Has : Code := Tryz.f144.body.getD .skip
noncomputable def spec_ratchetbase_Has : Spec E.S := noSpec
theorem spec_ratchetbase_Has_ok : SpecOk E spec_ratchetbase_Has := noSpec_ok
theorem good_ratchetbase_Has : ∀ pt r, run_ratchetbase_Has pt = some r → Good E Tryz.f144 code_ratchetbase_Has 0 (res_ratchetbase_Has.av r) (res_ratchetbase_Has.bx r) (place_ratchetbase_Has pt) (st_ratchetbase_Has pt) := by
  refine run_ratchetbase_Has.partial_correctness (fun pt r => Good E Tryz.f144 code_ratchetbase_Has 0 (res_ratchetbase_Has.av r) (res_ratchetbase_Has.bx r) (place_ratchetbase_Has pt) (st_ratchetbase_Has pt)) ?_
  intro run' ih pt r hr
  cases pt <;> exact fn_step (spec := spec_ratchetbase_Has) (wr := (mkWr [] [])) (l := tab_ratchetbase_Has) (z := 18) (p := res_ratchetbase_Has) E_ok tab_ratchetbase_Has_ok.mem rfl spec_ratchetbase_Has_ok ih (Eq.trans (by kernel_rfl) hr)
noncomputable def con_ratchetbase_Has : Con E := ⟨144, ((List Int) × (Int × Unit)), Unit, (RwL.cons (Rw.sl 3) (RwL.cons (Rd.int .i64).w RwL.nil)), RdBL.nil, 0, R_ratchetbase_Has, fun a b => run_ratchetbase_Has (.start a.1 a.2.1), res_ratchetbase_Has.av, res_ratchetbase_Has.bx⟩
theorem con_ratchetbase_Has_ok : con_ratchetbase_Has.Ok := fun a b r h => fn_ok (fn := Tryz.f144) (code := code_ratchetbase_Has) E_ok (by kernel_rfl) (by kernel_rfl) (by kernel_rfl) (Nat.le_of_ble_eq_true rfl) (good_ratchetbase_Has (.start a.1 a.2.1) r h)

/-! ### ratchet/ratchetbase.DesignErr -/
inductive P_ratchetbase_DesignErr where
 | start (d0_0 : ByteArray) (d0_1 : (List api_Port)) (d0_2 : (List api_Element)) (d0_3 : (List api_Node)) (d0_4 : (List api_Rule)) (d0_5 : (List api_Output)) (d0_6 : (List api_Attribute))
 | p2036 (i10 : Int) (B0_0 : ByteArray) (B0_1 : (List api_Port)) (B0_2 : (List api_Element)) (B0_3 : (List api_Node)) (B0_4 : (List api_Rule)) (B0_5 : (List api_Output)) (B0_6 : (List api_Attribute))
 | p1042740 (i10 : Int) (k12 : Int) (B0_0 : ByteArray) (B0_1 : (List api_Port)) (B0_2 : (List api_Element)) (B0_3 : (List api_Node)) (B0_4 : (List api_Rule)) (B0_5 : (List api_Output)) (B0_6 : (List api_Attribute)) (B1_0 : ByteArray) (B1_1 : Int) (B1_2 : (List api_Write))
 | p16372 (i16 : Int) (B0_0 : ByteArray) (B0_1 : (List api_Port)) (B0_2 : (List api_Element)) (B0_3 : (List api_Node)) (B0_4 : (List api_Rule)) (B0_5 : (List api_Output)) (B0_6 : (List api_Attribute))
 | p1047847 (i16 : Int) (B0_0 : ByteArray) (B0_1 : (List api_Port)) (B0_2 : (List api_Element)) (B0_3 : (List api_Node)) (B0_4 : (List api_Rule)) (B0_5 : (List api_Output)) (B0_6 : (List api_Attribute)) (B1_0 : Int) (B1_1 : (List Int))
 | p8382780 (i16 : Int) (k18 : Int) (B0_0 : ByteArray) (B0_1 : (List api_Port)) (B0_2 : (List api_Element)) (B0_3 : (List api_Node)) (B0_4 : (List api_Rule)) (B0_5 : (List api_Output)) (B0_6 : (List api_Attribute)) (B1_0 : Int) (B1_1 : (List Int))
noncomputable def place_ratchetbase_DesignErr : P_ratchetbase_DesignErr → List Bool
 | .start .. => []
 | .p2036 .. => [false, false, true, false, true, true, true, true, true, true]
 | .p1042740 .. => [false, false, true, false, true, true, false, false, true, false, false, true, false, true, true, true, true, true, true]
 | .p16372 .. => [false, false, true, false, true, true, true, true, true, true, true, true, true]
 | .p1047847 .. => [true, true, true, false, false, true, false, false, true, false, true, true, true, true, true, true, true, true, true]
 | .p8382780 .. => [false, false, true, true, true, true, false, false, true, false, false, true, false, true, true, true, true, true, true, true, true, true]
noncomputable def st_ratchetbase_DesignErr : P_ratchetbase_DesignErr → St E.S
 | .start d0_0 d0_1 d0_2 d0_3 d0_4 d0_5 d0_6 => st0 185 [.agg [.v (.string d0_0), .sl 206 d0_1 false, .sl 82 d0_2 false, .sl 208 d0_3 false, .sl 85 d0_4 false, .sl 190 d0_5 false, .sl 146 d0_6 false]] []
 | .p2036 i10 B0_0 B0_1 B0_2 B0_3 B0_4 B0_5 B0_6 => mkSt 185 [1, 10] [.bp 0 0, .v (.int .i64 i10)] [.var 75 [.v (.string B0_0), .sl 206 B0_1 false, .sl 82 B0_2 false, .sl 208 B0_3 false, .sl 85 B0_4 false, .sl 190 B0_5 false, .sl 146 B0_6 false]]
 | .p1042740 i10 k12 B0_0 B0_1 B0_2 B0_3 B0_4 B0_5 B0_6 B1_0 B1_1 B1_2 => mkSt 185 [1, 10, 11, 12] [.bp 0 0, .v (.int .i64 i10), .bp 1 0, .v (.int .i64 k12)] [.var 75 [.v (.string B0_0), .sl 206 B0_1 false, .sl 82 B0_2 false, .sl 208 B0_3 false, .sl 85 B0_4 false, .sl 190 B0_5 false, .sl 146 B0_6 false], .var 85 [.v (.string B1_0), .v (.int .i64 B1_1), .sl 151 B1_2 false]]
 | .p16372 i16 B0_0 B0_1 B0_2 B0_3 B0_4 B0_5 B0_6 => mkSt 185 [1, 16] [.bp 0 0, .v (.int .i64 i16)] [.var 75 [.v (.string B0_0), .sl 206 B0_1 false, .sl 82 B0_2 false, .sl 208 B0_3 false, .sl 85 B0_4 false, .sl 190 B0_5 false, .sl 146 B0_6 false]]
 | .p1047847 i16 B0_0 B0_1 B0_2 B0_3 B0_4 B0_5 B0_6 B1_0 B1_1 => mkSt 185 [1, 16, 17] [.bp 0 0, .v (.int .i64 i16), .bp 1 0] [.var 75 [.v (.string B0_0), .sl 206 B0_1 false, .sl 82 B0_2 false, .sl 208 B0_3 false, .sl 85 B0_4 false, .sl 190 B0_5 false, .sl 146 B0_6 false], .var 146 [.v (.int .i64 B1_0), .sl 3 B1_1 false]]
 | .p8382780 i16 k18 B0_0 B0_1 B0_2 B0_3 B0_4 B0_5 B0_6 B1_0 B1_1 => mkSt 185 [1, 16, 17, 18] [.bp 0 0, .v (.int .i64 i16), .bp 1 0, .v (.int .i64 k18)] [.var 75 [.v (.string B0_0), .sl 206 B0_1 false, .sl 82 B0_2 false, .sl 208 B0_3 false, .sl 85 B0_4 false, .sl 190 B0_5 false, .sl 146 B0_6 false], .var 146 [.v (.int .i64 B1_0), .sl 3 B1_1 false]]
abbrev R_ratchetbase_DesignErr : Type := ((Int × (Int × Unit)) × Unit)
noncomputable def res_ratchetbase_DesignErr : Res E (Int × (Int × Unit)) Unit := { rows := [], flat := [], keep := 0, done := [0, 1], rl := (RdL.cons (Rd.int .i64) (RdL.cons (Rd.int .i64) RdL.nil)), rb := RdBL.nil }
noncomputable def run_ratchetbase_DesignErr : P_ratchetbase_DesignErr → Option R_ratchetbase_DesignErr
 | .start d0_0 d0_1 d0_2 d0_3 d0_4 d0_5 d0_6 =>
   (run_ratchetbase_IsName (.start d0_0)) >>= fun t1 =>
   if (!t1.1.1) = true then
     some (((0 : Int), ((4 : Int), ())), ())
   else
     (run_ratchetbase_PortsErr (.start d0_1)) >>= fun t2 =>
     if (t2.1.2.1 != (0 : Int)) = true then
       some ((t2.1.1, (t2.1.2.1, ())), ())
     else
       (run_ratchetbase_ElementsErr (.start d0_1 d0_2)) >>= fun t3 =>
       if (t3.1.2.1 != (0 : Int)) = true then
         some ((t3.1.1, (t3.1.2.1, ())), ())
       else
         (run_ratchetbase_Leaves (.start d0_0 d0_1 d0_2 d0_3 d0_4 d0_5 d0_6)) >>= fun t4 =>
         (run_ratchetbase_NodesErr (.start t4.2.1 d0_3)) >>= fun t5 =>
         if (t5.1.2.1 != (0 : Int)) = true then
           some ((t5.1.1, (t5.1.2.1, ())), ())
         else
           if (decide ((List.length d0_4 : Int) > (16 : Int))) = true then
             some (((0 : Int), ((8 : Int), ())), ())
           else
             run_ratchetbase_DesignErr (.p2036 (0 : Int) d0_0 d0_1 d0_2 d0_3 d0_4 d0_5 d0_6)
 | .p2036 i10 B0_0 B0_1 B0_2 B0_3 B0_4 B0_5 B0_6 =>
   if (decide (i10 < (List.length B0_4 : Int))) = true then
     (idx B0_4 i10) >>= fun t1 =>
     (run_ratchetbase_IsName (.start t1.Name)) >>= fun t2 =>
     if (!t2.1.1) = true then
       some ((i10, ((4 : Int), ())), ())
     else
       run_ratchetbase_DesignErr (.p1042740 i10 (0 : Int) B0_0 B0_1 B0_2 B0_3 B0_4 B0_5 B0_6 t1.Name t1.Guard t1.Writes)
   else
     (run_ratchetbase_OutputsErr (.start B0_3 B0_5)) >>= fun t3 =>
     if (t3.1.2.1 != (0 : Int)) = true then
       some ((t3.1.1, (t3.1.2.1, ())), ())
     else
       if (decide ((List.length B0_6 : Int) > (16 : Int))) = true then
         some (((0 : Int), ((8 : Int), ())), ())
       else
         run_ratchetbase_DesignErr (.p16372 (0 : Int) B0_0 B0_1 B0_2 B0_3 B0_4 B0_5 B0_6)
 | .p1042740 i10 k12 B0_0 B0_1 B0_2 B0_3 B0_4 B0_5 B0_6 B1_0 B1_1 B1_2 =>
   if (decide (k12 < i10)) = true then
     (idx B0_4 k12) >>= fun t1 =>
     if (seq t1.Name B1_0) = true then
       some ((i10, ((5 : Int), ())), ())
     else
       run_ratchetbase_DesignErr (.p1042740 i10 (IntKind.wrap .i64 (k12 + (1 : Int))) B0_0 B0_1 B0_2 B0_3 B0_4 B0_5 B0_6 B1_0 B1_1 B1_2)
   else
     (run_ratchetbase_IsCondition (.start B0_3 B1_1)) >>= fun t2 =>
     if (!t2.1.1) = true then
       some ((i10, ((9 : Int), ())), ())
     else
       (run_ratchetbase_WritesErr (.start B0_2 B0_3 B1_2)) >>= fun t3 =>
       if (t3.1.1 != (0 : Int)) = true then
         some ((i10, (t3.1.1, ())), ())
       else
         run_ratchetbase_DesignErr (.p2036 (IntKind.wrap .i64 (i10 + (1 : Int))) B0_0 B0_1 B0_2 B0_3 B0_4 B0_5 B0_6)
 | .p16372 i16 B0_0 B0_1 B0_2 B0_3 B0_4 B0_5 B0_6 =>
   if (decide (i16 < (List.length B0_6 : Int))) = true then
     (idx B0_6 i16) >>= fun t1 =>
     (run_ratchetbase_Within (.start t1.Kind (0 : Int) (3 : Int))) >>= fun t2 =>
     if (!t2.1.1) = true then
       some ((i16, ((15 : Int), ())), ())
     else
       if ((List.length t1.Rules : Int) == (0 : Int)) = true then
         some ((i16, ((10 : Int), ())), ())
       else
         if (decide ((List.length t1.Rules : Int) > (16 : Int))) = true then
           some ((i16, ((10 : Int), ())), ())
         else
           run_ratchetbase_DesignErr (.p1047847 i16 B0_0 B0_1 B0_2 B0_3 B0_4 B0_5 B0_6 t1.Kind t1.Rules)
   else
     some (((0 : Int), ((0 : Int), ())), ())
 | .p1047847 i16 B0_0 B0_1 B0_2 B0_3 B0_4 B0_5 B0_6 B1_0 B1_1 =>
   run_ratchetbase_DesignErr (.p8382780 i16 (0 : Int) B0_0 B0_1 B0_2 B0_3 B0_4 B0_5 B0_6 B1_0 B1_1)
 | .p8382780 i16 k18 B0_0 B0_1 B0_2 B0_3 B0_4 B0_5 B0_6 B1_0 B1_1 =>
   if (decide (k18 < (List.length B1_1 : Int))) = true then
     (idx B1_1 k18) >>= fun t1 =>
     (run_ratchetbase_Within (.start t1 (0 : Int) (IntKind.wrap .i64 ((List.length B0_4 : Int) - (1 : Int))))) >>= fun t2 =>
     if (!t2.1.1) = true then
       some ((i16, ((6 : Int), ())), ())
     else
       (span (List.length B1_1) (0 : Int) k18) >>= fun t3 =>
       (idx B1_1 k18) >>= fun t4 =>
       (run_ratchetbase_Has (.start (cut B1_1 t3) t4)) >>= fun t5 =>
       if t5.1.1 = true then
         some ((i16, ((23 : Int), ())), ())
       else
         run_ratchetbase_DesignErr (.p8382780 i16 (IntKind.wrap .i64 (k18 + (1 : Int))) B0_0 B0_1 B0_2 B0_3 B0_4 B0_5 B0_6 B1_0 B1_1)
   else
     run_ratchetbase_DesignErr (.p16372 (IntKind.wrap .i64 (i16 + (1 : Int))) B0_0 B0_1 B0_2 B0_3 B0_4 B0_5 B0_6)
  partial_fixpoint
noncomputable def tab_ratchetbase_DesignErr : List (Plc E P_ratchetbase_DesignErr) := [⟨2036, [false, false, true, false, true, true, true, true, true, true], { slots := [1, 10], rows := [], flat := [], keep := 0 }, (Unit × (Int × Unit)), ((ByteArray × ((List api_Port) × ((List api_Element) × ((List api_Node) × ((List api_Rule) × ((List api_Output) × ((List api_Attribute) × Unit))))))) × Unit), (RdL.cons (Rd.bp 0 0) (RdL.cons (Rd.int .i64) RdL.nil)), (RdBL.cons (RdB.var 75 (RdL.cons Rd.str (RdL.cons (Rd.sl 206 false) (RdL.cons (Rd.sl 82 false) (RdL.cons (Rd.sl 208 false) (RdL.cons (Rd.sl 85 false) (RdL.cons (Rd.sl 190 false) (RdL.cons (Rd.sl 146 false) RdL.nil)))))))) RdBL.nil), fun a b => .p2036 a.2.1 b.1.1 b.1.2.1 b.1.2.2.1 b.1.2.2.2.1 b.1.2.2.2.2.1 b.1.2.2.2.2.2.1 b.1.2.2.2.2.2.2.1⟩,
  ⟨1042740, [false, false, true, false, true, true, false, false, true, false, false, true, false, true, true, true, true, true, true], { slots := [1, 10, 11, 12], rows := [], flat := [], keep := 0 }, (Unit × (Int × (Unit × (Int × Unit)))), ((ByteArray × ((List api_Port) × ((List api_Element) × ((List api_Node) × ((List api_Rule) × ((List api_Output) × ((List api_Attribute) × Unit))))))) × ((ByteArray × (Int × ((List api_Write) × Unit))) × Unit)), (RdL.cons (Rd.bp 0 0) (RdL.cons (Rd.int .i64) (RdL.cons (Rd.bp 1 0) (RdL.cons (Rd.int .i64) RdL.nil)))), (RdBL.cons (RdB.var 75 (RdL.cons Rd.str (RdL.cons (Rd.sl 206 false) (RdL.cons (Rd.sl 82 false) (RdL.cons (Rd.sl 208 false) (RdL.cons (Rd.sl 85 false) (RdL.cons (Rd.sl 190 false) (RdL.cons (Rd.sl 146 false) RdL.nil)))))))) (RdBL.cons (RdB.var 85 (RdL.cons Rd.str (RdL.cons (Rd.int .i64) (RdL.cons (Rd.sl 151 false) RdL.nil)))) RdBL.nil)), fun a b => .p1042740 a.2.1 a.2.2.2.1 b.1.1 b.1.2.1 b.1.2.2.1 b.1.2.2.2.1 b.1.2.2.2.2.1 b.1.2.2.2.2.2.1 b.1.2.2.2.2.2.2.1 b.2.1.1 b.2.1.2.1 b.2.1.2.2.1⟩,
  ⟨16372, [false, false, true, false, true, true, true, true, true, true, true, true, true], { slots := [1, 16], rows := [], flat := [], keep := 0 }, (Unit × (Int × Unit)), ((ByteArray × ((List api_Port) × ((List api_Element) × ((List api_Node) × ((List api_Rule) × ((List api_Output) × ((List api_Attribute) × Unit))))))) × Unit), (RdL.cons (Rd.bp 0 0) (RdL.cons (Rd.int .i64) RdL.nil)), (RdBL.cons (RdB.var 75 (RdL.cons Rd.str (RdL.cons (Rd.sl 206 false) (RdL.cons (Rd.sl 82 false) (RdL.cons (Rd.sl 208 false) (RdL.cons (Rd.sl 85 false) (RdL.cons (Rd.sl 190 false) (RdL.cons (Rd.sl 146 false) RdL.nil)))))))) RdBL.nil), fun a b => .p16372 a.2.1 b.1.1 b.1.2.1 b.1.2.2.1 b.1.2.2.2.1 b.1.2.2.2.2.1 b.1.2.2.2.2.2.1 b.1.2.2.2.2.2.2.1⟩,
  ⟨1047847, [true, true, true, false, false, true, false, false, true, false, true, true, true, true, true, true, true, true, true], { slots := [1, 16, 17], rows := [], flat := [], keep := 0 }, (Unit × (Int × (Unit × Unit))), ((ByteArray × ((List api_Port) × ((List api_Element) × ((List api_Node) × ((List api_Rule) × ((List api_Output) × ((List api_Attribute) × Unit))))))) × ((Int × ((List Int) × Unit)) × Unit)), (RdL.cons (Rd.bp 0 0) (RdL.cons (Rd.int .i64) (RdL.cons (Rd.bp 1 0) RdL.nil))), (RdBL.cons (RdB.var 75 (RdL.cons Rd.str (RdL.cons (Rd.sl 206 false) (RdL.cons (Rd.sl 82 false) (RdL.cons (Rd.sl 208 false) (RdL.cons (Rd.sl 85 false) (RdL.cons (Rd.sl 190 false) (RdL.cons (Rd.sl 146 false) RdL.nil)))))))) (RdBL.cons (RdB.var 146 (RdL.cons (Rd.int .i64) (RdL.cons (Rd.sl 3 false) RdL.nil))) RdBL.nil)), fun a b => .p1047847 a.2.1 b.1.1 b.1.2.1 b.1.2.2.1 b.1.2.2.2.1 b.1.2.2.2.2.1 b.1.2.2.2.2.2.1 b.1.2.2.2.2.2.2.1 b.2.1.1 b.2.1.2.1⟩,
  ⟨8382780, [false, false, true, true, true, true, false, false, true, false, false, true, false, true, true, true, true, true, true, true, true, true], { slots := [1, 16, 17, 18], rows := [], flat := [], keep := 0 }, (Unit × (Int × (Unit × (Int × Unit)))), ((ByteArray × ((List api_Port) × ((List api_Element) × ((List api_Node) × ((List api_Rule) × ((List api_Output) × ((List api_Attribute) × Unit))))))) × ((Int × ((List Int) × Unit)) × Unit)), (RdL.cons (Rd.bp 0 0) (RdL.cons (Rd.int .i64) (RdL.cons (Rd.bp 1 0) (RdL.cons (Rd.int .i64) RdL.nil)))), (RdBL.cons (RdB.var 75 (RdL.cons Rd.str (RdL.cons (Rd.sl 206 false) (RdL.cons (Rd.sl 82 false) (RdL.cons (Rd.sl 208 false) (RdL.cons (Rd.sl 85 false) (RdL.cons (Rd.sl 190 false) (RdL.cons (Rd.sl 146 false) RdL.nil)))))))) (RdBL.cons (RdB.var 146 (RdL.cons (Rd.int .i64) (RdL.cons (Rd.sl 3 false) RdL.nil))) RdBL.nil)), fun a b => .p8382780 a.2.1 a.2.2.2.1 b.1.1 b.1.2.1 b.1.2.2.1 b.1.2.2.2.1 b.1.2.2.2.2.1 b.1.2.2.2.2.2.1 b.1.2.2.2.2.2.2.1 b.2.1.1 b.2.1.2.1⟩]
theorem tab_ratchetbase_DesignErr_ok : All (PlcOk 185 0 place_ratchetbase_DesignErr st_ratchetbase_DesignErr) tab_ratchetbase_DesignErr := ⟨⟨rfl, rfl, fun _ _ => rfl, fun _ _ => rfl⟩, ⟨⟨rfl, rfl, fun _ _ => rfl, fun _ _ => rfl⟩, ⟨⟨rfl, rfl, fun _ _ => rfl, fun _ _ => rfl⟩, ⟨⟨rfl, rfl, fun _ _ => rfl, fun _ _ => rfl⟩, ⟨⟨rfl, rfl, fun _ _ => rfl, fun _ _ => rfl⟩, trivial⟩⟩⟩⟩⟩
noncomputable def code_ratchetbase_DesignErr : Code := Tryz.f91.body.getD .skip
noncomputable def spec_ratchetbase_DesignErr : Spec E.S := (Con.add con_ratchetbase_Has (Con.add con_ratchetbase_Within (Con.add con_ratchetbase_WritesErr (Con.add con_ratchetbase_IsCondition (Con.add con_ratchetbase_OutputsErr (Con.add con_ratchetbase_NodesErr (Con.add con_ratchetbase_Leaves (Con.add con_ratchetbase_ElementsErr (Con.add con_ratchetbase_PortsErr (Con.add con_ratchetbase_IsName noSpec))))))))))
theorem spec_ratchetbase_DesignErr_ok : SpecOk E spec_ratchetbase_DesignErr := (Con.add_ok con_ratchetbase_Has_ok (Con.add_ok con_ratchetbase_Within_ok (Con.add_ok con_ratchetbase_WritesErr_ok (Con.add_ok con_ratchetbase_IsCondition_ok (Con.add_ok con_ratchetbase_OutputsErr_ok (Con.add_ok con_ratchetbase_NodesErr_ok (Con.add_ok con_ratchetbase_Leaves_ok (Con.add_ok con_ratchetbase_ElementsErr_ok (Con.add_ok con_ratchetbase_PortsErr_ok (Con.add_ok con_ratchetbase_IsName_ok noSpec_ok))))))))))
theorem good_ratchetbase_DesignErr : ∀ pt r, run_ratchetbase_DesignErr pt = some r → Good E Tryz.f91 code_ratchetbase_DesignErr 0 (res_ratchetbase_DesignErr.av r) (res_ratchetbase_DesignErr.bx r) (place_ratchetbase_DesignErr pt) (st_ratchetbase_DesignErr pt) := by
  refine run_ratchetbase_DesignErr.partial_correctness (fun pt r => Good E Tryz.f91 code_ratchetbase_DesignErr 0 (res_ratchetbase_DesignErr.av r) (res_ratchetbase_DesignErr.bx r) (place_ratchetbase_DesignErr pt) (st_ratchetbase_DesignErr pt)) ?_
  intro run' ih pt r hr
  cases pt <;> exact fn_step (spec := spec_ratchetbase_DesignErr) (wr := (mkWr [] [])) (l := tab_ratchetbase_DesignErr) (z := 185) (p := res_ratchetbase_DesignErr) E_ok tab_ratchetbase_DesignErr_ok.mem rfl spec_ratchetbase_DesignErr_ok ih (Eq.trans (by kernel_rfl) hr)
noncomputable def con_ratchetbase_DesignErr : Con E := ⟨91, ((ByteArray × ((List api_Port) × ((List api_Element) × ((List api_Node) × ((List api_Rule) × ((List api_Output) × ((List api_Attribute) × Unit))))))) × Unit), Unit, (RwL.cons (Rw.agg (RwL.cons Rd.str.w (RwL.cons (Rw.sl 206) (RwL.cons (Rw.sl 82) (RwL.cons (Rw.sl 208) (RwL.cons (Rw.sl 85) (RwL.cons (Rw.sl 190) (RwL.cons (Rw.sl 146) RwL.nil)))))))) RwL.nil), RdBL.nil, 0, R_ratchetbase_DesignErr, fun a b => run_ratchetbase_DesignErr (.start a.1.1 a.1.2.1 a.1.2.2.1 a.1.2.2.2.1 a.1.2.2.2.2.1 a.1.2.2.2.2.2.1 a.1.2.2.2.2.2.2.1), res_ratchetbase_DesignErr.av, res_ratchetbase_DesignErr.bx⟩
theorem con_ratchetbase_DesignErr_ok : con_ratchetbase_DesignErr.Ok := fun a b r h => fn_ok (fn := Tryz.f91) (code := code_ratchetbase_DesignErr) E_ok (by kernel_rfl) (by kernel_rfl) (by kernel_rfl) (Nat.le_of_ble_eq_true rfl) (good_ratchetbase_DesignErr (.start a.1.1 a.1.2.1 a.1.2.2.1 a.1.2.2.2.1 a.1.2.2.2.2.1 a.1.2.2.2.2.2.1 a.1.2.2.2.2.2.2.1) r h)

/-! ### ratchet/ratchetbase.IsDesign -/
inductive P_ratchetbase_IsDesign where
 | start (d0_0 : ByteArray) (d0_1 : (List api_Port)) (d0_2 : (List api_Element)) (d0_3 : (List api_Node)) (d0_4 : (List api_Rule)) (d0_5 : (List api_Output)) (d0_6 : (List api_Attribute))
noncomputable def place_ratchetbase_IsDesign : P_ratchetbase_IsDesign → List Bool
 | .start .. => []
noncomputable def st_ratchetbase_IsDesign : P_ratchetbase_IsDesign → St E.S
 | .start d0_0 d0_1 d0_2 d0_3 d0_4 d0_5 d0_6 => st0 12 [.agg [.v (.string d0_0), .sl 206 d0_1 false, .sl 82 d0_2 false, .sl 208 d0_3 false, .sl 85 d0_4 false, .sl 190 d0_5 false, .sl 146 d0_6 false]] []
abbrev R_ratchetbase_IsDesign : Type := ((Bool × Unit) × Unit)
noncomputable def res_ratchetbase_IsDesign : Res E (Bool × Unit) Unit := { rows := [], flat := [], keep := 0, done := [0], rl := (RdL.cons Rd.bool RdL.nil), rb := RdBL.nil }
noncomputable def run_ratchetbase_IsDesign : P_ratchetbase_IsDesign → Option R_ratchetbase_IsDesign
 | .start d0_0 d0_1 d0_2 d0_3 d0_4 d0_5 d0_6 =>
   (run_ratchetbase_DesignErr (.start d0_0 d0_1 d0_2 d0_3 d0_4 d0_5 d0_6)) >>= fun t1 =>
   some ((t1.1.2.1 == (0 : Int), ()), ())
noncomputable def tab_ratchetbase_IsDesign : List (Plc E P_ratchetbase_IsDesign) := []
theorem tab_ratchetbase_IsDesign_ok : All (PlcOk 12 0 place_ratchetbase_IsDesign st_ratchetbase_IsDesign) tab_ratchetbase_IsDesign := trivial
noncomputable def code_ratchetbase_IsDesign : Code := Tryz.f41.body.getD .skip
noncomputable def spec_ratchetbase_IsDesign : Spec E.S := (Con.add con_ratchetbase_DesignErr noSpec)
theorem spec_ratchetbase_IsDesign_ok : SpecOk E spec_ratchetbase_IsDesign := (Con.add_ok con_ratchetbase_DesignErr_ok noSpec_ok)
theorem good_ratchetbase_IsDesign : ∀ pt r, run_ratchetbase_IsDesign pt = some r → Good E Tryz.f41 code_ratchetbase_IsDesign 0 (res_ratchetbase_IsDesign.av r) (res_ratchetbase_IsDesign.bx r) (place_ratchetbase_IsDesign pt) (st_ratchetbase_IsDesign pt) := by
  intro pt r hr
  cases pt <;> exact fn_step (spec := spec_ratchetbase_IsDesign) (wr := (mkWr [] [])) (l := tab_ratchetbase_IsDesign) (z := 12) (p := res_ratchetbase_IsDesign) (run' := fun _ => none) E_ok tab_ratchetbase_IsDesign_ok.mem rfl spec_ratchetbase_IsDesign_ok (fun _ _ h => by cases h) (Eq.trans (by kernel_rfl) hr)
noncomputable def con_ratchetbase_IsDesign : Con E := ⟨41, ((ByteArray × ((List api_Port) × ((List api_Element) × ((List api_Node) × ((List api_Rule) × ((List api_Output) × ((List api_Attribute) × Unit))))))) × Unit), Unit, (RwL.cons (Rw.agg (RwL.cons Rd.str.w (RwL.cons (Rw.sl 206) (RwL.cons (Rw.sl 82) (RwL.cons (Rw.sl 208) (RwL.cons (Rw.sl 85) (RwL.cons (Rw.sl 190) (RwL.cons (Rw.sl 146) RwL.nil)))))))) RwL.nil), RdBL.nil, 0, R_ratchetbase_IsDesign, fun a b => run_ratchetbase_IsDesign (.start a.1.1 a.1.2.1 a.1.2.2.1 a.1.2.2.2.1 a.1.2.2.2.2.1 a.1.2.2.2.2.2.1 a.1.2.2.2.2.2.2.1), res_ratchetbase_IsDesign.av, res_ratchetbase_IsDesign.bx⟩
theorem con_ratchetbase_IsDesign_ok : con_ratchetbase_IsDesign.Ok := fun a b r h => fn_ok (fn := Tryz.f41) (code := code_ratchetbase_IsDesign) E_ok (by kernel_rfl) (by kernel_rfl) (by kernel_rfl) (Nat.le_of_ble_eq_true rfl) (good_ratchetbase_IsDesign (.start a.1.1 a.1.2.1 a.1.2.2.1 a.1.2.2.2.1 a.1.2.2.2.2.1 a.1.2.2.2.2.2.1 a.1.2.2.2.2.2.2.1) r h)

/-! ### ratchet/ratchetref31.CacheNames -/
inductive P_ratchetref31_CacheNames where
 | start
noncomputable def place_ratchetref31_CacheNames : P_ratchetref31_CacheNames → List Bool
 | .start => []
noncomputable def st_ratchetref31_CacheNames : P_ratchetref31_CacheNames → St E.S
 | .start => st0 2 [] []
abbrev R_ratchetref31_CacheNames : Type := (((List ByteArray) × Unit) × Unit)
noncomputable def res_ratchetref31_CacheNames : Res E ((List ByteArray) × Unit) Unit := { rows := [], flat := [], keep := 0, done := [0], rl := (RdL.cons (Rd.sl 9 true) RdL.nil), rb := RdBL.nil }
noncomputable def run_ratchetref31_CacheNames : P_ratchetref31_CacheNames → Option R_ratchetref31_CacheNames
 | .start =>
   some ((([(⟨#[114, 101, 97, 100, 48]⟩ : ByteArray), (⟨#[111, 119, 110, 48]⟩ : ByteArray), (⟨#[119, 114, 105, 116, 101, 48]⟩ : ByteArray), (⟨#[100, 114, 111, 112, 48]⟩ : ByteArray), (⟨#[98, 97, 99, 107, 48]⟩ : ByteArray), (⟨#[121, 105, 101, 108, 100, 48]⟩ : ByteArray), (⟨#[114, 101, 97, 100, 49]⟩ : ByteArray), (⟨#[111, 119, 110, 49]⟩ : ByteArray), (⟨#[119, 114, 105, 116, 101, 49]⟩ : ByteArray), (⟨#[100, 114, 111, 112, 49]⟩ : ByteArray), (⟨#[98, 97, 99, 107, 49]⟩ : ByteArray), (⟨#[121, 105, 101, 108, 100, 49]⟩ : ByteArray)] : List ByteArray), ()), ())
noncomputable def tab_ratchetref31_CacheNames : List (Plc E P_ratchetref31_CacheNames) := []
theorem tab_ratchetref31_CacheNames_ok : All (PlcOk 2 0 place_ratchetref31_CacheNames st_ratchetref31_CacheNames) tab_ratchetref31_CacheNames := trivial
noncomputable def code_ratchetref31_CacheNames : Code := Tryz.f42.body.getD .skip
noncomputable def spec_ratchetref31_CacheNames : Spec E.S := noSpec
theorem spec_ratchetref31_CacheNames_ok : SpecOk E spec_ratchetref31_CacheNames := noSpec_ok
theorem good_ratchetref31_CacheNames : ∀ pt r, run_ratchetref31_CacheNames pt = some r → Good E Tryz.f42 code_ratchetref31_CacheNames 0 (res_ratchetref31_CacheNames.av r) (res_ratchetref31_CacheNames.bx r) (place_ratchetref31_CacheNames pt) (st_ratchetref31_CacheNames pt) := by
  intro pt r hr
  cases pt <;> exact fn_step (spec := spec_ratchetref31_CacheNames) (wr := (mkWr [] [])) (l := tab_ratchetref31_CacheNames) (z := 2) (p := res_ratchetref31_CacheNames) (run' := fun _ => none) E_ok tab_ratchetref31_CacheNames_ok.mem rfl spec_ratchetref31_CacheNames_ok (fun _ _ h => by cases h) (Eq.trans (by kernel_rfl) hr)
noncomputable def con_ratchetref31_CacheNames : Con E := ⟨42, Unit, Unit, RwL.nil, RdBL.nil, 0, R_ratchetref31_CacheNames, fun a b => run_ratchetref31_CacheNames (.start), res_ratchetref31_CacheNames.av, res_ratchetref31_CacheNames.bx⟩
theorem con_ratchetref31_CacheNames_ok : con_ratchetref31_CacheNames.Ok := fun a b r h => fn_ok (fn := Tryz.f42) (code := code_ratchetref31_CacheNames) E_ok (by kernel_rfl) (by kernel_rfl) (by kernel_rfl) (Nat.le_of_ble_eq_true rfl) (good_ratchetref31_CacheNames (.start) r h)

/-! ### ratchet/ratchetbase.Mod -/
inductive P_ratchetbase_Mod where
 | start (n0 : Int) (by1 : Int)
noncomputable def place_ratchetbase_Mod : P_ratchetbase_Mod → List Bool
 | .start .. => []
noncomputable def st_ratchetbase_Mod : P_ratchetbase_Mod → St E.S
 | .start n0 by1 => st0 14 [.v (.int .i64 n0), .v (.int .i64 by1)] []
abbrev R_ratchetbase_Mod : Type := ((Int × Unit) × Unit)
noncomputable def res_ratchetbase_Mod : Res E (Int × Unit) Unit := { rows := [], flat := [], keep := 0, done := [0], rl := (RdL.cons (Rd.int .i64) RdL.nil), rb := RdBL.nil }
noncomputable def run_ratchetbase_Mod : P_ratchetbase_Mod → Option R_ratchetbase_Mod
 | .start n0 by1 =>
   if (!(by1 == (0 : Int))) = true then
     if (decide ((Int.tmod n0 by1) < (0 : Int))) = true then
       some ((IntKind.wrap .i64 ((Int.tmod n0 by1) + by1), ()), ())
     else
       some ((Int.tmod n0 by1, ()), ())
   else none
noncomputable def tab_ratchetbase_Mod : List (Plc E P_ratchetbase_Mod) := []
theorem tab_ratchetbase_Mod_ok : All (PlcOk 14 0 place_ratchetbase_Mod st_ratchetbase_Mod) tab_ratchetbase_Mod := trivial
noncomputable def code_ratchetbase_Mod : Code := Tryz.f43.body.getD .skip
noncomputable def spec_ratchetbase_Mod : Spec E.S := noSpec
theorem spec_ratchetbase_Mod_ok : SpecOk E spec_ratchetbase_Mod := noSpec_ok
theorem good_ratchetbase_Mod : ∀ pt r, run_ratchetbase_Mod pt = some r → Good E Tryz.f43 code_ratchetbase_Mod 0 (res_ratchetbase_Mod.av r) (res_ratchetbase_Mod.bx r) (place_ratchetbase_Mod pt) (st_ratchetbase_Mod pt) := by
  intro pt r hr
  cases pt <;> exact fn_step (spec := spec_ratchetbase_Mod) (wr := (mkWr [] [])) (l := tab_ratchetbase_Mod) (z := 14) (p := res_ratchetbase_Mod) (run' := fun _ => none) E_ok tab_ratchetbase_Mod_ok.mem rfl spec_ratchetbase_Mod_ok (fun _ _ h => by cases h) (Eq.trans (by kernel_rfl) hr)
noncomputable def con_ratchetbase_Mod : Con E := ⟨43, (Int × (Int × Unit)), Unit, (RwL.cons (Rd.int .i64).w (RwL.cons (Rd.int .i64).w RwL.nil)), RdBL.nil, 0, R_ratchetbase_Mod, fun a b => run_ratchetbase_Mod (.start a.1 a.2.1), res_ratchetbase_Mod.av, res_ratchetbase_Mod.bx⟩
theorem con_ratchetbase_Mod_ok : con_ratchetbase_Mod.Ok := fun a b r h => fn_ok (fn := Tryz.f43) (code := code_ratchetbase_Mod) E_ok (by kernel_rfl) (by kernel_rfl) (by kernel_rfl) (Nat.le_of_ble_eq_true rfl) (good_ratchetbase_Mod (.start a.1 a.2.1) r h)

/-! ### ratchet/ratchetbase.CopyInts -/
inductive P_ratchetbase_CopyInts_v1 where
 | start (l0 : (List Int))
noncomputable def place_ratchetbase_CopyInts_v1 : P_ratchetbase_CopyInts_v1 → List Bool
 | .start .. => []
noncomputable def st_ratchetbase_CopyInts_v1 : P_ratchetbase_CopyInts_v1 → St E.S
 | .start l0 => st0 6 [.sl 3 l0 false] []
abbrev R_ratchetbase_CopyInts_v1 : Type := ((Unit × Unit) × ((List Int) × Unit))
noncomputable def res_ratchetbase_CopyInts_v1 : Res E (Unit × Unit) ((List Int) × Unit) := { rows := [], flat := [], keep := 0, rl := (RdL.cons (Rd.rw 0) RdL.nil), rb := (RdBL.cons (RdB.row 3 false) RdBL.nil) }
noncomputable def run_ratchetbase_CopyInts_v1 : P_ratchetbase_CopyInts_v1 → Option R_ratchetbase_CopyInts_v1
 | .start l0 =>
   if (fits (List.length ([] : List Int)) (List.length l0) 8) = true then
     some (((), ()), (([] : List Int) ++ l0, ()))
   else none
noncomputable def tab_ratchetbase_CopyInts_v1 : List (Plc E P_ratchetbase_CopyInts_v1) := []
theorem tab_ratchetbase_CopyInts_v1_ok : All (PlcOk 6 0 place_ratchetbase_CopyInts_v1 st_ratchetbase_CopyInts_v1) tab_ratchetbase_CopyInts_v1 := trivial
noncomputable def code_ratchetbase_CopyInts_v1 : Code := Tryz.f15.body.getD .skip
noncomputable def spec_ratchetbase_CopyInts_v1 : Spec E.S := noSpec
theorem spec_ratchetbase_CopyInts_v1_ok : SpecOk E spec_ratchetbase_CopyInts_v1 := noSpec_ok
theorem good_ratchetbase_CopyInts_v1 : ∀ pt r, run_ratchetbase_CopyInts_v1 pt = some r → Good E Tryz.f15 code_ratchetbase_CopyInts_v1 0 (res_ratchetbase_CopyInts_v1.av r) (res_ratchetbase_CopyInts_v1.bx r) (place_ratchetbase_CopyInts_v1 pt) (st_ratchetbase_CopyInts_v1 pt) := by
  intro pt r hr
  cases pt <;> exact fn_step (spec := spec_ratchetbase_CopyInts_v1) (wr := (mkWr [2, 3, 5] [])) (l := tab_ratchetbase_CopyInts_v1) (z := 6) (p := res_ratchetbase_CopyInts_v1) (run' := fun _ => none) E_ok tab_ratchetbase_CopyInts_v1_ok.mem rfl spec_ratchetbase_CopyInts_v1_ok (fun _ _ h => by cases h) (Eq.trans (by kernel_rfl) hr)
noncomputable def con_ratchetbase_CopyInts_v1 : Con E := ⟨15, ((List Int) × Unit), Unit, (RwL.cons (Rw.sl 3) RwL.nil), RdBL.nil, 0, R_ratchetbase_CopyInts_v1, fun a b => run_ratchetbase_CopyInts_v1 (.start a.1), res_ratchetbase_CopyInts_v1.av, res_ratchetbase_CopyInts_v1.bx⟩
theorem con_ratchetbase_CopyInts_v1_ok : con_ratchetbase_CopyInts_v1.Ok := fun a b r h => fn_ok (fn := Tryz.f15) (code := code_ratchetbase_CopyInts_v1) E_ok (by kernel_rfl) (by kernel_rfl) (by kernel_rfl) (Nat.le_of_ble_eq_true rfl) (good_ratchetbase_CopyInts_v1 (.start a.1) r h)

/-! ### ratchet/ratchetref31.CacheRule -/
inductive P_ratchetref31_CacheRule where
 | start (width0 : Int) (s1 : (List Int)) (rule2 : Int)
 | p16059 (s1 : (List Int)) (kind10 : Int) (other12 : Int) (B0 : (List Int))
noncomputable def place_ratchetref31_CacheRule : P_ratchetref31_CacheRule → List Bool
 | .start .. => []
 | .p16059 .. => [true, true, false, true, true, true, false, true, false, true, true, true, true]
noncomputable def st_ratchetref31_CacheRule : P_ratchetref31_CacheRule → St E.S
 | .start width0 s1 rule2 => st0 149 [.v (.int .i64 width0), .sl 3 s1 false, .v (.int .i64 rule2)] []
 | .p16059 s1 kind10 other12 B0 => mkSt 149 [1, 10, 12, 13] [.sl 3 s1 false, .v (.int .i64 kind10), .v (.int .i64 other12), .rw 0] [.row 3 B0 false]
abbrev R_ratchetref31_CacheRule : Type := ((Bool × (Unit × Unit)) × ((List Int) × Unit))
noncomputable def res_ratchetref31_CacheRule : Res E (Bool × (Unit × Unit)) ((List Int) × Unit) := { rows := [], flat := [], keep := 0, done := [0, 1], rl := (RdL.cons Rd.bool (RdL.cons (Rd.rw 0) RdL.nil)), rb := (RdBL.cons (RdB.row 3 true) RdBL.nil) }
noncomputable def run_ratchetref31_CacheRule : P_ratchetref31_CacheRule → Option R_ratchetref31_CacheRule
 | .start width0 s1 rule2 =>
   if (!((6 : Int) == (0 : Int))) = true then
     if (!((6 : Int) == (0 : Int))) = true then
       (run_ratchetbase_CopyInts_v1 (.start s1)) >>= fun t1 =>
       if ((Int.tmod rule2 (6 : Int)) == (0 : Int)) = true then
         (idx s1 (0 : Int)) >>= fun t2 =>
         if (decide ((0 : Int) ≤ (IntKind.wrap .i64 ((1 : Int) + (IntKind.wrap .i64 ((2 : Int) * (IntKind.wrap .i64 (Int.tdiv rule2 (6 : Int)))))))) && decide ((IntKind.wrap .i64 ((1 : Int) + (IntKind.wrap .i64 ((2 : Int) * (IntKind.wrap .i64 (Int.tdiv rule2 (6 : Int))))))) < (List.length t1.2.1 : Int))) = true then
           (idx t1.2.1 (IntKind.wrap .i64 ((1 : Int) + (IntKind.wrap .i64 ((2 : Int) * (IntKind.wrap .i64 (Int.tdiv rule2 (6 : Int)))))))) >>= fun t3 =>
           if (decide ((0 : Int) ≤ (IntKind.wrap .i64 ((2 : Int) + (IntKind.wrap .i64 ((2 : Int) * (IntKind.wrap .i64 (Int.tdiv rule2 (6 : Int)))))))) && decide ((IntKind.wrap .i64 ((2 : Int) + (IntKind.wrap .i64 ((2 : Int) * (IntKind.wrap .i64 (Int.tdiv rule2 (6 : Int))))))) < (List.length (List.set t1.2.1 (Int.toNat (IntKind.wrap .i64 ((1 : Int) + (IntKind.wrap .i64 ((2 : Int) * (IntKind.wrap .i64 (Int.tdiv rule2 (6 : Int)))))))) (1 : Int)) : Int))) = true then
             (idx (List.set t1.2.1 (Int.toNat (IntKind.wrap .i64 ((1 : Int) + (IntKind.wrap .i64 ((2 : Int) * (IntKind.wrap .i64 (Int.tdiv rule2 (6 : Int)))))))) (1 : Int)) (IntKind.wrap .i64 ((2 : Int) + (IntKind.wrap .i64 ((2 : Int) * (IntKind.wrap .i64 (Int.tdiv rule2 (6 : Int)))))))) >>= fun t4 =>
             (idx s1 (IntKind.wrap .i64 ((1 : Int) + (IntKind.wrap .i64 ((2 : Int) * (IntKind.wrap .i64 (Int.tdiv rule2 (6 : Int)))))))) >>= fun t5 =>
             if (t5 == (0 : Int)) = true then
               (idx s1 (IntKind.wrap .i64 ((3 : Int) - (IntKind.wrap .i64 ((2 : Int) * (IntKind.wrap .i64 (Int.tdiv rule2 (6 : Int)))))))) >>= fun t6 =>
               some ((t6 != (2 : Int), ((), ())), (List.set (List.set t1.2.1 (Int.toNat (IntKind.wrap .i64 ((1 : Int) + (IntKind.wrap .i64 ((2 : Int) * (IntKind.wrap .i64 (Int.tdiv rule2 (6 : Int)))))))) (1 : Int)) (Int.toNat (IntKind.wrap .i64 ((2 : Int) + (IntKind.wrap .i64 ((2 : Int) * (IntKind.wrap .i64 (Int.tdiv rule2 (6 : Int)))))))) t2, ()))
             else
               some ((false, ((), ())), (List.set (List.set t1.2.1 (Int.toNat (IntKind.wrap .i64 ((1 : Int) + (IntKind.wrap .i64 ((2 : Int) * (IntKind.wrap .i64 (Int.tdiv rule2 (6 : Int)))))))) (1 : Int)) (Int.toNat (IntKind.wrap .i64 ((2 : Int) + (IntKind.wrap .i64 ((2 : Int) * (IntKind.wrap .i64 (Int.tdiv rule2 (6 : Int)))))))) t2, ()))
           else none
         else none
       else
         if ((Int.tmod rule2 (6 : Int)) == (1 : Int)) = true then
           if (decide ((0 : Int) ≤ (IntKind.wrap .i64 ((1 : Int) + (IntKind.wrap .i64 ((2 : Int) * (IntKind.wrap .i64 (Int.tdiv rule2 (6 : Int)))))))) && decide ((IntKind.wrap .i64 ((1 : Int) + (IntKind.wrap .i64 ((2 : Int) * (IntKind.wrap .i64 (Int.tdiv rule2 (6 : Int))))))) < (List.length t1.2.1 : Int))) = true then
             (idx t1.2.1 (IntKind.wrap .i64 ((1 : Int) + (IntKind.wrap .i64 ((2 : Int) * (IntKind.wrap .i64 (Int.tdiv rule2 (6 : Int)))))))) >>= fun t7 =>
             (idx s1 (IntKind.wrap .i64 ((1 : Int) + (IntKind.wrap .i64 ((2 : Int) * (IntKind.wrap .i64 (Int.tdiv rule2 (6 : Int)))))))) >>= fun t8 =>
             if (t8 == (0 : Int)) = true then
               (idx s1 (0 : Int)) >>= fun t9 =>
               if (decide ((0 : Int) ≤ (IntKind.wrap .i64 ((2 : Int) + (IntKind.wrap .i64 ((2 : Int) * (IntKind.wrap .i64 (Int.tdiv rule2 (6 : Int)))))))) && decide ((IntKind.wrap .i64 ((2 : Int) + (IntKind.wrap .i64 ((2 : Int) * (IntKind.wrap .i64 (Int.tdiv rule2 (6 : Int))))))) < (List.length (List.set t1.2.1 (Int.toNat (IntKind.wrap .i64 ((1 : Int) + (IntKind.wrap .i64 ((2 : Int) * (IntKind.wrap .i64 (Int.tdiv rule2 (6 : Int)))))))) (2 : Int)) : Int))) = true then
                 (idx (List.set t1.2.1 (Int.toNat (IntKind.wrap .i64 ((1 : Int) + (IntKind.wrap .i64 ((2 : Int) * (IntKind.wrap .i64 (Int.tdiv rule2 (6 : Int)))))))) (2 : Int)) (IntKind.wrap .i64 ((2 : Int) + (IntKind.wrap .i64 ((2 : Int) * (IntKind.wrap .i64 (Int.tdiv rule2 (6 : Int)))))))) >>= fun t10 =>
                 run_ratchetref31_CacheRule (.p16059 s1 (IntKind.wrap .i64 ((1 : Int) + (IntKind.wrap .i64 ((2 : Int) * (IntKind.wrap .i64 (Int.tdiv rule2 (6 : Int))))))) (IntKind.wrap .i64 ((3 : Int) - (IntKind.wrap .i64 ((2 : Int) * (IntKind.wrap .i64 (Int.tdiv rule2 (6 : Int))))))) (List.set (List.set t1.2.1 (Int.toNat (IntKind.wrap .i64 ((1 : Int) + (IntKind.wrap .i64 ((2 : Int) * (IntKind.wrap .i64 (Int.tdiv rule2 (6 : Int)))))))) (2 : Int)) (Int.toNat (IntKind.wrap .i64 ((2 : Int) + (IntKind.wrap .i64 ((2 : Int) * (IntKind.wrap .i64 (Int.tdiv rule2 (6 : Int)))))))) t9))
               else none
             else
               run_ratchetref31_CacheRule (.p16059 s1 (IntKind.wrap .i64 ((1 : Int) + (IntKind.wrap .i64 ((2 : Int) * (IntKind.wrap .i64 (Int.tdiv rule2 (6 : Int))))))) (IntKind.wrap .i64 ((3 : Int) - (IntKind.wrap .i64 ((2 : Int) * (IntKind.wrap .i64 (Int.tdiv rule2 (6 : Int))))))) (List.set t1.2.1 (Int.toNat (IntKind.wrap .i64 ((1 : Int) + (IntKind.wrap .i64 ((2 : Int) * (IntKind.wrap .i64 (Int.tdiv rule2 (6 : Int)))))))) (2 : Int)))
           else none
         else
           if ((Int.tmod rule2 (6 : Int)) == (2 : Int)) = true then
             (idx s1 (IntKind.wrap .i64 ((2 : Int) + (IntKind.wrap .i64 ((2 : Int) * (IntKind.wrap .i64 (Int.tdiv rule2 (6 : Int)))))))) >>= fun t11 =>
             (run_ratchetbase_Power (.start width0)) >>= fun t12 =>
             if (!(t12.1.1 == (0 : Int))) = true then
               if (decide ((0 : Int) ≤ (IntKind.wrap .i64 ((2 : Int) + (IntKind.wrap .i64 ((2 : Int) * (IntKind.wrap .i64 (Int.tdiv rule2 (6 : Int)))))))) && decide ((IntKind.wrap .i64 ((2 : Int) + (IntKind.wrap .i64 ((2 : Int) * (IntKind.wrap .i64 (Int.tdiv rule2 (6 : Int))))))) < (List.length t1.2.1 : Int))) = true then
                 (idx t1.2.1 (IntKind.wrap .i64 ((2 : Int) + (IntKind.wrap .i64 ((2 : Int) * (IntKind.wrap .i64 (Int.tdiv rule2 (6 : Int)))))))) >>= fun t13 =>
                 (idx s1 (IntKind.wrap .i64 ((1 : Int) + (IntKind.wrap .i64 ((2 : Int) * (IntKind.wrap .i64 (Int.tdiv rule2 (6 : Int)))))))) >>= fun t14 =>
                 some ((t14 == (2 : Int), ((), ())), (List.set t1.2.1 (Int.toNat (IntKind.wrap .i64 ((2 : Int) + (IntKind.wrap .i64 ((2 : Int) * (IntKind.wrap .i64 (Int.tdiv rule2 (6 : Int)))))))) (Int.tmod (IntKind.wrap .i64 (t11 + (1 : Int))) t12.1.1), ()))
               else none
             else none
           else
             if ((Int.tmod rule2 (6 : Int)) == (3 : Int)) = true then
               if (decide ((0 : Int) ≤ (IntKind.wrap .i64 ((1 : Int) + (IntKind.wrap .i64 ((2 : Int) * (IntKind.wrap .i64 (Int.tdiv rule2 (6 : Int)))))))) && decide ((IntKind.wrap .i64 ((1 : Int) + (IntKind.wrap .i64 ((2 : Int) * (IntKind.wrap .i64 (Int.tdiv rule2 (6 : Int))))))) < (List.length t1.2.1 : Int))) = true then
                 (idx t1.2.1 (IntKind.wrap .i64 ((1 : Int) + (IntKind.wrap .i64 ((2 : Int) * (IntKind.wrap .i64 (Int.tdiv rule2 (6 : Int)))))))) >>= fun t15 =>
                 (idx s1 (IntKind.wrap .i64 ((1 : Int) + (IntKind.wrap .i64 ((2 : Int) * (IntKind.wrap .i64 (Int.tdiv rule2 (6 : Int)))))))) >>= fun t16 =>
                 some ((t16 == (1 : Int), ((), ())), (List.set t1.2.1 (Int.toNat (IntKind.wrap .i64 ((1 : Int) + (IntKind.wrap .i64 ((2 : Int) * (IntKind.wrap .i64 (Int.tdiv rule2 (6 : Int)))))))) (0 : Int), ()))
               else none
             else
               if ((Int.tmod rule2 (6 : Int)) == (4 : Int)) = true then
                 (idx s1 (IntKind.wrap .i64 ((2 : Int) + (IntKind.wrap .i64 ((2 : Int) * (IntKind.wrap .i64 (Int.tdiv rule2 (6 : Int)))))))) >>= fun t17 =>
                 if (decide ((0 : Int) ≤ (IntKind.wrap .i64 ((1 : Int) + (IntKind.wrap .i64 ((2 : Int) * (IntKind.wrap .i64 (Int.tdiv rule2 (6 : Int)))))))) && decide ((IntKind.wrap .i64 ((1 : Int) + (IntKind.wrap .i64 ((2 : Int) * (IntKind.wrap .i64 (Int.tdiv rule2 (6 : Int))))))) < (List.length t1.2.1 : Int))) = true then
                   (idx t1.2.1 (IntKind.wrap .i64 ((1 : Int) + (IntKind.wrap .i64 ((2 : Int) * (IntKind.wrap .i64 (Int.tdiv rule2 (6 : Int)))))))) >>= fun t18 =>
                   if (decide ((0 : Int) ≤ (0 : Int)) && decide ((0 : Int) < (List.length (List.set t1.2.1 (Int.toNat (IntKind.wrap .i64 ((1 : Int) + (IntKind.wrap .i64 ((2 : Int) * (IntKind.wrap .i64 (Int.tdiv rule2 (6 : Int)))))))) (1 : Int)) : Int))) = true then
                     (idx (List.set t1.2.1 (Int.toNat (IntKind.wrap .i64 ((1 : Int) + (IntKind.wrap .i64 ((2 : Int) * (IntKind.wrap .i64 (Int.tdiv rule2 (6 : Int)))))))) (1 : Int)) (0 : Int)) >>= fun t19 =>
                     (idx s1 (IntKind.wrap .i64 ((1 : Int) + (IntKind.wrap .i64 ((2 : Int) * (IntKind.wrap .i64 (Int.tdiv rule2 (6 : Int)))))))) >>= fun t20 =>
                     some ((t20 == (2 : Int), ((), ())), (List.set (List.set t1.2.1 (Int.toNat (IntKind.wrap .i64 ((1 : Int) + (IntKind.wrap .i64 ((2 : Int) * (IntKind.wrap .i64 (Int.tdiv rule2 (6 : Int)))))))) (1 : Int)) (Int.toNat (0 : Int)) t17, ()))
                   else none
                 else none
               else
                 if (decide ((0 : Int) ≤ (IntKind.wrap .i64 ((1 : Int) + (IntKind.wrap .i64 ((2 : Int) * (IntKind.wrap .i64 (Int.tdiv rule2 (6 : Int)))))))) && decide ((IntKind.wrap .i64 ((1 : Int) + (IntKind.wrap .i64 ((2 : Int) * (IntKind.wrap .i64 (Int.tdiv rule2 (6 : Int))))))) < (List.length t1.2.1 : Int))) = true then
                   (idx t1.2.1 (IntKind.wrap .i64 ((1 : Int) + (IntKind.wrap .i64 ((2 : Int) * (IntKind.wrap .i64 (Int.tdiv rule2 (6 : Int)))))))) >>= fun t21 =>
                   if (decide ((0 : Int) ≤ (IntKind.wrap .i64 ((3 : Int) - (IntKind.wrap .i64 ((2 : Int) * (IntKind.wrap .i64 (Int.tdiv rule2 (6 : Int)))))))) && decide ((IntKind.wrap .i64 ((3 : Int) - (IntKind.wrap .i64 ((2 : Int) * (IntKind.wrap .i64 (Int.tdiv rule2 (6 : Int))))))) < (List.length (List.set t1.2.1 (Int.toNat (IntKind.wrap .i64 ((1 : Int) + (IntKind.wrap .i64 ((2 : Int) * (IntKind.wrap .i64 (Int.tdiv rule2 (6 : Int)))))))) (0 : Int)) : Int))) = true then
                     (idx (List.set t1.2.1 (Int.toNat (IntKind.wrap .i64 ((1 : Int) + (IntKind.wrap .i64 ((2 : Int) * (IntKind.wrap .i64 (Int.tdiv rule2 (6 : Int)))))))) (0 : Int)) (IntKind.wrap .i64 ((3 : Int) - (IntKind.wrap .i64 ((2 : Int) * (IntKind.wrap .i64 (Int.tdiv rule2 (6 : Int)))))))) >>= fun t22 =>
                     (idx s1 (IntKind.wrap .i64 ((1 : Int) + (IntKind.wrap .i64 ((2 : Int) * (IntKind.wrap .i64 (Int.tdiv rule2 (6 : Int)))))))) >>= fun t23 =>
                     if (t23 == (1 : Int)) = true then
                       (idx s1 (IntKind.wrap .i64 ((3 : Int) - (IntKind.wrap .i64 ((2 : Int) * (IntKind.wrap .i64 (Int.tdiv rule2 (6 : Int)))))))) >>= fun t24 =>
                       some ((t24 == (1 : Int), ((), ())), (List.set (List.set t1.2.1 (Int.toNat (IntKind.wrap .i64 ((1 : Int) + (IntKind.wrap .i64 ((2 : Int) * (IntKind.wrap .i64 (Int.tdiv rule2 (6 : Int)))))))) (0 : Int)) (Int.toNat (IntKind.wrap .i64 ((3 : Int) - (IntKind.wrap .i64 ((2 : Int) * (IntKind.wrap .i64 (Int.tdiv rule2 (6 : Int)))))))) (2 : Int), ()))
                     else
                       some ((false, ((), ())), (List.set (List.set t1.2.1 (Int.toNat (IntKind.wrap .i64 ((1 : Int) + (IntKind.wrap .i64 ((2 : Int) * (IntKind.wrap .i64 (Int.tdiv rule2 (6 : Int)))))))) (0 : Int)) (Int.toNat (IntKind.wrap .i64 ((3 : Int) - (IntKind.wrap .i64 ((2 : Int) * (IntKind.wrap .i64 (Int.tdiv rule2 (6 : Int)))))))) (2 : Int), ()))
                   else none
                 else none
     else none
   else none
 | .p16059 s1 kind10 other12 B0 =>
   (idx s1 kind10) >>= fun t1 =>
   if (t1 != (2 : Int)) = true then
     (idx s1 other12) >>= fun t2 =>
     some ((t2 == (0 : Int), ((), ())), (B0, ()))
   else
     some ((false, ((), ())), (B0, ()))
  partial_fixpoint
noncomputable def tab_ratchetref31_CacheRule : List (Plc E P_ratchetref31_CacheRule) := [⟨16059, [true, true, false, true, true, true, false, true, false, true, true, true, true], { slots := [1, 10, 12, 13], rows := [], flat := [], keep := 0 }, ((List Int) × (Int × (Int × (Unit × Unit)))), ((List Int) × Unit), (RdL.cons (Rd.sl 3 false) (RdL.cons (Rd.int .i64) (RdL.cons (Rd.int .i64) (RdL.cons (Rd.rw 0) RdL.nil)))), (RdBL.cons (RdB.row 3 false) RdBL.nil), fun a b => .p16059 a.1 a.2.1 a.2.2.1 b.1⟩]
theorem tab_ratchetref31_CacheRule_ok : All (PlcOk 149 0 place_ratchetref31_CacheRule st_ratchetref31_CacheRule) tab_ratchetref31_CacheRule := ⟨⟨rfl, rfl, fun _ _ => rfl, fun _ _ => rfl⟩, trivial⟩
noncomputable def code_ratchetref31_CacheRule : Code := Tryz.f44.body.getD .skip
noncomputable def spec_ratchetref31_CacheRule : Spec E.S := (Con.add con_ratchetbase_Power (Con.add con_ratchetbase_CopyInts_v1 noSpec))
theorem spec_ratchetref31_CacheRule_ok : SpecOk E spec_ratchetref31_CacheRule := (Con.add_ok con_ratchetbase_Power_ok (Con.add_ok con_ratchetbase_CopyInts_v1_ok noSpec_ok))
theorem good_ratchetref31_CacheRule : ∀ pt r, run_ratchetref31_CacheRule pt = some r → Good E Tryz.f44 code_ratchetref31_CacheRule 0 (res_ratchetref31_CacheRule.av r) (res_ratchetref31_CacheRule.bx r) (place_ratchetref31_CacheRule pt) (st_ratchetref31_CacheRule pt) := by
  refine run_ratchetref31_CacheRule.partial_correctness (fun pt r => Good E Tryz.f44 code_ratchetref31_CacheRule 0 (res_ratchetref31_CacheRule.av r) (res_ratchetref31_CacheRule.bx r) (place_ratchetref31_CacheRule pt) (st_ratchetref31_CacheRule pt)) ?_
  intro run' ih pt r hr
  cases pt <;> exact fn_step (spec := spec_ratchetref31_CacheRule) (wr := (mkWr [7, 13, 28, 32, 34, 39, 40, 53, 56, 58, 64, 69, 82, 85, 95, 101, 104, 106, 112, 115, 117, 122, 123, 129, 130, 132, 134, 135, 148] [])) (l := tab_ratchetref31_CacheRule) (z := 149) (p := res_ratchetref31_CacheRule) E_ok tab_ratchetref31_CacheRule_ok.mem rfl spec_ratchetref31_CacheRule_ok ih (Eq.trans (by kernel_rfl) hr)
noncomputable def con_ratchetref31_CacheRule : Con E := ⟨44, (Int × ((List Int) × (Int × Unit))), Unit, (RwL.cons (Rd.int .i64).w (RwL.cons (Rw.sl 3) (RwL.cons (Rd.int .i64).w RwL.nil))), RdBL.nil, 0, R_ratchetref31_CacheRule, fun a b => run_ratchetref31_CacheRule (.start a.1 a.2.1 a.2.2.1), res_ratchetref31_CacheRule.av, res_ratchetref31_CacheRule.bx⟩
theorem con_ratchetref31_CacheRule_ok : con_ratchetref31_CacheRule.Ok := fun a b r h => fn_ok (fn := Tryz.f44) (code := code_ratchetref31_CacheRule) E_ok (by kernel_rfl) (by kernel_rfl) (by kernel_rfl) (Nat.le_of_ble_eq_true rfl) (good_ratchetref31_CacheRule (.start a.1 a.2.1 a.2.2.1) r h)

/-! ### ratchet/ratchetbase.LeafValues -/
inductive P_ratchetbase_LeafValues where
 | start (inputs0 : (List Int)) (state1 : (List Int))
noncomputable def place_ratchetbase_LeafValues : P_ratchetbase_LeafValues → List Bool
 | .start .. => []
noncomputable def st_ratchetbase_LeafValues : P_ratchetbase_LeafValues → St E.S
 | .start inputs0 state1 => st0 9 [.sl 3 inputs0 false, .sl 3 state1 false] []
abbrev R_ratchetbase_LeafValues : Type := ((Unit × Unit) × ((List Int) × Unit))
noncomputable def res_ratchetbase_LeafValues : Res E (Unit × Unit) ((List Int) × Unit) := { rows := [], flat := [], keep := 0, done := [0], rl := (RdL.cons (Rd.rw 0) RdL.nil), rb := (RdBL.cons (RdB.row 3 true) RdBL.nil) }
noncomputable def run_ratchetbase_LeafValues : P_ratchetbase_LeafValues → Option R_ratchetbase_LeafValues
 | .start inputs0 state1 =>
   (run_ratchetbase_CopyInts (.start inputs0)) >>= fun t1 =>
   if (fits (List.length t1.2.1) (List.length state1) 8) = true then
     some (((), ()), (t1.2.1 ++ state1, ()))
   else none
noncomputable def tab_ratchetbase_LeafValues : List (Plc E P_ratchetbase_LeafValues) := []
theorem tab_ratchetbase_LeafValues_ok : All (PlcOk 9 0 place_ratchetbase_LeafValues st_ratchetbase_LeafValues) tab_ratchetbase_LeafValues := trivial
noncomputable def code_ratchetbase_LeafValues : Code := Tryz.f94.body.getD .skip
noncomputable def spec_ratchetbase_LeafValues : Spec E.S := (Con.add con_ratchetbase_CopyInts noSpec)
theorem spec_ratchetbase_LeafValues_ok : SpecOk E spec_ratchetbase_LeafValues := (Con.add_ok con_ratchetbase_CopyInts_ok noSpec_ok)
theorem good_ratchetbase_LeafValues : ∀ pt r, run_ratchetbase_LeafValues pt = some r → Good E Tryz.f94 code_ratchetbase_LeafValues 0 (res_ratchetbase_LeafValues.av r) (res_ratchetbase_LeafValues.bx r) (place_ratchetbase_LeafValues pt) (st_ratchetbase_LeafValues pt) := by
  intro pt r hr
  cases pt <;> exact fn_step (spec := spec_ratchetbase_LeafValues) (wr := (mkWr [] [])) (l := tab_ratchetbase_LeafValues) (z := 9) (p := res_ratchetbase_LeafValues) (run' := fun _ => none) E_ok tab_ratchetbase_LeafValues_ok.mem rfl spec_ratchetbase_LeafValues_ok (fun _ _ h => by cases h) (Eq.trans (by kernel_rfl) hr)
noncomputable def con_ratchetbase_LeafValues : Con E := ⟨94, ((List Int) × ((List Int) × Unit)), Unit, (RwL.cons (Rw.sl 3) (RwL.cons (Rw.sl 3) RwL.nil)), RdBL.nil, 0, R_ratchetbase_LeafValues, fun a b => run_ratchetbase_LeafValues (.start a.1 a.2.1), res_ratchetbase_LeafValues.av, res_ratchetbase_LeafValues.bx⟩
theorem con_ratchetbase_LeafValues_ok : con_ratchetbase_LeafValues.Ok := fun a b r h => fn_ok (fn := Tryz.f94) (code := code_ratchetbase_LeafValues) E_ok (by kernel_rfl) (by kernel_rfl) (by kernel_rfl) (Nat.le_of_ble_eq_true rfl) (good_ratchetbase_LeafValues (.start a.1 a.2.1) r h)

/-! ### ratchet/ratchetbase.Bit -/
inductive P_ratchetbase_Bit where
 | start (is0 : Bool)
noncomputable def place_ratchetbase_Bit : P_ratchetbase_Bit → List Bool
 | .start .. => []
noncomputable def st_ratchetbase_Bit : P_ratchetbase_Bit → St E.S
 | .start is0 => st0 4 [.v (.bool is0)] []
abbrev R_ratchetbase_Bit : Type := ((Int × Unit) × Unit)
noncomputable def res_ratchetbase_Bit : Res E (Int × Unit) Unit := { rows := [], flat := [], keep := 0, done := [0], rl := (RdL.cons (Rd.int .i64) RdL.nil), rb := RdBL.nil }
noncomputable def run_ratchetbase_Bit : P_ratchetbase_Bit → Option R_ratchetbase_Bit
 | .start is0 =>
   if is0 = true then
     some (((1 : Int), ()), ())
   else
     some (((0 : Int), ()), ())
noncomputable def tab_ratchetbase_Bit : List (Plc E P_ratchetbase_Bit) := []
theorem tab_ratchetbase_Bit_ok : All (PlcOk 4 0 place_ratchetbase_Bit st_ratchetbase_Bit) tab_ratchetbase_Bit := trivial
noncomputable def code_ratchetbase_Bit : Code := Tryz.f175.body.getD .skip
noncomputable def spec_ratchetbase_Bit : Spec E.S := noSpec
theorem spec_ratchetbase_Bit_ok : SpecOk E spec_ratchetbase_Bit := noSpec_ok
theorem good_ratchetbase_Bit : ∀ pt r, run_ratchetbase_Bit pt = some r → Good E Tryz.f175 code_ratchetbase_Bit 0 (res_ratchetbase_Bit.av r) (res_ratchetbase_Bit.bx r) (place_ratchetbase_Bit pt) (st_ratchetbase_Bit pt) := by
  intro pt r hr
  cases pt <;> exact fn_step (spec := spec_ratchetbase_Bit) (wr := (mkWr [] [])) (l := tab_ratchetbase_Bit) (z := 4) (p := res_ratchetbase_Bit) (run' := fun _ => none) E_ok tab_ratchetbase_Bit_ok.mem rfl spec_ratchetbase_Bit_ok (fun _ _ h => by cases h) (Eq.trans (by kernel_rfl) hr)
noncomputable def con_ratchetbase_Bit : Con E := ⟨175, (Bool × Unit), Unit, (RwL.cons Rd.bool.w RwL.nil), RdBL.nil, 0, R_ratchetbase_Bit, fun a b => run_ratchetbase_Bit (.start a.1), res_ratchetbase_Bit.av, res_ratchetbase_Bit.bx⟩
theorem con_ratchetbase_Bit_ok : con_ratchetbase_Bit.Ok := fun a b r h => fn_ok (fn := Tryz.f175) (code := code_ratchetbase_Bit) E_ok (by kernel_rfl) (by kernel_rfl) (by kernel_rfl) (Nat.le_of_ble_eq_true rfl) (good_ratchetbase_Bit (.start a.1) r h)

/-! ### ratchet/ratchetbase.Signed -/
inductive P_ratchetbase_Signed where
 | start (n0 : Int) (width1 : Int)
noncomputable def place_ratchetbase_Signed : P_ratchetbase_Signed → List Bool
 | .start .. => []
noncomputable def st_ratchetbase_Signed : P_ratchetbase_Signed → St E.S
 | .start n0 width1 => st0 15 [.v (.int .i64 n0), .v (.int .i64 width1)] []
abbrev R_ratchetbase_Signed : Type := ((Int × Unit) × Unit)
noncomputable def res_ratchetbase_Signed : Res E (Int × Unit) Unit := { rows := [], flat := [], keep := 0, done := [0], rl := (RdL.cons (Rd.int .i64) RdL.nil), rb := RdBL.nil }
noncomputable def run_ratchetbase_Signed : P_ratchetbase_Signed → Option R_ratchetbase_Signed
 | .start n0 width1 =>
   (run_ratchetbase_Power (.start (IntKind.wrap .i64 (width1 - (1 : Int))))) >>= fun t1 =>
   if (decide (n0 ≥ t1.1.1)) = true then
     (run_ratchetbase_Power (.start width1)) >>= fun t2 =>
     some ((IntKind.wrap .i64 (n0 - t2.1.1), ()), ())
   else
     some ((n0, ()), ())
noncomputable def tab_ratchetbase_Signed : List (Plc E P_ratchetbase_Signed) := []
theorem tab_ratchetbase_Signed_ok : All (PlcOk 15 0 place_ratchetbase_Signed st_ratchetbase_Signed) tab_ratchetbase_Signed := trivial
noncomputable def code_ratchetbase_Signed : Code := Tryz.f176.body.getD .skip
noncomputable def spec_ratchetbase_Signed : Spec E.S := (Con.add con_ratchetbase_Power noSpec)
theorem spec_ratchetbase_Signed_ok : SpecOk E spec_ratchetbase_Signed := (Con.add_ok con_ratchetbase_Power_ok noSpec_ok)
theorem good_ratchetbase_Signed : ∀ pt r, run_ratchetbase_Signed pt = some r → Good E Tryz.f176 code_ratchetbase_Signed 0 (res_ratchetbase_Signed.av r) (res_ratchetbase_Signed.bx r) (place_ratchetbase_Signed pt) (st_ratchetbase_Signed pt) := by
  intro pt r hr
  cases pt <;> exact fn_step (spec := spec_ratchetbase_Signed) (wr := (mkWr [] [])) (l := tab_ratchetbase_Signed) (z := 15) (p := res_ratchetbase_Signed) (run' := fun _ => none) E_ok tab_ratchetbase_Signed_ok.mem rfl spec_ratchetbase_Signed_ok (fun _ _ h => by cases h) (Eq.trans (by kernel_rfl) hr)
noncomputable def con_ratchetbase_Signed : Con E := ⟨176, (Int × (Int × Unit)), Unit, (RwL.cons (Rd.int .i64).w (RwL.cons (Rd.int .i64).w RwL.nil)), RdBL.nil, 0, R_ratchetbase_Signed, fun a b => run_ratchetbase_Signed (.start a.1 a.2.1), res_ratchetbase_Signed.av, res_ratchetbase_Signed.bx⟩
theorem con_ratchetbase_Signed_ok : con_ratchetbase_Signed.Ok := fun a b r h => fn_ok (fn := Tryz.f176) (code := code_ratchetbase_Signed) E_ok (by kernel_rfl) (by kernel_rfl) (by kernel_rfl) (Nat.le_of_ble_eq_true rfl) (good_ratchetbase_Signed (.start a.1 a.2.1) r h)

/-! ### ratchet/ratchetbase.Apply -/
inductive P_ratchetbase_Apply where
 | start (x0_0 : Int) (x0_1 : Int) (x0_2 : (List Int)) (x0_3 : Int) (a1 : (List Int)) (w2 : (List Int)) (leaves3 : (List Int))
noncomputable def place_ratchetbase_Apply : P_ratchetbase_Apply → List Bool
 | .start .. => []
noncomputable def st_ratchetbase_Apply : P_ratchetbase_Apply → St E.S
 | .start x0_0 x0_1 x0_2 x0_3 a1 w2 leaves3 => st0 221 [.agg [.v (.int .i64 x0_0), .v (.int .i64 x0_1), .sl 3 x0_2 false, .v (.int .i64 x0_3)], .sl 3 a1 false, .sl 3 w2 false, .sl 3 leaves3 false] []
abbrev R_ratchetbase_Apply : Type := ((Int × Unit) × Unit)
noncomputable def res_ratchetbase_Apply : Res E (Int × Unit) Unit := { rows := [], flat := [], keep := 0, done := [0], rl := (RdL.cons (Rd.int .i64) RdL.nil), rb := RdBL.nil }
noncomputable def run_ratchetbase_Apply : P_ratchetbase_Apply → Option R_ratchetbase_Apply
 | .start x0_0 x0_1 x0_2 x0_3 a1 w2 leaves3 =>
   (run_ratchetbase_Power (.start x0_1)) >>= fun t1 =>
   if (x0_0 == (0 : Int)) = true then
     some ((x0_3, ()), ())
   else
     if (x0_0 == (1 : Int)) = true then
       (idx leaves3 x0_3) >>= fun t2 =>
       some ((t2, ()), ())
     else
       if (x0_0 == (2 : Int)) = true then
         (idx a1 (0 : Int)) >>= fun t3 =>
         some ((IntKind.wrap .i64 ((IntKind.wrap .i64 (t1.1.1 - (1 : Int))) - t3), ()), ())
       else
         if (x0_0 == (3 : Int)) = true then
           (idx a1 (0 : Int)) >>= fun t4 =>
           (idx a1 (1 : Int)) >>= fun t5 =>
           some ((bits .and .i64 t4 t5, ()), ())
         else
           if (x0_0 == (4 : Int)) = true then
             (idx a1 (0 : Int)) >>= fun t6 =>
             (idx a1 (1 : Int)) >>= fun t7 =>
             some ((bits .or .i64 t6 t7, ()), ())
           else
             if (x0_0 == (5 : Int)) = true then
               (idx a1 (0 : Int)) >>= fun t8 =>
               (idx a1 (1 : Int)) >>= fun t9 =>
               some ((bits .xor .i64 t8 t9, ()), ())
             else
               if (x0_0 == (6 : Int)) = true then
                 (idx a1 (0 : Int)) >>= fun t10 =>
                 (idx a1 (1 : Int)) >>= fun t11 =>
                 if (!(t1.1.1 == (0 : Int))) = true then
                   some ((Int.tmod (IntKind.wrap .i64 (t10 + t11)) t1.1.1, ()), ())
                 else none
               else
                 if (x0_0 == (7 : Int)) = true then
                   (idx a1 (0 : Int)) >>= fun t12 =>
                   (idx a1 (1 : Int)) >>= fun t13 =>
                   if (!(t1.1.1 == (0 : Int))) = true then
                     some ((Int.tmod (IntKind.wrap .i64 ((IntKind.wrap .i64 (t12 - t13)) + t1.1.1)) t1.1.1, ()), ())
                   else none
                 else
                   if (x0_0 == (8 : Int)) = true then
                     (idx a1 (0 : Int)) >>= fun t14 =>
                     (idx a1 (1 : Int)) >>= fun t15 =>
                     if (!(t1.1.1 == (0 : Int))) = true then
                       some ((Int.tmod (IntKind.wrap .i64 (t14 * t15)) t1.1.1, ()), ())
                     else none
                   else
                     if (x0_0 == (9 : Int)) = true then
                       (idx a1 (0 : Int)) >>= fun t16 =>
                       (idx a1 (1 : Int)) >>= fun t17 =>
                       (run_ratchetbase_Bit (.start (t16 == t17))) >>= fun t18 =>
                       some ((t18.1.1, ()), ())
                     else
                       if (x0_0 == (10 : Int)) = true then
                         (idx a1 (0 : Int)) >>= fun t19 =>
                         (idx a1 (1 : Int)) >>= fun t20 =>
                         (run_ratchetbase_Bit (.start (decide (t19 < t20)))) >>= fun t21 =>
                         some ((t21.1.1, ()), ())
                       else
                         if (x0_0 == (11 : Int)) = true then
                           (idx a1 (0 : Int)) >>= fun t22 =>
                           (idx w2 (0 : Int)) >>= fun t23 =>
                           (run_ratchetbase_Signed (.start t22 t23)) >>= fun t24 =>
                           (idx a1 (1 : Int)) >>= fun t25 =>
                           (idx w2 (1 : Int)) >>= fun t26 =>
                           (run_ratchetbase_Signed (.start t25 t26)) >>= fun t27 =>
                           (run_ratchetbase_Bit (.start (decide (t24.1.1 < t27.1.1)))) >>= fun t28 =>
                           some ((t28.1.1, ()), ())
                         else
                           if (x0_0 == (12 : Int)) = true then
                             (idx a1 (0 : Int)) >>= fun t29 =>
                             if (t29 == (1 : Int)) = true then
                               (idx a1 (1 : Int)) >>= fun t30 =>
                               some ((t30, ()), ())
                             else
                               (idx a1 (2 : Int)) >>= fun t31 =>
                               some ((t31, ()), ())
                           else
                             if (x0_0 == (13 : Int)) = true then
                               (idx a1 (0 : Int)) >>= fun t32 =>
                               (idx w2 (1 : Int)) >>= fun t33 =>
                               (run_ratchetbase_Power (.start t33)) >>= fun t34 =>
                               (idx a1 (1 : Int)) >>= fun t35 =>
                               some ((IntKind.wrap .i64 ((IntKind.wrap .i64 (t32 * t34.1.1)) + t35), ()), ())
                             else
                               if (x0_0 == (14 : Int)) = true then
                                 (idx a1 (0 : Int)) >>= fun t36 =>
                                 (run_ratchetbase_Power (.start x0_3)) >>= fun t37 =>
                                 if (!(t37.1.1 == (0 : Int))) = true then
                                   if (!(t1.1.1 == (0 : Int))) = true then
                                     some ((Int.tmod (IntKind.wrap .i64 (Int.tdiv t36 t37.1.1)) t1.1.1, ()), ())
                                   else none
                                 else none
                               else
                                 if (x0_0 == (15 : Int)) = true then
                                   (idx a1 (0 : Int)) >>= fun t38 =>
                                   some ((t38, ()), ())
                                 else
                                   if (x0_0 == (16 : Int)) = true then
                                     (idx a1 (0 : Int)) >>= fun t39 =>
                                     (idx w2 (0 : Int)) >>= fun t40 =>
                                     (run_ratchetbase_Signed (.start t39 t40)) >>= fun t41 =>
                                     if (!(t1.1.1 == (0 : Int))) = true then
                                       some ((Int.tmod (IntKind.wrap .i64 (t41.1.1 + t1.1.1)) t1.1.1, ()), ())
                                     else none
                                   else
                                     if (x0_0 == (17 : Int)) = true then
                                       (idx a1 (1 : Int)) >>= fun t42 =>
                                       if (decide (t42 ≥ x0_1)) = true then
                                         some (((0 : Int), ()), ())
                                       else
                                         (idx a1 (0 : Int)) >>= fun t43 =>
                                         (idx a1 (1 : Int)) >>= fun t44 =>
                                         (run_ratchetbase_Power (.start t44)) >>= fun t45 =>
                                         if (!(t1.1.1 == (0 : Int))) = true then
                                           some ((Int.tmod (IntKind.wrap .i64 (t43 * t45.1.1)) t1.1.1, ()), ())
                                         else none
                                     else
                                       (idx a1 (1 : Int)) >>= fun t46 =>
                                       if (decide (t46 ≥ x0_1)) = true then
                                         some (((0 : Int), ()), ())
                                       else
                                         (idx a1 (0 : Int)) >>= fun t47 =>
                                         (idx a1 (1 : Int)) >>= fun t48 =>
                                         (run_ratchetbase_Power (.start t48)) >>= fun t49 =>
                                         if (!(t49.1.1 == (0 : Int))) = true then
                                           some ((IntKind.wrap .i64 (Int.tdiv t47 t49.1.1), ()), ())
                                         else none
noncomputable def tab_ratchetbase_Apply : List (Plc E P_ratchetbase_Apply) := []
theorem tab_ratchetbase_Apply_ok : All (PlcOk 221 0 place_ratchetbase_Apply st_ratchetbase_Apply) tab_ratchetbase_Apply := trivial
noncomputable def code_ratchetbase_Apply : Code := Tryz.f145.body.getD .skip
noncomputable def spec_ratchetbase_Apply : Spec E.S := (Con.add con_ratchetbase_Signed (Con.add con_ratchetbase_Bit (Con.add con_ratchetbase_Power noSpec)))
theorem spec_ratchetbase_Apply_ok : SpecOk E spec_ratchetbase_Apply := (Con.add_ok con_ratchetbase_Signed_ok (Con.add_ok con_ratchetbase_Bit_ok (Con.add_ok con_ratchetbase_Power_ok noSpec_ok)))
theorem good_ratchetbase_Apply : ∀ pt r, run_ratchetbase_Apply pt = some r → Good E Tryz.f145 code_ratchetbase_Apply 0 (res_ratchetbase_Apply.av r) (res_ratchetbase_Apply.bx r) (place_ratchetbase_Apply pt) (st_ratchetbase_Apply pt) := by
  intro pt r hr
  cases pt <;> exact fn_step (spec := spec_ratchetbase_Apply) (wr := (mkWr [] [])) (l := tab_ratchetbase_Apply) (z := 221) (p := res_ratchetbase_Apply) (run' := fun _ => none) E_ok tab_ratchetbase_Apply_ok.mem rfl spec_ratchetbase_Apply_ok (fun _ _ h => by cases h) (Eq.trans (by kernel_rfl) hr)
noncomputable def con_ratchetbase_Apply : Con E := ⟨145, ((Int × (Int × ((List Int) × (Int × Unit)))) × ((List Int) × ((List Int) × ((List Int) × Unit)))), Unit, (RwL.cons (Rw.agg (RwL.cons (Rd.int .i64).w (RwL.cons (Rd.int .i64).w (RwL.cons (Rw.sl 3) (RwL.cons (Rd.int .i64).w RwL.nil))))) (RwL.cons (Rw.sl 3) (RwL.cons (Rw.sl 3) (RwL.cons (Rw.sl 3) RwL.nil)))), RdBL.nil, 0, R_ratchetbase_Apply, fun a b => run_ratchetbase_Apply (.start a.1.1 a.1.2.1 a.1.2.2.1 a.1.2.2.2.1 a.2.1 a.2.2.1 a.2.2.2.1), res_ratchetbase_Apply.av, res_ratchetbase_Apply.bx⟩
theorem con_ratchetbase_Apply_ok : con_ratchetbase_Apply.Ok := fun a b r h => fn_ok (fn := Tryz.f145) (code := code_ratchetbase_Apply) E_ok (by kernel_rfl) (by kernel_rfl) (by kernel_rfl) (Nat.le_of_ble_eq_true rfl) (good_ratchetbase_Apply (.start a.1.1 a.1.2.1 a.1.2.2.1 a.1.2.2.2.1 a.2.1 a.2.2.1 a.2.2.2.1) r h)

/-! ### ratchet/ratchetbase.NodeValues -/
inductive P_ratchetbase_NodeValues where
 | start (nodes0 : (List api_Node)) (leaves1 : (List Int))
 | p116 (nodes0 : (List api_Node)) (leaves1 : (List Int)) (i6 : Int) (B0 : (List Int))
 | p29844 (nodes0 : (List api_Node)) (leaves1 : (List Int)) (i6 : Int) (k9 : Int) (B0 : (List Int)) (B1 : (List Int)) (B2 : (List Int))
noncomputable def place_ratchetbase_NodeValues : P_ratchetbase_NodeValues → List Bool
 | .start .. => []
 | .p116 .. => [false, false, true, false, true, true]
 | .p29844 .. => [false, false, true, false, true, false, false, true, false, false, true, false, true, true]
noncomputable def st_ratchetbase_NodeValues : P_ratchetbase_NodeValues → St E.S
 | .start nodes0 leaves1 => st0 70 [.sl 208 nodes0 false, .sl 3 leaves1 false] []
 | .p116 nodes0 leaves1 i6 B0 => mkSt 70 [0, 1, 5, 6] [.sl 208 nodes0 false, .sl 3 leaves1 false, .rw 0, .v (.int .i64 i6)] [.row 3 B0 false]
 | .p29844 nodes0 leaves1 i6 k9 B0 B1 B2 => mkSt 70 [0, 1, 5, 6, 7, 8, 9] [.sl 208 nodes0 false, .sl 3 leaves1 false, .rw 0, .v (.int .i64 i6), .rw 1, .rw 2, .v (.int .i64 k9)] [.row 3 B0 false, .row 3 B1 false, .row 3 B2 false]
abbrev R_ratchetbase_NodeValues : Type := ((Unit × Unit) × ((List Int) × Unit))
noncomputable def res_ratchetbase_NodeValues : Res E (Unit × Unit) ((List Int) × Unit) := { rows := [], flat := [], keep := 0, done := [0], rl := (RdL.cons (Rd.rw 0) RdL.nil), rb := (RdBL.cons (RdB.row 3 true) RdBL.nil) }
noncomputable def run_ratchetbase_NodeValues : P_ratchetbase_NodeValues → Option R_ratchetbase_NodeValues
 | .start nodes0 leaves1 =>
   if (fitsM (List.length nodes0 : Int) (List.length nodes0 : Int) 8) = true then
     run_ratchetbase_NodeValues (.p116 nodes0 leaves1 (0 : Int) (List.replicate (Int.toNat (List.length nodes0 : Int)) (0 : Int)))
   else none
 | .p116 nodes0 leaves1 i6 B0 =>
   if (decide (i6 < (List.length nodes0 : Int))) = true then
     run_ratchetbase_NodeValues (.p29844 nodes0 leaves1 i6 (0 : Int) B0 ([] : List Int) ([] : List Int))
   else
     some (((), ()), (B0, ()))
 | .p29844 nodes0 leaves1 i6 k9 B0 B1 B2 =>
   (idx nodes0 i6) >>= fun t1 =>
   if (decide (k9 < (List.length t1.Args : Int))) = true then
     (idx nodes0 i6) >>= fun t2 =>
     (idx t2.Args k9) >>= fun t3 =>
     if (decide ((0 : Int) ≤ t3) && decide (t3 < (List.length B0 : Int))) = true then
       (idx B0 t3) >>= fun t4 =>
       if (fits (List.length B1) (List.length ([t4] : List Int)) 8) = true then
         (idx nodes0 i6) >>= fun t5 =>
         (idx t5.Args k9) >>= fun t6 =>
         (idx nodes0 t6) >>= fun t7 =>
         if (fits (List.length B2) (List.length ([t7.Width] : List Int)) 8) = true then
           run_ratchetbase_NodeValues (.p29844 nodes0 leaves1 i6 (IntKind.wrap .i64 (k9 + (1 : Int))) B0 (B1 ++ ([t4] : List Int)) (B2 ++ ([t7.Width] : List Int)))
         else none
       else none
     else none
   else
     (idx nodes0 i6) >>= fun t8 =>
     (run_ratchetbase_Apply (.start t8.Op t8.Width t8.Args t8.Value B1 B2 leaves1)) >>= fun t9 =>
     if (decide ((0 : Int) ≤ i6) && decide (i6 < (List.length B0 : Int))) = true then
       (idx B0 i6) >>= fun t10 =>
       run_ratchetbase_NodeValues (.p116 nodes0 leaves1 (IntKind.wrap .i64 (i6 + (1 : Int))) (List.set B0 (Int.toNat i6) t9.1.1))
     else none
  partial_fixpoint
noncomputable def tab_ratchetbase_NodeValues : List (Plc E P_ratchetbase_NodeValues) := [⟨116, [false, false, true, false, true, true], { slots := [0, 1, 5, 6], rows := [], flat := [], keep := 0 }, ((List api_Node) × ((List Int) × (Unit × (Int × Unit)))), ((List Int) × Unit), (RdL.cons (Rd.sl 208 false) (RdL.cons (Rd.sl 3 false) (RdL.cons (Rd.rw 0) (RdL.cons (Rd.int .i64) RdL.nil)))), (RdBL.cons (RdB.row 3 false) RdBL.nil), fun a b => .p116 a.1 a.2.1 a.2.2.2.1 b.1⟩,
  ⟨29844, [false, false, true, false, true, false, false, true, false, false, true, false, true, true], { slots := [0, 1, 5, 6, 7, 8, 9], rows := [(7, 3), (8, 3)], flat := [], keep := 0 }, ((List api_Node) × ((List Int) × (Unit × (Int × (Unit × (Unit × (Int × Unit))))))), ((List Int) × ((List Int) × ((List Int) × Unit))), (RdL.cons (Rd.sl 208 false) (RdL.cons (Rd.sl 3 false) (RdL.cons (Rd.rw 0) (RdL.cons (Rd.int .i64) (RdL.cons (Rd.rw 1) (RdL.cons (Rd.rw 2) (RdL.cons (Rd.int .i64) RdL.nil))))))), (RdBL.cons (RdB.row 3 false) (RdBL.cons (RdB.row 3 false) (RdBL.cons (RdB.row 3 false) RdBL.nil))), fun a b => .p29844 a.1 a.2.1 a.2.2.2.1 a.2.2.2.2.2.2.1 b.1 b.2.1 b.2.2.1⟩]
theorem tab_ratchetbase_NodeValues_ok : All (PlcOk 70 0 place_ratchetbase_NodeValues st_ratchetbase_NodeValues) tab_ratchetbase_NodeValues := ⟨⟨rfl, rfl, fun _ _ => rfl, fun _ _ => rfl⟩, ⟨⟨rfl, rfl, fun _ _ => rfl, fun _ _ => rfl⟩, trivial⟩⟩
noncomputable def code_ratchetbase_NodeValues : Code := Tryz.f93.body.getD .skip
noncomputable def spec_ratchetbase_NodeValues : Spec E.S := (Con.add con_ratchetbase_Apply noSpec)
theorem spec_ratchetbase_NodeValues_ok : SpecOk E spec_ratchetbase_NodeValues := (Con.add_ok con_ratchetbase_Apply_ok noSpec_ok)
theorem good_ratchetbase_NodeValues : ∀ pt r, run_ratchetbase_NodeValues pt = some r → Good E Tryz.f93 code_ratchetbase_NodeValues 0 (res_ratchetbase_NodeValues.av r) (res_ratchetbase_NodeValues.bx r) (place_ratchetbase_NodeValues pt) (st_ratchetbase_NodeValues pt) := by
  refine run_ratchetbase_NodeValues.partial_correctness (fun pt r => Good E Tryz.f93 code_ratchetbase_NodeValues 0 (res_ratchetbase_NodeValues.av r) (res_ratchetbase_NodeValues.bx r) (place_ratchetbase_NodeValues pt) (st_ratchetbase_NodeValues pt)) ?_
  intro run' ih pt r hr
  cases pt <;> exact fn_step (spec := spec_ratchetbase_NodeValues) (wr := (mkWr [4, 5, 12, 30, 39, 58, 68, 69] [])) (l := tab_ratchetbase_NodeValues) (z := 70) (p := res_ratchetbase_NodeValues) E_ok tab_ratchetbase_NodeValues_ok.mem rfl spec_ratchetbase_NodeValues_ok ih (Eq.trans (by kernel_rfl) hr)
noncomputable def con_ratchetbase_NodeValues : Con E := ⟨93, ((List api_Node) × ((List Int) × Unit)), Unit, (RwL.cons (Rw.sl 208) (RwL.cons (Rw.sl 3) RwL.nil)), RdBL.nil, 0, R_ratchetbase_NodeValues, fun a b => run_ratchetbase_NodeValues (.start a.1 a.2.1), res_ratchetbase_NodeValues.av, res_ratchetbase_NodeValues.bx⟩
theorem con_ratchetbase_NodeValues_ok : con_ratchetbase_NodeValues.Ok := fun a b r h => fn_ok (fn := Tryz.f93) (code := code_ratchetbase_NodeValues) E_ok (by kernel_rfl) (by kernel_rfl) (by kernel_rfl) (Nat.le_of_ble_eq_true rfl) (good_ratchetbase_NodeValues (.start a.1 a.2.1) r h)

/-! ### ratchet/ratchetbase.Enabled -/
inductive P_ratchetbase_Enabled where
 | start (d0_0 : ByteArray) (d0_1 : (List api_Port)) (d0_2 : (List api_Element)) (d0_3 : (List api_Node)) (d0_4 : (List api_Rule)) (d0_5 : (List api_Output)) (d0_6 : (List api_Attribute)) (rule1 : Int) (inputs2 : (List Int)) (state3 : (List Int))
noncomputable def place_ratchetbase_Enabled : P_ratchetbase_Enabled → List Bool
 | .start .. => []
noncomputable def st_ratchetbase_Enabled : P_ratchetbase_Enabled → St E.S
 | .start d0_0 d0_1 d0_2 d0_3 d0_4 d0_5 d0_6 rule1 inputs2 state3 => st0 24 [.agg [.v (.string d0_0), .sl 206 d0_1 false, .sl 82 d0_2 false, .sl 208 d0_3 false, .sl 85 d0_4 false, .sl 190 d0_5 false, .sl 146 d0_6 false], .v (.int .i64 rule1), .sl 3 inputs2 false, .sl 3 state3 false] []
abbrev R_ratchetbase_Enabled : Type := ((Bool × Unit) × Unit)
noncomputable def res_ratchetbase_Enabled : Res E (Bool × Unit) Unit := { rows := [], flat := [], keep := 0, done := [0], rl := (RdL.cons Rd.bool RdL.nil), rb := RdBL.nil }
noncomputable def run_ratchetbase_Enabled : P_ratchetbase_Enabled → Option R_ratchetbase_Enabled
 | .start d0_0 d0_1 d0_2 d0_3 d0_4 d0_5 d0_6 rule1 inputs2 state3 =>
   (run_ratchetbase_LeafValues (.start inputs2 state3)) >>= fun t1 =>
   (run_ratchetbase_NodeValues (.start d0_3 t1.2.1)) >>= fun t2 =>
   (idx d0_4 rule1) >>= fun t3 =>
   if (decide ((0 : Int) ≤ t3.Guard) && decide (t3.Guard < (List.length t2.2.1 : Int))) = true then
     (idx t2.2.1 t3.Guard) >>= fun t4 =>
     some ((t4 == (1 : Int), ()), ())
   else none
noncomputable def tab_ratchetbase_Enabled : List (Plc E P_ratchetbase_Enabled) := []
theorem tab_ratchetbase_Enabled_ok : All (PlcOk 24 0 place_ratchetbase_Enabled st_ratchetbase_Enabled) tab_ratchetbase_Enabled := trivial
noncomputable def code_ratchetbase_Enabled : Code := Tryz.f45.body.getD .skip
noncomputable def spec_ratchetbase_Enabled : Spec E.S := (Con.add con_ratchetbase_NodeValues (Con.add con_ratchetbase_LeafValues noSpec))
theorem spec_ratchetbase_Enabled_ok : SpecOk E spec_ratchetbase_Enabled := (Con.add_ok con_ratchetbase_NodeValues_ok (Con.add_ok con_ratchetbase_LeafValues_ok noSpec_ok))
theorem good_ratchetbase_Enabled : ∀ pt r, run_ratchetbase_Enabled pt = some r → Good E Tryz.f45 code_ratchetbase_Enabled 0 (res_ratchetbase_Enabled.av r) (res_ratchetbase_Enabled.bx r) (place_ratchetbase_Enabled pt) (st_ratchetbase_Enabled pt) := by
  intro pt r hr
  cases pt <;> exact fn_step (spec := spec_ratchetbase_Enabled) (wr := (mkWr [] [])) (l := tab_ratchetbase_Enabled) (z := 24) (p := res_ratchetbase_Enabled) (run' := fun _ => none) E_ok tab_ratchetbase_Enabled_ok.mem rfl spec_ratchetbase_Enabled_ok (fun _ _ h => by cases h) (Eq.trans (by kernel_rfl) hr)
noncomputable def con_ratchetbase_Enabled : Con E := ⟨45, ((ByteArray × ((List api_Port) × ((List api_Element) × ((List api_Node) × ((List api_Rule) × ((List api_Output) × ((List api_Attribute) × Unit))))))) × (Int × ((List Int) × ((List Int) × Unit)))), Unit, (RwL.cons (Rw.agg (RwL.cons Rd.str.w (RwL.cons (Rw.sl 206) (RwL.cons (Rw.sl 82) (RwL.cons (Rw.sl 208) (RwL.cons (Rw.sl 85) (RwL.cons (Rw.sl 190) (RwL.cons (Rw.sl 146) RwL.nil)))))))) (RwL.cons (Rd.int .i64).w (RwL.cons (Rw.sl 3) (RwL.cons (Rw.sl 3) RwL.nil)))), RdBL.nil, 0, R_ratchetbase_Enabled, fun a b => run_ratchetbase_Enabled (.start a.1.1 a.1.2.1 a.1.2.2.1 a.1.2.2.2.1 a.1.2.2.2.2.1 a.1.2.2.2.2.2.1 a.1.2.2.2.2.2.2.1 a.2.1 a.2.2.1 a.2.2.2.1), res_ratchetbase_Enabled.av, res_ratchetbase_Enabled.bx⟩
theorem con_ratchetbase_Enabled_ok : con_ratchetbase_Enabled.Ok := fun a b r h => fn_ok (fn := Tryz.f45) (code := code_ratchetbase_Enabled) E_ok (by kernel_rfl) (by kernel_rfl) (by kernel_rfl) (Nat.le_of_ble_eq_true rfl) (good_ratchetbase_Enabled (.start a.1.1 a.1.2.1 a.1.2.2.1 a.1.2.2.2.1 a.1.2.2.2.2.1 a.1.2.2.2.2.2.1 a.1.2.2.2.2.2.2.1 a.2.1 a.2.2.1 a.2.2.2.1) r h)

/-! ### ratchet/ratchetbase.Happened -/
inductive P_ratchetbase_Happened where
 | start (d0_0 : ByteArray) (d0_1 : (List api_Port)) (d0_2 : (List api_Element)) (d0_3 : (List api_Node)) (d0_4 : (List api_Rule)) (d0_5 : (List api_Output)) (d0_6 : (List api_Attribute)) (rule1 : Int) (inputs2 : (List Int)) (state3 : (List Int))
 | p500 (l11 : (List api_Write)) (i12 : Int) (B0 : (List Int)) (B1 : (List Int))
noncomputable def place_ratchetbase_Happened : P_ratchetbase_Happened → List Bool
 | .start .. => []
 | .p500 .. => [false, false, true, false, true, true, true, true]
noncomputable def st_ratchetbase_Happened : P_ratchetbase_Happened → St E.S
 | .start d0_0 d0_1 d0_2 d0_3 d0_4 d0_5 d0_6 rule1 inputs2 state3 => st0 58 [.agg [.v (.string d0_0), .sl 206 d0_1 false, .sl 82 d0_2 false, .sl 208 d0_3 false, .sl 85 d0_4 false, .sl 190 d0_5 false, .sl 146 d0_6 false], .v (.int .i64 rule1), .sl 3 inputs2 false, .sl 3 state3 false] []
 | .p500 l11 i12 B0 B1 => mkSt 58 [9, 10, 11, 12] [.rw 0, .rw 1, .sl 151 l11 false, .v (.int .i64 i12)] [.row 3 B0 true, .row 3 B1 false]
abbrev R_ratchetbase_Happened : Type := ((Unit × Unit) × ((List Int) × Unit))
noncomputable def res_ratchetbase_Happened : Res E (Unit × Unit) ((List Int) × Unit) := { rows := [], flat := [], keep := 0, done := [0], rl := (RdL.cons (Rd.rw 0) RdL.nil), rb := (RdBL.cons (RdB.row 3 true) RdBL.nil) }
noncomputable def run_ratchetbase_Happened : P_ratchetbase_Happened → Option R_ratchetbase_Happened
 | .start d0_0 d0_1 d0_2 d0_3 d0_4 d0_5 d0_6 rule1 inputs2 state3 =>
   (run_ratchetbase_LeafValues (.start inputs2 state3)) >>= fun t1 =>
   (run_ratchetbase_NodeValues (.start d0_3 t1.2.1)) >>= fun t2 =>
   (run_ratchetbase_CopyInts_v1 (.start state3)) >>= fun t3 =>
   (idx d0_4 rule1) >>= fun t4 =>
   run_ratchetbase_Happened (.p500 t4.Writes (0 : Int) t2.2.1 t3.2.1)
 | .p500 l11 i12 B0 B1 =>
   if (decide (i12 < (List.length l11 : Int))) = true then
     (idx l11 i12) >>= fun t1 =>
     if (decide ((0 : Int) ≤ t1.When) && decide (t1.When < (List.length B0 : Int))) = true then
       (idx B0 t1.When) >>= fun t2 =>
       if (t2 == (1 : Int)) = true then
         (idx l11 i12) >>= fun t3 =>
         (idx l11 i12) >>= fun t4 =>
         if (decide ((0 : Int) ≤ t4.Value) && decide (t4.Value < (List.length B0 : Int))) = true then
           (idx B0 t4.Value) >>= fun t5 =>
           if (decide ((0 : Int) ≤ t3.Element) && decide (t3.Element < (List.length B1 : Int))) = true then
             (idx B1 t3.Element) >>= fun t6 =>
             run_ratchetbase_Happened (.p500 l11 (IntKind.wrap .i64 (i12 + (1 : Int))) B0 (List.set B1 (Int.toNat t3.Element) t5))
           else none
         else none
       else
         run_ratchetbase_Happened (.p500 l11 (IntKind.wrap .i64 (i12 + (1 : Int))) B0 B1)
     else none
   else
     some (((), ()), (B1, ()))
  partial_fixpoint
noncomputable def tab_ratchetbase_Happened : List (Plc E P_ratchetbase_Happened) := [⟨500, [false, false, true, false, true, true, true, true], { slots := [9, 10, 11, 12], rows := [], flat := [], keep := 0 }, (Unit × (Unit × ((List api_Write) × (Int × Unit)))), ((List Int) × ((List Int) × Unit)), (RdL.cons (Rd.rw 0) (RdL.cons (Rd.rw 1) (RdL.cons (Rd.sl 151 false) (RdL.cons (Rd.int .i64) RdL.nil)))), (RdBL.cons (RdB.row 3 true) (RdBL.cons (RdB.row 3 false) RdBL.nil)), fun a b => .p500 a.2.2.1 a.2.2.2.1 b.1 b.2.1⟩]
theorem tab_ratchetbase_Happened_ok : All (PlcOk 58 0 place_ratchetbase_Happened st_ratchetbase_Happened) tab_ratchetbase_Happened := ⟨⟨rfl, rfl, fun _ _ => rfl, fun _ _ => rfl⟩, trivial⟩
noncomputable def code_ratchetbase_Happened : Code := Tryz.f47.body.getD .skip
noncomputable def spec_ratchetbase_Happened : Spec E.S := (Con.add con_ratchetbase_CopyInts_v1 (Con.add con_ratchetbase_NodeValues (Con.add con_ratchetbase_LeafValues noSpec)))
theorem spec_ratchetbase_Happened_ok : SpecOk E spec_ratchetbase_Happened := (Con.add_ok con_ratchetbase_CopyInts_v1_ok (Con.add_ok con_ratchetbase_NodeValues_ok (Con.add_ok con_ratchetbase_LeafValues_ok noSpec_ok)))
theorem good_ratchetbase_Happened : ∀ pt r, run_ratchetbase_Happened pt = some r → Good E Tryz.f47 code_ratchetbase_Happened 0 (res_ratchetbase_Happened.av r) (res_ratchetbase_Happened.bx r) (place_ratchetbase_Happened pt) (st_ratchetbase_Happened pt) := by
  refine run_ratchetbase_Happened.partial_correctness (fun pt r => Good E Tryz.f47 code_ratchetbase_Happened 0 (res_ratchetbase_Happened.av r) (res_ratchetbase_Happened.bx r) (place_ratchetbase_Happened pt) (st_ratchetbase_Happened pt)) ?_
  intro run' ih pt r hr
  cases pt <;> exact fn_step (spec := spec_ratchetbase_Happened) (wr := (mkWr [8, 10, 20, 42, 56, 57] [])) (l := tab_ratchetbase_Happened) (z := 58) (p := res_ratchetbase_Happened) E_ok tab_ratchetbase_Happened_ok.mem rfl spec_ratchetbase_Happened_ok ih (Eq.trans (by kernel_rfl) hr)
noncomputable def con_ratchetbase_Happened : Con E := ⟨47, ((ByteArray × ((List api_Port) × ((List api_Element) × ((List api_Node) × ((List api_Rule) × ((List api_Output) × ((List api_Attribute) × Unit))))))) × (Int × ((List Int) × ((List Int) × Unit)))), Unit, (RwL.cons (Rw.agg (RwL.cons Rd.str.w (RwL.cons (Rw.sl 206) (RwL.cons (Rw.sl 82) (RwL.cons (Rw.sl 208) (RwL.cons (Rw.sl 85) (RwL.cons (Rw.sl 190) (RwL.cons (Rw.sl 146) RwL.nil)))))))) (RwL.cons (Rd.int .i64).w (RwL.cons (Rw.sl 3) (RwL.cons (Rw.sl 3) RwL.nil)))), RdBL.nil, 0, R_ratchetbase_Happened, fun a b => run_ratchetbase_Happened (.start a.1.1 a.1.2.1 a.1.2.2.1 a.1.2.2.2.1 a.1.2.2.2.2.1 a.1.2.2.2.2.2.1 a.1.2.2.2.2.2.2.1 a.2.1 a.2.2.1 a.2.2.2.1), res_ratchetbase_Happened.av, res_ratchetbase_Happened.bx⟩
theorem con_ratchetbase_Happened_ok : con_ratchetbase_Happened.Ok := fun a b r h => fn_ok (fn := Tryz.f47) (code := code_ratchetbase_Happened) E_ok (by kernel_rfl) (by kernel_rfl) (by kernel_rfl) (Nat.le_of_ble_eq_true rfl) (good_ratchetbase_Happened (.start a.1.1 a.1.2.1 a.1.2.2.1 a.1.2.2.2.1 a.1.2.2.2.2.1 a.1.2.2.2.2.2.1 a.1.2.2.2.2.2.2.1 a.2.1 a.2.2.1 a.2.2.2.1) r h)

/-! ### ratchet/ratchetlaw31.MachineCaches -/
inductive P_ratchetlaw31_MachineCaches where
 | start (width0 : Int) (state1 : (List Int)) (rule2 : Int)
 | p127 (width0 : Int) (state1 : (List Int)) (rule2 : Int) (c9 : Int)
 | p2047 (width0 : Int) (state1 : (List Int)) (rule2 : Int) (c9 : Int) (names13 : (List ByteArray)) (B0_0 : ByteArray) (B0_1 : (List api_Element)) (B0_2 : (List api_Node)) (B0_3 : (List api_Rule))
 | p32756 (width0 : Int) (state1 : (List Int)) (rule2 : Int) (c9 : Int) (names13 : (List ByteArray)) (i14 : Int) (B0_0 : ByteArray) (B0_1 : (List api_Element)) (B0_2 : (List api_Node)) (B0_3 : (List api_Rule))
 | p1048211 (width0 : Int) (state1 : (List Int)) (rule2 : Int) (c9 : Int) (names13 : (List ByteArray)) (i14 : Int) (w15 : Int) (B0_0 : ByteArray) (B0_1 : (List api_Element)) (B0_2 : (List api_Node)) (B0_3 : (List api_Rule))
 | p65524 (width0 : Int) (state1 : (List Int)) (rule2 : Int) (c9 : Int) (i16 : Int) (B0_0 : ByteArray) (B0_1 : (List api_Element)) (B0_2 : (List api_Node)) (B0_3 : (List api_Rule))
noncomputable def place_ratchetlaw31_MachineCaches : P_ratchetlaw31_MachineCaches → List Bool
 | .start .. => []
 | .p127 .. => [true, true, true, true, true, true]
 | .p2047 .. => [true, true, true, true, true, true, true, true, true, true]
 | .p32756 .. => [false, false, true, false, true, true, true, true, true, true, true, true, true, true]
 | .p1048211 .. => [true, true, false, false, true, false, false, true, false, true, true, true, true, true, true, true, true, true, true]
 | .p65524 .. => [false, false, true, false, true, true, true, true, true, true, true, true, true, true, true]
noncomputable def st_ratchetlaw31_MachineCaches : P_ratchetlaw31_MachineCaches → St E.S
 | .start width0 state1 rule2 => st0 177 [.v (.int .i64 width0), .sl 3 state1 false, .v (.int .i64 rule2)] []
 | .p127 width0 state1 rule2 c9 => mkSt 177 [0, 1, 2, 9] [.v (.int .i64 width0), .sl 3 state1 false, .v (.int .i64 rule2), .v (.int .i64 c9)] []
 | .p2047 width0 state1 rule2 c9 names13 B0_0 B0_1 B0_2 B0_3 => mkSt 177 [0, 1, 2, 9, 10, 13] [.v (.int .i64 width0), .sl 3 state1 false, .v (.int .i64 rule2), .v (.int .i64 c9), .bp 0 0, .sl 9 names13 true] [.var 75 [.v (.string B0_0), .nl, .sl 82 B0_1 false, .sl 208 B0_2 false, .sl 85 B0_3 false, .nl, .nl]]
 | .p32756 width0 state1 rule2 c9 names13 i14 B0_0 B0_1 B0_2 B0_3 => mkSt 177 [0, 1, 2, 9, 10, 13, 14] [.v (.int .i64 width0), .sl 3 state1 false, .v (.int .i64 rule2), .v (.int .i64 c9), .bp 0 0, .sl 9 names13 true, .v (.int .i64 i14)] [.var 75 [.v (.string B0_0), .nl, .sl 82 B0_1 false, .sl 208 B0_2 false, .sl 85 B0_3 false, .nl, .nl]]
 | .p1048211 width0 state1 rule2 c9 names13 i14 w15 B0_0 B0_1 B0_2 B0_3 => mkSt 177 [0, 1, 2, 9, 10, 13, 14, 15] [.v (.int .i64 width0), .sl 3 state1 false, .v (.int .i64 rule2), .v (.int .i64 c9), .bp 0 0, .sl 9 names13 true, .v (.int .i64 i14), .v (.int .i64 w15)] [.var 75 [.v (.string B0_0), .nl, .sl 82 B0_1 false, .sl 208 B0_2 false, .sl 85 B0_3 false, .nl, .nl]]
 | .p65524 width0 state1 rule2 c9 i16 B0_0 B0_1 B0_2 B0_3 => mkSt 177 [0, 1, 2, 9, 10, 16] [.v (.int .i64 width0), .sl 3 state1 false, .v (.int .i64 rule2), .v (.int .i64 c9), .bp 0 0, .v (.int .i64 i16)] [.var 75 [.v (.string B0_0), .nl, .sl 82 B0_1 false, .sl 208 B0_2 false, .sl 85 B0_3 false, .nl, .nl]]
abbrev R_ratchetlaw31_MachineCaches : Type := ((Bool × Unit) × Unit)
noncomputable def res_ratchetlaw31_MachineCaches : Res E (Bool × Unit) Unit := { rows := [], flat := [], keep := 0, done := [0], rl := (RdL.cons Rd.bool RdL.nil), rb := RdBL.nil }
noncomputable def run_ratchetlaw31_MachineCaches : P_ratchetlaw31_MachineCaches → Option R_ratchetlaw31_MachineCaches
 | .start width0 state1 rule2 =>
   (some () : Option Unit) >>= fun t1 =>
   if (!true) = true then
     some ((false, ()), ())
   else
     if (decide ((List.length state1 : Int) > (8 : Int))) = true then
       some ((true, ()), ())
     else
       (run_ratchetbase_CopyInts (.start state1)) >>= fun t2 =>
       (run_machine_IsCoherent (.start width0 t2.2.1)) >>= fun t3 =>
       (run_ratchetref31_CacheErr (.start width0 state1)) >>= fun t4 =>
       if (t4.1.1 != (0 : Int)) = true then
         if (t3.1.2.1 != t4.1.1) = true then
           some ((false, ()), ())
         else
           if t3.1.1 = true then
             some ((false, ()), ())
           else
             if (t4.1.1 == (0 : Int)) = true then
               if (t3.1.2.1 != (0 : Int)) = true then
                 some ((false, ()), ())
               else
                 (run_ratchetref31_IsCoherent (.start state1)) >>= fun t5 =>
                 if (!(t3.1.1 == t5.1.1)) = true then
                   some ((false, ()), ())
                 else
                   run_ratchetlaw31_MachineCaches (.p127 width0 state1 rule2 t4.1.1)
             else
               run_ratchetlaw31_MachineCaches (.p127 width0 state1 rule2 t4.1.1)
       else
         if (t4.1.1 == (0 : Int)) = true then
           if (t3.1.2.1 != (0 : Int)) = true then
             some ((false, ()), ())
           else
             (run_ratchetref31_IsCoherent (.start state1)) >>= fun t6 =>
             if (!(t3.1.1 == t6.1.1)) = true then
               some ((false, ()), ())
             else
               run_ratchetlaw31_MachineCaches (.p127 width0 state1 rule2 t4.1.1)
         else
           run_ratchetlaw31_MachineCaches (.p127 width0 state1 rule2 t4.1.1)
 | .p127 width0 state1 rule2 c9 =>
   (run_machine_CachesOf (.start width0)) >>= fun t1 =>
   (run_ratchetref31_WidthErr (.start width0)) >>= fun t2 =>
   if (t2.1.1 != (0 : Int)) = true then
     if (t1.1.2.1 == t2.1.1) = true then
       (run_ratchetbase_SameDesign (.start t1.1.1.1 ([]) t1.1.1.2.2.1 t1.1.1.2.2.2.1 t1.1.1.2.2.2.2.1 ([]) ([]) (⟨#[]⟩ : ByteArray) ([]) ([]) ([]) ([]) ([]) ([]))) >>= fun t3 =>
       some ((t3.1.1, ()), ())
     else
       some ((false, ()), ())
   else
     if (t1.1.2.1 != (0 : Int)) = true then
       some ((false, ()), ())
     else
       (run_ratchetbase_IsDesign (.start t1.1.1.1 ([]) t1.1.1.2.2.1 t1.1.1.2.2.2.1 t1.1.1.2.2.2.2.1 ([]) ([]))) >>= fun t4 =>
       if (!t4.1.1) = true then
         some ((false, ()), ())
       else
         if (!(seq t1.1.1.1 (⟨#[99, 97, 99, 104, 101, 115]⟩ : ByteArray))) = true then
           some ((false, ()), ())
         else
           if (decide ((IntKind.wrap .i64 ((IntKind.wrap .i64 ((0 : Int) + (0 : Int))) + (0 : Int))) > (0 : Int))) = true then
             some ((false, ()), ())
           else
             if ((List.length t1.1.1.2.2.1 : Int) != (5 : Int)) = true then
               some ((false, ()), ())
             else
               if ((List.length t1.1.1.2.2.2.2.1 : Int) != (12 : Int)) = true then
                 some ((false, ()), ())
               else
                 run_ratchetlaw31_MachineCaches (.p2047 width0 state1 rule2 c9 ([(⟨#[109, 101, 109, 111, 114, 121]⟩ : ByteArray), (⟨#[107, 105, 110, 100, 48]⟩ : ByteArray), (⟨#[108, 105, 110, 101, 48]⟩ : ByteArray), (⟨#[107, 105, 110, 100, 49]⟩ : ByteArray), (⟨#[108, 105, 110, 101, 49]⟩ : ByteArray)] : List ByteArray) t1.1.1.1 t1.1.1.2.2.1 t1.1.1.2.2.2.1 t1.1.1.2.2.2.2.1)
 | .p2047 width0 state1 rule2 c9 names13 B0_0 B0_1 B0_2 B0_3 =>
   run_ratchetlaw31_MachineCaches (.p32756 width0 state1 rule2 c9 names13 (0 : Int) B0_0 B0_1 B0_2 B0_3)
 | .p32756 width0 state1 rule2 c9 names13 i14 B0_0 B0_1 B0_2 B0_3 =>
   if (decide (i14 < (5 : Int))) = true then
     if (!((2 : Int) == (0 : Int))) = true then
       if ((Int.tmod i14 (2 : Int)) == (1 : Int)) = true then
         run_ratchetlaw31_MachineCaches (.p1048211 width0 state1 rule2 c9 names13 i14 (2 : Int) B0_0 B0_1 B0_2 B0_3)
       else
         run_ratchetlaw31_MachineCaches (.p1048211 width0 state1 rule2 c9 names13 i14 width0 B0_0 B0_1 B0_2 B0_3)
     else none
   else
     run_ratchetlaw31_MachineCaches (.p65524 width0 state1 rule2 c9 (0 : Int) B0_0 B0_1 B0_2 B0_3)
 | .p1048211 width0 state1 rule2 c9 names13 i14 w15 B0_0 B0_1 B0_2 B0_3 =>
   (idx B0_1 i14) >>= fun t1 =>
   (idx names13 i14) >>= fun t2 =>
   if (!((seq t1.Name t2) && ((t1.Kind == (0 : Int)) && ((t1.Width == w15) && ((t1.Init == (0 : Int)) && ((t1.Clock == (0 : Int)) && true)))))) = true then
     some ((false, ()), ())
   else
     run_ratchetlaw31_MachineCaches (.p32756 width0 state1 rule2 c9 names13 (IntKind.wrap .i64 (i14 + (1 : Int))) B0_0 B0_1 B0_2 B0_3)
 | .p65524 width0 state1 rule2 c9 i16 B0_0 B0_1 B0_2 B0_3 =>
   if (decide (i16 < (12 : Int))) = true then
     (idx B0_3 i16) >>= fun t1 =>
     (run_ratchetref31_CacheNames .start) >>= fun t2 =>
     (idx t2.1.1 i16) >>= fun t3 =>
     if (!(seq t1.Name t3)) = true then
       some ((false, ()), ())
     else
       run_ratchetlaw31_MachineCaches (.p65524 width0 state1 rule2 c9 (IntKind.wrap .i64 (i16 + (1 : Int))) B0_0 B0_1 B0_2 B0_3)
   else
     if (c9 != (0 : Int)) = true then
       some ((true, ()), ())
     else
       (run_ratchetbase_Mod (.start rule2 (12 : Int))) >>= fun t4 =>
       (run_ratchetref31_CacheRule (.start width0 state1 t4.1.1)) >>= fun t5 =>
       (run_ratchetbase_Enabled (.start B0_0 ([]) B0_1 B0_2 B0_3 ([]) ([]) t4.1.1 ([]) state1)) >>= fun t6 =>
       if (!(t6.1.1 == t5.1.1)) = true then
         some ((false, ()), ())
       else
         if (!t5.1.1) = true then
           some ((true, ()), ())
         else
           (run_ratchetbase_Happened (.start B0_0 ([]) B0_1 B0_2 B0_3 ([]) ([]) t4.1.1 ([]) state1)) >>= fun t7 =>
           (run_ratchetbase_Ints (.start t7.2.1 t5.2.1)) >>= fun t8 =>
           some ((t8.1.1, ()), ())
  partial_fixpoint
noncomputable def tab_ratchetlaw31_MachineCaches : List (Plc E P_ratchetlaw31_MachineCaches) := [⟨127, [true, true, true, true, true, true], { slots := [0, 1, 2, 9], rows := [], flat := [], keep := 0 }, (Int × ((List Int) × (Int × (Int × Unit)))), Unit, (RdL.cons (Rd.int .i64) (RdL.cons (Rd.sl 3 false) (RdL.cons (Rd.int .i64) (RdL.cons (Rd.int .i64) RdL.nil)))), RdBL.nil, fun a b => .p127 a.1 a.2.1 a.2.2.1 a.2.2.2.1⟩,
  ⟨2047, [true, true, true, true, true, true, true, true, true, true], { slots := [0, 1, 2, 9, 10, 13], rows := [], flat := [], keep := 0 }, (Int × ((List Int) × (Int × (Int × (Unit × ((List ByteArray) × Unit)))))), ((ByteArray × (Unit × ((List api_Element) × ((List api_Node) × ((List api_Rule) × (Unit × (Unit × Unit))))))) × Unit), (RdL.cons (Rd.int .i64) (RdL.cons (Rd.sl 3 false) (RdL.cons (Rd.int .i64) (RdL.cons (Rd.int .i64) (RdL.cons (Rd.bp 0 0) (RdL.cons (Rd.sl 9 true) RdL.nil)))))), (RdBL.cons (RdB.var 75 (RdL.cons Rd.str (RdL.cons Rd.nl (RdL.cons (Rd.sl 82 false) (RdL.cons (Rd.sl 208 false) (RdL.cons (Rd.sl 85 false) (RdL.cons Rd.nl (RdL.cons Rd.nl RdL.nil)))))))) RdBL.nil), fun a b => .p2047 a.1 a.2.1 a.2.2.1 a.2.2.2.1 a.2.2.2.2.2.1 b.1.1 b.1.2.2.1 b.1.2.2.2.1 b.1.2.2.2.2.1⟩,
  ⟨32756, [false, false, true, false, true, true, true, true, true, true, true, true, true, true], { slots := [0, 1, 2, 9, 10, 13, 14], rows := [], flat := [], keep := 0 }, (Int × ((List Int) × (Int × (Int × (Unit × ((List ByteArray) × (Int × Unit))))))), ((ByteArray × (Unit × ((List api_Element) × ((List api_Node) × ((List api_Rule) × (Unit × (Unit × Unit))))))) × Unit), (RdL.cons (Rd.int .i64) (RdL.cons (Rd.sl 3 false) (RdL.cons (Rd.int .i64) (RdL.cons (Rd.int .i64) (RdL.cons (Rd.bp 0 0) (RdL.cons (Rd.sl 9 true) (RdL.cons (Rd.int .i64) RdL.nil))))))), (RdBL.cons (RdB.var 75 (RdL.cons Rd.str (RdL.cons Rd.nl (RdL.cons (Rd.sl 82 false) (RdL.cons (Rd.sl 208 false) (RdL.cons (Rd.sl 85 false) (RdL.cons Rd.nl (RdL.cons Rd.nl RdL.nil)))))))) RdBL.nil), fun a b => .p32756 a.1 a.2.1 a.2.2.1 a.2.2.2.1 a.2.2.2.2.2.1 a.2.2.2.2.2.2.1 b.1.1 b.1.2.2.1 b.1.2.2.2.1 b.1.2.2.2.2.1⟩,
  ⟨1048211, [true, true, false, false, true, false, false, true, false, true, true, true, true, true, true, true, true, true, true], { slots := [0, 1, 2, 9, 10, 13, 14, 15], rows := [], flat := [], keep := 0 }, (Int × ((List Int) × (Int × (Int × (Unit × ((List ByteArray) × (Int × (Int × Unit)))))))), ((ByteArray × (Unit × ((List api_Element) × ((List api_Node) × ((List api_Rule) × (Unit × (Unit × Unit))))))) × Unit), (RdL.cons (Rd.int .i64) (RdL.cons (Rd.sl 3 false) (RdL.cons (Rd.int .i64) (RdL.cons (Rd.int .i64) (RdL.cons (Rd.bp 0 0) (RdL.cons (Rd.sl 9 true) (RdL.cons (Rd.int .i64) (RdL.cons (Rd.int .i64) RdL.nil)))))))), (RdBL.cons (RdB.var 75 (RdL.cons Rd.str (RdL.cons Rd.nl (RdL.cons (Rd.sl 82 false) (RdL.cons (Rd.sl 208 false) (RdL.cons (Rd.sl 85 false) (RdL.cons Rd.nl (RdL.cons Rd.nl RdL.nil)))))))) RdBL.nil), fun a b => .p1048211 a.1 a.2.1 a.2.2.1 a.2.2.2.1 a.2.2.2.2.2.1 a.2.2.2.2.2.2.1 a.2.2.2.2.2.2.2.1 b.1.1 b.1.2.2.1 b.1.2.2.2.1 b.1.2.2.2.2.1⟩,
  ⟨65524, [false, false, true, false, true, true, true, true, true, true, true, true, true, true, true], { slots := [0, 1, 2, 9, 10, 16], rows := [], flat := [], keep := 0 }, (Int × ((List Int) × (Int × (Int × (Unit × (Int × Unit)))))), ((ByteArray × (Unit × ((List api_Element) × ((List api_Node) × ((List api_Rule) × (Unit × (Unit × Unit))))))) × Unit), (RdL.cons (Rd.int .i64) (RdL.cons (Rd.sl 3 false) (RdL.cons (Rd.int .i64) (RdL.cons (Rd.int .i64) (RdL.cons (Rd.bp 0 0) (RdL.cons (Rd.int .i64) RdL.nil)))))), (RdBL.cons (RdB.var 75 (RdL.cons Rd.str (RdL.cons Rd.nl (RdL.cons (Rd.sl 82 false) (RdL.cons (Rd.sl 208 false) (RdL.cons (Rd.sl 85 false) (RdL.cons Rd.nl (RdL.cons Rd.nl RdL.nil)))))))) RdBL.nil), fun a b => .p65524 a.1 a.2.1 a.2.2.1 a.2.2.2.1 a.2.2.2.2.2.1 b.1.1 b.1.2.2.1 b.1.2.2.2.1 b.1.2.2.2.2.1⟩]
theorem tab_ratchetlaw31_MachineCaches_ok : All (PlcOk 177 0 place_ratchetlaw31_MachineCaches st_ratchetlaw31_MachineCaches) tab_ratchetlaw31_MachineCaches := ⟨⟨rfl, rfl, fun _ _ => rfl, fun _ _ => rfl⟩, ⟨⟨rfl, rfl, fun _ _ => rfl, fun _ _ => rfl⟩, ⟨⟨rfl, rfl, fun _ _ => rfl, fun _ _ => rfl⟩, ⟨⟨rfl, rfl, fun _ _ => rfl, fun _ _ => rfl⟩, ⟨⟨rfl, rfl, fun _ _ => rfl, fun _ _ => rfl⟩, trivial⟩⟩⟩⟩⟩
noncomputable def code_ratchetlaw31_MachineCaches : Code := Tryz.f6.body.getD .skip
noncomputable def spec_ratchetlaw31_MachineCaches : Spec E.S := (Con.add con_ratchetbase_Ints (Con.add con_ratchetbase_Happened (Con.add con_ratchetbase_Enabled (Con.add con_ratchetref31_CacheRule (Con.add con_ratchetbase_Mod (Con.add con_ratchetref31_CacheNames (Con.add con_ratchetbase_IsDesign (Con.add con_ratchetbase_SameDesign (Con.add con_ratchetref31_WidthErr (Con.add con_machine_CachesOf (Con.add con_ratchetref31_IsCoherent (Con.add con_ratchetref31_CacheErr (Con.add con_machine_IsCoherent (Con.add con_ratchetbase_CopyInts (Con.add con_ratchetlaw31_awake noSpec)))))))))))))))
theorem spec_ratchetlaw31_MachineCaches_ok : SpecOk E spec_ratchetlaw31_MachineCaches := (Con.add_ok con_ratchetbase_Ints_ok (Con.add_ok con_ratchetbase_Happened_ok (Con.add_ok con_ratchetbase_Enabled_ok (Con.add_ok con_ratchetref31_CacheRule_ok (Con.add_ok con_ratchetbase_Mod_ok (Con.add_ok con_ratchetref31_CacheNames_ok (Con.add_ok con_ratchetbase_IsDesign_ok (Con.add_ok con_ratchetbase_SameDesign_ok (Con.add_ok con_ratchetref31_WidthErr_ok (Con.add_ok con_machine_CachesOf_ok (Con.add_ok con_ratchetref31_IsCoherent_ok (Con.add_ok con_ratchetref31_CacheErr_ok (Con.add_ok con_machine_IsCoherent_ok (Con.add_ok con_ratchetbase_CopyInts_ok (Con.add_ok con_ratchetlaw31_awake_ok noSpec_ok)))))))))))))))
theorem good_ratchetlaw31_MachineCaches : ∀ pt r, run_ratchetlaw31_MachineCaches pt = some r → Good E Tryz.f6 code_ratchetlaw31_MachineCaches 0 (res_ratchetlaw31_MachineCaches.av r) (res_ratchetlaw31_MachineCaches.bx r) (place_ratchetlaw31_MachineCaches pt) (st_ratchetlaw31_MachineCaches pt) := by
  refine run_ratchetlaw31_MachineCaches.partial_correctness (fun pt r => Good E Tryz.f6 code_ratchetlaw31_MachineCaches 0 (res_ratchetlaw31_MachineCaches.av r) (res_ratchetlaw31_MachineCaches.bx r) (place_ratchetlaw31_MachineCaches pt) (st_ratchetlaw31_MachineCaches pt)) ?_
  intro run' ih pt r hr
  cases pt <;> exact fn_step (spec := spec_ratchetlaw31_MachineCaches) (wr := (mkWr [] [])) (l := tab_ratchetlaw31_MachineCaches) (z := 177) (p := res_ratchetlaw31_MachineCaches) E_ok tab_ratchetlaw31_MachineCaches_ok.mem rfl spec_ratchetlaw31_MachineCaches_ok ih (Eq.trans (by kernel_rfl) hr)
noncomputable def con_ratchetlaw31_MachineCaches : Con E := ⟨6, (Int × ((List Int) × (Int × Unit))), Unit, (RwL.cons (Rd.int .i64).w (RwL.cons (Rw.sl 3) (RwL.cons (Rd.int .i64).w RwL.nil))), RdBL.nil, 0, R_ratchetlaw31_MachineCaches, fun a b => run_ratchetlaw31_MachineCaches (.start a.1 a.2.1 a.2.2.1), res_ratchetlaw31_MachineCaches.av, res_ratchetlaw31_MachineCaches.bx⟩
theorem con_ratchetlaw31_MachineCaches_ok : con_ratchetlaw31_MachineCaches.Ok := fun a b r h => fn_ok (fn := Tryz.f6) (code := code_ratchetlaw31_MachineCaches) E_ok (by kernel_rfl) (by kernel_rfl) (by kernel_rfl) (Nat.le_of_ble_eq_true rfl) (good_ratchetlaw31_MachineCaches (.start a.1 a.2.1 a.2.2.1) r h)

/-! ### ratchet/ratchetbase.Resets -/
inductive P_ratchetbase_Resets where
 | start (d0_0 : ByteArray) (d0_1 : (List api_Port)) (d0_2 : (List api_Element)) (d0_3 : (List api_Node)) (d0_4 : (List api_Rule)) (d0_5 : (List api_Output)) (d0_6 : (List api_Attribute))
 | p116 (i4 : Int) (B0_0 : ByteArray) (B0_1 : (List api_Port)) (B0_2 : (List api_Element)) (B0_3 : (List api_Node)) (B0_4 : (List api_Rule)) (B0_5 : (List api_Output)) (B0_6 : (List api_Attribute)) (B1 : (List Int))
noncomputable def place_ratchetbase_Resets : P_ratchetbase_Resets → List Bool
 | .start .. => []
 | .p116 .. => [false, false, true, false, true, true]
noncomputable def st_ratchetbase_Resets : P_ratchetbase_Resets → St E.S
 | .start d0_0 d0_1 d0_2 d0_3 d0_4 d0_5 d0_6 => st0 26 [.agg [.v (.string d0_0), .sl 206 d0_1 false, .sl 82 d0_2 false, .sl 208 d0_3 false, .sl 85 d0_4 false, .sl 190 d0_5 false, .sl 146 d0_6 false]] []
 | .p116 i4 B0_0 B0_1 B0_2 B0_3 B0_4 B0_5 B0_6 B1 => mkSt 26 [1, 3, 4] [.bp 0 0, .rw 1, .v (.int .i64 i4)] [.var 75 [.v (.string B0_0), .sl 206 B0_1 false, .sl 82 B0_2 false, .sl 208 B0_3 false, .sl 85 B0_4 false, .sl 190 B0_5 false, .sl 146 B0_6 false], .row 3 B1 false]
abbrev R_ratchetbase_Resets : Type := ((Unit × Unit) × ((List Int) × Unit))
noncomputable def res_ratchetbase_Resets : Res E (Unit × Unit) ((List Int) × Unit) := { rows := [], flat := [], keep := 0, done := [0], rl := (RdL.cons (Rd.rw 0) RdL.nil), rb := (RdBL.cons (RdB.row 3 true) RdBL.nil) }
noncomputable def run_ratchetbase_Resets : P_ratchetbase_Resets → Option R_ratchetbase_Resets
 | .start d0_0 d0_1 d0_2 d0_3 d0_4 d0_5 d0_6 =>
   if (fitsM (List.length d0_2 : Int) (List.length d0_2 : Int) 8) = true then
     run_ratchetbase_Resets (.p116 (0 : Int) d0_0 d0_1 d0_2 d0_3 d0_4 d0_5 d0_6 (List.replicate (Int.toNat (List.length d0_2 : Int)) (0 : Int)))
   else none
 | .p116 i4 B0_0 B0_1 B0_2 B0_3 B0_4 B0_5 B0_6 B1 =>
   if (decide (i4 < (List.length B0_2 : Int))) = true then
     (idx B0_2 i4) >>= fun t1 =>
     if (decide ((0 : Int) ≤ i4) && decide (i4 < (List.length B1 : Int))) = true then
       (idx B1 i4) >>= fun t2 =>
       run_ratchetbase_Resets (.p116 (IntKind.wrap .i64 (i4 + (1 : Int))) B0_0 B0_1 B0_2 B0_3 B0_4 B0_5 B0_6 (List.set B1 (Int.toNat i4) t1.Init))
     else none
   else
     some (((), ()), (B1, ()))
  partial_fixpoint
noncomputable def tab_ratchetbase_Resets : List (Plc E P_ratchetbase_Resets) := [⟨116, [false, false, true, false, true, true], { slots := [1, 3, 4], rows := [], flat := [], keep := 0 }, (Unit × (Unit × (Int × Unit))), ((ByteArray × ((List api_Port) × ((List api_Element) × ((List api_Node) × ((List api_Rule) × ((List api_Output) × ((List api_Attribute) × Unit))))))) × ((List Int) × Unit)), (RdL.cons (Rd.bp 0 0) (RdL.cons (Rd.rw 1) (RdL.cons (Rd.int .i64) RdL.nil))), (RdBL.cons (RdB.var 75 (RdL.cons Rd.str (RdL.cons (Rd.sl 206 false) (RdL.cons (Rd.sl 82 false) (RdL.cons (Rd.sl 208 false) (RdL.cons (Rd.sl 85 false) (RdL.cons (Rd.sl 190 false) (RdL.cons (Rd.sl 146 false) RdL.nil)))))))) (RdBL.cons (RdB.row 3 false) RdBL.nil)), fun a b => .p116 a.2.2.1 b.1.1 b.1.2.1 b.1.2.2.1 b.1.2.2.2.1 b.1.2.2.2.2.1 b.1.2.2.2.2.2.1 b.1.2.2.2.2.2.2.1 b.2.1⟩]
theorem tab_ratchetbase_Resets_ok : All (PlcOk 26 0 place_ratchetbase_Resets st_ratchetbase_Resets) tab_ratchetbase_Resets := ⟨⟨rfl, rfl, fun _ _ => rfl, fun _ _ => rfl⟩, trivial⟩
noncomputable def code_ratchetbase_Resets : Code := Tryz.f48.body.getD .skip
noncomputable def spec_ratchetbase_Resets : Spec E.S := noSpec
theorem spec_ratchetbase_Resets_ok : SpecOk E spec_ratchetbase_Resets := noSpec_ok
theorem good_ratchetbase_Resets : ∀ pt r, run_ratchetbase_Resets pt = some r → Good E Tryz.f48 code_ratchetbase_Resets 0 (res_ratchetbase_Resets.av r) (res_ratchetbase_Resets.bx r) (place_ratchetbase_Resets pt) (st_ratchetbase_Resets pt) := by
  refine run_ratchetbase_Resets.partial_correctness (fun pt r => Good E Tryz.f48 code_ratchetbase_Resets 0 (res_ratchetbase_Resets.av r) (res_ratchetbase_Resets.bx r) (place_ratchetbase_Resets pt) (st_ratchetbase_Resets pt)) ?_
  intro run' ih pt r hr
  cases pt <;> exact fn_step (spec := spec_ratchetbase_Resets) (wr := (mkWr [2, 3, 8, 16, 24, 25] [])) (l := tab_ratchetbase_Resets) (z := 26) (p := res_ratchetbase_Resets) E_ok tab_ratchetbase_Resets_ok.mem rfl spec_ratchetbase_Resets_ok ih (Eq.trans (by kernel_rfl) hr)
noncomputable def con_ratchetbase_Resets : Con E := ⟨48, ((ByteArray × ((List api_Port) × ((List api_Element) × ((List api_Node) × ((List api_Rule) × ((List api_Output) × ((List api_Attribute) × Unit))))))) × Unit), Unit, (RwL.cons (Rw.agg (RwL.cons Rd.str.w (RwL.cons (Rw.sl 206) (RwL.cons (Rw.sl 82) (RwL.cons (Rw.sl 208) (RwL.cons (Rw.sl 85) (RwL.cons (Rw.sl 190) (RwL.cons (Rw.sl 146) RwL.nil)))))))) RwL.nil), RdBL.nil, 0, R_ratchetbase_Resets, fun a b => run_ratchetbase_Resets (.start a.1.1 a.1.2.1 a.1.2.2.1 a.1.2.2.2.1 a.1.2.2.2.2.1 a.1.2.2.2.2.2.1 a.1.2.2.2.2.2.2.1), res_ratchetbase_Resets.av, res_ratchetbase_Resets.bx⟩
theorem con_ratchetbase_Resets_ok : con_ratchetbase_Resets.Ok := fun a b r h => fn_ok (fn := Tryz.f48) (code := code_ratchetbase_Resets) E_ok (by kernel_rfl) (by kernel_rfl) (by kernel_rfl) (Nat.le_of_ble_eq_true rfl) (good_ratchetbase_Resets (.start a.1.1 a.1.2.1 a.1.2.2.1 a.1.2.2.2.1 a.1.2.2.2.2.1 a.1.2.2.2.2.2.1 a.1.2.2.2.2.2.2.1) r h)

/-! ### ratchet/ratchetlaw31.MachineCoherent -/
inductive P_ratchetlaw31_MachineCoherent where
 | start (width0 : Int) (rules1 : (List Int))
 | p15 (width0 : Int) (rules1 : (List Int))
 | p63 (width0 : Int) (rules1 : (List Int)) (B0_0 : ByteArray) (B0_1 : (List api_Element)) (B0_2 : (List api_Node)) (B0_3 : (List api_Rule))
 | p4084 (width0 : Int) (rules1 : (List Int)) (last8 : Int) (i9 : Int) (B0_0 : ByteArray) (B0_1 : (List api_Element)) (B0_2 : (List api_Node)) (B0_3 : (List api_Rule)) (B1 : (List Int))
 | p522831 (width0 : Int) (rules1 : (List Int)) (last8 : Int) (i9 : Int) (r10 : Int) (B0_0 : ByteArray) (B0_1 : (List api_Element)) (B0_2 : (List api_Node)) (B0_3 : (List api_Rule)) (B1 : (List Int))
 | p2091327 (width0 : Int) (rules1 : (List Int)) (last8 : Int) (i9 : Int) (r10 : Int) (B0_0 : ByteArray) (B0_1 : (List api_Element)) (B0_2 : (List api_Node)) (B0_3 : (List api_Rule)) (B1 : (List Int))
 | p4182655 (width0 : Int) (rules1 : (List Int)) (last8 : Int) (i9 : Int) (B0_0 : ByteArray) (B0_1 : (List api_Element)) (B0_2 : (List api_Node)) (B0_3 : (List api_Rule)) (B1 : (List Int))
 | p66922484 (width0 : Int) (rules1 : (List Int)) (last8 : Int) (i9 : Int) (core13 : Int) (B0_0 : ByteArray) (B0_1 : (List api_Element)) (B0_2 : (List api_Node)) (B0_3 : (List api_Rule)) (B1 : (List Int))
noncomputable def place_ratchetlaw31_MachineCoherent : P_ratchetlaw31_MachineCoherent → List Bool
 | .start .. => []
 | .p15 .. => [true, true, true]
 | .p63 .. => [true, true, true, true, true]
 | .p4084 .. => [false, false, true, false, true, true, true, true, true, true, true]
 | .p522831 .. => [true, true, true, true, false, false, true, false, false, true, false, true, true, true, true, true, true, true]
 | .p2091327 .. => [true, true, true, true, true, true, false, false, true, false, false, true, false, true, true, true, true, true, true, true]
 | .p4182655 .. => [true, true, true, true, true, true, true, false, false, true, false, false, true, false, true, true, true, true, true, true, true]
 | .p66922484 .. => [false, false, true, false, true, true, true, true, true, true, true, false, false, true, false, false, true, false, true, true, true, true, true, true, true]
noncomputable def st_ratchetlaw31_MachineCoherent : P_ratchetlaw31_MachineCoherent → St E.S
 | .start width0 rules1 => st0 146 [.v (.int .i64 width0), .sl 3 rules1 false] []
 | .p15 width0 rules1 => mkSt 146 [0, 1] [.v (.int .i64 width0), .sl 3 rules1 false] []
 | .p63 width0 rules1 B0_0 B0_1 B0_2 B0_3 => mkSt 146 [0, 1, 5] [.v (.int .i64 width0), .sl 3 rules1 false, .bp 0 0] [.var 75 [.v (.string B0_0), .nl, .sl 82 B0_1 false, .sl 208 B0_2 false, .sl 85 B0_3 false, .nl, .nl]]
 | .p4084 width0 rules1 last8 i9 B0_0 B0_1 B0_2 B0_3 B1 => mkSt 146 [0, 1, 5, 7, 8, 9] [.v (.int .i64 width0), .sl 3 rules1 false, .bp 0 0, .rw 1, .v (.int .i64 last8), .v (.int .i64 i9)] [.var 75 [.v (.string B0_0), .nl, .sl 82 B0_1 false, .sl 208 B0_2 false, .sl 85 B0_3 false, .nl, .nl], .row 3 B1 true]
 | .p522831 width0 rules1 last8 i9 r10 B0_0 B0_1 B0_2 B0_3 B1 => mkSt 146 [0, 1, 5, 7, 8, 9, 10] [.v (.int .i64 width0), .sl 3 rules1 false, .bp 0 0, .rw 1, .v (.int .i64 last8), .v (.int .i64 i9), .v (.int .i64 r10)] [.var 75 [.v (.string B0_0), .nl, .sl 82 B0_1 false, .sl 208 B0_2 false, .sl 85 B0_3 false, .nl, .nl], .row 3 B1 true]
 | .p2091327 width0 rules1 last8 i9 r10 B0_0 B0_1 B0_2 B0_3 B1 => mkSt 146 [0, 1, 5, 7, 8, 9, 10] [.v (.int .i64 width0), .sl 3 rules1 false, .bp 0 0, .rw 1, .v (.int .i64 last8), .v (.int .i64 i9), .v (.int .i64 r10)] [.var 75 [.v (.string B0_0), .nl, .sl 82 B0_1 false, .sl 208 B0_2 false, .sl 85 B0_3 false, .nl, .nl], .row 3 B1 true]
 | .p4182655 width0 rules1 last8 i9 B0_0 B0_1 B0_2 B0_3 B1 => mkSt 146 [0, 1, 5, 7, 8, 9] [.v (.int .i64 width0), .sl 3 rules1 false, .bp 0 0, .rw 1, .v (.int .i64 last8), .v (.int .i64 i9)] [.var 75 [.v (.string B0_0), .nl, .sl 82 B0_1 false, .sl 208 B0_2 false, .sl 85 B0_3 false, .nl, .nl], .row 3 B1 true]
 | .p66922484 width0 rules1 last8 i9 core13 B0_0 B0_1 B0_2 B0_3 B1 => mkSt 146 [0, 1, 5, 7, 8, 9, 13] [.v (.int .i64 width0), .sl 3 rules1 false, .bp 0 0, .rw 1, .v (.int .i64 last8), .v (.int .i64 i9), .v (.int .i64 core13)] [.var 75 [.v (.string B0_0), .nl, .sl 82 B0_1 false, .sl 208 B0_2 false, .sl 85 B0_3 false, .nl, .nl], .row 3 B1 true]
abbrev R_ratchetlaw31_MachineCoherent : Type := ((Bool × Unit) × Unit)
noncomputable def res_ratchetlaw31_MachineCoherent : Res E (Bool × Unit) Unit := { rows := [], flat := [], keep := 0, done := [0], rl := (RdL.cons Rd.bool RdL.nil), rb := RdBL.nil }
noncomputable def run_ratchetlaw31_MachineCoherent : P_ratchetlaw31_MachineCoherent → Option R_ratchetlaw31_MachineCoherent
 | .start width0 rules1 =>
   (some () : Option Unit) >>= fun t1 =>
   if (!true) = true then
     some ((false, ()), ())
   else
     (run_ratchetref31_WidthErr (.start width0)) >>= fun t2 =>
     if (t2.1.1 != (0 : Int)) = true then
       some ((true, ()), ())
     else
       if (decide ((List.length rules1 : Int) > (40 : Int))) = true then
         some ((true, ()), ())
       else
         run_ratchetlaw31_MachineCoherent (.p15 width0 rules1)
 | .p15 width0 rules1 =>
   (run_machine_CachesOf (.start width0)) >>= fun t1 =>
   if (t1.1.2.1 != (0 : Int)) = true then
     some ((false, ()), ())
   else
     (run_ratchetbase_IsDesign (.start t1.1.1.1 ([]) t1.1.1.2.2.1 t1.1.1.2.2.2.1 t1.1.1.2.2.2.2.1 ([]) ([]))) >>= fun t2 =>
     if (!t2.1.1) = true then
       some ((false, ()), ())
     else
       if (decide ((0 : Int) > (0 : Int))) = true then
         some ((false, ()), ())
       else
         if ((List.length t1.1.1.2.2.1 : Int) != (5 : Int)) = true then
           some ((false, ()), ())
         else
           if ((List.length t1.1.1.2.2.2.2.1 : Int) != (12 : Int)) = true then
             some ((false, ()), ())
           else
             run_ratchetlaw31_MachineCoherent (.p63 width0 rules1 t1.1.1.1 t1.1.1.2.2.1 t1.1.1.2.2.2.1 t1.1.1.2.2.2.2.1)
 | .p63 width0 rules1 B0_0 B0_1 B0_2 B0_3 =>
   (run_ratchetbase_Resets (.start B0_0 ([]) B0_1 B0_2 B0_3 ([]) ([]))) >>= fun t1 =>
   run_ratchetlaw31_MachineCoherent (.p4084 width0 rules1 (0 : Int) (0 : Int) B0_0 B0_1 B0_2 B0_3 t1.2.1)
 | .p4084 width0 rules1 last8 i9 B0_0 B0_1 B0_2 B0_3 B1 =>
   if (decide (i9 < (List.length rules1 : Int))) = true then
     (idx rules1 i9) >>= fun t1 =>
     (run_ratchetbase_Mod (.start t1 (12 : Int))) >>= fun t2 =>
     (run_ratchetbase_Enabled (.start B0_0 ([]) B0_1 B0_2 B0_3 ([]) ([]) t2.1.1 ([]) B1)) >>= fun t3 =>
     if (!t3.1.1) = true then
       run_ratchetlaw31_MachineCoherent (.p4084 width0 rules1 last8 (IntKind.wrap .i64 (i9 + (1 : Int))) B0_0 B0_1 B0_2 B0_3 B1)
     else
       (run_ratchetbase_Happened (.start B0_0 ([]) B0_1 B0_2 B0_3 ([]) ([]) t2.1.1 ([]) B1)) >>= fun t4 =>
       (run_ratchetref31_CacheErr (.start width0 t4.2.1)) >>= fun t5 =>
       if (t5.1.1 != (0 : Int)) = true then
         some ((false, ()), ())
       else
         (run_ratchetref31_IsCoherent (.start t4.2.1)) >>= fun t6 =>
         if (!t6.1.1) = true then
           some ((false, ()), ())
         else
           run_ratchetlaw31_MachineCoherent (.p522831 width0 rules1 last8 i9 t2.1.1 B0_0 B0_1 B0_2 B0_3 t4.2.1)
   else
     some ((true, ()), ())
 | .p522831 width0 rules1 last8 i9 r10 B0_0 B0_1 B0_2 B0_3 B1 =>
   (run_ratchetbase_CopyInts (.start B1)) >>= fun t1 =>
   (run_machine_IsCoherent (.start width0 t1.2.1)) >>= fun t2 =>
   if (t2.1.2.1 != (0 : Int)) = true then
     some ((false, ()), ())
   else
     if (!t2.1.1) = true then
       some ((false, ()), ())
     else
       run_ratchetlaw31_MachineCoherent (.p2091327 width0 rules1 last8 i9 r10 B0_0 B0_1 B0_2 B0_3 B1)
 | .p2091327 width0 rules1 last8 i9 r10 B0_0 B0_1 B0_2 B0_3 B1 =>
   if (!((6 : Int) == (0 : Int))) = true then
     if ((Int.tmod r10 (6 : Int)) == (2 : Int)) = true then
       if (!((6 : Int) == (0 : Int))) = true then
         if (decide ((0 : Int) ≤ (IntKind.wrap .i64 ((2 : Int) + (IntKind.wrap .i64 ((2 : Int) * (IntKind.wrap .i64 (Int.tdiv r10 (6 : Int)))))))) && decide ((IntKind.wrap .i64 ((2 : Int) + (IntKind.wrap .i64 ((2 : Int) * (IntKind.wrap .i64 (Int.tdiv r10 (6 : Int))))))) < (List.length B1 : Int))) = true then
           (idx B1 (IntKind.wrap .i64 ((2 : Int) + (IntKind.wrap .i64 ((2 : Int) * (IntKind.wrap .i64 (Int.tdiv r10 (6 : Int)))))))) >>= fun t1 =>
           run_ratchetlaw31_MachineCoherent (.p4182655 width0 rules1 t1 i9 B0_0 B0_1 B0_2 B0_3 B1)
         else none
       else none
     else
       run_ratchetlaw31_MachineCoherent (.p4182655 width0 rules1 last8 i9 B0_0 B0_1 B0_2 B0_3 B1)
   else none
 | .p4182655 width0 rules1 last8 i9 B0_0 B0_1 B0_2 B0_3 B1 =>
   run_ratchetlaw31_MachineCoherent (.p66922484 width0 rules1 last8 i9 (0 : Int) B0_0 B0_1 B0_2 B0_3 B1)
 | .p66922484 width0 rules1 last8 i9 core13 B0_0 B0_1 B0_2 B0_3 B1 =>
   if (decide (core13 < (2 : Int))) = true then
     if (decide ((0 : Int) ≤ (IntKind.wrap .i64 ((1 : Int) + (IntKind.wrap .i64 ((2 : Int) * core13))))) && decide ((IntKind.wrap .i64 ((1 : Int) + (IntKind.wrap .i64 ((2 : Int) * core13)))) < (List.length B1 : Int))) = true then
       (idx B1 (IntKind.wrap .i64 ((1 : Int) + (IntKind.wrap .i64 ((2 : Int) * core13))))) >>= fun t1 =>
       if (t1 != (0 : Int)) = true then
         if (decide ((0 : Int) ≤ (IntKind.wrap .i64 ((2 : Int) + (IntKind.wrap .i64 ((2 : Int) * core13))))) && decide ((IntKind.wrap .i64 ((2 : Int) + (IntKind.wrap .i64 ((2 : Int) * core13)))) < (List.length B1 : Int))) = true then
           (idx B1 (IntKind.wrap .i64 ((2 : Int) + (IntKind.wrap .i64 ((2 : Int) * core13))))) >>= fun t2 =>
           if (t2 != last8) = true then
             some ((false, ()), ())
           else
             run_ratchetlaw31_MachineCoherent (.p66922484 width0 rules1 last8 i9 (IntKind.wrap .i64 (core13 + (1 : Int))) B0_0 B0_1 B0_2 B0_3 B1)
         else none
       else
         run_ratchetlaw31_MachineCoherent (.p66922484 width0 rules1 last8 i9 (IntKind.wrap .i64 (core13 + (1 : Int))) B0_0 B0_1 B0_2 B0_3 B1)
     else none
   else
     if (decide ((0 : Int) ≤ (1 : Int)) && decide ((1 : Int) < (List.length B1 : Int))) = true then
       (idx B1 (1 : Int)) >>= fun t3 =>
       if (t3 != (2 : Int)) = true then
         if (decide ((0 : Int) ≤ (3 : Int)) && decide ((3 : Int) < (List.length B1 : Int))) = true then
           (idx B1 (3 : Int)) >>= fun t4 =>
           if (t4 != (2 : Int)) = true then
             if (decide ((0 : Int) ≤ (0 : Int)) && decide ((0 : Int) < (List.length B1 : Int))) = true then
               (idx B1 (0 : Int)) >>= fun t5 =>
               if (t5 != last8) = true then
                 some ((false, ()), ())
               else
                 run_ratchetlaw31_MachineCoherent (.p4084 width0 rules1 last8 (IntKind.wrap .i64 (i9 + (1 : Int))) B0_0 B0_1 B0_2 B0_3 B1)
             else none
           else
             run_ratchetlaw31_MachineCoherent (.p4084 width0 rules1 last8 (IntKind.wrap .i64 (i9 + (1 : Int))) B0_0 B0_1 B0_2 B0_3 B1)
         else none
       else
         run_ratchetlaw31_MachineCoherent (.p4084 width0 rules1 last8 (IntKind.wrap .i64 (i9 + (1 : Int))) B0_0 B0_1 B0_2 B0_3 B1)
     else none
  partial_fixpoint
noncomputable def tab_ratchetlaw31_MachineCoherent : List (Plc E P_ratchetlaw31_MachineCoherent) := [⟨15, [true, true, true], { slots := [0, 1], rows := [], flat := [], keep := 0 }, (Int × ((List Int) × Unit)), Unit, (RdL.cons (Rd.int .i64) (RdL.cons (Rd.sl 3 false) RdL.nil)), RdBL.nil, fun a b => .p15 a.1 a.2.1⟩,
  ⟨63, [true, true, true, true, true], { slots := [0, 1, 5], rows := [], flat := [], keep := 0 }, (Int × ((List Int) × (Unit × Unit))), ((ByteArray × (Unit × ((List api_Element) × ((List api_Node) × ((List api_Rule) × (Unit × (Unit × Unit))))))) × Unit), (RdL.cons (Rd.int .i64) (RdL.cons (Rd.sl 3 false) (RdL.cons (Rd.bp 0 0) RdL.nil))), (RdBL.cons (RdB.var 75 (RdL.cons Rd.str (RdL.cons Rd.nl (RdL.cons (Rd.sl 82 false) (RdL.cons (Rd.sl 208 false) (RdL.cons (Rd.sl 85 false) (RdL.cons Rd.nl (RdL.cons Rd.nl RdL.nil)))))))) RdBL.nil), fun a b => .p63 a.1 a.2.1 b.1.1 b.1.2.2.1 b.1.2.2.2.1 b.1.2.2.2.2.1⟩,
  ⟨4084, [false, false, true, false, true, true, true, true, true, true, true], { slots := [0, 1, 5, 7, 8, 9], rows := [], flat := [], keep := 0 }, (Int × ((List Int) × (Unit × (Unit × (Int × (Int × Unit)))))), ((ByteArray × (Unit × ((List api_Element) × ((List api_Node) × ((List api_Rule) × (Unit × (Unit × Unit))))))) × ((List Int) × Unit)), (RdL.cons (Rd.int .i64) (RdL.cons (Rd.sl 3 false) (RdL.cons (Rd.bp 0 0) (RdL.cons (Rd.rw 1) (RdL.cons (Rd.int .i64) (RdL.cons (Rd.int .i64) RdL.nil)))))), (RdBL.cons (RdB.var 75 (RdL.cons Rd.str (RdL.cons Rd.nl (RdL.cons (Rd.sl 82 false) (RdL.cons (Rd.sl 208 false) (RdL.cons (Rd.sl 85 false) (RdL.cons Rd.nl (RdL.cons Rd.nl RdL.nil)))))))) (RdBL.cons (RdB.row 3 true) RdBL.nil)), fun a b => .p4084 a.1 a.2.1 a.2.2.2.2.1 a.2.2.2.2.2.1 b.1.1 b.1.2.2.1 b.1.2.2.2.1 b.1.2.2.2.2.1 b.2.1⟩,
  ⟨522831, [true, true, true, true, false, false, true, false, false, true, false, true, true, true, true, true, true, true], { slots := [0, 1, 5, 7, 8, 9, 10], rows := [], flat := [], keep := 0 }, (Int × ((List Int) × (Unit × (Unit × (Int × (Int × (Int × Unit))))))), ((ByteArray × (Unit × ((List api_Element) × ((List api_Node) × ((List api_Rule) × (Unit × (Unit × Unit))))))) × ((List Int) × Unit)), (RdL.cons (Rd.int .i64) (RdL.cons (Rd.sl 3 false) (RdL.cons (Rd.bp 0 0) (RdL.cons (Rd.rw 1) (RdL.cons (Rd.int .i64) (RdL.cons (Rd.int .i64) (RdL.cons (Rd.int .i64) RdL.nil))))))), (RdBL.cons (RdB.var 75 (RdL.cons Rd.str (RdL.cons Rd.nl (RdL.cons (Rd.sl 82 false) (RdL.cons (Rd.sl 208 false) (RdL.cons (Rd.sl 85 false) (RdL.cons Rd.nl (RdL.cons Rd.nl RdL.nil)))))))) (RdBL.cons (RdB.row 3 true) RdBL.nil)), fun a b => .p522831 a.1 a.2.1 a.2.2.2.2.1 a.2.2.2.2.2.1 a.2.2.2.2.2.2.1 b.1.1 b.1.2.2.1 b.1.2.2.2.1 b.1.2.2.2.2.1 b.2.1⟩,
  ⟨2091327, [true, true, true, true, true, true, false, false, true, false, false, true, false, true, true, true, true, true, true, true], { slots := [0, 1, 5, 7, 8, 9, 10], rows := [], flat := [], keep := 0 }, (Int × ((List Int) × (Unit × (Unit × (Int × (Int × (Int × Unit))))))), ((ByteArray × (Unit × ((List api_Element) × ((List api_Node) × ((List api_Rule) × (Unit × (Unit × Unit))))))) × ((List Int) × Unit)), (RdL.cons (Rd.int .i64) (RdL.cons (Rd.sl 3 false) (RdL.cons (Rd.bp 0 0) (RdL.cons (Rd.rw 1) (RdL.cons (Rd.int .i64) (RdL.cons (Rd.int .i64) (RdL.cons (Rd.int .i64) RdL.nil))))))), (RdBL.cons (RdB.var 75 (RdL.cons Rd.str (RdL.cons Rd.nl (RdL.cons (Rd.sl 82 false) (RdL.cons (Rd.sl 208 false) (RdL.cons (Rd.sl 85 false) (RdL.cons Rd.nl (RdL.cons Rd.nl RdL.nil)))))))) (RdBL.cons (RdB.row 3 true) RdBL.nil)), fun a b => .p2091327 a.1 a.2.1 a.2.2.2.2.1 a.2.2.2.2.2.1 a.2.2.2.2.2.2.1 b.1.1 b.1.2.2.1 b.1.2.2.2.1 b.1.2.2.2.2.1 b.2.1⟩,
  ⟨4182655, [true, true, true, true, true, true, true, false, false, true, false, false, true, false, true, true, true, true, true, true, true], { slots := [0, 1, 5, 7, 8, 9], rows := [], flat := [], keep := 0 }, (Int × ((List Int) × (Unit × (Unit × (Int × (Int × Unit)))))), ((ByteArray × (Unit × ((List api_Element) × ((List api_Node) × ((List api_Rule) × (Unit × (Unit × Unit))))))) × ((List Int) × Unit)), (RdL.cons (Rd.int .i64) (RdL.cons (Rd.sl 3 false) (RdL.cons (Rd.bp 0 0) (RdL.cons (Rd.rw 1) (RdL.cons (Rd.int .i64) (RdL.cons (Rd.int .i64) RdL.nil)))))), (RdBL.cons (RdB.var 75 (RdL.cons Rd.str (RdL.cons Rd.nl (RdL.cons (Rd.sl 82 false) (RdL.cons (Rd.sl 208 false) (RdL.cons (Rd.sl 85 false) (RdL.cons Rd.nl (RdL.cons Rd.nl RdL.nil)))))))) (RdBL.cons (RdB.row 3 true) RdBL.nil)), fun a b => .p4182655 a.1 a.2.1 a.2.2.2.2.1 a.2.2.2.2.2.1 b.1.1 b.1.2.2.1 b.1.2.2.2.1 b.1.2.2.2.2.1 b.2.1⟩,
  ⟨66922484, [false, false, true, false, true, true, true, true, true, true, true, false, false, true, false, false, true, false, true, true, true, true, true, true, true], { slots := [0, 1, 5, 7, 8, 9, 13], rows := [], flat := [], keep := 0 }, (Int × ((List Int) × (Unit × (Unit × (Int × (Int × (Int × Unit))))))), ((ByteArray × (Unit × ((List api_Element) × ((List api_Node) × ((List api_Rule) × (Unit × (Unit × Unit))))))) × ((List Int) × Unit)), (RdL.cons (Rd.int .i64) (RdL.cons (Rd.sl 3 false) (RdL.cons (Rd.bp 0 0) (RdL.cons (Rd.rw 1) (RdL.cons (Rd.int .i64) (RdL.cons (Rd.int .i64) (RdL.cons (Rd.int .i64) RdL.nil))))))), (RdBL.cons (RdB.var 75 (RdL.cons Rd.str (RdL.cons Rd.nl (RdL.cons (Rd.sl 82 false) (RdL.cons (Rd.sl 208 false) (RdL.cons (Rd.sl 85 false) (RdL.cons Rd.nl (RdL.cons Rd.nl RdL.nil)))))))) (RdBL.cons (RdB.row 3 true) RdBL.nil)), fun a b => .p66922484 a.1 a.2.1 a.2.2.2.2.1 a.2.2.2.2.2.1 a.2.2.2.2.2.2.1 b.1.1 b.1.2.2.1 b.1.2.2.2.1 b.1.2.2.2.2.1 b.2.1⟩]
theorem tab_ratchetlaw31_MachineCoherent_ok : All (PlcOk 146 0 place_ratchetlaw31_MachineCoherent st_ratchetlaw31_MachineCoherent) tab_ratchetlaw31_MachineCoherent := ⟨⟨rfl, rfl, fun _ _ => rfl, fun _ _ => rfl⟩, ⟨⟨rfl, rfl, fun _ _ => rfl, fun _ _ => rfl⟩, ⟨⟨rfl, rfl, fun _ _ => rfl, fun _ _ => rfl⟩, ⟨⟨rfl, rfl, fun _ _ => rfl, fun _ _ => rfl⟩, ⟨⟨rfl, rfl, fun _ _ => rfl, fun _ _ => rfl⟩, ⟨⟨rfl, rfl, fun _ _ => rfl, fun _ _ => rfl⟩, ⟨⟨rfl, rfl, fun _ _ => rfl, fun _ _ => rfl⟩, trivial⟩⟩⟩⟩⟩⟩⟩
noncomputable def code_ratchetlaw31_MachineCoherent : Code := Tryz.f7.body.getD .skip
noncomputable def spec_ratchetlaw31_MachineCoherent : Spec E.S := (Con.add con_machine_IsCoherent (Con.add con_ratchetbase_CopyInts (Con.add con_ratchetref31_IsCoherent (Con.add con_ratchetref31_CacheErr (Con.add con_ratchetbase_Happened (Con.add con_ratchetbase_Enabled (Con.add con_ratchetbase_Mod (Con.add con_ratchetbase_Resets (Con.add con_ratchetbase_IsDesign (Con.add con_machine_CachesOf (Con.add con_ratchetref31_WidthErr (Con.add con_ratchetlaw31_awake noSpec))))))))))))
theorem spec_ratchetlaw31_MachineCoherent_ok : SpecOk E spec_ratchetlaw31_MachineCoherent := (Con.add_ok con_machine_IsCoherent_ok (Con.add_ok con_ratchetbase_CopyInts_ok (Con.add_ok con_ratchetref31_IsCoherent_ok (Con.add_ok con_ratchetref31_CacheErr_ok (Con.add_ok con_ratchetbase_Happened_ok (Con.add_ok con_ratchetbase_Enabled_ok (Con.add_ok con_ratchetbase_Mod_ok (Con.add_ok con_ratchetbase_Resets_ok (Con.add_ok con_ratchetbase_IsDesign_ok (Con.add_ok con_machine_CachesOf_ok (Con.add_ok con_ratchetref31_WidthErr_ok (Con.add_ok con_ratchetlaw31_awake_ok noSpec_ok))))))))))))
theorem good_ratchetlaw31_MachineCoherent : ∀ pt r, run_ratchetlaw31_MachineCoherent pt = some r → Good E Tryz.f7 code_ratchetlaw31_MachineCoherent 0 (res_ratchetlaw31_MachineCoherent.av r) (res_ratchetlaw31_MachineCoherent.bx r) (place_ratchetlaw31_MachineCoherent pt) (st_ratchetlaw31_MachineCoherent pt) := by
  refine run_ratchetlaw31_MachineCoherent.partial_correctness (fun pt r => Good E Tryz.f7 code_ratchetlaw31_MachineCoherent 0 (res_ratchetlaw31_MachineCoherent.av r) (res_ratchetlaw31_MachineCoherent.bx r) (place_ratchetlaw31_MachineCoherent pt) (st_ratchetlaw31_MachineCoherent pt)) ?_
  intro run' ih pt r hr
  cases pt <;> exact fn_step (spec := spec_ratchetlaw31_MachineCoherent) (wr := (mkWr [] [])) (l := tab_ratchetlaw31_MachineCoherent) (z := 146) (p := res_ratchetlaw31_MachineCoherent) E_ok tab_ratchetlaw31_MachineCoherent_ok.mem rfl spec_ratchetlaw31_MachineCoherent_ok ih (Eq.trans (by kernel_rfl) hr)
noncomputable def con_ratchetlaw31_MachineCoherent : Con E := ⟨7, (Int × ((List Int) × Unit)), Unit, (RwL.cons (Rd.int .i64).w (RwL.cons (Rw.sl 3) RwL.nil)), RdBL.nil, 0, R_ratchetlaw31_MachineCoherent, fun a b => run_ratchetlaw31_MachineCoherent (.start a.1 a.2.1), res_ratchetlaw31_MachineCoherent.av, res_ratchetlaw31_MachineCoherent.bx⟩
theorem con_ratchetlaw31_MachineCoherent_ok : con_ratchetlaw31_MachineCoherent.Ok := fun a b r h => fn_ok (fn := Tryz.f7) (code := code_ratchetlaw31_MachineCoherent) E_ok (by kernel_rfl) (by kernel_rfl) (by kernel_rfl) (Nat.le_of_ble_eq_true rfl) (good_ratchetlaw31_MachineCoherent (.start a.1 a.2.1) r h)

end Go.Proofs.YtjededkgblbamaaGreatDoor.Ev.F
