/- PRINTED by wip/gen/evp.py: what the functions come to. -/
import Derived.Test.YtjededkgblbamaaGreatDoorTF1
set_option linter.unusedVariables false
set_option maxRecDepth 100000
namespace Go.Proofs.YtjededkgblbamaaGreatDoor.Ev.F
open Go.Proofs Go.Proofs.YtjededkgblbamaaGreatDoor.Ev

/-! ### ratchet/ratchetlaw31.MachineTexts -/
inductive P_ratchetlaw31_MachineTexts where
 | start (l0 : (List api_MachineCode)) (s1 : ByteArray)
 | p15 (l0 : (List api_MachineCode)) (s1 : ByteArray)
 | p255 (l0 : (List api_MachineCode)) (a8 : ByteArray) (f9 : Int)
 | p1023 (l0 : (List api_MachineCode)) (a8 : ByteArray)
noncomputable def place_ratchetlaw31_MachineTexts : P_ratchetlaw31_MachineTexts → List Bool
 | .start .. => []
 | .p15 .. => [true, true, true]
 | .p255 .. => [true, true, true, true, true, true, true]
 | .p1023 .. => [true, true, true, true, true, true, true, true, true]
noncomputable def st_ratchetlaw31_MachineTexts : P_ratchetlaw31_MachineTexts → St E.S
 | .start l0 s1 => st0 107 [.sl 40 l0 false, .v (.string s1)] []
 | .p15 l0 s1 => mkSt 107 [0, 1] [.sl 40 l0 false, .v (.string s1)] []
 | .p255 l0 a8 f9 => mkSt 107 [0, 8, 9] [.sl 40 l0 false, .v (.string a8), .v (.int .i64 f9)] []
 | .p1023 l0 a8 => mkSt 107 [0, 8] [.sl 40 l0 false, .v (.string a8)] []
abbrev R_ratchetlaw31_MachineTexts : Type := ((Bool × Unit) × Unit)
noncomputable def res_ratchetlaw31_MachineTexts : Res E (Bool × Unit) Unit := { rows := [], flat := [], keep := 0, done := [0], rl := (RdL.cons Rd.bool RdL.nil), rb := RdBL.nil }
noncomputable def run_ratchetlaw31_MachineTexts : P_ratchetlaw31_MachineTexts → Option R_ratchetlaw31_MachineTexts
 | .start l0 s1 =>
   (some () : Option Unit) >>= fun t1 =>
   if (!true) = true then
     some ((false, ()), ())
   else
     if (decide ((List.length l0 : Int) > (20 : Int))) = true then
       some ((true, ()), ())
     else
       if (decide ((s1.size : Int) > (400 : Int))) = true then
         if (decide ((s1.size : Int) ≤ (60000 : Int))) = true then
           some ((true, ()), ())
         else
           if (decide ((s1.size : Int) > (60010 : Int))) = true then
             some ((true, ()), ())
           else
             run_ratchetlaw31_MachineTexts (.p15 l0 s1)
       else
         if (decide ((s1.size : Int) > (60010 : Int))) = true then
           some ((true, ()), ())
         else
           run_ratchetlaw31_MachineTexts (.p15 l0 s1)
 | .p15 l0 s1 =>
   (run_machine_Assembled (.start s1)) >>= fun t1 =>
   (run_ratchetref31_CopyProgram (.start l0)) >>= fun t2 =>
   (run_machine_TextOf (.start t2.2.1)) >>= fun t3 =>
   (run_ratchetref31_Assembled (.start s1)) >>= fun t4 =>
   if (t1.1.2.2.1 != t4.1.2.2.1) = true then
     some ((false, ()), ())
   else
     if (t1.1.2.1 != t4.1.2.1) = true then
       some ((false, ()), ())
     else
       (run_ratchetref31_SameProgram (.start t1.2.1 t4.2.1)) >>= fun t5 =>
       if (!t5.1.1) = true then
         some ((false, ()), ())
       else
         run_ratchetlaw31_MachineTexts (.p255 l0 t3.1.1 t3.1.2.1)
 | .p255 l0 a8 f9 =>
   (run_ratchetref31_ProgramErr (.start l0)) >>= fun t1 =>
   if (t1.1.1 != (0 : Int)) = true then
     if (f9 == t1.1.1) = true then
       some ((seq a8 (⟨#[]⟩ : ByteArray), ()), ())
     else
       some ((false, ()), ())
   else
     if (f9 != (0 : Int)) = true then
       some ((false, ()), ())
     else
       (run_ratchetref31_Text (.start l0)) >>= fun t2 =>
       if (!(seq a8 t2.1.1)) = true then
         some ((false, ()), ())
       else
         run_ratchetlaw31_MachineTexts (.p1023 l0 a8)
 | .p1023 l0 a8 =>
   if ((List.length l0 : Int) == (0 : Int)) = true then
     some ((true, ()), ())
   else
     (run_machine_Assembled (.start a8)) >>= fun t1 =>
     if (t1.1.2.2.1 == (0 : Int)) = true then
       if (t1.1.2.1 == (0 : Int)) = true then
         (run_ratchetref31_SameProgram (.start t1.2.1 l0)) >>= fun t2 =>
         some ((t2.1.1, ()), ())
       else
         some ((false, ()), ())
     else
       some ((false, ()), ())
  partial_fixpoint
noncomputable def tab_ratchetlaw31_MachineTexts : List (Plc E P_ratchetlaw31_MachineTexts) := [⟨15, [true, true, true], { slots := [0, 1], rows := [], flat := [], keep := 0 }, ((List api_MachineCode) × (ByteArray × Unit)), Unit, (RdL.cons (Rd.sl 40 false) (RdL.cons Rd.str RdL.nil)), RdBL.nil, fun a b => .p15 a.1 a.2.1⟩,
  ⟨255, [true, true, true, true, true, true, true], { slots := [0, 8, 9], rows := [], flat := [], keep := 0 }, ((List api_MachineCode) × (ByteArray × (Int × Unit))), Unit, (RdL.cons (Rd.sl 40 false) (RdL.cons Rd.str (RdL.cons (Rd.int .i64) RdL.nil))), RdBL.nil, fun a b => .p255 a.1 a.2.1 a.2.2.1⟩,
  ⟨1023, [true, true, true, true, true, true, true, true, true], { slots := [0, 8], rows := [], flat := [], keep := 0 }, ((List api_MachineCode) × (ByteArray × Unit)), Unit, (RdL.cons (Rd.sl 40 false) (RdL.cons Rd.str RdL.nil)), RdBL.nil, fun a b => .p1023 a.1 a.2.1⟩]
theorem tab_ratchetlaw31_MachineTexts_ok : All (PlcOk 107 0 place_ratchetlaw31_MachineTexts st_ratchetlaw31_MachineTexts) tab_ratchetlaw31_MachineTexts := ⟨⟨rfl, rfl, fun _ _ => rfl, fun _ _ => rfl⟩, ⟨⟨rfl, rfl, fun _ _ => rfl, fun _ _ => rfl⟩, ⟨⟨rfl, rfl, fun _ _ => rfl, fun _ _ => rfl⟩, trivial⟩⟩⟩
noncomputable def code_ratchetlaw31_MachineTexts : Code := Tryz.f8.body.getD .skip
noncomputable def spec_ratchetlaw31_MachineTexts : Spec E.S := (Con.add con_ratchetref31_Text (Con.add con_ratchetref31_ProgramErr (Con.add con_ratchetref31_SameProgram (Con.add con_ratchetref31_Assembled (Con.add con_machine_TextOf (Con.add con_ratchetref31_CopyProgram (Con.add con_machine_Assembled (Con.add con_ratchetlaw31_awake noSpec))))))))
theorem spec_ratchetlaw31_MachineTexts_ok : SpecOk E spec_ratchetlaw31_MachineTexts := (Con.add_ok con_ratchetref31_Text_ok (Con.add_ok con_ratchetref31_ProgramErr_ok (Con.add_ok con_ratchetref31_SameProgram_ok (Con.add_ok con_ratchetref31_Assembled_ok (Con.add_ok con_machine_TextOf_ok (Con.add_ok con_ratchetref31_CopyProgram_ok (Con.add_ok con_machine_Assembled_ok (Con.add_ok con_ratchetlaw31_awake_ok noSpec_ok))))))))
theorem good_ratchetlaw31_MachineTexts : ∀ pt r, run_ratchetlaw31_MachineTexts pt = some r → Good E Tryz.f8 code_ratchetlaw31_MachineTexts 0 (res_ratchetlaw31_MachineTexts.av r) (res_ratchetlaw31_MachineTexts.bx r) (place_ratchetlaw31_MachineTexts pt) (st_ratchetlaw31_MachineTexts pt) := by
  refine run_ratchetlaw31_MachineTexts.partial_correctness (fun pt r => Good E Tryz.f8 code_ratchetlaw31_MachineTexts 0 (res_ratchetlaw31_MachineTexts.av r) (res_ratchetlaw31_MachineTexts.bx r) (place_ratchetlaw31_MachineTexts pt) (st_ratchetlaw31_MachineTexts pt)) ?_
  intro run' ih pt r hr
  cases pt <;> exact fn_step (spec := spec_ratchetlaw31_MachineTexts) (wr := (mkWr [] [])) (l := tab_ratchetlaw31_MachineTexts) (z := 107) (p := res_ratchetlaw31_MachineTexts) E_ok tab_ratchetlaw31_MachineTexts_ok.mem rfl spec_ratchetlaw31_MachineTexts_ok ih (Eq.trans (by kernel_rfl) hr)
noncomputable def con_ratchetlaw31_MachineTexts : Con E := ⟨8, ((List api_MachineCode) × (ByteArray × Unit)), Unit, (RwL.cons (Rw.sl 40) (RwL.cons Rd.str.w RwL.nil)), RdBL.nil, 0, R_ratchetlaw31_MachineTexts, fun a b => run_ratchetlaw31_MachineTexts (.start a.1 a.2.1), res_ratchetlaw31_MachineTexts.av, res_ratchetlaw31_MachineTexts.bx⟩
theorem con_ratchetlaw31_MachineTexts_ok : con_ratchetlaw31_MachineTexts.Ok := fun a b r h => fn_ok (fn := Tryz.f8) (code := code_ratchetlaw31_MachineTexts) E_ok (by kernel_rfl) (by kernel_rfl) (by kernel_rfl) (Nat.le_of_ble_eq_true rfl) (good_ratchetlaw31_MachineTexts (.start a.1 a.2.1) r h)

end Go.Proofs.YtjededkgblbamaaGreatDoor.Ev.F
