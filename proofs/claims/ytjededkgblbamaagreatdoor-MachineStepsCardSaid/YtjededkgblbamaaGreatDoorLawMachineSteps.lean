/- MachineSteps: for every input the law returns true, and each argument reads afterwards as it read before. Conditions: the listed package-level variables start as the program lays them (the card ties them to its text). -/
import Derived.Test.YtjededkgblbamaaGreatDoorLawC
import Derived.Test.YtjededkgblbamaaGreatDoorPSteps
set_option linter.unusedVariables false
namespace Go.Proofs.YtjededkgblbamaaGreatDoor
open Go.Proofs.YtjededkgblbamaaGreatDoor.Ev Go.Proofs.YtjededkgblbamaaGreatDoor.Ev.F Go.RowKit

set_option maxRecDepth 100000 in
theorem machineSteps_args : ArgsR E [22, 27, 3] con_ratchetlaw31_MachineSteps.rl (fun a => (a.1.length ≤ maxLen ∧ ∀ x ∈ a.1, ((Lit.int .i64 x.Op).wf = true) ∧ ((Lit.int .i64 x.A).wf = true) ∧ ((Lit.int .i64 x.B).wf = true) ∧ ((Lit.int .i64 x.N).wf = true) ∧ True) ∧ (((Lit.int .i64 ((⟨a.2.1.1, a.2.1.2.1, a.2.1.2.2.1, a.2.1.2.2.2.1⟩ : api_MachineState).Pc)).wf = true) ∧ ((Lit.int .i64 ((⟨a.2.1.1, a.2.1.2.1, a.2.1.2.2.1, a.2.1.2.2.2.1⟩ : api_MachineState).Halted)).wf = true) ∧ (((⟨a.2.1.1, a.2.1.2.1, a.2.1.2.2.1, a.2.1.2.2.2.1⟩ : api_MachineState).Registers).length ≤ maxLen ∧ ∀ x ∈ (⟨a.2.1.1, a.2.1.2.1, a.2.1.2.2.1, a.2.1.2.2.2.1⟩ : api_MachineState).Registers, (Lit.int .i64 x).wf = true) ∧ (((⟨a.2.1.1, a.2.1.2.1, a.2.1.2.2.1, a.2.1.2.2.2.1⟩ : api_MachineState).Memory).length ≤ maxLen ∧ ∀ x ∈ (⟨a.2.1.1, a.2.1.2.1, a.2.1.2.2.1, a.2.1.2.2.2.1⟩ : api_MachineState).Memory, (Lit.int .i64 x).wf = true) ∧ True) ∧ ((Lit.int .i64 a.2.2.1).wf = true) ∧ True) := (ArgsR.cons (ArgR.cell Tryz.underlying22 rfl (fun N => (Reads.sl (E := E) (e := 40) Tryz.underlying22 (Nat.le_of_ble_eq_true (by kernel_rfl)) (p := ((Pk.iso (Pk.cons (Pk.int .i64) (Pk.cons (Pk.int .i64) (Pk.cons (Pk.int .i64) (Pk.cons (Pk.int .i64) Pk.unit)))) (fun a => (⟨a.1, a.2.1, a.2.2.1, a.2.2.2.1⟩ : api_MachineCode)) (fun x => (x.Op, x.A, x.B, x.N, ())) (fun _ => rfl)) : Pk S api_MachineCode)) (fun _ => by kernel_rfl) (Reads.iso (f := fun a => (⟨a.1, a.2.1, a.2.2.1, a.2.2.2.1⟩ : api_MachineCode)) (g := fun x => (x.Op, x.A, x.B, x.N, ())) (hfg := fun _ => rfl) (Reads.struct Tryz.underlying40 (by kernel_rfl) (ReadsF.cons rfl (by kernel_rfl) (Reads.int Tryz.underlying3) (ReadsF.cons rfl (by kernel_rfl) (Reads.int Tryz.underlying3) (ReadsF.cons rfl (by kernel_rfl) (Reads.int Tryz.underlying3) (ReadsF.cons rfl (by kernel_rfl) (Reads.int Tryz.underlying3) ReadsF.nil)))))))) (fun _ => rfl)) (ArgsR.cons (ArgR.agg Tryz.underlying27 rfl (fun x => (x.Pc, x.Halted, x.Registers, x.Memory, ())) (fun a => (⟨a.1, a.2.1, a.2.2.1, a.2.2.2.1⟩ : api_MachineState)) (fun N => (Reads.iso (f := fun a => (⟨a.1, a.2.1, a.2.2.1, a.2.2.2.1⟩ : api_MachineState)) (g := fun x => (x.Pc, x.Halted, x.Registers, x.Memory, ())) (hfg := fun _ => rfl) (Reads.struct Tryz.underlying27 (by kernel_rfl) (ReadsF.cons rfl (by kernel_rfl) (Reads.int Tryz.underlying3) (ReadsF.cons rfl (by kernel_rfl) (Reads.int Tryz.underlying3) (ReadsF.cons rfl (by kernel_rfl) (Reads.sl (E := E) (e := 3) Tryz.underlying23 (Nat.le_of_ble_eq_true (by kernel_rfl)) (p := ((Pk.int .i64) : Pk S Int)) (fun _ => by kernel_rfl) (Reads.int Tryz.underlying3)) (ReadsF.cons rfl (by kernel_rfl) (Reads.sl (E := E) (e := 3) Tryz.underlying23 (Nat.le_of_ble_eq_true (by kernel_rfl)) (p := ((Pk.int .i64) : Pk S Int)) (fun _ => by kernel_rfl) (Reads.int Tryz.underlying3)) ReadsF.nil))))))) (fun _ => rfl) (fun _ => rfl)) (ArgsR.cons (ArgR.cell Tryz.underlying3 rfl (fun N => (Reads.int Tryz.underlying3)) (fun _ => rfl)) ArgsR.nil)))
set_option maxRecDepth 100000 in
theorem machineSteps_lifted (os : Os) (started : os.Started) (H : Type) (enc : TypeId × Value → H) :
    ReturnsInHanded {} Tryz.checked os 5 .any (fun w args => (Rows.machineStepsSpec.pre enc Tryz.prog Tryz.f5 [] false w args ∧ laidMet Tryz.prog laid w) ∧ sizedMet enc Tryz.prog Tryz.f5 (OpenSpec.ofChange Rows.machineStepsSpec) false w args)
      (Rows.machineStepsSpec.post enc Tryz.prog Tryz.f5 false true false false) := by
  refine returnsInHanded_of_change_and (C := Tryz.checked) (X := fun w _ => laidMet Tryz.prog laid w) (fun _ _ _ hh h => h.of_heap hh) own started (by kernel_rfl) Tryz.func5
    (ChangeSpec.witness_at (enc := enc) (C := Tryz.checked) (os := os) (X := fun w _ => laidMet Tryz.prog laid w) false (laidWorld os) #[.slice none 0 0, .agg #[.int .i64 0, .int .i64 0, .slice none 0 0, .slice none 0 0], .int .i64 0] 8 rfl (by kernel_rfl) (by kernel_rfl) (by kernel_rfl) (by kernel_rfl) (by kernel_rfl) (laidWorld_met os _)) ?_
  intro W base args ds gs before hval hW _ _ hL _
  exact law_calls (E := E) (s := Rows.machineStepsSpec) (fn := Tryz.f5) (by kernel_rfl) (parsOk (by kernel_rfl)) (tb := 4) rfl Tryz.underlying4 rfl
    (fun ds h => by match ds, h with | [d0, d1, d2], _ => rfl) con_ratchetlaw31_MachineSteps con_ratchetlaw31_MachineSteps_ok (fn0 := Tryz.f5) (fun fn' h => by obtain rfl := Option.some.inj (Tryz.func5.symm.trans h); exact ⟨by kernel_rfl, by kernel_rfl⟩) Tryz.func5
    machineSteps_args (fun W h => glob_rep h) (fun W h => held_ok h) () rfl (fun a h => ⟨_, (fun a0 a1 a2 _ _ _ => steps_law a0 a1 a2) (a.1) (⟨a.2.1.1, a.2.1.2.1, a.2.1.2.2.1, a.2.1.2.2.2.1⟩ : api_MachineState) (a.2.2.1) h.1 h.2.1 h.2.2.1, rfl⟩) W base args ds gs before hval hW hL
theorem machineSteps_row : Rows.MachineStepsSaid :=
  OpenClaim.holds_of_wide 5 Tryz.f5 rfl rfl rfl rfl rfl rfl rfl ⟨rfl, rfl, rfl, rfl, rfl⟩ rfl rfl rfl rfl rfl (by kernel_rfl) Tryz.func5 (by kernel_rfl)
    (of_decide_eq_true (by kernel_rfl)) (by unfold Func.isWrapper; rw [if_neg (of_decide_eq_false (by kernel_rfl))]; exact ⟨rfl, rfl⟩)
    (fun os started H enc _ => machineSteps_lifted os started H enc)
/-- MachineSteps: for every input the law returns true, and its arguments read as they did. -/
theorem machineSteps_holds : Rows.MachineStepsCardSaid :=
  Claim7.holds_tied_plain_at .later [] [.data, .data, .data, .data, .sentinel, .sentinel, .widerDeep, .pinned] true (true, "db12460b223b7c4ebe0ba5f5d64ceed555a49c2c0235d588933f6d8e50fd59a8") true
    machineSteps_row (fun _ h => by cases h) (by kernel_rfl) (fun _ h => by cases h) machineSteps_row_tie rfl ⟨rfl, rfl⟩ (by kernel_rfl) rfl
    (fun f fn hf hfn => by
      obtain rfl : f = 5 := Option.some.inj ((show Tryz.prog.funcNamed "ratchet/ratchetlaw31.MachineSteps" = some 5 by kernel_rfl).symm.trans hf) |>.symm
      obtain rfl : fn = Tryz.f5 := (Option.some.inj (Tryz.func5.symm.trans hfn)).symm
      exact ⟨by kernel_rfl, noStandIn (by kernel_rfl)⟩)
    (by kernel_rfl)
#print axioms machineSteps_holds
end Go.Proofs.YtjededkgblbamaaGreatDoor
