/- MachineProcessors: for every input the law returns true, and each argument reads afterwards as it read before. Conditions: the listed package-level variables start as the program lays them (the card ties them to its text). -/
import Derived.Test.YtjededkgblbamaaGreatDoorPLawC
import Derived.Test.YtjededkgblbamaaGreatDoorPPP2
set_option linter.unusedVariables false
namespace Go.Proofs.YtjededkgblbamaaGreatDoor
open Go.Proofs.YtjededkgblbamaaGreatDoor.Ev Go.Proofs.YtjededkgblbamaaGreatDoor.Ev.F Go.RowKit

set_option maxRecDepth 100000 in
theorem machineProcessors_args : ArgsR E [22, 23, 23] con_z91.rl (fun a => (a.1.length ≤ maxLen ∧ ∀ x ∈ a.1, ((Lit.int .i64 x.Op).wf = true) ∧ ((Lit.int .i64 x.A).wf = true) ∧ ((Lit.int .i64 x.B).wf = true) ∧ ((Lit.int .i64 x.N).wf = true) ∧ True) ∧ (a.2.1.length ≤ maxLen ∧ ∀ x ∈ a.2.1, (Lit.int .i64 x).wf = true) ∧ (a.2.2.1.length ≤ maxLen ∧ ∀ x ∈ a.2.2.1, (Lit.int .i64 x).wf = true) ∧ True) := (ArgsR.cons (ArgR.cell Tryz.underlying22 rfl (fun N => (Reads.sl (E := E) (e := 40) Tryz.underlying22 (Nat.le_of_ble_eq_true (by kernel_rfl)) (p := ((Pk.iso (Pk.cons (Pk.int .i64) (Pk.cons (Pk.int .i64) (Pk.cons (Pk.int .i64) (Pk.cons (Pk.int .i64) Pk.unit)))) (fun a => (⟨a.1, a.2.1, a.2.2.1, a.2.2.2.1⟩ : api_MachineCode)) (fun x => (x.Op, x.A, x.B, x.N, ())) (fun _ => rfl)) : Pk S api_MachineCode)) (fun _ => by kernel_rfl) (Reads.iso (f := fun a => (⟨a.1, a.2.1, a.2.2.1, a.2.2.2.1⟩ : api_MachineCode)) (g := fun x => (x.Op, x.A, x.B, x.N, ())) (hfg := fun _ => rfl) (Reads.struct Tryz.underlying40 (by kernel_rfl) (ReadsF.cons rfl (by kernel_rfl) (Reads.int Tryz.underlying3) (ReadsF.cons rfl (by kernel_rfl) (Reads.int Tryz.underlying3) (ReadsF.cons rfl (by kernel_rfl) (Reads.int Tryz.underlying3) (ReadsF.cons rfl (by kernel_rfl) (Reads.int Tryz.underlying3) ReadsF.nil)))))))) (fun _ => rfl)) (ArgsR.cons (ArgR.cell Tryz.underlying23 rfl (fun N => (Reads.sl (E := E) (e := 3) Tryz.underlying23 (Nat.le_of_ble_eq_true (by kernel_rfl)) (p := ((Pk.int .i64) : Pk S Int)) (fun _ => by kernel_rfl) (Reads.int Tryz.underlying3))) (fun _ => rfl)) (ArgsR.cons (ArgR.cell Tryz.underlying23 rfl (fun N => (Reads.sl (E := E) (e := 3) Tryz.underlying23 (Nat.le_of_ble_eq_true (by kernel_rfl)) (p := ((Pk.int .i64) : Pk S Int)) (fun _ => by kernel_rfl) (Reads.int Tryz.underlying3))) (fun _ => rfl)) ArgsR.nil)))
set_option maxRecDepth 100000 in
theorem machineProcessors_lifted (os : Os) (started : os.Started) (H : Type) (enc : TypeId × Value → H) :
    ReturnsInHanded {} Tryz.checked os 10 .any (fun w args => (Rows.machineProcessorsSpec.pre enc Tryz.prog Tryz.f10 [] false w args ∧ laidMet Tryz.prog laid w) ∧ sizedMet enc Tryz.prog Tryz.f10 (OpenSpec.ofChange Rows.machineProcessorsSpec) false w args)
      (Rows.machineProcessorsSpec.post enc Tryz.prog Tryz.f10 false true false false) := by
  refine returnsInHanded_of_change_and (C := Tryz.checked) (X := fun w _ => laidMet Tryz.prog laid w) (fun _ _ _ hh h => h.of_heap hh) own started (by kernel_rfl) Tryz.func10
    (ChangeSpec.witness_at (enc := enc) (C := Tryz.checked) (os := os) (X := fun w _ => laidMet Tryz.prog laid w) false (laidWorld os) #[.slice none 0 0, .slice none 0 0, .slice none 0 0] 8 rfl (by kernel_rfl) (by kernel_rfl) (by kernel_rfl) (by kernel_rfl) (by kernel_rfl) (laidWorld_met os _)) ?_
  intro W base args ds gs before hval hW _ _ hL _
  exact law_calls (E := E) (s := Rows.machineProcessorsSpec) (fn := Tryz.f10) (by kernel_rfl) (parsOk (by kernel_rfl)) (tb := 4) rfl Tryz.underlying4 rfl
    (fun ds h => by match ds, h with | [d0, d1, d2], _ => rfl) con_z91 con_z91_ok (fn0 := Tryz.f10) (fun fn' h => by obtain rfl := Option.some.inj (Tryz.func10.symm.trans h); exact ⟨by kernel_rfl, by kernel_rfl⟩) Tryz.func10
    machineProcessors_args (fun W h => glob_rep h) (fun W h => held_ok h) () rfl (fun a h => ⟨_, (fun a0 a1 a2 _ _ _ => processors_law a0 a1 a2) (a.1) (a.2.1) (a.2.2.1) h.1 h.2.1 h.2.2.1, rfl⟩) W base args ds gs before hval hW hL
theorem machineProcessors_row : Rows.MachineProcessorsSaid :=
  OpenClaim.holds_of_wide 10 Tryz.f10 rfl rfl rfl rfl rfl rfl rfl ⟨rfl, rfl, rfl, rfl, rfl⟩ rfl rfl rfl rfl rfl (by kernel_rfl) Tryz.func10 (by kernel_rfl)
    (of_decide_eq_true (by kernel_rfl)) (by unfold Func.isWrapper; rw [if_neg (of_decide_eq_false (by kernel_rfl))]; exact ⟨rfl, rfl⟩)
    (fun os started H enc _ => machineProcessors_lifted os started H enc)
/-- MachineProcessors: for every input the law returns true, and its arguments read as they did. -/
theorem machineProcessors_holds : Rows.MachineProcessorsCardSaid :=
  Claim7.holds_tied_plain_at .later [] [.data, .data, .data, .data, .sentinel, .sentinel, .widerDeep, .pinned] true (true, "db12460b223b7c4ebe0ba5f5d64ceed555a49c2c0235d588933f6d8e50fd59a8") true
    machineProcessors_row (fun _ h => by cases h) (by kernel_rfl) (fun _ h => by cases h) machineProcessors_row_tie rfl ⟨rfl, rfl⟩ (by kernel_rfl) rfl
    (fun f fn hf hfn => by
      obtain rfl : f = 10 := Option.some.inj ((show Tryz.prog.funcNamed "ratchet/ratchetlaw31.MachineProcessors" = some 10 by kernel_rfl).symm.trans hf) |>.symm
      obtain rfl : fn = Tryz.f10 := (Option.some.inj (Tryz.func10.symm.trans hfn)).symm
      exact ⟨by kernel_rfl, noStandIn (by kernel_rfl)⟩)
    (by kernel_rfl)
#print axioms machineProcessors_holds
end Go.Proofs.YtjededkgblbamaaGreatDoor
