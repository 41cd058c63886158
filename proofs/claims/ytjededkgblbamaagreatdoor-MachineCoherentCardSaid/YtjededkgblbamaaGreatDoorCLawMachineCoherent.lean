/- MachineCoherent: for every input the law returns true, and each argument reads afterwards as it read before. Conditions: the listed package-level variables start as the program lays them (the card ties them to its text). -/
import Derived.Test.YtjededkgblbamaaGreatDoorCLawC
import Derived.Test.YtjededkgblbamaaGreatDoorCPCoh
set_option linter.unusedVariables false
namespace Go.Proofs.YtjededkgblbamaaGreatDoor
open Go.Proofs.YtjededkgblbamaaGreatDoor.Ev Go.Proofs.YtjededkgblbamaaGreatDoor.Ev.F Go.RowKit

set_option maxRecDepth 100000 in
theorem machineCoherent_args : ArgsR E [3, 23] con_ratchetlaw31_MachineCoherent.rl (fun a => ((Lit.int .i64 a.1).wf = true) ∧ (a.2.1.length ≤ maxLen ∧ ∀ x ∈ a.2.1, (Lit.int .i64 x).wf = true) ∧ True) := (ArgsR.cons (ArgR.cell Tryz.underlying3 rfl (fun N => (Reads.int Tryz.underlying3)) (fun _ => rfl)) (ArgsR.cons (ArgR.cell Tryz.underlying23 rfl (fun N => (Reads.sl (E := E) (e := 3) Tryz.underlying23 (Nat.le_of_ble_eq_true (by kernel_rfl)) (p := ((Pk.int .i64) : Pk S Int)) (fun _ => by kernel_rfl) (Reads.int Tryz.underlying3))) (fun _ => rfl)) ArgsR.nil))
set_option maxRecDepth 100000 in
theorem machineCoherent_lifted (os : Os) (started : os.Started) (H : Type) (enc : TypeId × Value → H) :
    ReturnsInHanded {} Tryz.checked os 7 .any (fun w args => (Rows.machineCoherentSpec.pre enc Tryz.prog Tryz.f7 [] false w args ∧ laidMet Tryz.prog laid w) ∧ sizedMet enc Tryz.prog Tryz.f7 (OpenSpec.ofChange Rows.machineCoherentSpec) false w args)
      (Rows.machineCoherentSpec.post enc Tryz.prog Tryz.f7 false true false false) := by
  refine returnsInHanded_of_change_and (C := Tryz.checked) (X := fun w _ => laidMet Tryz.prog laid w) (fun _ _ _ hh h => h.of_heap hh) own started (by kernel_rfl) Tryz.func7
    (ChangeSpec.witness_at (enc := enc) (C := Tryz.checked) (os := os) (X := fun w _ => laidMet Tryz.prog laid w) false (laidWorld os) #[.int .i64 0, .slice none 0 0] 8 rfl (by kernel_rfl) (by kernel_rfl) (by kernel_rfl) (by kernel_rfl) (by kernel_rfl) (laidWorld_met os _)) ?_
  intro W base args ds gs before hval hW _ _ hL _
  exact law_calls (E := E) (s := Rows.machineCoherentSpec) (fn := Tryz.f7) (by kernel_rfl) (parsOk (by kernel_rfl)) (tb := 4) rfl Tryz.underlying4 rfl
    (fun ds h => by match ds, h with | [d0, d1], _ => rfl) con_ratchetlaw31_MachineCoherent con_ratchetlaw31_MachineCoherent_ok (fn0 := Tryz.f7) (fun fn' h => by obtain rfl := Option.some.inj (Tryz.func7.symm.trans h); exact ⟨by kernel_rfl, by kernel_rfl⟩) Tryz.func7
    machineCoherent_args (fun W h => glob_rep h) (fun W h => held_ok h) () rfl (fun a h => ⟨_, (fun a0 a1 _ h => coherent_law2 a0 a1 h) (a.1) (a.2.1) h.1 h.2.1, rfl⟩) W base args ds gs before hval hW hL
theorem machineCoherent_row : Rows.MachineCoherentSaid :=
  OpenClaim.holds_of_wide 7 Tryz.f7 rfl rfl rfl rfl rfl rfl rfl ⟨rfl, rfl, rfl, rfl, rfl⟩ rfl rfl rfl rfl rfl (by kernel_rfl) Tryz.func7 (by kernel_rfl)
    (of_decide_eq_true (by kernel_rfl)) (by unfold Func.isWrapper; rw [if_neg (of_decide_eq_false (by kernel_rfl))]; exact ⟨rfl, rfl⟩)
    (fun os started H enc _ => machineCoherent_lifted os started H enc)
/-- MachineCoherent: for every input the law returns true, and its arguments read as they did. -/
theorem machineCoherent_holds : Rows.MachineCoherentCardSaid :=
  Claim7.holds_tied_plain_at .later [] [.data, .data, .data, .data, .sentinel, .sentinel, .widerDeep, .pinned] true (true, "db12460b223b7c4ebe0ba5f5d64ceed555a49c2c0235d588933f6d8e50fd59a8") true
    machineCoherent_row (fun _ h => by cases h) (by kernel_rfl) (fun _ h => by cases h) machineCoherent_row_tie rfl ⟨rfl, rfl⟩ (by kernel_rfl) rfl
    (fun f fn hf hfn => by
      obtain rfl : f = 7 := Option.some.inj ((show Tryz.prog.funcNamed "ratchet/ratchetlaw31.MachineCoherent" = some 7 by kernel_rfl).symm.trans hf) |>.symm
      obtain rfl : fn = Tryz.f7 := (Option.some.inj (Tryz.func7.symm.trans hfn)).symm
      exact ⟨by kernel_rfl, noStandIn (by kernel_rfl)⟩)
    (by kernel_rfl)
#print axioms machineCoherent_holds
end Go.Proofs.YtjededkgblbamaaGreatDoor
