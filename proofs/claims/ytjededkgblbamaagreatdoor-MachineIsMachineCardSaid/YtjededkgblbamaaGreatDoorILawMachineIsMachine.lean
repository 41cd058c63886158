/- MachineIsMachine: for every input the law returns true, and each argument reads afterwards as it read before. Conditions: the listed package-level variables start as the program lays them (the card ties them to its text). -/
import Derived.Test.YtjededkgblbamaaGreatDoorILawC
import Derived.Test.YtjededkgblbamaaGreatDoorIPP10
set_option linter.unusedVariables false
namespace Go.Proofs.YtjededkgblbamaaGreatDoor
open Go.Proofs.YtjededkgblbamaaGreatDoor.Ev Go.Proofs.YtjededkgblbamaaGreatDoor.Ev.F Go.RowKit

set_option maxRecDepth 100000 in
theorem uA3 : u00 E [22, 23, 3] vl4.rl (fun a => (a.1.length ≤ maxLen ∧ ∀ x ∈ a.1, ((Lit.int .i64 x.Op).wf = true) ∧ ((Lit.int .i64 x.A).wf = true) ∧ ((Lit.int .i64 x.B).wf = true) ∧ ((Lit.int .i64 x.N).wf = true) ∧ True) ∧ (a.2.1.length ≤ maxLen ∧ ∀ x ∈ a.2.1, (Lit.int .i64 x).wf = true) ∧ ((Lit.int .i64 a.2.2.1).wf = true) ∧ True) := (u00.cons (ArgR.cell Tryz.underlying22 rfl (fun N => (uf5.sl (E := E) (e := 40) Tryz.underlying22 (Nat.le_of_ble_eq_true (by kernel_rfl)) (p := ((Pk.iso (Pk.cons (Pk.int .i64) (Pk.cons (Pk.int .i64) (Pk.cons (Pk.int .i64) (Pk.cons (Pk.int .i64) Pk.unit)))) (fun a => (⟨a.1, a.2.1, a.2.2.1, a.2.2.2.1⟩ : ua3)) (fun x => (x.Op, x.A, x.B, x.N, ())) (fun _ => rfl)) : Pk S ua3)) (fun _ => by kernel_rfl) (uf5.iso (f := fun a => (⟨a.1, a.2.1, a.2.2.1, a.2.2.2.1⟩ : ua3)) (g := fun x => (x.Op, x.A, x.B, x.N, ())) (hfg := fun _ => rfl) (uf5.struct Tryz.underlying40 (by kernel_rfl) (uA9.cons rfl (by kernel_rfl) (uf5.int Tryz.underlying3) (uA9.cons rfl (by kernel_rfl) (uf5.int Tryz.underlying3) (uA9.cons rfl (by kernel_rfl) (uf5.int Tryz.underlying3) (uA9.cons rfl (by kernel_rfl) (uf5.int Tryz.underlying3) uA9.nil)))))))) (fun _ => rfl)) (u00.cons (ArgR.cell Tryz.underlying23 rfl (fun N => (uf5.sl (E := E) (e := 3) Tryz.underlying23 (Nat.le_of_ble_eq_true (by kernel_rfl)) (p := ((Pk.int .i64) : Pk S Int)) (fun _ => by kernel_rfl) (uf5.int Tryz.underlying3))) (fun _ => rfl)) (u00.cons (ArgR.cell Tryz.underlying3 rfl (fun N => (uf5.int Tryz.underlying3)) (fun _ => rfl)) u00.nil)))
set_option maxRecDepth 100000 in
theorem machineIsMachine_lifted (os : Os) (started : os.Started) (H : Type) (enc : TypeId × Value → H) :
    ReturnsInHanded {} Tryz.checked os 9 .any (fun w args => (Rows.machineIsMachineSpec.pre enc Tryz.prog Tryz.f9 [] false w args ∧ laidMet Tryz.prog laid w) ∧ sizedMet enc Tryz.prog Tryz.f9 (OpenSpec.ofChange Rows.machineIsMachineSpec) false w args)
      (Rows.machineIsMachineSpec.post enc Tryz.prog Tryz.f9 false true false false) := by
  refine returnsInHanded_of_change_and (C := Tryz.checked) (X := fun w _ => laidMet Tryz.prog laid w) (fun _ _ _ hh h => h.of_heap hh) own started (by kernel_rfl) Tryz.func9
    (ChangeSpec.witness_at (enc := enc) (C := Tryz.checked) (os := os) (X := fun w _ => laidMet Tryz.prog laid w) false (vA1 os) #[.slice none 0 0, .slice none 0 0, .int .i64 0] 8 rfl (by kernel_rfl) (by kernel_rfl) (by kernel_rfl) (by kernel_rfl) (by kernel_rfl) (vk8 os _)) ?_
  intro W base args ds gs before hval hW _ _ hL _
  exact wS0 (E := E) (s := Rows.machineIsMachineSpec) (fn := Tryz.f9) (by kernel_rfl) (xT4 (by kernel_rfl)) (tb := 4) rfl Tryz.underlying4 rfl
    (fun ds h => by match ds, h with | [d0, d1, d2], _ => rfl) vl4 vP0 (fn0 := Tryz.f9) (fun fn' h => by obtain rfl := Option.some.inj (Tryz.func9.symm.trans h); exact ⟨by kernel_rfl, by kernel_rfl⟩) Tryz.func9
    uA3 (fun W h => xe9 h) (fun W h => xJ2 h) () rfl (fun a h => ⟨_, (fun a0 a1 a2 _ _ _ => vo2 a0 a1 a2) (a.1) (a.2.1) (a.2.2.1) h.1 h.2.1 h.2.2.1, rfl⟩) W base args ds gs before hval hW hL
theorem machineIsMachine_row : Rows.MachineIsMachineSaid :=
  OpenClaim.holds_of_wide 9 Tryz.f9 rfl rfl rfl rfl rfl rfl rfl ⟨rfl, rfl, rfl, rfl, rfl⟩ rfl rfl rfl rfl rfl (by kernel_rfl) Tryz.func9 (by kernel_rfl)
    (of_decide_eq_true (by kernel_rfl)) (by unfold Func.isWrapper; rw [if_neg (of_decide_eq_false (by kernel_rfl))]; exact ⟨rfl, rfl⟩)
    (fun os started H enc _ => machineIsMachine_lifted os started H enc)
/-- MachineIsMachine: for every input the law returns true, and its arguments read as they did. -/
theorem machineIsMachine_holds : Rows.MachineIsMachineCardSaid :=
  Claim7.holds_tied_plain_at .later [] [.data, .data, .data, .data, .sentinel, .sentinel, .widerDeep, .pinned] true (true, "db12460b223b7c4ebe0ba5f5d64ceed555a49c2c0235d588933f6d8e50fd59a8") true
    machineIsMachine_row (fun _ h => by cases h) (by kernel_rfl) (fun _ h => by cases h) machineIsMachine_row_tie rfl ⟨rfl, rfl⟩ (by kernel_rfl) rfl
    (fun f fn hf hfn => by
      obtain rfl : f = 9 := Option.some.inj ((show Tryz.prog.funcNamed "ratchet/ratchetlaw31.MachineIsMachine" = some 9 by kernel_rfl).symm.trans hf) |>.symm
      obtain rfl : fn = Tryz.f9 := (Option.some.inj (Tryz.func9.symm.trans hfn)).symm
      exact ⟨by kernel_rfl, xd8 (by kernel_rfl)⟩)
    (by kernel_rfl)
#print axioms machineIsMachine_holds
end Go.Proofs.YtjededkgblbamaaGreatDoor
