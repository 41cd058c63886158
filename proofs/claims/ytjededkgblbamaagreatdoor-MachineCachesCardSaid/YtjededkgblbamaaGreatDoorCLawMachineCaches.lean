/- MachineCaches: for every input the law returns true, and each argument reads afterwards as it read before. Conditions: the listed package-level variables start as the program lays them (the card ties them to its text). -/
import Derived.Test.YtjededkgblbamaaGreatDoorCLawC
import Derived.Test.YtjededkgblbamaaGreatDoorCPCache
set_option linter.unusedVariables false
namespace Go.Proofs.YtjededkgblbamaaGreatDoor
open Go.Proofs.YtjededkgblbamaaGreatDoor.Ev Go.Proofs.YtjededkgblbamaaGreatDoor.Ev.F Go.RowKit

set_option maxRecDepth 100000 in
theorem machineCaches_args : ArgsR E [3, 23, 3] con_ratchetlaw31_MachineCaches.rl (fun a => ((Lit.int .i64 a.1).wf = true) ∧ (a.2.1.length ≤ maxLen ∧ ∀ x ∈ a.2.1, (Lit.int .i64 x).wf = true) ∧ ((Lit.int .i64 a.2.2.1).wf = true) ∧ True) := (ArgsR.cons (ArgR.cell Tryz.underlying3 rfl (fun N => (Reads.int Tryz.underlying3)) (fun _ => rfl)) (ArgsR.cons (ArgR.cell Tryz.underlying23 rfl (fun N => (Reads.sl (E := E) (e := 3) Tryz.underlying23 (Nat.le_of_ble_eq_true (by kernel_rfl)) (p := ((Pk.int .i64) : Pk S Int)) (fun _ => by kernel_rfl) (Reads.int Tryz.underlying3))) (fun _ => rfl)) (ArgsR.cons (ArgR.cell Tryz.underlying3 rfl (fun N => (Reads.int Tryz.underlying3)) (fun _ => rfl)) ArgsR.nil)))
set_option maxRecDepth 100000 in
theorem machineCaches_lifted (os : Os) (started : os.Started) (H : Type) (enc : TypeId × Value → H) :
    ReturnsInHanded {} Tryz.checked os 6 .any (fun w args => (Rows.machineCachesSpec.pre enc Tryz.prog Tryz.f6 [] false w args ∧ laidMet Tryz.prog laid w) ∧ sizedMet enc Tryz.prog Tryz.f6 (OpenSpec.ofChange Rows.machineCachesSpec) false w args)
      (Rows.machineCachesSpec.post enc Tryz.prog Tryz.f6 false true false false) := by
  refine returnsInHanded_of_change_and (C := Tryz.checked) (X := fun w _ => laidMet Tryz.prog laid w) (fun _ _ _ hh h => h.of_heap hh) own started (by kernel_rfl) Tryz.func6
    (ChangeSpec.witness_at (enc := enc) (C := Tryz.checked) (os := os) (X := fun w _ => laidMet Tryz.prog laid w) false (laidWorld os) #[.int .i64 0, .slice none 0 0, .int .i64 0] 8 rfl (by kernel_rfl) (by kernel_rfl) (by kernel_rfl) (by kernel_rfl) (by kernel_rfl) (laidWorld_met os _)) ?_
  intro W base args ds gs before hval hW _ _ hL _
  exact law_calls (E := E) (s := Rows.machineCachesSpec) (fn := Tryz.f6) (by kernel_rfl) (parsOk (by kernel_rfl)) (tb := 4) rfl Tryz.underlying4 rfl
    (fun ds h => by match ds, h with | [d0, d1, d2], _ => rfl) con_ratchetlaw31_MachineCaches con_ratchetlaw31_MachineCaches_ok (fn0 := Tryz.f6) (fun fn' h => by obtain rfl := Option.some.inj (Tryz.func6.symm.trans h); exact ⟨by kernel_rfl, by kernel_rfl⟩) Tryz.func6
    machineCaches_args (fun W h => glob_rep h) (fun W h => held_ok h) () rfl (fun a h => ⟨_, (fun a0 a1 a2 _ _ h => caches_law a0 a1 a2 h) (a.1) (a.2.1) (a.2.2.1) h.1 h.2.1 h.2.2.1, rfl⟩) W base args ds gs before hval hW hL
theorem machineCaches_row : Rows.MachineCachesSaid :=
  OpenClaim.holds_of_wide 6 Tryz.f6 rfl rfl rfl rfl rfl rfl rfl ⟨rfl, rfl, rfl, rfl, rfl⟩ rfl rfl rfl rfl rfl (by kernel_rfl) Tryz.func6 (by kernel_rfl)
    (of_decide_eq_true (by kernel_rfl)) (by unfold Func.isWrapper; rw [if_neg (of_decide_eq_false (by kernel_rfl))]; exact ⟨rfl, rfl⟩)
    (fun os started H enc _ => machineCaches_lifted os started H enc)
/-- MachineCaches: for every input the law returns true, and its arguments read as they did. -/
theorem machineCaches_holds : Rows.MachineCachesCardSaid :=
  Claim7.holds_tied_plain_at .later [] [.data, .data, .data, .data, .sentinel, .sentinel, .widerDeep, .pinned] true (true, "db12460b223b7c4ebe0ba5f5d64ceed555a49c2c0235d588933f6d8e50fd59a8") true
    machineCaches_row (fun _ h => by cases h) (by kernel_rfl) (fun _ h => by cases h) machineCaches_row_tie rfl ⟨rfl, rfl⟩ (by kernel_rfl) rfl
    (fun f fn hf hfn => by
      obtain rfl : f = 6 := Option.some.inj ((show Tryz.prog.funcNamed "ratchet/ratchetlaw31.MachineCaches" = some 6 by kernel_rfl).symm.trans hf) |>.symm
      obtain rfl : fn = Tryz.f6 := (Option.some.inj (Tryz.func6.symm.trans hfn)).symm
      exact ⟨by kernel_rfl, noStandIn (by kernel_rfl)⟩)
    (by kernel_rfl)
#print axioms machineCaches_holds
end Go.Proofs.YtjededkgblbamaaGreatDoor
