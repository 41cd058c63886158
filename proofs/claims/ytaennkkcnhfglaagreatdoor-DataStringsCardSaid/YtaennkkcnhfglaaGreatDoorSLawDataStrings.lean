/- DataStrings: for every input the law returns true, and each argument reads afterwards as it read before. Conditions: the listed package-level variables start as the program lays them (the card ties them to its text). -/
import Derived.Test.YtaennkkcnhfglaaGreatDoorSLawC
import Derived.Test.YtaennkkcnhfglaaGreatDoorSPB
set_option linter.unusedVariables false
namespace Go.Proofs.YtaennkkcnhfglaaGreatDoor
open Go.Proofs.YtaennkkcnhfglaaGreatDoor.Ev Go.Proofs.YtaennkkcnhfglaaGreatDoor.Ev.F Go.RowKit

set_option maxRecDepth 100000 in
theorem uH4 : uO9 E [37, 9] vO3.c.rl (fun a => (ub7 (⟨a.1.1, a.1.2.1, a.1.2.2.1⟩ : ua0)) ∧ (a.2.1.size ≤ maxLen) ∧ True) := (uO9.cons (ArgR.agg Tryz.underlying37 rfl (fun x => (x.Name, x.Number, x.Parts, ())) (fun a => (⟨a.1, a.2.1, a.2.2.1⟩ : ua0)) (fun N => (uy7 N)) (fun _ => rfl) (fun x => by obtain ⟨_, _, _⟩ := x; rfl)) (uO9.cons (ArgR.cell Tryz.underlying9 rfl (fun N => (ue6.str Tryz.underlying9)) (fun _ => rfl)) uO9.nil))
set_option maxRecDepth 100000 in
theorem dataStrings_lifted (os : Os) (started : os.Started) (H : Type) (enc : TypeId × Value → H) :
    ReturnsInHanded {} Tryz.checked os 9 .any (fun w args => (Rows.dataStringsSpec.pre enc Tryz.prog Tryz.f9 [] false w args ∧ laidMet Tryz.prog laid w) ∧ sizedMet enc Tryz.prog Tryz.f9 (OpenSpec.ofChange Rows.dataStringsSpec) false w args)
      (Rows.dataStringsSpec.post enc Tryz.prog Tryz.f9 false true false false) := by
  refine returnsInHanded_of_change_and (C := Tryz.checked) (X := fun w _ => laidMet Tryz.prog laid w) (fun _ _ _ hh h => h.of_heap hh) own started (by kernel_rfl) Tryz.func9
    (ChangeSpec.witness_at (enc := enc) (C := Tryz.checked) (os := os) (X := fun w _ => laidMet Tryz.prog laid w) false (u21 os) #[.agg #[.string ⟨#[]⟩, .int .i64 0, .slice none 0 0], .string ⟨#[]⟩] 8 rfl (by kernel_rfl) (by kernel_rfl) (by kernel_rfl) (by kernel_rfl) (by kernel_rfl) (uU5 os _)) ?_
  intro W base args ds gs before hval hW _ _ hL _
  exact vr6 (E := E) (s := Rows.dataStringsSpec) (fn := Tryz.f9) (by kernel_rfl) (vY2 (by kernel_rfl)) (tb := 4) rfl Tryz.underlying4 rfl
    (fun ds h => by match ds, h with | [d0, d1], _ => rfl) vO3.c vO3.ok (fn0 := Tryz.f9) (fun fn' h => by obtain rfl := Option.some.inj (Tryz.func9.symm.trans h); exact ⟨by kernel_rfl, by kernel_rfl⟩) Tryz.func9
    uH4 (fun W h => vD2 h) (fun W h => vP4 h) () rfl (fun a h => ⟨_, (fun a0 a1 h0 h1 => u48 a0 a1 h0) (⟨a.1.1, a.1.2.1, a.1.2.2.1⟩ : ua0) (a.2.1) h.1 h.2.1, rfl⟩) W base args ds gs before hval hW hL
theorem dataStrings_row : Rows.DataStringsSaid :=
  OpenClaim.holds_of_wide 9 Tryz.f9 rfl rfl rfl rfl rfl rfl rfl ⟨rfl, rfl, rfl, rfl, rfl⟩ rfl rfl rfl rfl rfl (by kernel_rfl) Tryz.func9 (by kernel_rfl)
    (of_decide_eq_true (by kernel_rfl)) (by unfold Func.isWrapper; rw [if_neg (of_decide_eq_false (by kernel_rfl))]; exact ⟨rfl, rfl⟩)
    (fun os started H enc _ => dataStrings_lifted os started H enc)
/-- DataStrings: for every input the law returns true, and its arguments read as they did. -/
theorem dataStrings_holds : Rows.DataStringsCardSaid :=
  Claim7.holds_tied_plain_at .later [] [.data, .data, .data, .sentinel, .sentinel] true (true, "1f105511264ad4721eda63a22dc6eacb70d292d515123a386b83a4c918cb99f7") true
    dataStrings_row (fun _ h => by cases h) (by kernel_rfl) (fun _ h => by cases h) dataStrings_row_tie rfl ⟨rfl, rfl⟩ (by kernel_rfl) rfl
    (fun f fn hf hfn => by
      obtain rfl : f = 9 := Option.some.inj ((show Tryz.prog.funcNamed "ratchet/ratchetlaw11.DataStrings" = some 9 by kernel_rfl).symm.trans hf) |>.symm
      obtain rfl : fn = Tryz.f9 := (Option.some.inj (Tryz.func9.symm.trans hfn)).symm
      exact ⟨by kernel_rfl, vs3 (by kernel_rfl)⟩)
    (by kernel_rfl)
#print axioms dataStrings_holds
end Go.Proofs.YtaennkkcnhfglaaGreatDoor
