/- DataCounts: for every input the law returns true, and each argument reads afterwards as it read before. Conditions: the listed package-level variables start as the program lays them (the card ties them to its text). -/
import Derived.Test.YtaennkkcnhfglaaGreatDoorNLawC
import Derived.Test.YtaennkkcnhfglaaGreatDoorNPB
set_option linter.unusedVariables false
namespace Go.Proofs.YtaennkkcnhfglaaGreatDoor
open Go.Proofs.YtaennkkcnhfglaaGreatDoor.Ev Go.Proofs.YtaennkkcnhfglaaGreatDoor.Ev.F Go.RowKit

set_option maxRecDepth 100000 in
theorem u98 : vm1 E [22, 25] vz5.rl (fun a => (a.1.length ≤ maxLen ∧ ∀ x ∈ a.1, (x.Name.size ≤ maxLen) ∧ (x.Params.length ≤ maxLen ∧ ∀ y ∈ x.Params, y.size ≤ maxLen) ∧ (x.Constructors.length ≤ maxLen ∧ ∀ y ∈ x.Constructors, (y.Name.size ≤ maxLen) ∧ (y.Fields.length ≤ maxLen ∧ ∀ x ∈ y.Fields, (x.Name.size ≤ maxLen) ∧ (ue5 x.Type_) ∧ True) ∧ True) ∧ True) ∧ (ue5 (⟨a.2.1.1, a.2.1.2.1, a.2.1.2.2.1, a.2.1.2.2.2.1⟩ : ua0)) ∧ True) := (vm1.cons (ArgR.cell Tryz.underlying22 rfl (fun N => (ud4.sl (E := E) (e := 103) Tryz.underlying22 (Nat.le_of_ble_eq_true (by kernel_rfl)) (p := ((Pk.iso (Pk.cons Pk.str (Pk.cons (Pk.sl 9) (Pk.cons (Pk.sl 56) Pk.unit))) (fun a => (⟨a.1, a.2.1, a.2.2.1⟩ : ua3)) (fun x => (x.Name, x.Params, x.Constructors, ())) (fun _ => rfl)) : Pk S ua3)) (Q := fun (x : ua3) => (x.Name.size ≤ maxLen) ∧ (x.Params.length ≤ maxLen ∧ ∀ y ∈ x.Params, y.size ≤ maxLen) ∧ (x.Constructors.length ≤ maxLen ∧ ∀ y ∈ x.Constructors, (y.Name.size ≤ maxLen) ∧ (y.Fields.length ≤ maxLen ∧ ∀ x ∈ y.Fields, (x.Name.size ≤ maxLen) ∧ (ue5 x.Type_) ∧ True) ∧ True) ∧ True) (fun _ => by kernel_rfl) (ud4.mono (ud4.iso (f := fun a => (⟨a.1, a.2.1, a.2.2.1⟩ : ua3)) (g := fun x => (x.Name, x.Params, x.Constructors, ())) (hfg := fun _ => rfl) (ud4.struct Tryz.underlying103 (by kernel_rfl) (uk4.cons rfl (by kernel_rfl) (ud4.str Tryz.underlying9) (uk4.cons rfl (by kernel_rfl) (ud4.sl (E := E) (e := 9) Tryz.underlying101 (Nat.le_of_ble_eq_true (by kernel_rfl)) (p := (Pk.str : Pk S ByteArray)) (fun _ => by kernel_rfl) (ud4.str Tryz.underlying9)) (uk4.cons rfl (by kernel_rfl) (ud4.sl (E := E) (e := 56) Tryz.underlying52 (Nat.le_of_ble_eq_true (by kernel_rfl)) (p := ((Pk.iso (Pk.cons Pk.str (Pk.cons (Pk.sl 58) Pk.unit)) (fun a => (⟨a.1, a.2.1⟩ : ua1)) (fun x => (x.Name, x.Fields, ())) (fun _ => rfl)) : Pk S ua1)) (Q := fun (x : ua1) => (x.Name.size ≤ maxLen) ∧ (x.Fields.length ≤ maxLen ∧ ∀ y ∈ x.Fields, (y.Name.size ≤ maxLen) ∧ (ue5 y.Type_) ∧ True) ∧ True) (fun _ => by kernel_rfl) (ud4.mono (ud4.iso (f := fun a => (⟨a.1, a.2.1⟩ : ua1)) (g := fun x => (x.Name, x.Fields, ())) (hfg := fun _ => rfl) (ud4.struct Tryz.underlying56 (by kernel_rfl) (uk4.cons rfl (by kernel_rfl) (ud4.str Tryz.underlying9) (uk4.cons rfl (by kernel_rfl) (ud4.sl (E := E) (e := 58) Tryz.underlying48 (Nat.le_of_ble_eq_true (by kernel_rfl)) (p := ((Pk.iso (Pk.cons Pk.str (Pk.cons (Pk.iso (Pk.cons (Pk.int .i64) (Pk.cons (Pk.int .i64) (Pk.cons Pk.str (Pk.cons (Pk.sl 25) Pk.unit)))) (fun a => (⟨a.1, a.2.1, a.2.2.1, a.2.2.2.1⟩ : ua0)) (fun x => (x.Kind, x.Value, x.Name, x.Parts, ())) (fun x => by cases x; rfl)) Pk.unit)) (fun a => (⟨a.1, a.2.1⟩ : ua6)) (fun x => (x.Name, x.Type_, ())) (fun _ => rfl)) : Pk S ua6)) (Q := fun (x : ua6) => (x.Name.size ≤ maxLen) ∧ (ue5 x.Type_) ∧ True) (fun _ => by kernel_rfl) (ud4.mono (ud4.iso (f := fun a => (⟨a.1, a.2.1⟩ : ua6)) (g := fun x => (x.Name, x.Type_, ())) (hfg := fun _ => rfl) (ud4.struct Tryz.underlying58 (by kernel_rfl) (uk4.cons rfl (by kernel_rfl) (ud4.str Tryz.underlying9) (uk4.cons rfl (by kernel_rfl) (uM8 N) uk4.nil)))) (fun _ h => h))) uk4.nil)))) (fun _ h => h))) uk4.nil))))) (fun _ h => h)))) (fun _ => rfl)) (vm1.cons (ArgR.agg Tryz.underlying25 rfl (fun x => (x.Kind, x.Value, x.Name, x.Parts, ())) (fun a => (⟨a.1, a.2.1, a.2.2.1, a.2.2.2.1⟩ : ua0)) (fun N => (uM8 N)) (fun _ => rfl) (fun x => by obtain ⟨_, _, _, _⟩ := x; rfl)) vm1.nil))
set_option maxRecDepth 100000 in
theorem dataCounts_lifted (os : Os) (started : os.Started) (H : Type) (enc : TypeId × Value → H) :
    ReturnsInHanded {} Tryz.checked os 3 .any (fun w args => (Rows.dataCountsSpec.pre enc Tryz.prog Tryz.f3 [] false w args ∧ laidMet Tryz.prog laid w) ∧ sizedMet enc Tryz.prog Tryz.f3 (OpenSpec.ofChange Rows.dataCountsSpec) false w args)
      (Rows.dataCountsSpec.post enc Tryz.prog Tryz.f3 false true false false) := by
  refine returnsInHanded_of_change_and (C := Tryz.checked) (X := fun w _ => laidMet Tryz.prog laid w) (fun _ _ _ hh h => h.of_heap hh) own started (by kernel_rfl) Tryz.func3
    (ChangeSpec.witness_at (enc := enc) (C := Tryz.checked) (os := os) (X := fun w _ => laidMet Tryz.prog laid w) false (vK8 os) #[.slice none 0 0, .agg #[.int .i64 0, .int .i64 0, .string ⟨#[]⟩, .slice none 0 0]] 8 rfl (by kernel_rfl) (by kernel_rfl) (by kernel_rfl) (by kernel_rfl) (by kernel_rfl) (vA6 os _)) ?_
  intro W base args ds gs before hval hW _ _ hL _
  exact xc1 (E := E) (s := Rows.dataCountsSpec) (fn := Tryz.f3) (by kernel_rfl) (x56 (by kernel_rfl)) (tb := 4) rfl Tryz.underlying4 rfl
    (fun ds h => by match ds, h with | [d0, d1], _ => rfl) vz5 vX7 (fn0 := Tryz.f3) (fun fn' h => by obtain rfl := Option.some.inj (Tryz.func3.symm.trans h); exact ⟨by kernel_rfl, by kernel_rfl⟩) Tryz.func3
    u98 (fun W h => xz4 h) (fun W h => xX9 h) () rfl (fun a h => ⟨_, (fun a0 a1 h0 h1 => vZ5 a0 a1 h0 h1) (a.1) (⟨a.2.1.1, a.2.1.2.1, a.2.1.2.2.1, a.2.1.2.2.2.1⟩ : ua0) h.1 h.2.1, rfl⟩) W base args ds gs before hval hW hL
theorem dataCounts_row : Rows.DataCountsSaid :=
  OpenClaim.holds_of_wide 3 Tryz.f3 rfl rfl rfl rfl rfl rfl rfl ⟨rfl, rfl, rfl, rfl, rfl⟩ rfl rfl rfl rfl rfl (by kernel_rfl) Tryz.func3 (by kernel_rfl)
    (of_decide_eq_true (by kernel_rfl)) (by unfold Func.isWrapper; rw [if_neg (of_decide_eq_false (by kernel_rfl))]; exact ⟨rfl, rfl⟩)
    (fun os started H enc _ => dataCounts_lifted os started H enc)
/-- DataCounts: for every input the law returns true, and its arguments read as they did. -/
theorem dataCounts_holds : Rows.DataCountsCardSaid :=
  Claim7.holds_tied_plain_at .later [] [.data, .data, .data] true (true, "1f105511264ad4721eda63a22dc6eacb70d292d515123a386b83a4c918cb99f7") true
    dataCounts_row (fun _ h => by cases h) (by kernel_rfl) (fun _ h => by cases h) dataCounts_row_tie rfl ⟨rfl, rfl⟩ (by kernel_rfl) rfl
    (fun f fn hf hfn => by
      obtain rfl : f = 3 := Option.some.inj ((show Tryz.prog.funcNamed "ratchet/ratchetlaw11.DataCounts" = some 3 by kernel_rfl).symm.trans hf) |>.symm
      obtain rfl : fn = Tryz.f3 := (Option.some.inj (Tryz.func3.symm.trans hfn)).symm
      exact ⟨by kernel_rfl, xc7 (by kernel_rfl)⟩)
    (by kernel_rfl)
#print axioms dataCounts_holds
end Go.Proofs.YtaennkkcnhfglaaGreatDoor
