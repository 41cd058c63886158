/- DataApart: for every input the law returns true, and each argument reads afterwards as it read before. Conditions: the listed package-level variables start as the program lays them (the card ties them to its text). -/
import Derived.Test.YtaennkkcnhfglaaGreatDoorALawC
import Derived.Test.YtaennkkcnhfglaaGreatDoorAPB
set_option linter.unusedVariables false
namespace Go.Proofs.YtaennkkcnhfglaaGreatDoor
open Go.Proofs.YtaennkkcnhfglaaGreatDoor.Ev Go.Proofs.YtaennkkcnhfglaaGreatDoor.Ev.F Go.RowKit

set_option maxRecDepth 100000 in
theorem vm4 : vj9 E [22, 25] vw6.rl (fun a => (a.1.length ≤ maxLen ∧ ∀ x ∈ a.1, (x.Name.size ≤ maxLen) ∧ (x.Params.length ≤ maxLen ∧ ∀ y ∈ x.Params, y.size ≤ maxLen) ∧ (x.Constructors.length ≤ maxLen ∧ ∀ y ∈ x.Constructors, (y.Name.size ≤ maxLen) ∧ (y.Fields.length ≤ maxLen ∧ ∀ x ∈ y.Fields, (x.Name.size ≤ maxLen) ∧ (ue8 x.Type_) ∧ True) ∧ True) ∧ True) ∧ (ue8 (⟨a.2.1.1, a.2.1.2.1, a.2.1.2.2.1, a.2.1.2.2.2.1⟩ : ua0)) ∧ True) := (vj9.cons (ArgR.cell Tryz.underlying22 rfl (fun N => (ud6.sl (E := E) (e := 103) Tryz.underlying22 (Nat.le_of_ble_eq_true (by kernel_rfl)) (p := ((Pk.iso (Pk.cons Pk.str (Pk.cons (Pk.sl 9) (Pk.cons (Pk.sl 56) Pk.unit))) (fun a => (⟨a.1, a.2.1, a.2.2.1⟩ : ua2)) (fun x => (x.Name, x.Params, x.Constructors, ())) (fun _ => rfl)) : Pk S ua2)) (Q := fun (x : ua2) => (x.Name.size ≤ maxLen) ∧ (x.Params.length ≤ maxLen ∧ ∀ y ∈ x.Params, y.size ≤ maxLen) ∧ (x.Constructors.length ≤ maxLen ∧ ∀ y ∈ x.Constructors, (y.Name.size ≤ maxLen) ∧ (y.Fields.length ≤ maxLen ∧ ∀ x ∈ y.Fields, (x.Name.size ≤ maxLen) ∧ (ue8 x.Type_) ∧ True) ∧ True) ∧ True) (fun _ => by kernel_rfl) (ud6.mono (ud6.iso (f := fun a => (⟨a.1, a.2.1, a.2.2.1⟩ : ua2)) (g := fun x => (x.Name, x.Params, x.Constructors, ())) (hfg := fun _ => rfl) (ud6.struct Tryz.underlying103 (by kernel_rfl) (uk4.cons rfl (by kernel_rfl) (ud6.str Tryz.underlying9) (uk4.cons rfl (by kernel_rfl) (ud6.sl (E := E) (e := 9) Tryz.underlying101 (Nat.le_of_ble_eq_true (by kernel_rfl)) (p := (Pk.str : Pk S ByteArray)) (fun _ => by kernel_rfl) (ud6.str Tryz.underlying9)) (uk4.cons rfl (by kernel_rfl) (ud6.sl (E := E) (e := 56) Tryz.underlying52 (Nat.le_of_ble_eq_true (by kernel_rfl)) (p := ((Pk.iso (Pk.cons Pk.str (Pk.cons (Pk.sl 58) Pk.unit)) (fun a => (⟨a.1, a.2.1⟩ : ua1)) (fun x => (x.Name, x.Fields, ())) (fun _ => rfl)) : Pk S ua1)) (Q := fun (x : ua1) => (x.Name.size ≤ maxLen) ∧ (x.Fields.length ≤ maxLen ∧ ∀ y ∈ x.Fields, (y.Name.size ≤ maxLen) ∧ (ue8 y.Type_) ∧ True) ∧ True) (fun _ => by kernel_rfl) (ud6.mono (ud6.iso (f := fun a => (⟨a.1, a.2.1⟩ : ua1)) (g := fun x => (x.Name, x.Fields, ())) (hfg := fun _ => rfl) (ud6.struct Tryz.underlying56 (by kernel_rfl) (uk4.cons rfl (by kernel_rfl) (ud6.str Tryz.underlying9) (uk4.cons rfl (by kernel_rfl) (ud6.sl (E := E) (e := 58) Tryz.underlying48 (Nat.le_of_ble_eq_true (by kernel_rfl)) (p := ((Pk.iso (Pk.cons Pk.str (Pk.cons (Pk.iso (Pk.cons (Pk.int .i64) (Pk.cons (Pk.int .i64) (Pk.cons Pk.str (Pk.cons (Pk.sl 25) Pk.unit)))) (fun a => (⟨a.1, a.2.1, a.2.2.1, a.2.2.2.1⟩ : ua0)) (fun x => (x.Kind, x.Value, x.Name, x.Parts, ())) (fun x => by cases x; rfl)) Pk.unit)) (fun a => (⟨a.1, a.2.1⟩ : ua6)) (fun x => (x.Name, x.Type_, ())) (fun _ => rfl)) : Pk S ua6)) (Q := fun (x : ua6) => (x.Name.size ≤ maxLen) ∧ (ue8 x.Type_) ∧ True) (fun _ => by kernel_rfl) (ud6.mono (ud6.iso (f := fun a => (⟨a.1, a.2.1⟩ : ua6)) (g := fun x => (x.Name, x.Type_, ())) (hfg := fun _ => rfl) (ud6.struct Tryz.underlying58 (by kernel_rfl) (uk4.cons rfl (by kernel_rfl) (ud6.str Tryz.underlying9) (uk4.cons rfl (by kernel_rfl) (uM6 N) uk4.nil)))) (fun _ h => h))) uk4.nil)))) (fun _ h => h))) uk4.nil))))) (fun _ h => h)))) (fun _ => rfl)) (vj9.cons (ArgR.agg Tryz.underlying25 rfl (fun x => (x.Kind, x.Value, x.Name, x.Parts, ())) (fun a => (⟨a.1, a.2.1, a.2.2.1, a.2.2.2.1⟩ : ua0)) (fun N => (uM6 N)) (fun _ => rfl) (fun x => by obtain ⟨_, _, _, _⟩ := x; rfl)) vj9.nil))
set_option maxRecDepth 100000 in
theorem dataApart_lifted (os : Os) (started : os.Started) (H : Type) (enc : TypeId × Value → H) :
    ReturnsInHanded {} Tryz.checked os 6 .any (fun w args => (Rows.dataApartSpec.pre enc Tryz.prog Tryz.f6 [] false w args ∧ laidMet Tryz.prog laid w) ∧ sizedMet enc Tryz.prog Tryz.f6 (OpenSpec.ofChange Rows.dataApartSpec) false w args)
      (Rows.dataApartSpec.post enc Tryz.prog Tryz.f6 false true false false) := by
  refine returnsInHanded_of_change_and (C := Tryz.checked) (X := fun w _ => laidMet Tryz.prog laid w) (fun _ _ _ hh h => h.of_heap hh) own started (by kernel_rfl) Tryz.func6
    (ChangeSpec.witness_at (enc := enc) (C := Tryz.checked) (os := os) (X := fun w _ => laidMet Tryz.prog laid w) false (vH5 os) #[.slice none 0 0, .agg #[.int .i64 0, .int .i64 0, .string ⟨#[]⟩, .slice none 0 0]] 8 rfl (by kernel_rfl) (by kernel_rfl) (by kernel_rfl) (by kernel_rfl) (by kernel_rfl) (vy1 os _)) ?_
  intro W base args ds gs before hval hW _ _ hL _
  exact w59 (E := E) (s := Rows.dataApartSpec) (fn := Tryz.f6) (by kernel_rfl) (x42 (by kernel_rfl)) (tb := 4) rfl Tryz.underlying4 rfl
    (fun ds h => by match ds, h with | [d0, d1], _ => rfl) vw6 vS7 (fn0 := Tryz.f6) (fun fn' h => by obtain rfl := Option.some.inj (Tryz.func6.symm.trans h); exact ⟨by kernel_rfl, by kernel_rfl⟩) Tryz.func6
    vm4 (fun W h => xt3 h) (fun W h => xU0 h) () rfl (fun a h => ⟨_, (fun a0 a1 h0 h1 => wz6 a0 a1 h0 h1) (a.1) (⟨a.2.1.1, a.2.1.2.1, a.2.1.2.2.1, a.2.1.2.2.2.1⟩ : ua0) h.1 h.2.1, rfl⟩) W base args ds gs before hval hW hL
theorem dataApart_row : Rows.DataApartSaid :=
  OpenClaim.holds_of_wide 6 Tryz.f6 rfl rfl rfl rfl rfl rfl rfl ⟨rfl, rfl, rfl, rfl, rfl⟩ rfl rfl rfl rfl rfl (by kernel_rfl) Tryz.func6 (by kernel_rfl)
    (of_decide_eq_true (by kernel_rfl)) (by unfold Func.isWrapper; rw [if_neg (of_decide_eq_false (by kernel_rfl))]; exact ⟨rfl, rfl⟩)
    (fun os started H enc _ => dataApart_lifted os started H enc)
/-- DataApart: for every input the law returns true, and its arguments read as they did. -/
theorem dataApart_holds : Rows.DataApartCardSaid :=
  Claim7.holds_tied_plain_at .later [] [.data, .data, .data] true (true, "1f105511264ad4721eda63a22dc6eacb70d292d515123a386b83a4c918cb99f7") true
    dataApart_row (fun _ h => by cases h) (by kernel_rfl) (fun _ h => by cases h) dataApart_row_tie rfl ⟨rfl, rfl⟩ (by kernel_rfl) rfl
    (fun f fn hf hfn => by
      obtain rfl : f = 6 := Option.some.inj ((show Tryz.prog.funcNamed "ratchet/ratchetlaw11.DataApart" = some 6 by kernel_rfl).symm.trans hf) |>.symm
      obtain rfl : fn = Tryz.f6 := (Option.some.inj (Tryz.func6.symm.trans hfn)).symm
      exact ⟨by kernel_rfl, w67 (by kernel_rfl)⟩)
    (by kernel_rfl)
#print axioms dataApart_holds
end Go.Proofs.YtaennkkcnhfglaaGreatDoor
