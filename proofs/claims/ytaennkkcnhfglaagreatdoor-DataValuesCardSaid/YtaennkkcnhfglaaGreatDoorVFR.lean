/- A part of the proof. -/
import Derived.Test.YtaennkkcnhfglaaGreatDoorVF2
import Derived.Test.YtaennkkcnhfglaaGreatDoorVEvLaid
set_option linter.unusedVariables false
set_option maxRecDepth 100000
namespace Go.Proofs.YtaennkkcnhfglaaGreatDoor.Ev.F
open Go.Proofs Go.Proofs.YtaennkkcnhfglaaGreatDoor.Ev
inductive ue9 : ua3 → Prop
 | mk (x : ua3) (h0 : (Lit.int .i64 x.Kind).wf = true) (h1 : (Lit.int .i64 x.Value).wf = true) (h2 : x.Name.size ≤ maxLen) (h3 : x.Parts.length ≤ maxLen) (h4 : ∀ y ∈ x.Parts, ue9 y) : ue9 x
theorem uF9 : ∀ N, uc5 E N 25 ((Pk.iso (Pk.cons (Pk.int .i64) (Pk.cons (Pk.int .i64) (Pk.cons Pk.str (Pk.cons (Pk.sl 25) Pk.unit)))) (fun a => (⟨a.1, a.2.1, a.2.2.1, a.2.2.2.1⟩ : ua3)) (fun x => (x.Kind, x.Value, x.Name, x.Parts, ())) (fun x => by cases x; rfl))) ue9 := by
  intro N
  induction N using Nat.strongRecOn with
  | ind N ih => exact uc5.mono (uc5.iso (f := fun a => (⟨a.1, a.2.1, a.2.2.1, a.2.2.2.1⟩ : ua3)) (g := fun x => (x.Kind, x.Value, x.Name, x.Parts, ())) (hfg := fun x => by cases x; rfl) (uc5.struct Tryz.underlying25 (by kernel_rfl) (uh3.cons rfl (by kernel_rfl) (uc5.int Tryz.underlying3) (uh3.cons rfl (by kernel_rfl) (uc5.int Tryz.underlying3) (uh3.cons rfl (by kernel_rfl) (uc5.str Tryz.underlying9) (uh3.cons rfl (by kernel_rfl) (uc5.slI (E := E) (e := 25) Tryz.underlying23 (Nat.le_of_ble_eq_true (by kernel_rfl)) (p := ((Pk.iso (Pk.cons (Pk.int .i64) (Pk.cons (Pk.int .i64) (Pk.cons Pk.str (Pk.cons (Pk.sl 25) Pk.unit)))) (fun a => (⟨a.1, a.2.1, a.2.2.1, a.2.2.2.1⟩ : ua3)) (fun x => (x.Kind, x.Value, x.Name, x.Parts, ())) (fun x => by cases x; rfl)) : Pk S ua3)) (fun _ => by kernel_rfl) ih) uh3.nil)))))) fun x h => .mk x h.1 h.2.1 h.2.2.1 h.2.2.2.1.1 h.2.2.2.1.2
inductive ud2 : ua4 → Prop
 | mk (x : ua4) (h0 : x.Name.size ≤ maxLen) (h1 : (Lit.int .i64 x.Number).wf = true) (h2 : x.Parts.length ≤ maxLen) (h3 : ∀ y ∈ x.Parts, ud2 y) : ud2 x
theorem uH8 : ∀ N, uc5 E N 37 ((Pk.iso (Pk.cons Pk.str (Pk.cons (Pk.int .i64) (Pk.cons (Pk.sl 37) Pk.unit))) (fun a => (⟨a.1, a.2.1, a.2.2.1⟩ : ua4)) (fun x => (x.Name, x.Number, x.Parts, ())) (fun x => by cases x; rfl))) ud2 := by
  intro N
  induction N using Nat.strongRecOn with
  | ind N ih => exact uc5.mono (uc5.iso (f := fun a => (⟨a.1, a.2.1, a.2.2.1⟩ : ua4)) (g := fun x => (x.Name, x.Number, x.Parts, ())) (hfg := fun x => by cases x; rfl) (uc5.struct Tryz.underlying37 (by kernel_rfl) (uh3.cons rfl (by kernel_rfl) (uc5.str Tryz.underlying9) (uh3.cons rfl (by kernel_rfl) (uc5.int Tryz.underlying3) (uh3.cons rfl (by kernel_rfl) (uc5.slI (E := E) (e := 37) Tryz.underlying35 (Nat.le_of_ble_eq_true (by kernel_rfl)) (p := ((Pk.iso (Pk.cons Pk.str (Pk.cons (Pk.int .i64) (Pk.cons (Pk.sl 37) Pk.unit))) (fun a => (⟨a.1, a.2.1, a.2.2.1⟩ : ua4)) (fun x => (x.Name, x.Number, x.Parts, ())) (fun x => by cases x; rfl)) : Pk S ua4)) (fun _ => by kernel_rfl) ih) uh3.nil))))) fun x h => .mk x h.1 h.2.1 h.2.2.1.1 h.2.2.1.2
end Go.Proofs.YtaennkkcnhfglaaGreatDoor.Ev.F
