/- A part of the proof. -/
import Derived.Test.YtaennkkcnhfglaaGreatDoorSF1
import Derived.Test.YtaennkkcnhfglaaGreatDoorSEvLaid
set_option linter.unusedVariables false
set_option maxRecDepth 100000
namespace Go.Proofs.YtaennkkcnhfglaaGreatDoor.Ev.F
open Go.Proofs Go.Proofs.YtaennkkcnhfglaaGreatDoor.Ev
inductive ub7 : ua0 → Prop
 | mk (x : ua0) (h0 : x.Name.size ≤ maxLen) (h1 : (Lit.int .i64 x.Number).wf = true) (h2 : x.Parts.length ≤ maxLen) (h3 : ∀ y ∈ x.Parts, ub7 y) : ub7 x
theorem uy7 : ∀ N, ue6 E N 37 ((Pk.iso (Pk.cons Pk.str (Pk.cons (Pk.int .i64) (Pk.cons (Pk.sl 37) Pk.unit))) (fun a => (⟨a.1, a.2.1, a.2.2.1⟩ : ua0)) (fun x => (x.Name, x.Number, x.Parts, ())) (fun x => by cases x; rfl))) ub7 := by
  intro N
  induction N using Nat.strongRecOn with
  | ind N ih => exact ue6.mono (ue6.iso (f := fun a => (⟨a.1, a.2.1, a.2.2.1⟩ : ua0)) (g := fun x => (x.Name, x.Number, x.Parts, ())) (hfg := fun x => by cases x; rfl) (ue6.struct Tryz.underlying37 (by kernel_rfl) (uw9.cons rfl (by kernel_rfl) (ue6.str Tryz.underlying9) (uw9.cons rfl (by kernel_rfl) (ue6.int Tryz.underlying3) (uw9.cons rfl (by kernel_rfl) (ue6.slI (E := E) (e := 37) Tryz.underlying35 (Nat.le_of_ble_eq_true (by kernel_rfl)) (p := ((Pk.iso (Pk.cons Pk.str (Pk.cons (Pk.int .i64) (Pk.cons (Pk.sl 37) Pk.unit))) (fun a => (⟨a.1, a.2.1, a.2.2.1⟩ : ua0)) (fun x => (x.Name, x.Number, x.Parts, ())) (fun x => by cases x; rfl)) : Pk S ua0)) (fun _ => by kernel_rfl) ih) uw9.nil))))) fun x h => .mk x h.1 h.2.1 h.2.2.1.1 h.2.2.1.2
end Go.Proofs.YtaennkkcnhfglaaGreatDoor.Ev.F
