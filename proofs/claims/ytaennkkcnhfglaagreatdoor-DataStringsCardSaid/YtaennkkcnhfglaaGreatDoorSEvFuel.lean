/- A part of the proof. -/
import Derived.Test.YtaennkkcnhfglaaGreatDoorSEvLib
namespace Go.Proofs.YtaennkkcnhfglaaGreatDoor.Ev
def OLe {α : Type} (a b : Option α) : Prop := ∀ r, a = some r → b = some r
theorem OLe.refl {α : Type} (a : Option α) : OLe a a := fun _ h => h
theorem OLe.ite {α : Type} {c : Prop} [Decidable c] {x x' y y' : Option α} (h : OLe x x') (k : OLe y y') : OLe (if c then x else y) (if c then x' else y') := by
  intro r hr
  by_cases hc : c
  · rw [if_pos hc] at hr ⊢; exact h r hr
  · rw [if_neg hc] at hr ⊢; exact k r hr
theorem OLe.bind {α β : Type} {x x' : Option α} {k k' : α → Option β} (h : OLe x x') (hk : ∀ a, OLe (k a) (k' a)) : OLe (x >>= k) (x' >>= k') := by
  intro r hr
  cases hx : x with
  | none => rw [hx] at hr; cases hr
  | some a =>
    rw [hx] at hr
    rw [h a hx]
    exact hk a r hr
end Go.Proofs.YtaennkkcnhfglaaGreatDoor.Ev
