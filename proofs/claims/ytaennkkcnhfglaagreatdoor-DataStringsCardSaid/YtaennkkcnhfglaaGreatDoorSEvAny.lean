/- A part of the proof. -/
import Derived.Test.YtaennkkcnhfglaaGreatDoorSEvShelf
import Derived.Lib.IndexAny
set_option linter.unusedVariables false
namespace Go.Proofs.YtaennkkcnhfglaaGreatDoor.Ev
open Go.Shelf Go.Proofs Go.RowKit
noncomputable section
variable {E : Env}
theorem vV0 (w : World) (x y : Obj) : Below w.heap.size w ((w.alloc x).alloc y) := ((Below.refl _ _).alloc (Nat.le_refl _) _).alloc (by simp) _
def uQ2 (s chars : ByteArray) (r : Option ((Int × Unit) × Unit)) : Option ((Int × Unit) × Unit) :=
  if 8 < s.size ∧ s.size < 4294967281 ∧ 2 ≤ chars.size ∧ chars.size < 4294967281 ∧ chars.data.toList.all (fun b => Nat.blt b.toNat 128) = true then some ((Lib.indexAny s.data.toList chars.data.toList, ()), ()) else r
def vH2 (E : Env) (f : Nat) (run : ByteArray → ByteArray → Option ((Int × Unit) × Unit)) : Con E := ⟨f, ByteArray × ByteArray × Unit, Unit, .cons Rd.str.w (.cons Rd.str.w .nil), .nil, 0, (Int × Unit) × Unit, fun a _ => uQ2 a.1 a.2.1 (run a.1 a.2.1), fun r => .v (.int .i64 r.1.1), fun _ => []⟩
theorem vp8 {f : Nat} {run : ByteArray → ByteArray → Option ((Int × Unit) × Unit)} {fn : Func} (hf : E.P.funcs[f]? = some fn) (hb : fn.body.isSome = true) (hnm : (fn.name == "runtime.NumGoroutine") = false)
    (h : ∀ (s chars : ByteArray) (w : World), 2 ≤ chars.size → 8 < s.size → s.size < 4294967281 → chars.size < 4294967281 → (∀ (j : Nat) b, chars.data.toList[j]? = some b → b.toNat < 128) →
      Calls E.P f #[.string s, .string chars] w fun e w' => e = .returned (.int .i64 (Lib.indexAny s.data.toList chars.data.toList)) ∧ Below w.heap.size w w')
    (h1 : ∀ s chars r, run s chars = some r → FnOk E f [.v (.string s), .v (.string chars)] [] 0 (.v (.int .i64 r.1.1)) []) : (vH2 E f run).Ok := by
  intro a b r hr
  obtain ⟨s, chars, u⟩ := a
  have hr : uQ2 s chars (run s chars) = some r := hr
  unfold uQ2 at hr
  split at hr
  case isFalse => exact h1 s chars r hr
  rename_i hc
  obtain ⟨c1, c2, c3, c4, c5⟩ := hc
  obtain rfl := Option.some.inj hr
  refine uk8 hf hb hnm fun w G L0 vs hg => ?_
  obtain ⟨x, y, rfl, hx, hy⟩ := hg.args.two
  obtain rfl := hx.v_inv
  obtain rfl := hy.v_inv
  refine (h s chars w c3 c1 c2 c4 (fun j b hb => ?_)).mono ?_
  · exact Nat.le_of_ble_eq_true (List.all_eq_true.1 c5 b (List.mem_of_getElem? hb))
  · rintro e w' ⟨rfl, hbel⟩
    exact ⟨_, rfl, fun L => .v _ rfl, hbel⟩
end
end Go.Proofs.YtaennkkcnhfglaaGreatDoor.Ev
