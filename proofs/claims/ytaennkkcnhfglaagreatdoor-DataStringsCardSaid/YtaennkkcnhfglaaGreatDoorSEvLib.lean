/- A part of the proof. -/
import Derived.Test.YtaennkkcnhfglaaGreatDoorSEvTab
import Derived.Laws.Externs
import Derived.Laws.StandIn
set_option linter.unusedVariables false
namespace Go.Proofs.YtaennkkcnhfglaaGreatDoor.Ev
noncomputable section
variable {E : Env}
theorem ux3.two {w : World} {G : Gh} {L : Nat → Value} {n : Nat} {x y : AV E.S} {vs : List Value} (h : ux3 E w G L n [x, y] vs) : ∃ u v, vs = [u, v] ∧ Rep E w G L n x u ∧ Rep E w G L n y v := by
  match vs, h.len with
  | [u, v], _ => exact ⟨u, v, rfl, h.rep 0 x u rfl rfl, h.rep 1 y v rfl rfl⟩
theorem uA4.still {w : World} {G : Gh} {L : Nat → Value} {xs : List (AV E.S)} {vs : List Value} (hg : vm9 E w G L [] xs vs) {y : AV E.S} {v : Value} (h : Rep E w G L 0 y v) : uA4 E w G y [] v w G L ∧ 0 ≤ ([] : List (Box E.S)).length ∧ ∀ i, i < 0 → L i = L i :=
  ⟨⟨.refl _ _, hg.own, h, fun k x hk => by simp at hk, fun k hk => by simp at hk⟩, Nat.le_refl _, fun _ _ => rfl⟩
def vG9 (p : ByteArray × Int × Unit) (_ : Unit) : Option ((Int × Unit) × Unit) := some ((firstIdx p.1 p.2.1.toNat.toUInt8, ()), ())
def un1 (E : Env) (f : Nat) : Con E := ⟨f, ByteArray × Int × Unit, Unit, .cons Rd.str.w (.cons (Rd.int .u8).w .nil), .nil, 0, (Int × Unit) × Unit, vG9, fun r => .v (.int .i64 r.1.1), fun _ => []⟩
theorem ut6 (f : Nat) {fn : Func} (hf : E.P.funcs[f]? = some fn) (hb : fn.body.isNone = true) (hnm : (fn.name == "runtime.NumGoroutine") = false) (hn : Extern.findNext fn = none) (he : Extern.find fn = some Extern.BytealgIndexByte.indexByte) : (un1 E f).Ok := by
  intro a b r h w G L0 vs hg
  obtain rfl := Option.some.inj h
  obtain ⟨u, v, rfl, hu, hv⟩ := hg.args.two
  obtain rfl := hu.v_inv
  obtain rfl := hv.v_inv
  refine ⟨.value (.int .i64 (firstIdx a.1 a.2.1.toNat.toUInt8)), w, ?_, .inr ⟨_, rfl, G, L0, uA4.still hg (.v _ rfl)⟩⟩
  show (callFunc f #[.string a.1, .int .u8 a.2.1]).run E.P w = _
  rw [run_callFunc_indexByte hf hnm hb hn he, run_indexByte_string]
  rfl
end
end Go.Proofs.YtaennkkcnhfglaaGreatDoor.Ev
