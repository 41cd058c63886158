/- A part of the proof. -/
import Derived.Test.YtaennkkcnhfglaaGreatDoorSEvTab
import Derived.KernelRfl
set_option linter.unusedVariables false
namespace Go.Proofs.YtaennkkcnhfglaaGreatDoor.Ev
variable {E : Env} {P A B : Type}
structure Fb (E : Env) (P A B : Type) where
  f : Nat
  fn : Func
  {α β : Type}
  rl : RwL E α
  rb : RdBL E β
  start : α → β → P
  res : Res E A B
  tab : List (Plc E P) := []
  wr : Wr := mkWr [] []
def Fb.code (b : Fb E P A B) : Code := b.fn.body.getD .skip
def Fb.con (b : Fb E P A B) (run : P → Option (A × B)) : Con E := ⟨b.f, b.α, b.β, b.rl, b.rb, b.res.keep, A × B, fun x y => run (b.start x y), b.res.av, b.res.bx⟩
def Fb.M (b : Fb E P A B) (pt : P) (r : A × B) : Prop :=
  (∀ x y, b.start x y = pt → Good E b.fn b.code b.res.keep (b.res.av r) (b.res.bx r) [] (st0 b.fn.ntmps (b.rl.wt x) (b.rb.wt y))) ∧
  ∀ p ∈ b.tab, ∀ x y, p.to x y = pt → Good E b.fn b.code b.res.keep (b.res.av r) (b.res.bx r) p.rs (mkSt b.fn.ntmps p.live.slots (p.rl.wt x) (p.rb.wt y))
def Fb.Ok (b : Fb E P A B) (run : P → Option (A × B)) : Prop := ∀ pt r, run pt = some r → b.M pt r
theorem Fb.none (b : Fb E P A B) : b.Ok fun _ => .none := fun _ _ h => by cases h
def Fb.at_ (b : Fb E P A B) (cs : List (ua8 E)) (run : P → Option (A × B)) (rs : List Bool) (st : St E.S) : Option (A × B) :=
  vg3 (vS1 cs) b.wr (tbOf b.fn.ntmps b.tab run) b.code (b.res.fin b.fn.results) rs st
def Fb.Step (b : Fb E P A B) (cs : List (ua8 E)) (run F : P → Option (A × B)) (p : Plc E P) : Prop :=
  (enc p.rs = p.q ∧ p.live.keep = b.res.keep) ∧ ∀ x y, b.at_ cs run p.rs (mkSt b.fn.ntmps p.live.slots (p.rl.wt x) (p.rb.wt y)) = F (p.to x y)
theorem Fb.mk_ok (b : Fb E P A B) (hE : E.Ok) (cs : List (ua8 E)) {run F : P → Option (A × B)} (ih : b.Ok run)
    (h0 : ∀ x y, b.at_ cs run [] (st0 b.fn.ntmps (b.rl.wt x) (b.rb.wt y)) = F (b.start x y) := by intros; kernel_rfl)
    (h : All (b.Step cs run F) b.tab := by repeat' first | exact trivial | refine And.intro ⟨⟨by kernel_rfl, by kernel_rfl⟩, fun _ _ => by kernel_rfl⟩ ?_) : b.Ok F := by
  have hl := h.mem
  have step : ∀ {rs : List Bool} {st : St E.S} {r : A × B}, b.at_ cs run rs st = some r → Good E b.fn b.code b.res.keep (b.res.av r) (b.res.bx r) rs st := fun hr =>
    vP2 (l := b.tab) hE rfl (vg8 cs) (wr := b.wr) (fun q hq => (hl q hq).1) (fun q hq x y r hr => (ih _ r hr).2 q hq x y rfl) hr
  refine fun pt r hr => ⟨fun x y e => ?_, fun p hp x y e => ?_⟩
  · subst e; exact step ((h0 x y).trans hr)
  · subst e; exact step (((hl p hp).2 x y).trans hr)
def Fb.okc (b : Fb E P A B) (hE : E.Ok) {run : P → Option (A × B)} (g : b.Ok run) (hf : E.P.funcs[b.f]? = some b.fn := by kernel_rfl) (hb : b.fn.body = some b.code := by kernel_rfl) (hn : (b.fn.name == "runtime.NumGoroutine") = false := by kernel_rfl)
    (hk : ∀ y, Nat.ble b.res.keep (b.rb.wt y).length = true := by exact fun _ => rfl) : ua8 E :=
  ⟨b.con run, fun x y r h => v82 hE hf hb hn (Nat.le_of_ble_eq_true (hk y)) ((g _ r h).1 x y rfl)⟩
end Go.Proofs.YtaennkkcnhfglaaGreatDoor.Ev
