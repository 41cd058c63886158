/- A part of the proof. -/
import Derived.Test.YtaennkkcnhfglaaGreatDoorSEvLaw
set_option linter.unusedVariables false
set_option linter.unusedSimpArgs false
set_option linter.unnecessarySimpa false
namespace Go.Proofs.YtaennkkcnhfglaaGreatDoor.Ev
variable {E : Env}
def uH2 (E : Env) (t : Nat) {α : Type} (p : Pk E.S α) (d : α → DataW Unit) : Prop :=
  ∀ (w : World) (n : Nat) (cs : List Value) (a : α) (ps : List MemPlace), DataW.trod (fun _ => ()) E.P w 0 (fun _ => true) false n t cs = some (d a, ps) → RL E w noG noL 0 (p.wt a) cs
theorem uH2.int {t : Nat} {k : IntKind} (hu : E.P.underlying t = some (.int k)) : uH2 E t (Pk.int k) (fun n => .lit (.int k n)) := by
  intro w n cs a ps h
  obtain ⟨m, rfl, hx, _⟩ := DataW.trod_int hu h
  obtain rfl : a = m := by simpa using (Prod.mk.inj hx).1
  exact .single (.v _ rfl) rfl
theorem uH2.bool {t : Nat} (hu : E.P.underlying t = some .bool) : uH2 E t Pk.bool (fun b => .lit (.bool b)) := by
  intro w n cs a ps h
  obtain ⟨m, rfl, hx⟩ := DataW.trod_bool hu h
  obtain rfl : a = m := by simpa using (Prod.mk.inj hx).1
  exact .single (.v _ rfl) rfl
theorem uH2.str {t : Nat} (hu : E.P.underlying t = some .string) : uH2 E t Pk.str (fun s => .lit (.string s.data.toList)) := by
  intro w n cs a ps h
  obtain ⟨s, rfl, hx, _⟩ := DataW.trod_string hu h
  have : a.data.toList = s.data.toList := by simpa using (Prod.mk.inj hx).1
  obtain rfl : a = s := by
    cases a; cases s
    simp at this
    rw [this]
  exact .single (.v _ rfl) rfl
def uQ0 (E : Env) {α : Type} (off : Nat) (fs : List Field) (p : Pk E.S α) (d : α → List (DataW Unit)) : Prop :=
  ∀ (w : World) (n : Nat) (cs : List Value) (a : α) (xs : List (DataW Unit × List MemPlace)), cs.length = off + p.len →
    fs.mapM (fun f => DataW.trod (fun _ => ()) E.P w 0 (fun _ => true) false n f.type ((cs.drop f.offset).take (E.P.cellsOf f.type))) = some xs → xs.map (·.1) = d a → RL E w noG noL 0 (p.wt a) (cs.drop off)
theorem uQ0.nil {off : Nat} : uQ0 E off [] Pk.unit (fun _ => []) := by
  intro w n cs a xs hl _ _
  rw [List.drop_eq_nil_of_le (by rw [hl]; exact Nat.le_refl _)]
  exact .nil
theorem uQ0.cons {off : Nat} {f : Field} {fs : List Field} {α β : Type} {p : Pk E.S α} {q : Pk E.S β} {d : α → DataW Unit} {d' : β → List (DataW Unit)} (ho : f.offset = off) (hc : E.P.cellsOf f.type = p.len) (h : uH2 E f.type p d) (k : uQ0 E (off + p.len) fs q d') : uQ0 E off (f :: fs) (Pk.cons p q) (fun a => d a.1 :: d' a.2) := by
  intro w n cs a xs hl hm hx
  rw [List.mapM_cons] at hm
  obtain ⟨y, hy, hm⟩ := Option.bind_eq_some_iff.1 hm
  obtain ⟨ys, hys, hm⟩ := Option.bind_eq_some_iff.1 hm
  obtain rfl := (Option.some.inj hm).symm
  rw [List.map_cons, List.cons.injEq] at hx
  obtain ⟨y1, y2⟩ := y
  obtain rfl : y1 = d a.1 := hx.1
  have h1 := h w n _ a.1 y2 hy
  have h2 := k w n cs a.2 ys (by rw [hl]; exact (Nat.add_assoc ..).symm) hys hx.2
  have := h1.app h2
  rw [ho, hc] at this
  have e : cs.drop (off + p.len) = (cs.drop off).drop p.len := by rw [List.drop_drop]
  rw [e, List.take_append_drop] at this
  exact this
theorem uH2.struct {t : Nat} {fs : Array Field} (hu : E.P.underlying t = some (.struct fs)) {α : Type} {p : Pk E.S α} {d : α → List (DataW Unit)} (hc : E.P.cellsOf t = p.len) (h : uQ0 E 0 fs.toList p d) : uH2 E t p (fun a => .agg (d a)) := by
  intro w n cs a ps hx
  cases n with
  | zero => simp [DataW.trod] at hx
  | succ m =>
    simp only [DataW.trod, hu] at hx
    split at hx
    · rename_i hcl
      obtain ⟨xs, h3, h4⟩ := Option.map_eq_some_iff.1 hx
      have h5 : xs.map (·.1) = d a := by simpa using (Prod.mk.inj h4).1
      simpa using h w m cs a xs (by rw [hcl, hc, Nat.zero_add]) h3 h5
    · cases hx
theorem uH2.iso {t : Nat} {α β : Type} {p : Pk E.S α} {d : α → DataW Unit} {f : α → β} {g : β → α} {hfg : ∀ a, g (f a) = a} (h : uH2 E t p d) : uH2 E t (Pk.iso p f g hfg) (fun b => d (g b)) :=
  fun w n cs b ps hx => h w n cs (g b) ps hx
end Go.Proofs.YtaennkkcnhfglaaGreatDoor.Ev
