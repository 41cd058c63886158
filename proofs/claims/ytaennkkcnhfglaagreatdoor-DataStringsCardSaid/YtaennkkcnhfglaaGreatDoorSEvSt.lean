/- A part of the proof. -/
import Derived.Test.YtaennkkcnhfglaaGreatDoorSEvRep
set_option linter.unusedVariables false
namespace Go.Proofs.YtaennkkcnhfglaaGreatDoor.Ev
open Go.RowKit
variable {E : Env}
theorem ua9 {w w' : World} (hb : Below w.heap.size w w') {a : Addr} {v : Value} (h : w.cell? a = some v) : w'.cell? a = some v := (hb.cell (World.block_lt_of_cell? w a h)).trans h
theorem Rep.keep {w w' : World} {G : Gh} {L : Nat → Value} {n : Nat} (hb : Below w.heap.size w w') {x : AV E.S} {v : Value} (h : Rep E w G L n x v) : Rep E w' G L n x v :=
  h.mono (fun _ _ _ hi hc => ⟨hi, ua9 hb hc⟩) (fun _ _ => rfl) (Nat.le_refl _)
theorem uc2 {w w' : World} (hb : Below w.heap.size w w') {a : Addr} {v : Value} (h : w.cell? a = some v) : w'.frozen? a = w.frozen? a := hb.frozen (World.block_lt_of_cell? w a h)
theorem ui4.keep {w w' : World} {G : Gh} {L : Nat → Value} {n c e : Nat} {l : List (E.S e)} {sh : Bool} {b off cap : Nat} (hb : Below w.heap.size w w') (h : ui4 E w G L n c e l sh b off cap) :
    ui4 E w' G L n c e l sh b off cap := by
  refine ⟨h.loc, h.le, fun i x j cc hi hj => ?_, ?_⟩
  · obtain ⟨v, h1, h2⟩ := h.cells i x j cc hi hj
    exact ⟨v, ua9 hb h1, h2.keep hb⟩
  · rcases h.own with h | ⟨u, h1, h2, h3, h4⟩
    · exact .inl h
    · refine .inr ⟨u, h1, h2, h3, fun o ho1 ho2 => ?_⟩
      obtain ⟨h5, h6⟩ := h4 o ho1 ho2
      obtain ⟨v, hv⟩ := Option.isSome_iff_exists.1 h5
      exact ⟨by rw [ua9 hb hv]; rfl, by rw [uc2 hb hv]; exact h6⟩
theorem ui3.keep {w w' : World} {G : Gh} {L : Nat → Value} {n c : Nat} {k : PK} {e : Nat} {l : List (k.T × E.S e)} (hb : Below w.heap.size w w') (h : ui3 E w G L n c k e l) : ui3 E w' G L n c k e l := by
  cases h with
  | mk l0 b es clock hl hg hh he hv hq => exact .mk l0 b es clock hl hg (by rw [hb.block b (Array.getElem?_eq_some_iff.1 hh).1]; exact hh) he (fun i p en X h1 h2 h3 => (hv i p en X h1 h2 h3).keep hb) hq
theorem ub2.keep {w w' : World} {G : Gh} {L : Nat → Value} {n c : Nat} {bx : Box E.S} (hb : Below w.heap.size w w') (h : ub2 E w G L n c bx) : ub2 E w' G L n c bx := by
  cases h with
  | var t cs b hl hg h =>
    refine .var t cs b hl hg fun j x hj => ?_
    obtain ⟨h1, v, h2, h4, h3⟩ := h j x hj
    exact ⟨by rw [uc2 hb h2]; exact h1, v, ua9 hb h2, h4, h3.keep hb⟩
  | nil e sh o hl => exact .nil e sh o hl
  | un hl => exact .un hl
  | iter s pos b hl hg hh => exact .iter s pos b hl hg (by rw [hb.block b (Array.getElem?_eq_some_iff.1 hh).1]; exact hh)
  | mp k v l h => exact .mp k v l (h.keep hb)
  | mv k v cs hc h => exact .mv k v cs hc (h.keep hb)
  | row e l sh b off cap h => exact .row e l sh b off cap (h.keep hb)
  | lk e l i j x b off cap hl hle hij hg hc hw =>
    refine .lk e l i j x b off cap hl hle hij hg (fun k y o cc hi hj => ?_) fun o ho1 ho2 => ?_
    · obtain ⟨v, h1, h0, h2⟩ := hc k y o cc hi hj
      exact ⟨v, ua9 hb h1, h0, h2.keep hb⟩
    · obtain ⟨h5, h6⟩ := hw o ho1 ho2
      obtain ⟨v, hv⟩ := Option.isSome_iff_exists.1 h5
      exact ⟨by rw [ua9 hb hv]; rfl, by rw [uc2 hb hv]; exact h6⟩
theorem ue7.keep {w w' : World} {G : Gh} {L : Nat → Value} {st : St E.S} {ts : Array Value} (hb : Below w.heap.size w w') (h : ue7 E w G L st ts) : ue7 E w' G L st ts where
  slots i := (h.slots i).keep hb
  size := h.size
  boxes c bx hc := ⟨(h.boxes c bx hc).1, (h.boxes c bx hc).2.keep hb⟩
  own b c u hg := ⟨Nat.lt_of_lt_of_le (h.own b c u hg).1 hb.size, (h.own b c u hg).2⟩
  one := h.one
  glob g x hg := (h.glob g x hg).keep hb
theorem ub4 {α : Type} (f : Nat → α) (i : Nat) (x : α) : upd f i x i = x := by simp [upd]
theorem ud5 {α : Type} (f : Nat → α) {i j : Nat} (x : α) (h : j ≠ i) : upd f i x j = f j := by
  unfold upd
  have : Nat.beq j i = false := by
    cases hb : Nat.beq j i with
    | false => rfl
    | true => exact absurd (Nat.eq_of_beq_eq_true hb) h
  rw [this]; rfl
theorem um6 {w : World} {G : Gh} {L : Nat → Value} {n : Nat} {st : St E.S} {a : Act} (hz : st.z ≤ a.tmps.size) (hs : ∀ i, Rep E w G L n (st.s i) (a.tmps.getD i undef)) {d : Option Nat} {x : AV E.S} {v : Value} (hx : Rep E w G L n x v) :
    ∀ i, Rep E w G L n ((put st d x).s i) ((a.put d v).tmps.getD i undef) := by
  intro i
  cases d with
  | none => exact hs i
  | some d =>
    show Rep E w G L n (upd st.s d (bif Nat.blt d st.z then x else .dead) i) ((a.tmps.setIfInBounds d v).getD i undef)
    by_cases h : i = d
    · subst h
      rw [ub4]
      cases hb : Nat.blt i st.z with
      | false => exact .dead _
      | true =>
        have h1 : i < st.z := Nat.le_of_ble_eq_true hb
        have h2 : i < a.tmps.size := by omega
        simp only [cond_true]
        rw [Array.getD_eq_getD_getElem?, Array.getElem?_setIfInBounds_self_of_lt h2]
        exact hx
    · rw [ud5 _ _ h, Array.getD_eq_getD_getElem?, Array.getElem?_setIfInBounds_ne (Ne.symm h), ← Array.getD_eq_getD_getElem?]
      exact hs i
theorem uq7 (a : Act) (d : Option Nat) (v : Value) : (a.put d v).tmps.size = a.tmps.size := by cases d <;> simp [Act.put]
theorem ue0 (a : Act) (d : Option Nat) (v : Value) : (a.put d v).defers = a.defers := by cases d <;> rfl
theorem ue7.put {w w' : World} {G : Gh} {L : Nat → Value} {st : St E.S} {a : Act} (hb : Below w.heap.size w w') (h : ue7 E w G L st a.tmps) {d : Option Nat} {x : AV E.S} {v : Value} (hx : Rep E w' G L st.n x v) :
    ue7 E w' G L (put st d x) (a.put d v).tmps := by
  have h' := h.keep hb
  have e : (Ev.put st d x).b = st.b ∧ (Ev.put st d x).n = st.n ∧ (Ev.put st d x).z = st.z := by cases d <;> exact ⟨rfl, rfl, rfl⟩
  refine ⟨?_, ?_, ?_, ?_, ?_, ?_⟩
  · rw [e.2.1]; exact um6 h.size h'.slots hx
  · rw [e.2.2, uq7]; exact h.size
  · rw [e.1, e.2.1]; exact h'.boxes
  · rw [e.2.1]; exact h'.own
  · rw [e.2.1]; exact h.one
  · rw [e.2.1]; exact h'.glob
theorem ue7.dead {w : World} {G : Gh} {L : Nat → Value} {st : St E.S} {a : Act} (h : ue7 E w G L st a.tmps) {d : Option Nat} {v : Value} : ue7 E w G L (Ev.put st d .dead) (a.put d v).tmps :=
  h.put (Below.refl _ _) (.dead _)
theorem Rep.constCell {w : World} {G : Gh} {L : Nat → Value} {n : Nat} (v : Value) : Rep E w G L n (constCell v) v := by
  unfold Ev.constCell
  split
  · exact .nl
  all_goals first | exact .v _ rfl | exact .dead _
theorem vD4 (v : Value) : vP7 v = v.oneCell' := by cases v <;> rfl
theorem Rep.constAV {w : World} {G : Gh} {L : Nat → Value} {n : Nat} (v : Value) : Rep E w G L n (constAV v) v := by
  unfold Ev.constAV
  split
  · rename_i cs
    cases hc : cs.toList.all vP7 with
    | false => exact .dead _
    | true =>
      have := Rep.agg (E := E) (w := w) (G := G) (L := L) (n := n) (cs.toList.map Ev.constCell) cs.toList (by simp) (fun i x y h1 h2 => by
          rw [List.getElem?_map, h2] at h1
          obtain rfl := Option.some.inj h1
          exact Rep.constCell y) (fun y hy => by rw [← vD4]; exact List.all_eq_true.1 hc y hy)
      simpa using this
  · exact Rep.constCell _
theorem ue7.opv {w : World} {G : Gh} {L : Nat → Value} {st : St E.S} {a : Act} (h : ue7 E w G L st a.tmps) (x : Operand) : Rep E w G L st.n (opv st x) (a.eval x) := by
  cases x with
  | tmp t => exact h.slots t
  | const v => exact Rep.constAV v
  | global g =>
    show Rep E w G L st.n ((E.glob g).getD .dead) (.pointer (some ⟨g, 0, none⟩))
    cases hg : E.glob g with
    | none => exact .dead _
    | some x => exact h.glob g x hg
  | func f =>
    have := Rep.fn (E := E) (w := w) (G := G) (L := L) (n := st.n) f [] [] rfl (fun i x y h1 => by simp at h1)
    simpa [Ev.opv, Act.eval] using this
end Go.Proofs.YtaennkkcnhfglaaGreatDoor.Ev
