/- A part of the proof. -/
import Derived.Test.YtaennkkcnhfglaaGreatDoorSEvEff
set_option linter.unusedVariables false
namespace Go.Proofs.YtaennkkcnhfglaaGreatDoor.Ev
open Go.RowKit
variable {E : Env} {R : Type}
def Nxt (E : Env) (w0 : World) (G0 : Org) (κ : St E.S → Option R) (r : R) (a : Act) (w : World) : Prop := ∃ st G L, κ st = some r ∧ Inv E w0 G0 st a w G L
theorem Inv.put {w0 w w' : World} {G0 : Org} {G : Gh} {L : Nat → Value} {st : St E.S} {a : Act} (h : Inv E w0 G0 st a w G L) (hb : Below w.heap.size w w') {d : Option Nat} {x : AV E.S} {v : Value} (hx : Rep E w' G L st.n x v) : Inv E w0 G0 (put st d x) (a.put d v) w' G L :=
  ⟨h.st.put hb hx, h.fr.trans (.below hb), by rw [ue0]; exact h.df, by cases d <;> exact h.kp⟩
theorem u65 {st : St E.S} {d : Option Nat} {x : Out E.S} {κ : St E.S → Option R} {r : R} (h : ui0 st d x κ = some r) : ∃ y, ue2 x y ∧ κ (put st d y) = some r := by
  cases x with
  | val x => exact ⟨x, rfl, h⟩
  | chk ok x =>
    simp only [ui0] at h
    by_cases hok : ok = true
    · rw [if_pos hok] at h; exact ⟨x, ⟨hok, rfl⟩, h⟩
    · rw [if_neg hok] at h; cases h
  | run ρ r' f =>
    simp only [ui0, bind] at h
    cases hr : r' with
    | none => rw [hr] at h; cases h
    | some z =>
      rw [hr] at h
      simp only [Option.bind_some] at h
      split at h
      · rename_i y hy; exact ⟨y, ⟨z, rfl, hy⟩, h⟩
      · cases h
  | bad => cases h
theorem uV0 (hE : E.Ok) {spec : Spec E.S} {w0 w : World} {G0 : Org} {G : Gh} {L : Nat → Value} {st : St E.S} {a : Act} (h : Inv E w0 G0 st a w G L) (o : Oper) {κ : St E.S → Option R} {r : R} (hr : ui0 st o.dst (ue4 E spec st o) κ = some r) (Q : Exit → Act → World → Prop) : o.wp E.P a w (Nxt E w0 G0 κ r) Q := by
  obtain ⟨y, hy, hk⟩ := u65 hr
  obtain ⟨v, w', h1, h2, h3⟩ := vl3 hE h.st o hy
  unfold Oper.wp
  rw [h1, Oper.upon_value]
  exact ⟨_, G, L, hk, h.put h2 h3⟩
theorem vA1 (hE : E.Ok) {w0 w : World} {G0 : Org} {G : Gh} {L : Nat → Value} {st : St E.S} {a : Act} (h : Inv E w0 G0 st a w G L) (o : Oper) {t d : Nat} (ho : o.op = .alloc t) (hd : o.dst = some d) {cs : List (AV E.S)} (hz : zeroCells E t = some cs) {κ : St E.S → Option R} {r : R}
    (hr : κ { s := putS st d (.bp st.n 0), b := upd st.b st.n (some (.var t cs)), n := st.n + 1, z := st.z } = some r) (Q : Exit → Act → World → Prop) : o.wp E.P a w (Nxt E w0 G0 κ r) Q := by
  obtain ⟨i, v, hi, hv, rfl, hok⟩ := uw5 hz
  obtain ⟨G', L', hI⟩ := h.alloc hE (t := t) (d := d) (RL.const h.st.one hok)
  have hrun : (execOp a.eval o).run E.P w = .ok (.value (.pointer (some ⟨w.heap.size, 0, none⟩))) (w.alloc (.cells v.cells t)) := by
    unfold execOp
    rw [ho]
    simp [Instr.alloc, zeroValue, typeInfo, hi, hv, newVar, newRow]
  unfold Oper.wp
  rw [hrun, Oper.upon_value, hd]
  exact ⟨_, G', L', hr, by simpa using hI⟩
theorem vV1 (hE : E.Ok) {w0 w : World} {G0 : Org} {G : Gh} {L : Nat → Value} {st : St E.S} {a : Act} (h : Inv E w0 G0 st a w G L) (o : Oper) {t d : Nat} {x : Operand} (ho : o.op = .box t x) (hd : o.dst = some d) (hok : okC (opv st x) = true) {κ : St E.S → Option R} {r : R}
    (hr : κ { s := putS st d (.bp st.n 0), b := upd st.b st.n (some (.var t (cellsOf (opv st x)))), n := st.n + 1, z := st.z } = some r) (Q : Exit → Act → World → Prop) : o.wp E.P a w (Nxt E w0 G0 κ r) Q := by
  obtain ⟨G', L', hI⟩ := h.alloc hE (t := t) (d := d) ((h.st.opv x).cells h.st.one (uu3 hok))
  have hrun : (execOp a.eval o).run E.P w = .ok (.value (.pointer (some ⟨w.heap.size, 0, none⟩))) (w.alloc (.cells (a.eval x).cells t)) := by
    unfold execOp
    rw [ho]
    simp [Instr.box, newVar, newRow]
  unfold Oper.wp
  rw [hrun, Oper.upon_value, hd]
  exact ⟨_, G', L', hr, by simpa using hI⟩
theorem uA1 {w : World} {t b o : Nat} {v : Value} (hi : (E.P.info? t).isSome = true) (hs : v.cells.toList.length = E.P.cellsOf t) (h1 : ∀ y ∈ v.cells.toList, y.oneCell' = true)
    (ht : ∀ j, j < v.cells.toList.length → (w.cell? ⟨b, o + j, none⟩).isSome = true ∧ w.frozen? ⟨b, o + j, none⟩ = false) :
    (Instr.storeAt t (.pointer (some ⟨b, o, none⟩)) v).run E.P w = .ok () (w.setCells b o v.cells.toList) := by
  have := run_storeCells_cells (P := E.P) b o v.cells.toList 0 w (fun j hj => by simpa using (ht j hj).1) (fun j hj => by simpa using (ht j hj).2) h1
  simp only [Nat.add_zero] at this
  obtain ⟨i, hi⟩ := Option.isSome_iff_exists.1 hi
  have hsz : v.cells.size = i.size := by simp [Program.cellsOf, hi] at hs; omega
  simp [Instr.storeAt, Instr.sureAddr, storeVar, sizeOf, typeInfo, hi, hsz, this]
theorem uh0 (b : Nat) : ∀ (vs : List Value) (o : Nat) (w : World), (w.setCells b o vs).os = w.os ∧ (w.setCells b o vs).tape = w.tape ∧ (w.setCells b o vs).output = w.output ∧ (w.setCells b o vs).heap.size = w.heap.size ∧ ∀ k, k ≠ b → (w.setCells b o vs).heap[k]? = w.heap[k]?
 | [], _, _ => ⟨rfl, rfl, rfl, rfl, fun _ _ => rfl⟩
 | v :: vs, o, w => by
   obtain ⟨h1, h2, h3, h4, h5⟩ := uh0 b vs (o + 1) (w.setCell ⟨b, o, none⟩ v)
   have e : w.setCells b o (v :: vs) = (w.setCell ⟨b, o, none⟩ v).setCells b (o + 1) vs := rfl
   rw [e]
   exact ⟨h1, h2, h3, by rw [h4]; simp [World.setCell], fun k hk => by rw [h5 k hk]; exact Below.heap_setCell w ⟨b, o, none⟩ v k hk⟩
theorem uc3 {w : World} {b b' o o' : Nat} (vs : List Value) (h : b' ≠ b) : (w.setCells b o vs).cell? ⟨b', o', none⟩ = w.cell? ⟨b', o', none⟩ := World.cell?_setCells_out b vs o w _ (fun h' => absurd h' h)
theorem Inv.store (hE : E.Ok) {w0 w : World} {G0 : Org} {G : Gh} {L : Nat → Value} {st : St E.S} {a : Act} (h : Inv E w0 G0 st a w G L) {c t off b : Nat} {cs new : List (AV E.S)} {nv : List Value} (hb : st.b c = some (.var t cs)) (hl : L c = .pointer (some ⟨b, 0, none⟩)) (hr : RL E w G L st.n new nv) (hle : off + new.length ≤ cs.length) :
    (∀ j, j < nv.length → (w.cell? ⟨b, off + j, none⟩).isSome = true ∧ w.frozen? ⟨b, off + j, none⟩ = false) ∧ Inv E w0 G0 { st with b := upd st.b c (some (.var t (setCells cs off new))) } a (w.setCells b off nv) G L := by
  obtain ⟨hcn, hbx⟩ := h.st.boxes c _ hb
  cases hbx with
  | var _ _ b' hl' hg hcs =>
    rw [hl] at hl'
    obtain rfl : b = b' := by simpa using hl'
    have hlen := hr.len
    have hthere : ∀ j, j < nv.length → (w.cell? ⟨b, off + j, none⟩).isSome = true ∧ w.frozen? ⟨b, off + j, none⟩ = false := by
      intro j hj
      obtain ⟨h1, v, h2, _⟩ := hcs (off + j) _ (List.getElem?_eq_getElem (by omega))
      exact ⟨by rw [h2]; rfl, h1⟩
    refine ⟨hthere, ?_⟩
    obtain ⟨q1, q2, q3, q4, q5⟩ := uh0 b nv off w
    have hni : ∀ o, ¬ Imm G b o := fun o hi => absurd (hi c 0 hg) (by omega)
    have hf : ∀ b' o v, Imm G b' o → w.cell? ⟨b', o, none⟩ = some v → Imm G b' o ∧ (w.setCells b off nv).cell? ⟨b', o, none⟩ = some v := by
      intro b' o v hi hc
      have hne : b' ≠ b := fun e => hni o (e ▸ hi)
      exact ⟨hi, by rw [uc3 nv hne]; exact hc⟩
    have hkeep : ∀ {x : AV E.S} {v : Value}, Rep E w G L st.n x v → Rep E (w.setCells b off nv) G L st.n x v := fun hx => hx.step hf (fun _ _ => rfl) (Nat.le_refl _)
    refine ⟨⟨fun i => hkeep (h.st.slots i), h.st.size, ?_, ?_, h.st.one, fun g x hg => hkeep (h.st.glob g x hg)⟩, ?_, h.df, h.kp⟩
    · intro c' bx hc'
      by_cases e : c' = c
      · subst e
        simp only [ub4] at hc'
        obtain rfl := Option.some.inj hc'
        refine ⟨hcn, .var t _ b hl hg fun j x hj => ?_⟩
        rw [uc7 _ _ _ hle] at hj
        have old : ∀ j' x', cs[j']? = some x' → (j' < off ∨ off + new.length ≤ j') → (w.setCells b off nv).frozen? ⟨b, j', none⟩ = false ∧ ∃ v, (w.setCells b off nv).cell? ⟨b, j', none⟩ = some v ∧ v.oneCell' = true ∧ Rep E (w.setCells b off nv) G L st.n x' v := by
          intro j' x' hj' hout
          obtain ⟨h1, v, h2, h3, h4⟩ := hcs j' x' hj'
          refine ⟨by rw [World.frozen?_setCells]; exact h1, v, ?_, h3, hkeep h4⟩
          rw [World.cell?_setCells_out b nv off w _ (fun _ _ => by simp only; omega)]
          exact h2
        split at hj
        · rename_i hi; exact old j x hj (.inl hi)
        · rename_i hi
          split at hj
          · rename_i hi2
            have hjn : j - off < nv.length := by omega
            obtain ⟨h1, v, h2, h3, h4⟩ := hcs j _ (List.getElem?_eq_getElem (by omega))
            refine ⟨by rw [World.frozen?_setCells]; exact h1, nv[j - off], ?_, hr.one _ (List.getElem_mem hjn), hkeep (hr.rep _ x _ hj (List.getElem?_eq_getElem hjn))⟩
            have := World.cell?_setCells_in b nv off w (fun j hj => (hthere j hj).1) (j - off) hjn
            rwa [show off + (j - off) = j by omega] at this
          · rename_i hi2; exact old j x hj (.inr (by omega))
      · simp only [ud5 _ _ e] at hc'
        obtain ⟨h1, h2⟩ := h.st.boxes c' bx hc'
        refine ⟨h1, h2.step hE h1 hf (fun _ _ => rfl) (Nat.le_refl _) fun b' u hg' => ?_⟩
        have hne : b' ≠ b := by
          intro e'
          subst e'
          rw [hg] at hg'
          exact e (by simpa using (Prod.mk.inj (Option.some.inj hg')).1.symm)
        exact ⟨hg', fun o v hv => ⟨by rw [uc3 nv hne]; exact hv, World.frozen?_setCells ..⟩, fun ob _ hs => (q5 b' hne).trans hs⟩
    · intro b' c' u hg'
      rw [q4]; exact h.st.own b' c' u hg'
    · refine h.fr.trans ⟨q1, q2, q3, by omega, fun b' h1 h2 => ⟨q5 b' ?_, rfl⟩, hf⟩
      intro e
      subst e
      exact h2 c 0 hg
end Go.Proofs.YtaennkkcnhfglaaGreatDoor.Ev
