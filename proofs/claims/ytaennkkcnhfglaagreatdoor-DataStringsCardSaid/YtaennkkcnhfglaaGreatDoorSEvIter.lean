/- A part of the proof. -/
import Derived.Test.YtaennkkcnhfglaaGreatDoorSEvBld
import Derived.Laws.RangeAny
set_option linter.unusedVariables false
set_option linter.unusedSimpArgs false
namespace Go.Proofs.YtaennkkcnhfglaaGreatDoor.Ev
open Go.RowKit
variable {E : Env} {R : Type}
theorem Inv.allocIter (hE : E.Ok) {w0 w : World} {G0 : Org} {G : Gh} {L : Nat → Value} {st : St E.S} {a : Act} (h : Inv E w0 G0 st a w G L) {s : ByteArray} {d : Nat} :
    ∃ G' L', Inv E w0 G0 { s := putS st d (.bp st.n 0), b := upd st.b st.n (some (.iter s 0)), n := st.n + 1, z := st.z } (a.put (some d) (.pointer (some ⟨w.heap.size, 0, none⟩))) (w.iter s 0) G' L' := by
  let G' : Gh := fun b => if b = w.heap.size then some (some st.n, 0) else G b
  let L' : Nat → Value := fun c => if c = st.n then .pointer (some ⟨w.heap.size, 0, none⟩) else L c
  have hb : Below w.heap.size w (w.iter s 0) := (Below.refl _ _).alloc (Nat.le_refl _) _
  have hsz : (w.iter s 0).heap.size = w.heap.size + 1 := uj6 w _
  have hL : ∀ c, c < st.n → L' c = L c := fun c hc => if_neg (by omega)
  have hf : ∀ b o v, Imm G b o → w.cell? ⟨b, o, none⟩ = some v → Imm G' b o ∧ (w.iter s 0).cell? ⟨b, o, none⟩ = some v := by
    intro b o v hi hc
    have hlt : b < w.heap.size := World.block_lt_of_cell? w _ hc
    refine ⟨fun c u hg => hi c u ?_, ua9 hb hc⟩
    have : G' b = G b := if_neg (by omega)
    rw [← this]; exact hg
  have hbig : L' st.n = .pointer (some ⟨w.heap.size, 0, none⟩) := if_pos rfl
  refine ⟨G', L', ⟨?_, ?_, ?_, ?_, ?_, ?_⟩, ?_, ?_, h.kp.mono (Nat.le_succ _) hL⟩
  · have := um6 (E := E) (w := w.iter s 0) (G := G') (L := L') (n := st.n + 1) (st := st) (a := a) (d := some d) (x := .bp st.n 0) (v := .pointer (some ⟨w.heap.size, 0, none⟩)) h.st.size
      (fun i => (h.st.slots i).step hf hL (Nat.le_succ _)) (.bp st.n 0 w.heap.size (Nat.lt_succ_self _) hbig)
    exact this
  · rw [uq7]; exact h.st.size
  · intro c bx hc
    by_cases e : c = st.n
    · subst e
      simp only [ub4] at hc
      obtain rfl := Option.some.inj hc
      exact ⟨Nat.lt_succ_self _, .iter s 0 w.heap.size hbig (if_pos rfl) (World.iter_heap w s 0)⟩
    · simp only [ud5 _ _ e] at hc
      obtain ⟨h1, h2⟩ := h.st.boxes c bx hc
      refine ⟨Nat.lt_succ_of_lt h1, h2.step hE h1 hf hL (Nat.le_succ _) fun b u hg => ?_⟩
      have hlt := (h.st.own b c u hg).1
      refine ⟨by rw [← hg]; exact if_neg (by omega), fun o v hv => ⟨ua9 hb hv, uc2 hb hv⟩, fun ob _ hs => (hb.block b (Array.getElem?_eq_some_iff.1 hs).1).trans hs⟩
  · intro b c u hg
    by_cases e : b = w.heap.size
    · have : G' b = some (some st.n, 0) := if_pos e
      rw [this] at hg
      obtain ⟨rfl, rfl⟩ := Prod.mk.inj (Option.some.inj hg)
      exact ⟨by rw [e, hsz]; exact Nat.lt_succ_self _, fun k hk => by obtain rfl := Option.some.inj hk; exact Nat.lt_succ_self _⟩
    · have : G' b = G b := if_neg e
      rw [this] at hg
      obtain ⟨h1, h2⟩ := h.st.own b c u hg
      exact ⟨Nat.lt_of_lt_of_le h1 hb.size, fun k hk => Nat.lt_succ_of_lt (h2 k hk)⟩
  · intro c hc
    by_cases e : c = st.n
    · subst e; rw [hbig]; rfl
    · rw [hL c (by simp at hc; omega)]; exact h.st.one c (by simp at hc; omega)
  · exact fun g x hg => (h.st.glob g x hg).step hf hL (Nat.le_succ _)
  · refine h.fr.trans ⟨hb.os, hb.tape, hb.output, hb.size, fun b h1 h2 => ⟨hb.block b h1, ?_⟩, hf⟩
    exact if_neg (by omega)
  · rw [ue0]; exact h.df
theorem vE6 (hE : E.Ok) {w0 w : World} {G0 : Org} {G : Gh} {L : Nat → Value} {st : St E.S} {a : Act} (h : Inv E w0 G0 st a w G L) (o : Oper) {t d : Nat} {x : Operand} (ho : o.op = .range t x) (hd : o.dst = some d) (hu : E.P.underlying t = some .string) {s : ByteArray} (hx : opv st x = .v (.string s)) {κ : St E.S → Option R} {r : R}
    (hr : κ { s := putS st d (.bp st.n 0), b := upd st.b st.n (some (.iter s 0)), n := st.n + 1, z := st.z } = some r) (Q : Exit → Act → World → Prop) : o.wp E.P a w (Nxt E w0 G0 κ r) Q := by
  have hv := h.st.opv x
  rw [hx] at hv
  have hev : a.eval x = .string s := by generalize a.eval x = v at hv; exact hv.v_inv
  obtain ⟨G', L', hI⟩ := h.allocIter hE (s := s) (d := d)
  have hex : (execOp a.eval o).run E.P w = .ok (.value (.pointer (some ⟨w.heap.size, 0, none⟩))) (w.iter s 0) := by
    unfold execOp
    rw [ho]
    simp [hev, run_range_string w t s hu]
  unfold Oper.wp
  rw [hex, Oper.upon_value, hd]
  exact ⟨_, G', L', hr, hI⟩
def setIter (w : World) (b : Nat) (s : ByteArray) (pos : Nat) : World := { w with heap := w.heap.setIfInBounds b (.stringIter s pos) }
theorem uw4 {w : World} {b b' : Nat} {s : ByteArray} {pos : Nat} (h : b' ≠ b) : (setIter w b s pos).heap[b']? = w.heap[b']? := by
  simp [setIter, Array.getElem?_setIfInBounds_ne (Ne.symm h)]
theorem Inv.setIter (hE : E.Ok) {w0 w : World} {G0 : Org} {G : Gh} {L : Nat → Value} {st : St E.S} {a : Act} (h : Inv E w0 G0 st a w G L) {c b : Nat} {s : ByteArray} {pos pos' : Nat} (hb : st.b c = some (.iter s pos)) (hl : L c = .pointer (some ⟨b, 0, none⟩)) (hg : G b = some (some c, 0)) (hh : w.heap[b]? = some (.stringIter s pos)) :
    Inv E w0 G0 { s := st.s, b := upd st.b c (some (.iter s pos')), n := st.n, z := st.z } a (Ev.setIter w b s pos') G L := by
  have hlt : b < w.heap.size := (Array.getElem?_eq_some_iff.1 hh).1
  have hnew : (Ev.setIter w b s pos').heap[b]? = some (.stringIter s pos') := by simp [Ev.setIter, hlt]
  have hcell : ∀ b' o, (Ev.setIter w b s pos').cell? ⟨b', o, none⟩ = w.cell? ⟨b', o, none⟩ := fun b' o => by
    by_cases e : b' = b
    · subst e; simp only [World.cell?, hnew, hh]
    · exact World.cell?_of_block (w := w) (uw4 e)
  have hfz : ∀ b' o, (Ev.setIter w b s pos').frozen? ⟨b', o, none⟩ = w.frozen? ⟨b', o, none⟩ := fun b' o => by
    by_cases e : b' = b
    · subst e; simp only [World.frozen?, hnew, hh]
    · exact World.frozen?_of_block (w := w) (uw4 e)
  have hf : ∀ b o v, Imm G b o → w.cell? ⟨b, o, none⟩ = some v → Imm G b o ∧ (Ev.setIter w _ s pos').cell? ⟨b, o, none⟩ = some v := fun b' o v h1 h2 => ⟨h1, (hcell b' o).trans h2⟩
  have hsz : (Ev.setIter w b s pos').heap.size = w.heap.size := by simp [Ev.setIter]
  have hcn := (h.st.boxes c _ hb).1
  refine ⟨⟨fun i => (h.st.slots i).step hf (fun _ _ => rfl) (Nat.le_refl _), h.st.size, fun c' bx hc => ?_, fun b' c' u hg' => by rw [hsz]; exact h.st.own b' c' u hg', h.st.one, fun g x hg => (h.st.glob g x hg).step hf (fun _ _ => rfl) (Nat.le_refl _)⟩, ?_, h.df, h.kp⟩
  · by_cases e : c' = c
    · subst e
      simp only [ub4] at hc
      obtain rfl := Option.some.inj hc
      exact ⟨hcn, .iter s pos' b hl hg hnew⟩
    · simp only [ud5 _ _ e] at hc
      obtain ⟨h1, h2⟩ := h.st.boxes c' bx hc
      refine ⟨h1, h2.step hE h1 hf (fun _ _ => rfl) (Nat.le_refl _) fun b' u hg' => ⟨hg', fun o v hv => ⟨(hcell b' o).trans hv, hfz b' o⟩, fun ob _ hs' => ?_⟩⟩
      have hne : b' ≠ b := fun e' => by
        subst e'
        rw [hg] at hg'
        exact e (by simpa using (Prod.mk.inj (Option.some.inj hg')).1.symm)
      exact (uw4 hne).trans hs'
  · refine h.fr.trans ⟨rfl, rfl, rfl, by rw [hsz]; exact Nat.le_refl _, fun b' h1 h2 => ⟨uw4 fun e => h2 c 0 (e ▸ hg), rfl⟩, hf⟩
theorem vQ2 (hE : E.Ok) {w0 w : World} {G0 : Org} {G : Gh} {L : Nat → Value} {st : St E.S} {a : Act} (h : Inv E w0 G0 st a w G L) (o : Oper) {x : Operand} (ho : o.op = .next x true) {c : Nat} (hx : opv st x = .bp c 0) {s : ByteArray} {pos : Nat} (hb : st.b c = some (.iter s pos)) {κ : St E.S → Option R} {r : R}
    (hr : (if decide (pos < s.size) = true then κ { s := putO st o.dst (.tup [.v (.bool true), .v (.int .i64 (pos : Int)), .v (.int .i32 ((Utf8.decode s pos).1 : Int))]), b := upd st.b c (some (.iter s (pos + (Utf8.decode s pos).2))), n := st.n, z := st.z } else κ (put st o.dst (.tup [.v (.bool false)]))) = some r) (Q : Exit → Act → World → Prop) : o.wp E.P a w (Nxt E w0 G0 κ r) Q := by
  have hv := h.st.opv x
  rw [hx] at hv
  obtain ⟨_, hbx⟩ := h.st.boxes c _ hb
  cases hbx with
  | iter _ _ b hl hg hh =>
    have hev : a.eval x = .pointer (some ⟨b, 0, none⟩) := by
      generalize a.eval x = v at hv
      cases hv with
      | bp _ _ b' hc h' => rw [hl] at h'; cases h'; rfl
    by_cases hp : pos < s.size
    · rw [if_pos (by simpa using hp)] at hr
      have hex : (execOp a.eval o).run E.P w = .ok (.value (.tuple #[.bool true, .int .i64 pos, .int .i32 (Utf8.decode s pos).1])) (setIter w b s (pos + (Utf8.decode s pos).2)) := by
        unfold execOp
        rw [ho]
        simp [hev, Instr.next, getObj, setObj, Sem.run, hh, hp, goInt, setIter]
      have hI := h.setIter hE (pos' := pos + (Utf8.decode s pos).2) hb hl hg hh
      have hI2 := hI.st.put (Below.refl _ _) (d := o.dst) (a := a) (x := .tup [.v (.bool true), .v (.int .i64 (pos : Int)), .v (.int .i32 ((Utf8.decode s pos).1 : Int))]) (v := .tuple #[.bool true, .int .i64 pos, .int .i32 (Utf8.decode s pos).1])
        (.tup _ [.bool true, .int .i64 pos, .int .i32 (Utf8.decode s pos).1] rfl fun i x y hi hy => by
          match i, hi, hy with
          | 0, hi, hy => cases hi; cases hy; exact .v _ rfl
          | 1, hi, hy => cases hi; cases hy; exact .v _ rfl
          | 2, hi, hy => cases hi; cases hy; exact .v _ rfl
          | i + 3, hi, _ => simp at hi)
      unfold Oper.wp
      rw [hex, Oper.upon_value]
      refine ⟨_, G, L, hr, ⟨?_, hI.fr, by rw [ue0]; exact h.df, h.kp⟩⟩
      cases hd : o.dst <;> rw [hd] at hI2 <;> exact hI2
    · rw [if_neg (by simpa using hp)] at hr
      have hex : (execOp a.eval o).run E.P w = .ok (.value (.tuple #[.bool false])) w := by
        unfold execOp
        rw [ho]
        simp [hev, Instr.next, getObj, Sem.run, hh, hp]
      have hI2 := h.st.put (Below.refl _ _) (d := o.dst) (a := a) (x := .tup [.v (.bool false)]) (v := .tuple #[.bool false])
        (.tup _ [.bool false] rfl fun i x y hi hy => by
          match i, hi, hy with
          | 0, hi, hy => cases hi; cases hy; exact .v _ rfl
          | i + 1, hi, _ => simp at hi)
      unfold Oper.wp
      rw [hex, Oper.upon_value]
      refine ⟨_, G, L, hr, ⟨hI2, h.fr, by rw [ue0]; exact h.df, ?_⟩⟩
      have : (put st o.dst (.tup [.v (.bool false)])).n = st.n := by cases o.dst <;> rfl
      rw [this]; exact h.kp
end Go.Proofs.YtaennkkcnhfglaaGreatDoor.Ev
