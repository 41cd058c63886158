/- A part of the proof. -/
import Derived.Test.YtaennkkcnhfglaaGreatDoorSEvMake
set_option linter.unusedVariables false
set_option linter.unusedSimpArgs false
namespace Go.Proofs.YtaennkkcnhfglaaGreatDoor.Ev
open Go.RowKit
variable {E : Env} {R : Type}
theorem vC0 (hE : E.Ok) {w0 w : World} {G0 : Org} {G : Gh} {L : Nat → Value} {st : St E.S} {a : Act} (h : Inv E w0 G0 st a w G L) (o : Oper) {t e m d : Nat} {parts : Array (Nat × Operand)} (ho : o.op = .buildSlice t m parts) (hd : o.dst = some d) (hu : E.P.underlying t = some (.slice e))
    (hmz : (zeroCells E e).isSome = true) (hb1 : uy3 0 parts.toList = true) (hb2 : parts.toList.length = m) (hb3 : m * E.P.cellsOf e ≤ 16777216) {l : List (E.S e)} (hl : uL9 E e (parts.toList.map fun p => uh6 st.b (opv st p.2)) = some l) {κ : St E.S → Option R} {r : R}
    (hr : κ (up4 st d none e l false) = some r) (Q : Exit → Act → World → Prop) : o.wp E.P a w (Nxt E w0 G0 κ r) Q := by
  obtain ⟨z, hz⟩ := Option.isSome_iff_exists.1 hmz
  obtain ⟨C, hrun0, hlm, hCl, hC1, hat⟩ := ux0 (pv := parts.map fun p => (p.1, a.eval p.2)) hE h.st.one (fun b c u hg => (h.st.own b c u hg).1) hu hz hl (by simp) (by simpa using hb2) hb3 fun i x q hx hq => by
    obtain ⟨_, hp⟩ := u77 h.st parts
    rw [List.getElem?_map] at hx
    cases ho : parts.toList[i]? with
    | none => simp [ho] at hx
    | some p =>
      rw [ho] at hx
      obtain rfl := Option.some.inj hx
      obtain ⟨h1, h2⟩ := hp i (p.1, opv st p.2) q (by rw [List.getElem?_map, ho]; rfl) hq
      have h3 := uu0 _ 0 hb1 i p ho
      exact ⟨by simp at h1; omega, um7 hE h.st h2⟩
  have hCsz : C.size = m * E.P.cellsOf e := by rw [← hCl, Array.length_toList]
  have hrun : (execOp a.eval o).run E.P w = .ok (.value (.slice (some ⟨w.heap.size, 0, none⟩) m m)) (w.alloc (.cells C e)) := by
    unfold execOp
    rw [ho]
    simp [hrun0]
  have hbel : Below w.heap.size w (w.alloc (.cells C e)) := (Below.refl _ _).alloc (Nat.le_refl _) _
  let G' : Gh := fun b => if b = w.heap.size then some (some st.n, 0) else G b
  have hGo : ∀ b, b < w.heap.size → G' b = G b := fun b hb => if_neg (by omega)
  have hGn : G' w.heap.size = some (some st.n, 0) := if_pos rfl
  have hf : ∀ b o u, Imm G b o → w.cell? ⟨b, o, none⟩ = some u → Imm G' b o ∧ (w.alloc (.cells C e)).cell? ⟨b, o, none⟩ = some u := by
    intro b o u hi hc
    have hlt : b < w.heap.size := World.block_lt_of_cell? w _ hc
    exact ⟨fun c u hg => hi c u (by rw [← hGo b hlt]; exact hg), ua9 hbel hc⟩
  have hcell : ∀ j, (w.alloc (.cells C e)).cell? ⟨w.heap.size, j, none⟩ = C[j]? := fun j => World.cell?_alloc_new (w := w) C e j
  have hflat : Flat E w G L st.n e l C.toList := ⟨by rw [hCl, hlm], hC1, fun i x j cc hi hj => hat i x j cc hi hj⟩
  obtain ⟨L', hI⟩ := h.newRow (w' := w.alloc (.cells C e)) (G' := G') hE (d := d) (c := none) (l := l) (sh := false) (v := .slice (some ⟨w.heap.size, 0, none⟩) m m) rfl hf
    (fun c' b u _ hg => by
      have hlt := (h.st.own b c' u hg).1
      exact ⟨by rw [hGo b hlt]; exact hg, fun o v hv => ⟨ua9 hbel hv, uc2 hbel hv⟩, fun ob _ hs => (hbel.block b (Array.getElem?_eq_some_iff.1 hs).1).trans hs⟩)
    (fun b c' u hg => by
      by_cases e1 : b = w.heap.size
      · subst e1
        rw [hGn] at hg
        obtain ⟨rfl, rfl⟩ := Prod.mk.inj (Option.some.inj hg)
        exact ⟨by rw [uj6]; omega, fun k hk => by obtain rfl := Option.some.inj hk; exact Nat.lt_succ_self _⟩
      · have : G' b = G b := if_neg e1
        rw [this] at hg
        obtain ⟨h1, h2⟩ := h.st.own b c' u hg
        exact ⟨by rw [uj6]; omega, fun k hk => Nat.lt_succ_of_lt (h2 k hk)⟩)
    ⟨hbel.os, hbel.tape, hbel.output, hbel.size, fun b h1 h2 => ⟨hbel.block b h1, hGo b h1⟩, hf⟩
    (.row e _ false w.heap.size 0 m (ui4.fresh hE (vs := C.toList) (by simp [hlm]) (by omega)
      (hflat.step hf (fun k hk => if_neg (by omega)) (Nat.le_succ _)) (fun j u hj => by
        rw [Nat.zero_add, hcell, ← Array.getElem?_toList]; exact hj)
      (.inr ⟨0, hGn, fun hs => (by cases hs), fun _ => rfl, fun o _ ho => by
        rw [Nat.zero_add, ← hCsz] at ho
        exact ⟨by rw [hcell]; simp [ho], uo7 w C e o⟩⟩)))
  unfold Oper.wp
  rw [hrun, Oper.upon_value, hd]
  exact ⟨_, G', L', hr, hI⟩
end Go.Proofs.YtaennkkcnhfglaaGreatDoor.Ev
