/- A part of the proof. -/
import Derived.Test.YtaennkkcnhfglaaGreatDoorSEvMap
set_option linter.unusedVariables false
set_option linter.unusedSimpArgs false
namespace Go.Proofs.YtaennkkcnhfglaaGreatDoor.Ev
variable {E : Env}
theorem Inv.storeLk (hE : E.Ok) {w0 w : World} {G0 : Org} {G : Gh} {L : Nat → Value} {st : St E.S} {a : Act} (h : Inv E w0 G0 st a w G L) {c e i j b o0 m cap : Nat} {l : List (E.S e)} {x x' : AV E.S} {v' : Value} (hb : st.b c = some (.lk e l i j x)) (hl : L c = .slice (some ⟨b, o0, none⟩) m cap) (hx : Rep E w G L st.n x' v') (h1 : v'.oneCell' = true) :
    ((w.cell? ⟨b, o0 + i * E.P.cellsOf e + j, none⟩).isSome = true ∧ w.frozen? ⟨b, o0 + i * E.P.cellsOf e + j, none⟩ = false) ∧
    Inv E w0 G0 { st with b := upd st.b c (some (.lk e l i j x')) } a (w.setCells b (o0 + i * E.P.cellsOf e + j) [v']) G L := by
  obtain ⟨hcn, hbx⟩ := h.st.boxes c _ hb
  cases hbx with
  | lk _ _ _ _ _ b' o0' cap' hl' hle hij hg hcs hw =>
    rw [hl] at hl'
    simp only [Value.slice.injEq, Option.some.injEq, Addr.mk.injEq, and_true] at hl'
    obtain ⟨⟨rfl, rfl⟩, rfl, rfl⟩ := hl'
    obtain ⟨y, hi, hj⟩ := hij
    have hil : i < l.length := (List.getElem?_eq_some_iff.1 hi).1
    have hmul : i * E.P.cellsOf e + E.P.cellsOf e ≤ l.length * E.P.cellsOf e := by rw [← Nat.succ_mul]; exact Nat.mul_le_mul_right _ hil
    have hcap : l.length * E.P.cellsOf e ≤ cap * E.P.cellsOf e := Nat.mul_le_mul_right _ hle
    have hjc : j < E.P.cellsOf e := by rw [← hE.len e y]; exact hj
    obtain ⟨A, hA⟩ : ∃ A, A = o0 + i * E.P.cellsOf e + j := ⟨_, rfl⟩
    have hthere := hw A (by omega) (by omega)
    rw [← hA]
    refine ⟨hthere, ?_⟩
    obtain ⟨q1, q2, q3, q4, q5⟩ := uh0 b [v'] A w
    have hni : ∀ o, ¬ Imm G b o := fun o hi => absurd (hi (some c) 0 hg) (by omega)
    have hf : ∀ b' o v, Imm G b' o → w.cell? ⟨b', o, none⟩ = some v → Imm G b' o ∧ (w.setCells b A [v']).cell? ⟨b', o, none⟩ = some v := by
      intro b' o v hi hc
      have hne : b' ≠ b := fun e => hni o (e ▸ hi)
      exact ⟨hi, by rw [uc3 _ hne]; exact hc⟩
    have hkeep : ∀ {x : AV E.S} {v : Value}, Rep E w G L st.n x v → Rep E (w.setCells b A [v']) G L st.n x v := fun hx => hx.step hf (fun _ _ => rfl) (Nat.le_refl _)
    have hout : ∀ o, o ≠ A → (w.setCells b A [v']).cell? ⟨b, o, none⟩ = w.cell? ⟨b, o, none⟩ := fun o ho => World.cell?_setCells_out b [v'] A w _ (fun _ _ => by simp; omega)
    have hin : (w.setCells b A [v']).cell? ⟨b, A, none⟩ = some v' := by
      have := World.cell?_setCells_in b [v'] A w (fun k hk => by
        have : k = 0 := by simpa using hk
        subst this
        exact hthere.1) 0 (by simp)
      simpa using this
    refine ⟨⟨fun i => hkeep (h.st.slots i), h.st.size, ?_, ?_, h.st.one, fun g x hg => hkeep (h.st.glob g x hg)⟩, ?_, h.df, h.kp⟩
    · intro c' bx hc'
      by_cases e1 : c' = c
      · subst e1
        simp only [ub4] at hc'
        obtain rfl := Option.some.inj hc'
        refine ⟨hcn, .lk e l i j x' b o0 cap hl hle ⟨y, hi, hj⟩ hg (fun k z o cc hk ho => ?_) fun o ho1 ho2 => ?_⟩
        · have hkl : k < l.length := (List.getElem?_eq_some_iff.1 hk).1
          by_cases hki : k = i
          · subst hki
            rw [hi] at hk
            obtain rfl := Option.some.inj hk
            unfold uj1 at ho
            rw [Nat.beq_refl] at ho
            simp only [cond_true] at ho
            by_cases hjo : j = o
            · subst hjo
              rw [List.getElem?_set_self hj] at ho
              obtain rfl := Option.some.inj ho
              rw [← hA]
              exact ⟨v', hin, h1, hkeep hx⟩
            · rw [List.getElem?_set_ne hjo] at ho
              obtain ⟨v, g1, g0, g2⟩ := hcs k y o cc hi (by unfold uj1; rw [Nat.beq_refl]; simp only [cond_true]; rw [List.getElem?_set_ne hjo]; exact ho)
              exact ⟨v, by rw [hout _ (by omega)]; exact g1, g0, hkeep g2⟩
          · have hfb : Nat.beq k i = false := by
              cases hq : Nat.beq k i with
              | false => rfl
              | true => exact absurd (Nat.eq_of_beq_eq_true hq) hki
            have ho' : (uj1 E e i j x k z)[o]? = some cc := by
              unfold uj1 at ho ⊢
              rw [hfb] at ho ⊢
              exact ho
            have hoc : o < E.P.cellsOf e := by
              unfold uj1 at ho'
              rw [hfb] at ho'
              rw [← hE.len e z]
              exact (List.getElem?_eq_some_iff.1 ho').1
            obtain ⟨v, g1, g0, g2⟩ := hcs k z o cc hk ho'
            refine ⟨v, ?_, g0, hkeep g2⟩
            rw [hout _ ?_]
            · exact g1
            · intro he
              rcases Nat.lt_or_gt_of_ne hki with hlt | hlt
              · have := Nat.mul_le_mul_right (E.P.cellsOf e) (show k + 1 ≤ i by omega)
                rw [Nat.add_mul, Nat.one_mul] at this
                omega
              · have := Nat.mul_le_mul_right (E.P.cellsOf e) (show i + 1 ≤ k by omega)
                rw [Nat.add_mul, Nat.one_mul] at this
                omega
        · obtain ⟨g1, g2⟩ := hw o ho1 ho2
          refine ⟨?_, by rw [World.frozen?_setCells]; exact g2⟩
          by_cases hoA : o = A
          · rw [hoA, hin]; rfl
          · rw [hout o hoA]; exact g1
      · simp only at hc'
        rw [ud5 _ _ e1] at hc'
        obtain ⟨h1, h2⟩ := h.st.boxes c' bx hc'
        refine ⟨h1, h2.step hE h1 hf (fun _ _ => rfl) (Nat.le_refl _) fun b' u hg' => ?_⟩
        have hne : b' ≠ b := by
          intro e'
          subst e'
          rw [hg] at hg'
          exact e1 (by simpa using (Prod.mk.inj (Option.some.inj hg')).1.symm)
        exact ⟨hg', fun o v hv => ⟨by rw [uc3 _ hne]; exact hv, World.frozen?_setCells ..⟩, fun ob _ hs => (q5 b' hne).trans hs⟩
    · intro b' c' u hg'
      rw [q4]; exact h.st.own b' c' u hg'
    · refine h.fr.trans ⟨q1, q2, q3, by omega, fun b' h1 h2 => ⟨q5 b' ?_, rfl⟩, hf⟩
      intro e
      subst e
      exact h2 c 0 hg
end Go.Proofs.YtaennkkcnhfglaaGreatDoor.Ev
