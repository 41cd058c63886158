/- A part of the proof. -/
import Derived.Test.YtaennkkcnhfglaaGreatDoorSEvLk
set_option linter.unusedVariables false
set_option linter.unusedSimpArgs false
namespace Go.Proofs.YtaennkkcnhfglaaGreatDoor.Ev
variable {E : Env} {R : Type}
theorem Inv.emptyRow (hE : E.Ok) {w0 w : World} {G0 : Org} {G : Gh} {L : Nat → Value} {st : St E.S} {a : Act} (h : Inv E w0 G0 st a w G L) (e : Nat) :
    ∃ L', L' st.n = .slice none 0 0 ∧ Inv E w0 G0 { s := st.s, b := upd st.b st.n (some (.row e [] false)), n := st.n + 1, z := st.z } a w G L' := by
  let L' : Nat → Value := fun c => if c = st.n then .slice none 0 0 else L c
  have hL : ∀ c, c < st.n → L' c = L c := fun c hc => if_neg (by omega)
  have hLn : L' st.n = .slice none 0 0 := if_pos rfl
  have hf : ∀ b o v, Imm G b o → w.cell? ⟨b, o, none⟩ = some v → Imm G b o ∧ w.cell? ⟨b, o, none⟩ = some v := fun _ _ _ h1 h2 => ⟨h1, h2⟩
  refine ⟨L', hLn, ⟨⟨fun j => (h.st.slots j).step hf hL (Nat.le_succ _), h.st.size, ?_, ?_, ?_, fun g x hg => (h.st.glob g x hg).step hf hL (Nat.le_succ _)⟩, h.fr, h.df, h.kp.mono (Nat.le_succ _) hL⟩⟩
  · intro c x hc
    by_cases e : c = st.n
    · subst e
      simp only [ub4] at hc
      obtain rfl := Option.some.inj hc
      exact ⟨Nat.lt_succ_self _, .nil _ false none hLn⟩
    · simp only [ud5 _ _ e] at hc
      obtain ⟨h1, h2⟩ := h.st.boxes c x hc
      exact ⟨Nat.lt_succ_of_lt h1, h2.step hE h1 hf hL (Nat.le_succ _) fun b u hg => ⟨hg, fun o v hv => ⟨hv, rfl⟩, fun _ _ hs => hs⟩⟩
  · intro b c u hg
    obtain ⟨h1, h2⟩ := h.st.own b c u hg
    exact ⟨h1, fun k hk => Nat.lt_succ_of_lt (h2 k hk)⟩
  · intro c hc
    by_cases e : c = st.n
    · subst e; rw [hLn]; rfl
    · have : c < st.n := by simp only at hc; omega
      rw [hL c this]; exact h.st.one c this
theorem Inv.openLk (hE : E.Ok) {w0 w : World} {G0 : Org} {G : Gh} {L : Nat → Value} {st : St E.S} {a : Act} (h : Inv E w0 G0 st a w G L) {c e i j : Nat} {l : List (E.S e)} {y : E.S e} (hb : st.b c = some (.row e l false)) (hi : l[i]? = some y) {e' : Nat} (hj : (E.cells e y)[j]? = some (.so e' none)) {x : AV E.S} (hx : Rep E w G L st.n x (.slice none 0 0)) :
    Inv E w0 G0 { st with b := upd st.b c (some (.lk e l i j x)) } a w G L := by
  obtain ⟨hc, hbx⟩ := h.st.boxes c _ hb
  refine h.setBox hc ?_
  have hil := (List.getElem?_eq_some_iff.1 hi).1
  cases hbx with
  | nil => simp at hil
  | row _ _ _ b off cap hr =>
    rcases hr.own with ⟨_, h3, _⟩ | ⟨u, h3, _, h5, h6⟩
    · rcases h3 with h3 | h3
      · cases h3
      · subst h3; simp at hil
    · obtain rfl := h5 rfl
      refine .lk e l i j x b off cap hr.loc hr.le ⟨y, hi, (List.getElem?_eq_some_iff.1 hj).1⟩ h3 (fun k z o cc hk ho => ?_) h6
      have plain : (E.cells e z)[o]? = some cc → ∃ v, w.cell? ⟨b, off + k * E.P.cellsOf e + o, none⟩ = some v ∧ v.oneCell' = true ∧ Rep E w G L st.n cc v := fun ho => by
        obtain ⟨v, g1, g2⟩ := hr.cells k z o cc hk ho
        exact ⟨v, g1, g2.oneCell h.st.one (hE.cell e z cc (List.mem_of_getElem? ho)).1, g2⟩
      unfold uj1 at ho
      cases hki : Nat.beq k i with
      | false => rw [hki] at ho; exact plain ho
      | true =>
        rw [hki] at ho
        simp only [cond_true] at ho
        obtain rfl := Nat.eq_of_beq_eq_true hki
        rw [hi] at hk
        obtain rfl := Option.some.inj hk
        by_cases hjo : j = o
        · subst hjo
          rw [List.getElem?_set_self (List.getElem?_eq_some_iff.1 hj).1] at ho
          obtain rfl := Option.some.inj ho
          obtain ⟨v, g1, g2⟩ := hr.cells k y j _ hi hj
          cases g2 with
          | so0 => exact ⟨_, g1, rfl, hx⟩
        · rw [List.getElem?_set_ne hjo] at ho
          exact plain ho
theorem Inv.closeLk (hE : E.Ok) {w0 w : World} {G0 : Org} {G : Gh} {L : Nat → Value} {st : St E.S} {a : Act} (h : Inv E w0 G0 st a w G L) {c e i j : Nat} {l : List (E.S e)} {x : AV E.S} {y y' : E.S e} (hb : st.b c = some (.lk e l i j x)) (hi : l[i]? = some y) (hp : E.pack e ((E.cells e y).set j (ul4 st.b x)) = some y') :
    Inv E w0 G0 { st with b := upd st.b c (some (.row e (l.set i y') false)) } a w G L := by
  obtain ⟨hc, hbx⟩ := h.st.boxes c _ hb
  refine h.setBox hc ?_
  have hil := (List.getElem?_eq_some_iff.1 hi).1
  cases hbx with
  | lk _ _ _ _ _ b off cap hl hle hij hg hcs hw =>
    refine .row e _ false b off cap ⟨by rw [List.length_set]; exact hl, by rw [List.length_set]; exact hle, fun k z o cc hk ho => ?_, .inr ⟨0, hg, (fun hs => nomatch hs), fun _ => rfl, hw⟩⟩
    by_cases hki : i = k
    · subst hki
      rw [List.getElem?_set_self hil] at hk
      obtain rfl := Option.some.inj hk
      obtain ⟨hlen, hwk⟩ := hE.pack e _ _ hp
      have hol : o < (E.cells e y).length := by
        have := (List.getElem?_eq_some_iff.1 ho).1
        rw [← hlen, List.length_set] at this
        exact this
      by_cases hjo : j = o
      · subst hjo
        have hwj := hwk j (ul4 st.b x) cc (List.getElem?_set_self hol) ho
        obtain ⟨v, g1, _, g2⟩ := hcs i y j x hi (by unfold uj1; rw [Nat.beq_refl]; exact List.getElem?_set_self hol)
        have g3 : Rep E w G L st.n (ul4 st.b x) v := by
          unfold ul4
          split
          · rename_i c1
            split
            · rename_i e1 l1 hb1
              obtain ⟨hv, _⟩ := g2.rw_inv
              rw [hv]
              exact (h.st.boxes c1 _ hb1).2.snap hE
            · exact g2
          · exact g2
        exact ⟨v, g1, g3.weak hwj⟩
      · have hco := List.getElem?_eq_getElem hol
        have hwj := hwk o _ cc (by rw [List.getElem?_set_ne hjo]; exact hco) ho
        obtain ⟨v, g1, _, g2⟩ := hcs i y o _ hi (by unfold uj1; rw [Nat.beq_refl]; simp only [cond_true]; rw [List.getElem?_set_ne hjo]; exact hco)
        exact ⟨v, g1, g2.weak hwj⟩
    · rw [List.getElem?_set_ne hki] at hk
      have hf : Nat.beq k i = false := by
        cases hq : Nat.beq k i with
        | false => rfl
        | true => exact absurd (Nat.eq_of_beq_eq_true hq).symm hki
      obtain ⟨v, g1, _, g2⟩ := hcs k z o cc hk (by unfold uj1; rw [hf]; exact ho)
      exact ⟨v, g1, g2⟩
theorem u28 (hE : E.Ok) {w0 w : World} {G0 : Org} {G : Gh} {L : Nat → Value} {st : St E.S} {a : Act} (h : Inv E w0 G0 st a w G L) {d j : Nat} {κ : St E.S → Option R} {r : R} (hr : vf8 st d j κ = some r) :
    ∃ st' L', Inv E w0 G0 st' a w G L' ∧ κ st' = some r := by
  unfold vf8 at hr
  split at hr
  · rename_i c e n hs
    split at hr
    · rename_i e' l hb
      rw [Bool.cond_eq_ite] at hr
      split at hr
      · obtain ⟨y, hy, hr⟩ := Option.bind_eq_some_iff.1 hr
        split at hr
        · rename_i e1 o hc
          split at hr
          · rename_i ho
            obtain rfl : o = none := by cases o with | none => rfl | some _ => cases ho
            have hc0 : c < st.n := (h.st.boxes c _ hb).1
            obtain ⟨L', hn, h'⟩ := h.emptyRow hE e1
            have hb' : (upd st.b st.n (some (.row e1 [] false))) c = some (.row e' l false) := by rw [ud5 _ _ (by omega)]; exact hb
            have hi : l[n.toNat]? = some y := by
              unfold idx at hy
              split at hy
              · exact hy
              · cases hy
            refine ⟨_, L', h'.openLk hE (c := c) hb' hi hc (x := .rw st.n) ?_, hr⟩
            have := Rep.rw (E := E) (w := w) (G := G) (L := L') (n := st.n + 1) st.n (Nat.lt_succ_self _) (by rw [hn]; rfl)
            rwa [hn] at this
          · cases hr
        · cases hr
      · cases hr
    · cases hr
  · cases hr
theorem u29 (hE : E.Ok) {wr : Wr} {o : Oper} {w0 w : World} {G0 : Org} {G : Gh} {L : Nat → Value} {st : St E.S} {a : Act} (h : Inv E w0 G0 st a w G L) {κ : St E.S → Option R} {r : R} (hr : uR7 wr o κ st = some r) :
    ∃ st' L', Inv E w0 G0 st' a w G L' ∧ κ st' = some r := by
  have key : uR7 wr o κ = κ ∨ ∃ d j, uR7 wr o κ = fun st => vf8 st d j κ := by
    unfold uR7
    split
    · split
      · exact .inr ⟨_, _, rfl⟩
      · exact .inl rfl
    · exact .inl rfl
  rcases key with e | ⟨d, j, e⟩
  · rw [e] at hr; exact ⟨st, L, h, hr⟩
  · rw [e] at hr; exact u28 hE h hr
end Go.Proofs.YtaennkkcnhfglaaGreatDoor.Ev
