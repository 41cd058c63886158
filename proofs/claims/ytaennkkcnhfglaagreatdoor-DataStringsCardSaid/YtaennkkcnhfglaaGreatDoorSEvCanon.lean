/- A part of the proof. -/
import Derived.Test.YtaennkkcnhfglaaGreatDoorSEvDraw
set_option linter.unusedVariables false
set_option linter.unusedSimpArgs false
namespace Go.Proofs.YtaennkkcnhfglaaGreatDoor.Ev
open Go.RowKit
variable {E : Env} {R : Type}
theorem uZ5 {w : World} {G : Gh} {L : Nat → Value} {n : Nat} {s : Nat → AV E.S} {ts : Array Value} (h : ∀ i, Rep E w G L n (s i) (ts.getD i undef)) {k : Nat} {x : AV E.S} (hx : Rep E w G L n x (ts.getD k undef)) (i : Nat) : Rep E w G L n (upd s k x i) (ts.getD i undef) := by
  by_cases e : i = k
  · subst e; rw [ub4]; exact hx
  · rw [ud5 _ _ e]; exact h i
theorem Inv.newBox (hE : E.Ok) {w0 w : World} {G0 : Org} {G : Gh} {L : Nat → Value} {st : St E.S} {a : Act} (h : Inv E w0 G0 st a w G L) {i e0 : Nat} {l0 : List (E.S e0)} {sh0 : Bool} {bx : Box E.S} (hbx : bx = .row e0 l0 sh0) (ho : (a.tmps.getD i undef).oneCell' = true)
    (hb : ∀ L' : Nat → Value, (∀ c, c < st.n → L' c = L c) → L' st.n = a.tmps.getD i undef → ub2 E w G L' (st.n + 1) st.n bx) :
    ∃ L', Inv E w0 G0 { s := upd st.s i (.rw st.n), b := upd st.b st.n (some bx), n := st.n + 1, z := st.z } a w G L' := by
  let L' : Nat → Value := fun c => if c = st.n then a.tmps.getD i undef else L c
  have hL : ∀ c, c < st.n → L' c = L c := fun c hc => if_neg (by omega)
  have hLn : L' st.n = a.tmps.getD i undef := if_pos rfl
  have hf : ∀ b o v, Imm G b o → w.cell? ⟨b, o, none⟩ = some v → Imm G b o ∧ w.cell? ⟨b, o, none⟩ = some v := fun _ _ _ h1 h2 => ⟨h1, h2⟩
  refine ⟨L', ⟨⟨uZ5 (fun j => (h.st.slots j).step hf hL (Nat.le_succ _)) ?_, h.st.size, ?_, ?_, ?_, fun g x hg => (h.st.glob g x hg).step hf hL (Nat.le_succ _)⟩, h.fr, h.df, h.kp.mono (Nat.le_succ _) hL⟩⟩
  · rw [← hLn]; subst hbx; exact .rw st.n (Nat.lt_succ_self _) (hb L' hL hLn).isSl
  · intro c x hc
    by_cases e : c = st.n
    · subst e
      simp only [ub4] at hc
      obtain rfl := Option.some.inj hc
      exact ⟨Nat.lt_succ_self _, hb L' hL hLn⟩
    · simp only [ud5 _ _ e] at hc
      obtain ⟨h1, h2⟩ := h.st.boxes c x hc
      exact ⟨Nat.lt_succ_of_lt h1, h2.step hE h1 hf hL (Nat.le_succ _) fun b u hg => ⟨hg, fun o v hv => ⟨hv, rfl⟩, fun _ _ hs => hs⟩⟩
  · intro b c u hg
    obtain ⟨h1, h2⟩ := h.st.own b c u hg
    exact ⟨h1, fun k hk => Nat.lt_succ_of_lt (h2 k hk)⟩
  · intro c hc
    by_cases e : c = st.n
    · subst e; rw [hLn]; exact ho
    · have : c < st.n := by simp only at hc; omega
      rw [hL c this]; exact h.st.one c this
theorem uk9 (hE : E.Ok) {w0 w : World} {G0 : Org} {G : Gh} {a : Act} : ∀ (l : List (Nat × Nat)) {st : St E.S} {L : Nat → Value}, Inv E w0 G0 st a w G L → ∃ L', Inv E w0 G0 (uF0 st l) a w G L'
 | [], st, L, h => ⟨L, h⟩
 | (i, e) :: l, st, L, h => by
   have hs := h.st.slots i
   unfold uF0
   split
   · rename_i hi
     rw [hi] at hs
     have hv : a.tmps.getD i undef = .slice none 0 0 := by generalize a.tmps.getD i undef = v at hs; cases hs; rfl
     obtain ⟨L', h'⟩ := h.newBox hE (i := i) (bx := .row e [] false) rfl (by rw [hv]; rfl) fun L' _ hn => .nil e false none (by rw [hn, hv])
     exact uk9 hE l h'
   · rename_i e' xs hi
     rw [hi] at hs
     have hone := hs.oneCell h.st.one (by rfl)
     obtain ⟨L', h'⟩ := h.newBox hE (i := i) (bx := .row e' xs true) rfl hone fun L' hL hn => by
       generalize hv : a.tmps.getD i undef = v at hs hn
       cases hs with
       | sn => exact .nil e' true none hn
       | se _ a => exact .nil e' true (some a) hn
       | sl _ _ _ b off cap vals hc hf h1 h2 =>
         have hcap := hf rfl
         subst hcap
         have step : ∀ {x : AV E.S} {v : Value}, Rep E w G L st.n x v → Rep E w G L' (st.n + 1) x v := fun h => h.step (fun _ _ _ h1 h2 => ⟨h1, h2⟩) hL (Nat.le_succ _)
         refine .row e' xs true b off xs.length ⟨hn, Nat.le_refl _, fun i x j cc hi' hj => ⟨_, (h1 i x j cc hi' hj).2, step (h2 i x j cc hi' hj)⟩, .inl ⟨rfl, .inl rfl, fun o ho1 ho2 => ?_⟩⟩
         obtain ⟨h5, h6, h7⟩ := us8 (show o - off < xs.length * E.P.cellsOf e' by omega)
         have hj := List.getElem?_eq_getElem (show (o - off) % E.P.cellsOf e' < (E.cells e' xs[(o - off) / E.P.cellsOf e']).length by rw [hE.len]; exact h6)
         have := (h1 _ _ _ _ (List.getElem?_eq_getElem h5) hj).1
         rwa [Nat.add_assoc, h7, show off + (o - off) = o by omega] at this
     exact uk9 hE l h'
   · exact uk9 hE l h
theorem Inv.slot {w0 w : World} {G0 : Org} {G : Gh} {L : Nat → Value} {st : St E.S} {a : Act} (h : Inv E w0 G0 st a w G L) {i : Nat} {x : AV E.S} (hx : Rep E w G L st.n x (a.tmps.getD i undef)) : Inv E w0 G0 { st with s := upd st.s i x } a w G L :=
  ⟨⟨uZ5 h.st.slots hx, h.st.size, h.st.boxes, h.st.own, h.st.one, h.st.glob⟩, h.fr, h.df, h.kp⟩
theorem uh8 (hE : E.Ok) {w0 w : World} {G0 : Org} {G : Gh} {a : Act} {L : Nat → Value} : ∀ (l : List (Nat × Nat)) {st : St E.S}, Inv E w0 G0 st a w G L → Inv E w0 G0 (uF9 st l) a w G L
 | [], st, h => h
 | (i, e) :: l, st, h => by
   have hs := h.st.slots i
   unfold uF9
   split
   · rename_i hi
     rw [hi] at hs
     exact uh8 hE l (h.slot (hs.weak (.nil e)))
   · rename_i e' xs hi
     rw [hi] at hs
     exact uh8 hE l (h.slot (hs.weak (.full e' xs true)))
   · rename_i c hi
     rw [hi] at hs
     split
     · rename_i e' xs hb
       obtain ⟨hv, hc⟩ := hs.rw_inv
       refine uh8 hE l (h.slot ?_)
       rw [hv]
       exact (h.st.boxes c _ hb).2.snap hE
     · exact uh8 hE l h
   · exact uh8 hE l h
theorem u68 (hE : E.Ok) {w0 w : World} {G0 : Org} {G : Gh} {L : Nat → Value} {st : St E.S} {a : Act} (h : Inv E w0 G0 st a w G L) {e : Nat} {x : AV E.S} {v : Value} (hx : Rep E w G L st.n x v) : Rep E w G L st.n (vP1 st.b e x) v := by
  unfold vP1
  split
  · exact hx.weak (.nil e)
  · exact hx.weak (.full _ _ true)
  · rename_i c
    split
    · rename_i e' xs hb
      obtain ⟨hv, hc⟩ := hx.rw_inv
      rw [hv]
      exact (h.st.boxes c _ hb).2.snap hE
    · exact hx
  · exact hx
theorem vm4 {vs : List Nat} {st : St E.S} {b : Nat → Option (Box E.S)} {n : Nat} {i j : Nat} : vg9 vs { s := st.s, b := b, n := n, z := st.z } i j = vg9 vs st i j := rfl
theorem uG5 (hE : E.Ok) {vs : List Nat} {w0 w : World} {G0 : Org} {G : Gh} {L : Nat → Value} {st : St E.S} {a : Act} (h : Inv E w0 G0 st a w G L) {i j : Nat} {x y : AV E.S} (hx : u07 vs st i j = some x) (hxy : ∀ v, Rep E w G L st.n x v → Rep E w G L st.n y v) : Inv E w0 G0 (vf7 vs st i j y) a w G L := by
  have hs := h.st.slots i
  unfold u07 at hx
  unfold vf7
  split at hx
  · rename_i c k hsp
    cases hb : st.b c with
    | none => exact h
    | some bx =>
      cases bx with
      | row e l sh => exact h
      | un => exact h
      | iter => exact h
      | mp => exact h
      | mv => exact h
      | lk => exact h
      | var t cs =>
        simp only
        rw [hb] at hx
        obtain ⟨hc, hbx⟩ := h.st.boxes c _ hb
        refine ⟨⟨h.st.slots, h.st.size, fun d bx hd => ?_, h.st.own, h.st.one, h.st.glob⟩, h.fr, h.df, h.kp⟩
        by_cases hdc : d = c
        · subst hdc
          simp only [ub4] at hd
          obtain rfl := Option.some.inj hd
          refine ⟨hc, ?_⟩
          cases hbx with
          | var _ _ b hl hg hcs =>
            refine .var t _ b hl hg fun m x' hk => ?_
            by_cases hjk : k = m
            · subst hjk
              have : k < cs.length := (List.getElem?_eq_some_iff.1 hx).1
              rw [List.getElem?_set_self this] at hk
              obtain rfl := Option.some.inj hk
              obtain ⟨h1, v, h2, h3, h4⟩ := hcs k x hx
              exact ⟨h1, v, h2, h3, hxy v h4⟩
            · rw [List.getElem?_set_ne hjk] at hk
              exact hcs m x' hk
        · simp only [ud5 _ _ hdc] at hd
          exact h.st.boxes d bx hd
  · split at hx
    · rename_i cs hi
      rw [hi] at hs
      refine h.slot ?_
      generalize a.tmps.getD i undef = v at hs
      cases hs with
      | agg _ vs hl hr h1 =>
        refine .agg _ vs (by simpa using hl) (fun k x' y' hk hy => ?_) h1
        by_cases hjk : j = k
        · subst hjk
          have : j < cs.length := (List.getElem?_eq_some_iff.1 hx).1
          rw [List.getElem?_set_self this] at hk
          obtain rfl := Option.some.inj hk
          exact hxy _ (hr j x y' hx hy)
        · rw [List.getElem?_set_ne hjk] at hk
          exact hr k x' y' hk hy
    · cases hx
theorem ul7 (hE : E.Ok) {vs : List Nat} {w0 w : World} {G0 : Org} {G : Gh} {a : Act} : ∀ (l : List (Bool × Nat × Nat × Nat)) {st : St E.S} {L : Nat → Value}, Inv E w0 G0 st a w G L → ∃ L', Inv E w0 G0 (deep vs st l) a w G L'
 | [], st, L, h => ⟨L, h⟩
 | (up, i, j, e) :: l, st, L, h => by
   unfold deep
   split
   · exact ul7 hE l h
   · rename_i x hx
     cases up with
     | false =>
       simp only [cond_false]
       exact ul7 hE l (uG5 hE h hx fun v hv => u68 hE h hv)
     | true =>
       simp only [cond_true]
       split
       · obtain ⟨L', hn, h'⟩ := h.emptyRow hE e
         have hx' : u07 vs { s := st.s, b := upd st.b st.n (some (.row e [] false)), n := st.n + 1, z := st.z } i j = some (.nl : AV E.S) := by
           unfold u07 at hx ⊢
           rw [vm4]
           split at hx
           · rename_i c k hsp
             have hc : c < st.n := by
               cases hb : st.b c with
               | none => rw [hb] at hx; simp [boxCells] at hx
               | some bx => exact (h.st.boxes c bx hb).1
             simp only
             rw [ud5 _ _ (by omega)]
             exact hx
           · simp only
             exact hx
         refine ul7 hE l (uG5 hE h' hx' fun v hv => ?_)
         cases hv
         rw [← hn]
         exact .rw st.n (Nat.lt_succ_self _) (by rw [hn]; rfl)
       · exact ul7 hE l h
theorem u06 (hE : E.Ok) {w0 w : World} {G0 : Org} {G : Gh} {L : Nat → Value} {st : St E.S} {a : Act} (h : Inv E w0 G0 st a w G L) (lv : Live) (m : List Nat) (hm : ∀ c ∈ m, c < st.n) (hkeep : ∀ i, i < G0.k → m[i]? = some i) :
    ∃ G' L', Inv E w0 G0 (uQ4 lv st m) a w G' L' := by
  let G' : Gh := fun b => (G b).map fun p => (p.1.bind (uj9 m), p.2)
  let L' : Nat → Value := fun d => match m[d]? with | some c => L c | none => undef
  have hρ : ∀ c d, c < st.n → uj9 m c = some d → d < m.length ∧ L' d = L c := by
    intro c d _ hd
    unfold uj9 at hd
    cases hc : mem c m with
    | false => rw [hc] at hd; cases hd
    | true =>
      rw [hc] at hd
      obtain rfl := Option.some.inj hd
      have := uU8 hc
      exact ⟨(List.getElem?_eq_some_iff.1 this).1, by simp only [L', this]⟩
  have himm : ∀ b o, Imm G b o → Imm G' b o := by
    intro b o hi c u hg
    obtain ⟨p, hp, he⟩ := Option.map_eq_some_iff.1 hg
    have := hi p.1 p.2 hp
    rw [(Prod.mk.inj he).2] at this
    exact this
  have hf : ∀ b o v, Imm G b o → w.cell? ⟨b, o, none⟩ = some v → Imm G' b o ∧ w.cell? ⟨b, o, none⟩ = some v := fun b o v h1 h2 => ⟨himm b o h1, h2⟩
  have hren : ∀ {x : AV E.S} {v : Value}, Rep E w G L st.n x v → Rep E w G' L' m.length (mapV (uj9 m) x) v := fun hx => hx.ren hf hρ (hE.ren _)
  refine ⟨G', L', ⟨⟨fun j => ?_, h.st.size, fun k bx hk => ?_, fun b c u hg => ?_, fun k hk => ?_, fun g x hg => ?_⟩, ?_, h.df, ?_⟩⟩
  · simp only [uQ4]
    cases mem j lv.slots with
    | true => exact hren (h.st.slots j)
    | false => exact .dead _
  · simp only [uQ4] at hk
    split at hk
    · rename_i c hc
      rw [Bool.cond_eq_ite] at hk
      split at hk
      · rename_i hp
        obtain ⟨bx', h1, rfl⟩ := Option.map_eq_some_iff.1 hk
        obtain ⟨h2, h3⟩ := h.st.boxes c bx' h1
        have hkl := (List.getElem?_eq_some_iff.1 hc).1
        have hpk := Nat.eq_of_beq_eq_true hp
        have hmem := uE6 hc
        refine ⟨hkl, h3.out.ren hE hf hρ (by simp only [L', hc]) fun b u hg => ?_⟩
        simp only [G', hg, Option.map_some, Option.bind_some]
        unfold uj9
        rw [hmem, hpk]
        rfl
      · cases hk
    · cases hk
  · obtain ⟨p, hp, he⟩ := Option.map_eq_some_iff.1 hg
    obtain ⟨e1, e2⟩ := Prod.mk.inj he
    obtain ⟨h1, h2⟩ := h.st.own b p.1 p.2 hp
    refine ⟨h1, fun k hk => ?_⟩
    rw [← e1] at hk
    obtain ⟨c, hc, hd⟩ := Option.bind_eq_some_iff.1 hk
    exact (hρ c k (h2 c hc) hd).1
  · simp only [uQ4] at hk
    have hc := List.getElem?_eq_getElem hk
    simp only [L', hc]
    exact h.st.one _ (hm _ (List.getElem_mem hk))
  · have := hren (h.st.glob g x hg)
    rwa [um1 _ _ (hE.glob g x hg)] at this
  · refine h.fr.trans ⟨rfl, rfl, rfl, Nat.le_refl _, fun b hb hg => ⟨rfl, ?_⟩, hf⟩
    simp only [G']
    cases hgb : G b with
    | none => rfl
    | some p =>
      obtain ⟨c, u⟩ := p
      cases c with
      | none => rfl
      | some k => exact absurd hgb (hg k u)
  · refine ⟨?_, fun i hi => ?_, h.kp.2.2⟩
    · simp only [uQ4]
      rcases Nat.eq_zero_or_pos G0.k with h0 | h0
      · omega
      · have := (List.getElem?_eq_some_iff.1 (hkeep (G0.k - 1) (by omega))).1
        omega
    · simp only [L', hkeep i hi]
      exact h.kp.2.1 i hi
theorem uG8 (hE : E.Ok) {w0 w : World} {G0 : Org} {G : Gh} {L : Nat → Value} {st : St E.S} {a : Act} (h : Inv E w0 G0 st a w G L) (cs : List Nat) : ∃ G', Inv E w0 G0 (uS4 st cs) a w G' L := by
  let nu : Nat → Nat → Nat := fun c u => match st.b c with
    | some (.row e l false) => (match L c with | .slice (some ad) _ _ => max u (ad.off + l.length * E.P.cellsOf e) | _ => u)
    | _ => u
  have hnu : ∀ c u, u ≤ nu c u := by
    intro c u
    simp only [nu]
    split
    · split
      · exact Nat.le_max_left _ _
      · exact Nat.le_refl _
    · exact Nat.le_refl _
  let G' : Gh := fun b => (G b).map fun p => (p.1, match p.1 with | some c => bif mem c cs then nu c p.2 else p.2 | none => p.2)
  have himm : ∀ b o, Imm G b o → Imm G' b o := by
    intro b o hi c u hg
    obtain ⟨p, hp, he⟩ := Option.map_eq_some_iff.1 hg
    obtain ⟨c1, u1⟩ := p
    have h1 := hi c1 u1 hp
    obtain ⟨e1, e2⟩ := Prod.mk.inj he
    simp only at e1 e2
    subst e1
    cases c1 with
    | none => simp only at e2; omega
    | some c1 =>
      simp only at e2
      cases hm : mem c1 cs with
      | false => rw [hm] at e2; simp only [cond_false] at e2; omega
      | true => rw [hm] at e2; simp only [cond_true] at e2; have := hnu c1 u1; omega
  have hf : ∀ b o v, Imm G b o → w.cell? ⟨b, o, none⟩ = some v → Imm G' b o ∧ w.cell? ⟨b, o, none⟩ = some v := fun b o v h1 h2 => ⟨himm b o h1, h2⟩
  have keep : ∀ {x : AV E.S} {v : Value}, Rep E w G L st.n x v → Rep E w G' L st.n x v := fun hx => hx.step hf (fun _ _ => rfl) (Nat.le_refl _)
  refine ⟨G', ⟨⟨fun i => keep (h.st.slots i), h.st.size, fun c bx hc => ?_, fun b c u hg => ?_, h.st.one, fun g x hg => keep (h.st.glob g x hg)⟩, ?_, h.df, h.kp⟩⟩
  · simp only [uS4] at hc
    have same : ∀ bx, st.b c = some bx → (∀ e l, bx = .row e l false → mem c cs = false) → c < st.n ∧ ub2 E w G' L st.n c bx := by
      intro bx hb hno
      obtain ⟨h1, h2⟩ := h.st.boxes c bx hb
      refine ⟨h1, h2.step hE h1 hf (fun _ _ => rfl) (Nat.le_refl _) fun b u hg => ⟨?_, fun o v hv => ⟨hv, rfl⟩, fun _ _ hs => hs⟩⟩
      show (G b).map _ = _
      rw [hg]
      simp only [Option.map_some]
      cases hm : mem c cs with
      | false => rfl
      | true =>
        simp only [cond_true]
        have : nu c u = u := by
          simp only [nu]
          split
          · rename_i e l hb2
            rw [hb] at hb2
            have := hno e l (Option.some.inj hb2)
            rw [hm] at this; cases this
          · rfl
        rw [this]
    cases hm : mem c cs with
    | false =>
      rw [hm] at hc
      exact same bx hc (fun _ _ _ => hm)
    | true =>
      rw [hm] at hc
      simp only [cond_true] at hc
      obtain ⟨bx0, hb0, rfl⟩ := Option.map_eq_some_iff.1 hc
      by_cases hrow : ∃ e l, bx0 = .row e l false
      · obtain ⟨e, l, rfl⟩ := hrow
        obtain ⟨h1, h2⟩ := h.st.boxes c _ hb0
        refine ⟨h1, ?_⟩
        show ub2 E w G' L st.n c (.row e l true)
        cases h2 with
        | nil _ _ o hl => exact .nil e true o hl
        | row _ _ _ b off cap hr =>
          refine .row e l true b off cap ⟨hr.loc, hr.le, fun i x j cc hi hj => ?_, ?_⟩
          · obtain ⟨v, h3, h4⟩ := hr.cells i x j cc hi hj
            exact ⟨v, h3, keep h4⟩
          · rcases hr.own with ⟨h3, h4, h5⟩ | ⟨u, h3, h4, h5, h6⟩
            · exact .inl ⟨h3, .inl rfl, fun o h7 h8 => himm b o (h5 o h7 h8)⟩
            · refine .inr ⟨off + l.length * E.P.cellsOf e, ?_, fun _ => rfl, fun hs => (by cases hs), h6⟩
              show (G b).map _ = _
              rw [h3]
              simp only [Option.map_some, hm, cond_true]
              have : nu c u = off + l.length * E.P.cellsOf e := by
                simp only [nu, hb0, hr.loc]
                rw [h5 rfl]
                exact Nat.max_eq_right (Nat.zero_le _)
              rw [this]
      · have e1 : vZ7 bx0 = bx0 := by
          cases bx0 <;> try rfl
          rename_i e l sh
          cases sh with
          | true => rfl
          | false => exact absurd ⟨e, l, rfl⟩ hrow
        rw [e1]
        exact same bx0 hb0 (fun e l he => absurd ⟨e, l, he⟩ hrow)
  · obtain ⟨p, hp, he⟩ := Option.map_eq_some_iff.1 hg
    obtain ⟨h1, h2⟩ := h.st.own b p.1 p.2 hp
    exact ⟨h1, fun k hk => h2 k (by rw [(Prod.mk.inj he).1]; exact hk)⟩
  · refine h.fr.trans ⟨rfl, rfl, rfl, Nat.le_refl _, fun b hb hg => ⟨rfl, ?_⟩, hf⟩
    show (G b).map _ = _
    cases hgb : G b with
    | none => rfl
    | some p =>
      obtain ⟨c, u⟩ := p
      cases c with
      | none => rfl
      | some k => exact absurd hgb (hg k u)
theorem uN9 (hE : E.Ok) {vs : List Nat} {w0 w : World} {G0 : Org} {G : Gh} {L : Nat → Value} {st : St E.S} {a : Act} (h : Inv E w0 G0 st a w G L) (is : List Nat) : ∃ G', Inv E w0 G0 (vF6 vs st is) a w G' L := by
  cases is with
  | nil => exact ⟨G, h⟩
  | cons i is => exact uG8 hE h _
theorem u09 (hE : E.Ok) {w0 w : World} {G0 : Org} {G : Gh} {L : Nat → Value} {st : St E.S} {a : Act} (h : Inv E w0 G0 st a w G L) (c : Nat) : ∃ G', Inv E w0 G0 (vp6 st c) a w G' L := by
  unfold vp6
  split
  · rename_i e l i j m hb
    split
    · rename_i e2 l2 sh hm
      split
      · rename_i e1 hk
        rw [Bool.cond_eq_ite]
        split
        · rename_i he
          obtain rfl := Nat.eq_of_beq_eq_true he
          have hcm : c ≠ m := fun e => by rw [e, hm] at hb; cases hb
          obtain ⟨G', h'⟩ := uG8 hE h [m]
          have hm' : (uS4 st [m]).b = upd st.b m (some (.row e1 l2 true)) := by
            funext k
            show (bif mem k [m] then _ else _) = _
            unfold mem mem upd
            by_cases e : k = m
            · subst e
              rw [Nat.beq_refl]
              simp only [cond_true]
              rw [hm]
              cases sh <;> rfl
            · have e1 : Nat.beq m k = false := by cases hq : Nat.beq m k with | false => rfl | true => exact absurd (Nat.eq_of_beq_eq_true hq).symm e
              have e2 : Nat.beq k m = false := by cases hq : Nat.beq k m with | false => rfl | true => exact absurd (Nat.eq_of_beq_eq_true hq) e
              rw [e1, e2]
              rfl
          have hb' : (uS4 st [m]).b c = some (.lk e l i j (.rw m)) := by rw [hm', ud5 _ _ hcm]; exact hb
          obtain ⟨y, hy⟩ : ∃ y, l[i]? = some y := by
            have := (h.st.boxes c _ hb).2
            cases this with
            | lk _ _ _ _ _ b off cap hl hle hij hg hcs hw => exact ⟨hij.choose, hij.choose_spec.1⟩
          obtain ⟨y', hp⟩ := Option.isSome_iff_exists.1 (hE.lk e j e1 hk y l2)
          have hsn : ul4 (uS4 st [m]).b (.rw m : AV E.S) = .sl e1 l2 false := by
            rw [hm']; unfold ul4; simp only [ub4]
          refine ⟨G', ?_⟩
          have key := h'.closeLk hE hb' hy (by rw [hsn]; exact hp)
          have hmod : l.modify i (fun y => (E.pack e ((E.cells e y).set j (.sl e1 l2 false))).getD y) = l.set i y' := by
            refine List.ext_getElem? fun k => ?_
            rw [List.getElem?_modify, List.getElem?_set]
            by_cases hik : i = k
            · subst hik
              have hil := (List.getElem?_eq_some_iff.1 hy).1
              rw [hy, if_pos rfl, if_pos hil]
              simp [hp]
            · rw [if_neg hik]
              simp [hik]
          rw [hmod]
          rw [hm'] at key
          exact key
        · exact ⟨G, h⟩
      · exact ⟨G, h⟩
    · exact ⟨G, h⟩
  · exact ⟨G, h⟩
theorem uF8 (hE : E.Ok) {w0 w : World} {G0 : Org} {L : Nat → Value} {a : Act} : ∀ (l : List Nat) {st : St E.S} {G : Gh}, Inv E w0 G0 st a w G L → ∃ G', Inv E w0 G0 (vp7 st l) a w G' L
 | [], st, G, h => ⟨G, h⟩
 | c :: l, st, G, h => by
   obtain ⟨G1, h1⟩ := u09 hE h c
   exact uF8 hE l h1
theorem u10 (hE : E.Ok) {w0 w : World} {G0 : Org} {G : Gh} {L : Nat → Value} {st : St E.S} {a : Act} (h : Inv E w0 G0 st a w G L) (is : List Nat) : ∃ G', Inv E w0 G0 (vH1 st is) a w G' L := by
  cases is with
  | nil => exact ⟨G, h⟩
  | cons i is => exact uF8 hE _ h
theorem uU1 (hE : E.Ok) {w0 w : World} {G0 : Org} {G : Gh} {L : Nat → Value} {st : St E.S} {a : Act} (h : Inv E w0 G0 st a w G L) {i c t : Nat} {cs : List (AV E.S)} {y : E.S t} (hi : st.s i = .bp c 0) (hb : st.b c = some (.var t cs)) (hp : E.pack t (cs.map (ul4 st.b)) = some y) :
    ∃ G', Inv E w0 G0 { s := upd st.s i (.op t (some y)), b := fun k => bif Nat.beq k c then none else st.b k, n := st.n, z := st.z } a w G' L := by
  obtain ⟨hcn, hbx⟩ := h.st.boxes c _ hb
  obtain ⟨b0, hl, hg0, hcs⟩ : ∃ b0, L c = .pointer (some ⟨b0, 0, none⟩) ∧ G b0 = some (some c, 0) ∧ ∀ (j : Nat) x, cs[j]? = some x → w.frozen? ⟨b0, j, none⟩ = false ∧ ∃ v, w.cell? ⟨b0, j, none⟩ = some v ∧ v.oneCell' = true ∧ Rep E w G L st.n x v := by
    cases hbx with
    | var _ _ b0 hl hg hcs => exact ⟨b0, hl, hg, hcs⟩
  let G' : Gh := fun b => bif Nat.beq b b0 then some (some c, cs.length) else G b
  have hother : ∀ b, b ≠ b0 → G' b = G b := fun b hb => by
    show (bif Nat.beq b b0 then _ else _) = _
    cases hq : Nat.beq b b0 with
    | false => rfl
    | true => exact absurd (Nat.eq_of_beq_eq_true hq) hb
  have hsame : G' b0 = some (some c, cs.length) := by show (bif Nat.beq b0 b0 then _ else _) = _; rw [Nat.beq_refl]; rfl
  have himm : ∀ b o, Imm G b o → Imm G' b o := by
    intro b o hm
    by_cases e : b = b0
    · subst e
      have := hm _ _ hg0
      omega
    · intro c1 u1 hc1
      rw [hother b e] at hc1
      exact hm c1 u1 hc1
  have hf : ∀ b o v, Imm G b o → w.cell? ⟨b, o, none⟩ = some v → Imm G' b o ∧ w.cell? ⟨b, o, none⟩ = some v := fun b o v h1 h2 => ⟨himm b o h1, h2⟩
  have keep : ∀ {x : AV E.S} {v : Value}, Rep E w G L st.n x v → Rep E w G' L st.n x v := fun hx => hx.step hf (fun _ _ => rfl) (Nat.le_refl _)
  obtain ⟨hlen, hwk⟩ := hE.pack t _ _ hp
  have key : ∀ j cc, (E.cells t y)[j]? = some cc → j < cs.length ∧ ∃ u, w.cell? ⟨b0, j, none⟩ = some u ∧ Rep E w G' L st.n cc u := by
    intro j cc hj
    have hjl : j < cs.length := by
      have := (List.getElem?_eq_some_iff.1 hj).1
      rw [← hlen, List.length_map] at this
      exact this
    have hcj := List.getElem?_eq_getElem hjl
    have hwj := hwk j (ul4 st.b cs[j]) cc (by rw [List.getElem?_map, hcj]; rfl) hj
    obtain ⟨_, u, h2, _, h3⟩ := hcs j _ hcj
    have h4 : Rep E w G L st.n (ul4 st.b cs[j]) u := by
      unfold ul4
      split
      · rename_i c1 he
        split
        · rename_i e1 l1 hb1
          rw [he] at h3
          obtain ⟨hv, _⟩ := h3.rw_inv
          rw [hv]
          exact (h.st.boxes c1 _ hb1).2.snap hE
        · rw [he] at h3; exact h3
      · exact h3
    exact ⟨hjl, u, h2, (keep h4).weak hwj⟩
  have hel : Rep E w G' L st.n (.op t (some y)) (a.tmps.getD i undef) := by
    have hs := h.st.slots i
    rw [hi] at hs
    have hv : a.tmps.getD i undef = .pointer (some ⟨b0, 0, none⟩) := by
      generalize a.tmps.getD i undef = v at hs
      cases hs with
      | bp _ _ b1 hc h1 =>
        rw [hl] at h1
        simp only [Value.pointer.injEq, Option.some.injEq, Addr.mk.injEq, and_true] at h1
        rw [h1]
    rw [hv]
    have := Rep.el (E := E) (w := w) (G := G') (L := L) (n := st.n) t y 0 b0 0 (fun o => (w.cell? ⟨b0, o, none⟩).getD undef)
      (fun j cc hj => by
        obtain ⟨h0, u, h1, _⟩ := key j cc hj
        refine ⟨fun c1 u1 hc1 => ?_, by rw [Nat.zero_add, h1]; rfl⟩
        rw [hsame] at hc1
        have := (Prod.mk.inj (Option.some.inj hc1)).2
        omega)
      (fun j cc hj => by
        obtain ⟨_, u, h1, h2⟩ := key j cc hj
        rw [Nat.zero_add, h1]; exact h2)
    exact .op1 _ _ _ this
  refine ⟨G', ⟨⟨uZ5 (fun j => keep (h.st.slots j)) hel, h.st.size, fun k bx hk => ?_, fun b k u hg => ?_, h.st.one, fun g x hg => keep (h.st.glob g x hg)⟩, ?_, h.df, h.kp⟩⟩
  · simp only at hk
    cases hkc : Nat.beq k c with
    | true => rw [hkc] at hk; cases hk
    | false =>
      rw [hkc] at hk
      have hk : st.b k = some bx := hk
      have hne : k ≠ c := fun e => by rw [e, Nat.beq_refl] at hkc; cases hkc
      obtain ⟨h1, h2⟩ := h.st.boxes k bx hk
      refine ⟨h1, h2.step hE h1 hf (fun _ _ => rfl) (Nat.le_refl _) fun b u hg => ⟨?_, fun o v hv => ⟨hv, rfl⟩, fun _ _ hs => hs⟩⟩
      by_cases e : b = b0
      · subst e
        rw [hg0] at hg
        exact absurd (Option.some.inj (Prod.mk.inj (Option.some.inj hg)).1).symm hne
      · rw [hother b e]; exact hg
  · by_cases e : b = b0
    · subst e
      rw [hsame] at hg
      obtain ⟨e1, e2⟩ := Prod.mk.inj (Option.some.inj hg)
      obtain ⟨h1, h2⟩ := h.st.own _ _ _ hg0
      exact ⟨h1, fun k' hk' => h2 k' (by rw [e1]; exact hk')⟩
    · rw [hother b e] at hg
      exact h.st.own b k u hg
  · refine h.fr.trans ⟨rfl, rfl, rfl, Nat.le_refl _, fun b hb hg => ⟨rfl, ?_⟩, hf⟩
    by_cases e : b = b0
    · subst e; exact absurd hg0 (hg c 0)
    · exact hother b e
theorem uf5 (hE : E.Ok) {w0 w : World} {G0 : Org} {a : Act} {L : Nat → Value} : ∀ (l : List (Nat × Nat)) {st : St E.S} {G : Gh}, Inv E w0 G0 st a w G L → ∃ G', Inv E w0 G0 (uB2 st l) a w G' L
 | [], st, G, h => ⟨G, h⟩
 | (i, e) :: l, st, G, h => by
   have hs := h.st.slots i
   unfold uB2
   split
   · rename_i hi
     rw [hi] at hs
     exact uf5 hE l (h.slot (hs.weak (.op0 e)))
   · rename_i e' x hi
     rw [hi] at hs
     exact uf5 hE l (h.slot (hs.weak (.op1 e' x)))
   · rename_i c hi
     split
     · rename_i t cs hb
       split
       · rename_i y hp
         obtain ⟨G1, h1⟩ := uU1 hE h hi hb hp
         exact uf5 hE l h1
       · exact uf5 hE l h
     · exact uf5 hE l h
   · exact uf5 hE l h
theorem uJ7 (hE : E.Ok) {w0 w : World} {G0 : Org} {G : Gh} {L : Nat → Value} {st : St E.S} {a : Act} (h : Inv E w0 G0 st a w G L) (lv : Live) (hk : lv.keep = G0.k) : ∃ G' L', Inv E w0 G0 (canon lv st) a w G' L' := by
  obtain ⟨L1, h1⟩ := uk9 hE lv.rows h
  obtain ⟨L1', h1'⟩ := ul7 hE (vs := uv4 lv st) lv.up h1
  obtain ⟨G, h1'⟩ := u10 hE h1' lv.close
  obtain ⟨G, h1''⟩ := uN9 hE (vs := uv4 lv st) h1' lv.done
  obtain ⟨G, h1''⟩ := uf5 hE lv.ptrs h1''
  obtain ⟨L2, h2⟩ := ul7 hE (vs := uv4 lv st) lv.deep (uh8 hE lv.flat h1'')
  unfold canon vH0 vp5
  rw [Bool.cond_eq_ite]
  split
  · rename_i hc
    have hm := uL6 hc
    refine u06 hE h2 lv _ (fun c hc => by
      have := (List.mem_filter.1 hc).2
      rwa [Nat.blt_eq] at this) fun i hi => ?_
    have h3 := congrArg (fun l => l[i]?) hm
    simp only [List.getElem?_take] at h3
    rw [hk, if_pos hi, uD5 _ _ _ hi, Nat.zero_add] at h3
    exact h3
  · exact ⟨G, L2, h2⟩
structure Less (st' st : St E.S) : Prop where
  s : ∀ i, st'.s i = .dead ∨ st'.s i = st.s i
  b : ∀ c bx, st'.b c = some bx → st.b c = some bx
  n : st'.n = st.n
  z : st'.z = st.z
theorem Inv.less {w0 w : World} {G0 : Org} {G : Gh} {L : Nat → Value} {st st' : St E.S} {a : Act} (h : Inv E w0 G0 st a w G L) (hl : Less st' st) : Inv E w0 G0 st' a w G L := by
  obtain ⟨s', b', n', z'⟩ := st'
  obtain ⟨hs, hb, rfl, rfl⟩ := hl
  exact ⟨⟨fun i => by
    rcases hs i with h1 | h1
    · simp only at h1 ⊢; rw [h1]; exact .dead _
    · simp only at h1 ⊢; rw [h1]; exact h.st.slots i, h.st.size, fun c bx hc => h.st.boxes c bx (hb c bx hc), h.st.own, h.st.one, h.st.glob⟩, h.fr, h.df, h.kp⟩
end Go.Proofs.YtaennkkcnhfglaaGreatDoor.Ev
