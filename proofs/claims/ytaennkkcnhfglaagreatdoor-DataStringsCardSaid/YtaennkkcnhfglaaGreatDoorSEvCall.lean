/- A part of the proof. -/
import Derived.Test.YtaennkkcnhfglaaGreatDoorSEvApp
set_option linter.unusedVariables false
namespace Go.Proofs.YtaennkkcnhfglaaGreatDoor.Ev
open Go.RowKit
variable {E : Env} {R : Type}
theorem un4 {S : Nat → Type} (ρ : Nat → Option Nat) : ∀ (l : List (AV S)) (i : Nat), (mapL ρ l)[i]? = (l[i]?).map (mapV ρ)
 | [], i => by simp [mapL]
 | x :: l, 0 => by simp [mapL]
 | x :: l, i + 1 => by simpa [mapL] using un4 ρ l i
theorem uh3 {S : Nat → Type} (ρ : Nat → Option Nat) : ∀ (l : List (AV S)), (mapL ρ l).length = l.length
 | [] => rfl
 | x :: l => by simp [mapL, uh3 ρ l]
theorem Rep.ren {w w' : World} {G G' : Gh} {L L' : Nat → Value} {n n' : Nat} {ρ : Nat → Option Nat} (hw : ∀ b o v, Imm G b o → w.cell? ⟨b, o, none⟩ = some v → Imm G' b o ∧ w'.cell? ⟨b, o, none⟩ = some v) (hρ : ∀ c d, c < n → ρ c = some d → d < n' ∧ L' d = L c)
    (hcell : ∀ e x c, c ∈ E.cells e x → mapV ρ c = c)
    {x : AV E.S} {v : Value} (h : Rep E w G L n x v) : Rep E w' G' L' n' (mapV ρ x) v := by
  induction h with
  | v x h => exact .v x h
  | nl => exact .nl
  | sn e f => exact .sn e f
  | se e a f => exact .se e a f
  | sl e l f b off cap vals hc hf h1 h2 ih =>
    refine .sl e l f b off cap vals hc hf (fun i x j c hi hj => hw _ _ _ (h1 i x j c hi hj).1 (h1 i x j c hi hj).2) fun i x j c hi hj => ?_
    have := ih i x j c hi hj
    rwa [hcell e x c (List.mem_of_getElem? hj)] at this
  | el e x o b off vals h1 h2 ih =>
    refine .el e x o b off vals (fun j c hj => hw _ _ _ (h1 j c hj).1 (h1 j c hj).2) fun j c hj => ?_
    have := ih j c hj
    rwa [hcell e x c (List.mem_of_getElem? hj)] at this
  | ar e l b off h ih => exact .ar e l b off ih
  | bp c o b hc h =>
    unfold mapV
    cases hr : ρ c with
    | none => exact .dead _
    | some d => exact .bp d o b (hρ c d hc hr).1 (by rw [(hρ c d hc hr).2]; exact h)
  | rw c hc hs =>
    unfold mapV
    cases hr : ρ c with
    | none => exact .dead _
    | some d => simp only; rw [← (hρ c d hc hr).2]; exact .rw d (hρ c d hc hr).1 (by rw [(hρ c d hc hr).2]; exact hs)
  | rp c e i o b off m cap hc h =>
    unfold mapV
    cases hr : ρ c with
    | none => exact .dead _
    | some d => exact .rp d e i o b off m cap (hρ c d hc hr).1 (by rw [(hρ c d hc hr).2]; exact h)
  | ws c e lo hi b off m cap k hc h =>
    unfold mapV
    cases hr : ρ c with
    | none => exact .dead _
    | some d => exact .ws d e lo hi b off m cap k (hρ c d hc hr).1 (by rw [(hρ c d hc hr).2]; exact h)
  | ws0 c e lo k a hc h =>
    unfold mapV
    cases hr : ρ c with
    | none => exact .dead _
    | some d => exact .ws0 d e lo k a (hρ c d hc hr).1 (by rw [(hρ c d hc hr).2]; exact h)
  | fn f cs vs hl h ih =>
    unfold mapV
    refine .fn f _ vs (by rw [uh3]; exact hl) fun i x y hx hy => ?_
    rw [un4] at hx
    obtain ⟨x', h1, rfl⟩ := Option.map_eq_some_iff.1 hx
    exact ih i x' y h1 hy
  | agg cs vs hl h h1 ih =>
    unfold mapV
    refine .agg _ vs (by rw [uh3]; exact hl) (fun i x y hx hy => ?_) h1
    rw [un4] at hx
    obtain ⟨x', h2, rfl⟩ := Option.map_eq_some_iff.1 hx
    exact ih i x' y h2 hy
  | tup cs vs hl h ih =>
    unfold mapV
    refine .tup _ vs (by rw [uh3]; exact hl) fun i x y hx hy => ?_
    rw [un4] at hx
    obtain ⟨x', h2, rfl⟩ := Option.map_eq_some_iff.1 hx
    exact ih i x' y h2 hy
  | er0 => exact .er0
  | er1 t x => exact .er1 t x
  | op0 e => exact .op0 e
  | op1 e x v h ih => exact .op1 e x v ih
  | so0 e => exact .so0 e
  | so1 e l v h ih => exact .so1 e l v ih
  | dead x => exact .dead x
mutual
theorem um1 {S : Nat → Type} (ρ : Nat → Option Nat) : ∀ (x : AV S), idsV x = [] → mapV ρ x = x
 | .v _, _ | .nl, _ | .sl _ _ _, _ | .el _ _ _, _ | .ar _ _, _ | .er _, _ | .op _ _, _ | .so _ _, _ | .dead, _ => rfl
 | .bp c _, h | .rw c, h | .rp c _ _ _, h | .ws c _ _, h => by simp [idsV] at h
 | .fn f cs, h => by unfold mapV; rw [mapL_pure ρ cs (by simpa [idsV] using h)]
 | .agg cs, h => by unfold mapV; rw [mapL_pure ρ cs (by simpa [idsV] using h)]
 | .tup cs, h => by unfold mapV; rw [mapL_pure ρ cs (by simpa [idsV] using h)]
theorem mapL_pure {S : Nat → Type} (ρ : Nat → Option Nat) : ∀ (l : List (AV S)), idsL l = [] → mapL ρ l = l
 | [], _ => rfl
 | x :: l, h => by
   simp only [idsL, List.append_eq_nil_iff] at h
   unfold mapL
   rw [um1 ρ x h.1, mapL_pure ρ l h.2]
end
theorem Env.Ok.ren (hE : E.Ok) (ρ : Nat → Option Nat) : ∀ e x c, c ∈ E.cells e x → mapV ρ c = c := fun e x c hc => um1 ρ c (hE.cell e x c hc).2
mutual
theorem uB9 {S : Nat → Type} : ∀ (x : AV S), u76 x = true → idsV x = []
 | .v _, _ | .nl, _ | .sl _ _ _, _ | .el _ _ _, _ | .ar _ _, _ | .er _, _ | .op _ _, _ | .so _ _, _ => rfl
 | .bp _ _, h | .rw _, h | .rp _ _ _ _, h | .ws _ _ _, h | .dead, h => by simp [u76] at h
 | .fn f cs, h => by simpa [idsV] using pureL_ids cs (by simpa [u76] using h)
 | .agg cs, h => by simpa [idsV] using pureL_ids cs (by simpa [u76] using h)
 | .tup cs, h => by simpa [idsV] using pureL_ids cs (by simpa [u76] using h)
theorem pureL_ids {S : Nat → Type} : ∀ (l : List (AV S)), pureL l = true → idsL l = []
 | [], _ => rfl
 | x :: l, h => by
   simp only [pureL, Bool.and_eq_true] at h
   simp only [idsL, uB9 x h.1, pureL_ids l h.2, List.append_nil]
end
theorem Rep.alone (hE : E.Ok) {w : World} {G G' : Gh} {L L' : Nat → Value} {n : Nat} (hw : ∀ b o, Imm G b o → Imm G' b o) {x : AV E.S} {v : Value} (hx : idsV x = []) (h : Rep E w G L n x v) : Rep E w G' L' 0 x v := by
  have := h.ren (w' := w) (G' := G') (L' := L') (n' := 0) (ρ := fun _ => none) (fun b o v h1 h2 => ⟨hw b o h1, h2⟩) (fun c d _ h => by cases h) (hE.ren _)
  rwa [um1 _ _ hx] at this
structure ux3 (E : Env) (w : World) (G : Gh) (L : Nat → Value) (n : Nat) (xs : List (AV E.S)) (vs : List Value) : Prop where
  len : xs.length = vs.length
  rep : ∀ (i : Nat) x v, xs[i]? = some x → vs[i]? = some v → Rep E w G L n x v
structure uA4 (E : Env) (w : World) (G : Gh) (y : AV E.S) (bx : List (Box E.S)) (v : Value) (w' : World) (G' : Gh) (L : Nat → Value) : Prop where
  fr : Frm w G w' G'
  own : ∀ b c u, G' b = some (c, u) → b < w'.heap.size ∧ ∀ k, c = some k → k < bx.length
  rep : Rep E w' G' L bx.length y v
  box : ∀ k x, bx[k]? = some x → ub2 E w' G' L bx.length k x
  one : ∀ k, k < bx.length → (L k).oneCell' = true
theorem uA4.bel {w w' : World} {G G' : Gh} {L : Nat → Value} {y : AV E.S} {bx : List (Box E.S)} {v : Value} (h : uA4 E w G y bx v w' G' L) (hno : ∀ b k u, ¬ G b = some (some k, u)) : Below w.heap.size w w' :=
  ⟨h.fr.os, h.fr.tape, h.fr.output, h.fr.size, fun b hb => (h.fr.old b hb (hno b)).1⟩
theorem uA4.old {w w' : World} {G G' : Gh} {L : Nat → Value} {y : AV E.S} {bx : List (Box E.S)} {v : Value} (h : uA4 E w G y bx v w' G' L) (hno : ∀ b k u, ¬ G b = some (some k, u)) (b : Nat) (hb : b < w.heap.size) : G' b = G b := (h.fr.old b hb (hno b)).2
def Ent (E : Env) (f : Nat) (vs : List Value) (w : World) (R : Value → World → Prop) : Prop :=
  ∃ nx w1, (callFunc f vs.toArray).run E.P w = .ok nx w1 ∧
    ((nx = .enter f vs.toArray ∧ Calls E.P f vs.toArray w1 fun e w' => ∃ v, e = .returned v ∧ R v w') ∨ ∃ v, nx = .value v ∧ R v w1)
structure vm9 (E : Env) (w : World) (G : Gh) (L : Nat → Value) (bs : List (Box E.S)) (xs : List (AV E.S)) (vs : List Value) : Prop where
  own : ∀ b c u, G b = some (c, u) → b < w.heap.size ∧ ∀ k, c = some k → k < bs.length
  glob : ∀ g x, E.glob g = some x → Rep E w G L bs.length x (.pointer (some ⟨g, 0, none⟩))
  args : ux3 E w G L bs.length xs vs
  box : ∀ k x, bs[k]? = some x → ub2 E w G L bs.length k x
  one : ∀ k, k < bs.length → (L k).oneCell' = true
  held : Held E w G
def FnOk (E : Env) (f : Nat) (xs : List (AV E.S)) (bs : List (Box E.S)) (k : Nat) (y : AV E.S) (bx : List (Box E.S)) : Prop :=
  ∀ (w : World) (G : Gh) (L0 : Nat → Value) (vs : List Value), vm9 E w G L0 bs xs vs →
    Ent E f vs w fun v w' => ∃ G' L, uA4 E w G y bx v w' G' L ∧ k ≤ bx.length ∧ ∀ i, i < k → L i = L0 i
def ul9 (E : Env) (spec : Spec E.S) : Prop := ∀ f xs bs sp, spec f xs bs = some sp → ∀ r, sp.run = some r → FnOk E f xs bs sp.k (sp.av r) (sp.bx r)
def ui7 (G : Gh) : Gh := fun b => (G b).map fun p => (none, p.2)
theorem uy2 {G : Gh} {b o : Nat} : Imm (ui7 G) b o ↔ Imm G b o := by
  unfold Imm ui7
  cases hg : G b with
  | none => simp
  | some p =>
    obtain ⟨c, u⟩ := p
    simp
theorem vr4 {S : Nat → Type} : ∀ {l : List (AV S)}, (∀ x ∈ l, idsV x = []) → idsL l = []
 | [], _ => rfl
 | x :: l, h => by
   simp only [idsL, List.append_eq_nil_iff]
   exact ⟨h x (List.mem_cons_self ..), vr4 fun y hy => h y (List.mem_cons_of_mem _ hy)⟩
theorem vl1 {t : Nat} {cs : List (AV E.S)} {off : Nat} {X : AV E.S} (hc : ∀ x ∈ cs, idsV x = []) (h : ue8 E t cs off = some X) : idsV X = [] := by
  have agg : ∀ {n : Nat}, (bif Nat.beq ((cs.drop off).take n).length n then some (AV.agg ((cs.drop off).take n)) else none) = some X → idsV X = [] := by
    intro n h
    rw [Bool.cond_eq_ite] at h
    split at h
    · obtain rfl := Option.some.inj h
      exact vr4 fun x hx => hc x (List.mem_of_mem_drop (List.mem_of_mem_take hx))
    · cases h
  unfold ue8 at h
  split at h
  · exact agg h
  · exact agg h
  · exact hc _ (List.mem_of_getElem? h)
  · cases h
theorem vu6 (hE : E.Ok) {e : Nat} {x : E.S e} {X : AV E.S} (h : vm5 E e x = some X) : idsV X = [] := vl1 (fun c hc => (hE.cell e x c hc).2) h
theorem ui3.ren (hE : E.Ok) {w : World} {G G' : Gh} {L L' : Nat → Value} {n n' c d : Nat} {ρ : Nat → Option Nat} {k : PK} {e : Nat} {l : List (k.T × E.S e)} (hw : ∀ b o v, Imm G b o → w.cell? ⟨b, o, none⟩ = some v → Imm G' b o ∧ w.cell? ⟨b, o, none⟩ = some v) (hρ : ∀ c d, c < n → ρ c = some d → d < n' ∧ L' d = L c)
    (hl : L' d = L c) (ho : ∀ b u, G b = some (some c, u) → G' b = some (some d, u)) (h : ui3 E w G L n c k e l) : ui3 E w G' L' n' d k e l := by
  cases h with
  | mk l0 b es clock hl' hg hh he hv hq =>
    refine .mk l0 b es clock (by rw [hl]; exact hl') (ho b 0 hg) hh he (fun i p en X h1 h2 h3 => ?_) hq
    have := (hv i p en X h1 h2 h3).ren hw hρ (hE.ren _)
    rwa [um1 _ _ (vu6 hE h3)] at this
theorem ub2.ren (hE : E.Ok) {w : World} {G G' : Gh} {L L' : Nat → Value} {n n' k d : Nat} {ρ : Nat → Option Nat} {x : Box E.S} (hw : ∀ b o v, Imm G b o → w.cell? ⟨b, o, none⟩ = some v → Imm G' b o ∧ w.cell? ⟨b, o, none⟩ = some v) (hρ : ∀ c d, c < n → ρ c = some d → d < n' ∧ L' d = L c)
    (hl : L' d = L k) (ho : ∀ b u, G b = some (some k, u) → G' b = some (some d, u)) (h : ub2 E w G L n k x) : ub2 E w G' L' n' d (mapB ρ x) := by
  have hren : ∀ {x : AV E.S} {v : Value}, Rep E w G L n x v → Rep E w G' L' n' (mapV ρ x) v := fun h => h.ren hw hρ (hE.ren _)
  cases h with
  | var t cs b hl' hg h =>
    refine .var t _ b (by rw [hl]; exact hl') (ho b 0 hg) fun j x hj => ?_
    rw [un4] at hj
    obtain ⟨x', h1, rfl⟩ := Option.map_eq_some_iff.1 hj
    obtain ⟨h2, v, h3, h4, h5⟩ := h j x' h1
    exact ⟨h2, v, h3, h4, hren h5⟩
  | nil e sh o hl' => exact .nil e sh o (by rw [hl]; exact hl')
  | un hl' => exact .un (by rw [hl]; exact hl')
  | iter s pos b hl' hg hh => exact .iter s pos b (by rw [hl]; exact hl') (ho b 0 hg) hh
  | mp k v l h => exact .mp k v l (h.ren hE hw hρ hl ho)
  | mv k v cs hc h => exact .mv k v cs hc (h.ren hE hw hρ hl ho)
  | lk e l i j x b off cap hl' hle hij hg hcs hw =>
    refine .lk e l i j _ b off cap (by rw [hl]; exact hl') hle hij (ho b 0 hg) (fun k y o cc hi hj => ?_) hw
    unfold uj1 at hj hcs
    cases hb : Nat.beq k i with
    | false =>
      rw [hb] at hj
      obtain ⟨v, h1, h0, h2⟩ := hcs k y o cc hi (by rw [hb]; exact hj)
      refine ⟨v, h1, h0, ?_⟩
      have := hren h2
      rwa [hE.ren ρ e y cc (List.mem_of_getElem? hj)] at this
    | true =>
      rw [hb] at hj
      simp only [cond_true] at hj
      by_cases hjo : j = o
      · subst hjo
        have hlt : j < (E.cells e y).length := by
          have := (List.getElem?_eq_some_iff.1 hj).1
          rwa [List.length_set] at this
        rw [List.getElem?_set_self hlt] at hj
        obtain rfl := Option.some.inj hj
        obtain ⟨v, h1, h0, h2⟩ := hcs k y j x hi (by rw [hb]; simp only [cond_true]; exact List.getElem?_set_self hlt)
        exact ⟨v, h1, h0, hren h2⟩
      · rw [List.getElem?_set_ne hjo] at hj
        obtain ⟨v, h1, h0, h2⟩ := hcs k y o cc hi (by rw [hb]; simp only [cond_true]; rw [List.getElem?_set_ne hjo]; exact hj)
        refine ⟨v, h1, h0, ?_⟩
        have := hren h2
        rwa [hE.ren ρ e y cc (List.mem_of_getElem? hj)] at this
  | row e l sh b off cap h =>
    refine .row e l sh b off cap ⟨by rw [hl]; exact h.loc, h.le, fun i x j cc hi hj => ?_, ?_⟩
    · obtain ⟨v, h1, h2⟩ := h.cells i x j cc hi hj
      have := hren h2
      rw [hE.ren ρ e x cc (List.mem_of_getElem? hj)] at this
      exact ⟨v, h1, this⟩
    · rcases h.own with ⟨h1, h2, h3⟩ | ⟨u, h1, h2, h3, h4⟩
      · refine .inl ⟨h1, h2, fun o ho1 ho2 => ?_⟩
        obtain ⟨h5, h6, h7⟩ := us8 (show o - off < l.length * E.P.cellsOf e by omega)
        have hj := List.getElem?_eq_getElem (show (o - off) % E.P.cellsOf e < (E.cells e l[(o - off) / E.P.cellsOf e]).length by rw [hE.len]; exact h6)
        obtain ⟨v, h8, _⟩ := h.cells _ _ _ _ (List.getElem?_eq_getElem h5) hj
        rw [Nat.add_assoc, h7, show off + (o - off) = o by omega] at h8
        exact (hw b o v (h3 o ho1 ho2) h8).1
      · exact .inr ⟨u, ho b u h1, h2, h3, h4⟩
theorem Inv.call (hE : E.Ok) {w0 w w' : World} {G0 : Org} {G G1 : Gh} {L L1 : Nat → Value} {st : St E.S} {a : Act} (h : Inv E w0 G0 st a w G L) {y : AV E.S} {bx : List (Box E.S)} {v : Value} {Gc : Gh} (hGc : Gc = ui7 G ∨ ((Gc = fun _ => none) ∧ vq7 y = true ∧ bx.all (vk4 E) = true)) (hr : uA4 E w Gc y bx v w' G1 L1) (d : Option Nat) :
    ∃ G' L', Inv E w0 G0 { s := putO st d (uD3 st.n y), b := up2 st.b st.n bx, n := st.n + bx.length, z := st.z } (a.put d v) w' G' L' := by
  have hno : ∀ b k u, ¬ Gc b = some (some k, u) := by
    intro b k u hg
    rcases hGc with rfl | ⟨rfl, _⟩
    · unfold ui7 at hg
      obtain ⟨p, _, h3⟩ := Option.map_eq_some_iff.1 hg
      cases h3
    · cases hg
  have bel := hr.bel hno
  have old := hr.old hno
  let G' : Gh := fun b => if b < w.heap.size then G b else (G1 b).map fun p => (p.1.map fun k => st.n + k, p.2)
  let L' : Nat → Value := fun c => if c < st.n then L c else L1 (c - st.n)
  have hlo : ∀ b, b < w.heap.size → G' b = G b := fun b hb => if_pos hb
  have hhi : ∀ b, ¬ b < w.heap.size → G' b = (G1 b).map fun p => (p.1.map fun k => st.n + k, p.2) := fun b hb => if_neg hb
  have hL : ∀ c, c < st.n → L' c = L c := fun c hc => if_pos hc
  have hL1 : ∀ c, L' (st.n + c) = L1 c := fun c => by
    have : L' (st.n + c) = L1 (st.n + c - st.n) := if_neg (by omega)
    rw [this, Nat.add_sub_cancel_left]
  have hf : ∀ b o u, Imm G b o → w.cell? ⟨b, o, none⟩ = some u → Imm G' b o ∧ w'.cell? ⟨b, o, none⟩ = some u := by
    intro b o u hi hc
    have hlt : b < w.heap.size := World.block_lt_of_cell? w _ hc
    exact ⟨fun c u hg => hi c u (by rw [← hlo b hlt]; exact hg), ua9 bel hc⟩
  have hnewown : ∀ b c u, G' b = some (c, u) → ¬ b < w.heap.size → ∃ c1, G1 b = some (c1, u) ∧ c = c1.map fun k => st.n + k := by
    intro b c u hg hb
    rw [hhi b hb] at hg
    obtain ⟨⟨c1, u1⟩, h1, h2⟩ := Option.map_eq_some_iff.1 hg
    obtain ⟨rfl, rfl⟩ := Prod.mk.inj h2
    exact ⟨c1, h1, rfl⟩
  have himm : Gc = ui7 G → ∀ b o, Imm G1 b o → Imm G' b o := by
    intro hx b o hi c u hg
    by_cases hb : b < w.heap.size
    · rw [hlo b hb] at hg
      have : Imm (ui7 G) b o := fun c' u' hg' => hi c' u' (by rw [old b hb, hx]; exact hg')
      exact uy2.1 this c u hg
    · obtain ⟨c1, h1, _⟩ := hnewown b c u hg hb
      exact hi c1 u h1
  have hback : ∀ {x : AV E.S} {u : Value}, (Gc = ui7 G ∨ vq7 x = true) → Rep E w' G1 L1 bx.length x u → Rep E w' G' L' (st.n + bx.length) (uD3 st.n x) u := by
    intro x u hx hxr
    rcases hx with hx | hx
    · refine hxr.ren (ρ := fun c => some (st.n + c)) (fun b o u hi hc => ⟨himm hx b o hi, hc⟩) (fun c d hc hd => ?_) (hE.ren _)
      obtain rfl := Option.some.inj hd
      exact ⟨by omega, hL1 c⟩
    ·
      have hC : ∀ {x : AV E.S} {u : Value}, vD0 x = true → Rep E w' G1 L1 bx.length x u → Rep E w' G' L' (st.n + bx.length) (mapV (fun c => some (st.n + c)) x) u := by
        intro x u hx hxr
        cases x <;> first | (simp [vD0] at hx; done) | skip
        case v x => cases hxr with | v _ h => exact .v _ h
        case nl => cases hxr with | nl => exact .nl
        case rw c =>
          cases hxr with
          | rw _ hc hs =>
            unfold mapV
            simp only
            rw [← hL1 c]
            exact .rw (st.n + c) (by omega) (by rw [hL1 c]; exact hs)
      have hV1 : ∀ {x : AV E.S} {u : Value}, vq8 x = true → Rep E w' G1 L1 bx.length x u → Rep E w' G' L' (st.n + bx.length) (mapV (fun c => some (st.n + c)) x) u := by
        intro x u hx hxr
        by_cases hag : ∃ cs, x = .agg cs
        · obtain ⟨cs, rfl⟩ := hag
          cases hxr with
          | agg _ vs hl hr h1 =>
            unfold mapV
            refine .agg _ vs (by rw [uh3]; exact hl) (fun i x y hx' hy => ?_) h1
            rw [un4] at hx'
            obtain ⟨x', h2, rfl⟩ := Option.map_eq_some_iff.1 hx'
            exact hC (List.all_eq_true.1 hx x' (List.mem_of_getElem? h2)) (hr i x' y h2 hy)
        · exact hC (by cases x <;> first | exact hx | exact absurd ⟨_, rfl⟩ hag) hxr
      by_cases htu : ∃ vs, x = .tup vs
      · obtain ⟨vs, rfl⟩ := htu
        obtain ⟨ws, rfl, hl, hw⟩ := hxr.tup_inv
        unfold uD3 mapV
        refine .tup _ ws (by rw [uh3]; exact hl) fun i x y hx' hy => ?_
        rw [un4] at hx'
        obtain ⟨x', h2, rfl⟩ := Option.map_eq_some_iff.1 hx'
        exact hV1 (List.all_eq_true.1 hx x' (List.mem_of_getElem? h2)) (hw i x' y h2 hy)
      · exact hV1 (by cases x <;> first | exact hx | exact absurd ⟨_, rfl⟩ htu) hxr
  have hy : Rep E w' G' L' (st.n + bx.length) (uD3 st.n y) v := hback (hGc.imp id fun h => h.2.1) hr.rep
  have hslots : ∀ i, Rep E w' G' L' (st.n + bx.length) (st.s i) (a.tmps.getD i undef) := fun i => (h.st.slots i).step hf hL (by omega)
  refine ⟨G', L', ⟨?_, by rw [uq7]; exact h.st.size, ?_, ?_, ?_, fun g x hg => (h.st.glob g x hg).step hf hL (by simp)⟩, h.fr.trans ⟨bel.os, bel.tape, bel.output, bel.size, fun b h1 h2 => ⟨bel.block b h1, hlo b h1⟩, hf⟩, by rw [ue0]; exact h.df, h.kp.mono (by simp) hL⟩
  · have := um6 (st := st) (a := a) (d := d) h.st.size hslots hy
    cases d <;> exact this
  · intro c bxx hc
    by_cases hcn : c < st.n
    · have hc' : st.b c = some bxx := by
        have : Nat.blt c st.n = true := by unfold Nat.blt; exact Nat.ble_eq_true_of_le hcn
        simpa [up2, this] using hc
      obtain ⟨h1, h2⟩ := h.st.boxes c bxx hc'
      refine ⟨by simp; omega, h2.step hE h1 hf hL (by simp) fun b u hg => ?_⟩
      have hlt := (h.st.own b (some c) u hg).1
      exact ⟨by rw [hlo b hlt]; exact hg, fun o v hv => ⟨ua9 bel hv, uc2 bel hv⟩, fun ob _ hs => (bel.block b (Array.getElem?_eq_some_iff.1 hs).1).trans hs⟩
    · have : Nat.blt c st.n = false := by
        cases hb : Nat.blt c st.n with
        | false => rfl
        | true => exact absurd (Nat.le_of_ble_eq_true hb) hcn
      simp only [up2, this, cond_false] at hc
      split at hc
      rotate_left
      · exact absurd (h.st.boxes c bxx hc).1 hcn
      rename_i x h1
      obtain rfl := Option.some.inj hc
      have hk : c - st.n < bx.length := (List.getElem?_eq_some_iff.1 h1).1
      refine ⟨by simp; omega, ?_⟩
      have hbr := hr.box _ x h1
      rcases hGc with hGc | ⟨hGc, _, h0⟩
      · have e1 : c = st.n + (c - st.n) := by omega
        rw [e1]
        refine hbr.ren hE (ρ := fun c => some (st.n + c)) (fun b o u hi hc => ⟨himm hGc b o hi, hc⟩) (fun c d hc hd => ?_) (hL1 _) (fun b u hg => ?_)
        · obtain rfl := Option.some.inj hd
          exact ⟨by simp; omega, hL1 c⟩
        · by_cases hb : b < w.heap.size
          · rw [old b hb, hGc] at hg
            unfold ui7 at hg
            obtain ⟨p, _, h3⟩ := Option.map_eq_some_iff.1 hg
            cases h3
          · rw [hhi b hb, hg]; rfl
      · have hfree := List.all_eq_true.1 h0 x (List.mem_of_getElem? h1)
        have e1 : c = st.n + (c - st.n) := by omega
        have hLc : L' c = L1 (c - st.n) := by rw [e1, hL1, Nat.add_sub_cancel_left]
        cases x <;> first | (simp [vk4] at hfree; done) | skip
        rename_i e l sh
        cases sh with
        | true => simp [vk4] at hfree
        | false =>
          have hflat := hE.flat e hfree
          unfold mapB
          cases hbr with
          | nil _ _ o hl => exact .nil e false o (by rw [hLc]; exact hl)
          | row _ _ _ b off cap h =>
            refine .row e l false b off cap ⟨by rw [hLc]; exact h.loc, h.le, fun i x j cc hi hj => ?_, ?_⟩
            · obtain ⟨v, h2, h3⟩ := h.cells i x j cc hi hj
              refine ⟨v, h2, ?_⟩
              have hv := List.all_eq_true.1 (hflat x) cc (List.mem_of_getElem? hj)
              cases cc <;> first | (simp [isV] at hv; done) | skip
              cases h3 with | v _ h => exact .v _ h
            · rcases h.own with ⟨h2, h3, h4⟩ | ⟨u, h2, h3, h4, h5⟩
              · have hnil : l = [] := by simpa using h3
                subst hnil
                exact .inl ⟨h2, .inr rfl, fun o h6 h7 => by simp at h7; omega⟩
              · refine .inr ⟨u, ?_, h3, h4, h5⟩
                by_cases hb : b < w.heap.size
                · rw [old b hb, hGc] at h2; cases h2
                · rw [hhi b hb, h2, e1]; simp
  · intro b c u hg
    by_cases hb : b < w.heap.size
    · rw [hlo b hb] at hg
      obtain ⟨h1, h2⟩ := h.st.own b c u hg
      exact ⟨Nat.lt_of_lt_of_le h1 bel.size, fun k hk => by have := h2 k hk; simp; omega⟩
    · obtain ⟨c1, h1, rfl⟩ := hnewown b c u hg hb
      obtain ⟨h2, h3⟩ := hr.own b c1 u h1
      refine ⟨h2, fun k hk => ?_⟩
      obtain ⟨k1, rfl, rfl⟩ := Option.map_eq_some_iff.1 hk
      have := h3 k1 rfl
      simp; omega
  · intro c hc
    by_cases hcn : c < st.n
    · rw [hL c hcn]; exact h.st.one c hcn
    · have : L' c = L1 (c - st.n) := if_neg hcn
      rw [this]; exact hr.one _ (by simp at hc; omega)
theorem ui4.borrow (hE : E.Ok) {w : World} {G : Gh} {L L' : Nat → Value} {n c e : Nat} {l : List (E.S e)} {sh : Bool} {b off cap : Nat} (h : ui4 E w G L n c e l sh b off cap) : Rep E w (fun _ => none) L' 0 (.sl e l false) (L c) := by
  rw [h.loc]
  have hv : ∀ i x j cc, l[i]? = some x → (E.cells e x)[j]? = some cc → w.cell? ⟨b, off + i * E.P.cellsOf e + j, none⟩ = some ((w.cell? ⟨b, off + i * E.P.cellsOf e + j, none⟩).getD undef) ∧ Rep E w (fun _ => none) L' 0 cc ((w.cell? ⟨b, off + i * E.P.cellsOf e + j, none⟩).getD undef) := by
    intro i x j cc hi hj
    obtain ⟨v, h1, h2⟩ := h.cells i x j cc hi hj
    rw [h1]
    exact ⟨rfl, h2.alone hE (fun b o _ => Imm.none rfl) (hE.cell e x cc (List.mem_of_getElem? hj)).2⟩
  exact .sl e l false b off cap (fun o => (w.cell? ⟨b, o, none⟩).getD undef) h.le (fun h => by cases h) (fun i x j cc hi hj => ⟨Imm.none rfl, (hv i x j cc hi hj).1⟩) (fun i x j cc hi hj => (hv i x j cc hi hj).2)
theorem ub2.borrow (hE : E.Ok) {w : World} {G : Gh} {L L' : Nat → Value} {n c e : Nat} {l : List (E.S e)} {sh : Bool} (h : ub2 E w G L n c (.row e l sh)) : Rep E w (fun _ => none) L' 0 (.sl e l false) (L c) := by
  cases h with
  | nil _ _ o hl => rw [hl]; exact .zero o
  | row _ _ _ b off cap h => exact h.borrow hE
theorem u45 (b : Nat → Option (Box E.S)) (x : AV E.S) : un8 b false x = ul4 b x := by
  cases x <;> try rfl
  case rw c =>
    simp only [un8, ul4]
    cases hb : b c with
    | none => rfl
    | some bx =>
      cases bx <;> try rfl
      case row e l sh => cases sh <;> rfl
theorem vf2 {S : Nat → Type} : ∀ (l : List (AV S)), idsL l = [] → ∀ x ∈ l, idsV x = []
 | [], _, x, h => by cases h
 | y :: l, hp, x, h => by
   simp only [idsL, List.append_eq_nil_iff] at hp
   rcases List.mem_cons.1 h with rfl | h
   · exact hp.1
   · exact vf2 l hp.2 x h
theorem ve7 (hE : E.Ok) {w : World} {G Gc : Gh} {L : Nat → Value} {st : St E.S} {ts : Array Value} (h : ue7 E w G L st ts) (bw : Bool) (himm : ∀ b o, Imm G b o → Imm Gc b o) (hbw : bw = true → Gc = fun _ => none) {x : AV E.S} {v : Value} (hx : Rep E w G L st.n x v) (hp : idsV (un8 st.b bw x) = []) :
    Rep E w Gc (fun _ => undef) 0 (un8 st.b bw x) v := by
  by_cases hrw : ∃ c, x = .rw c
  · obtain ⟨c, rfl⟩ := hrw
    obtain ⟨rfl, hc⟩ := hx.rw_inv
    simp only [un8] at hp ⊢
    split at hp
    · rename_i e l sh hb
      have hbx := (h.boxes c _ hb).2
      cases sh with
      | true => exact (hbx.snap hE).alone hE himm rfl
      | false =>
        cases bw with
        | false => simp [idsV] at hp
        | true => rw [hbw rfl]; exact hbx.borrow hE
    · simp [idsV] at hp
  · have e1 : un8 st.b bw x = x := by cases x <;> first | rfl | exact absurd ⟨_, rfl⟩ hrw
    rw [e1] at hp ⊢
    exact hx.alone hE himm hp
theorem vo3 (hE : E.Ok) {w : World} {G : Gh} {L : Nat → Value} {st : St E.S} {ts : Array Value} (h : ue7 E w G L st ts) (bw : Bool) {x : AV E.S} {v : Value} (hx : Rep E w G L st.n x v) (hp : idsV (ub8 st.b bw x) = []) (hd : ub8 st.b bw x ≠ .dead) :
    Rep E w (bif bw then (fun _ => none) else ui7 G) (fun _ => undef) 0 (ub8 st.b bw x) v := by
  have himm : ∀ b o, Imm G b o → Imm (bif bw then (fun _ => none) else ui7 G) b o := by
    intro b o hi
    cases bw with
    | true => exact Imm.none rfl
    | false => exact uy2.2 hi
  by_cases hrw : ∃ c, x = .rw c
  · obtain ⟨c, rfl⟩ := hrw
    obtain ⟨rfl, hc⟩ := hx.rw_inv
    simp only [ub8] at hp hd ⊢
    split at hp
    · rename_i e l sh hb
      rw [hb] at hd
      simp only at hd ⊢
      have hbx := (h.boxes c _ hb).2
      cases sh with
      | true => exact (hbx.snap hE).alone hE himm rfl
      | false =>
        cases bw with
        | false => exact absurd rfl hd
        | true => exact hbx.borrow hE
    · rename_i hno
      exfalso
      apply hd
      split
      · rename_i e l sh hb; exact absurd hb (hno e l sh)
      · rfl
  · by_cases hag : ∃ cs, x = .agg cs
    · obtain ⟨cs, rfl⟩ := hag
      simp only [ub8] at hp ⊢
      cases hx with
      | agg _ vs hl hr h1 =>
        refine .agg _ vs (by simpa using hl) (fun i x y hi hy => ?_) h1
        have hpi := vf2 _ (by simpa [idsV] using hp) x (List.mem_of_getElem? hi)
        rw [List.getElem?_map] at hi
        obtain ⟨x', h2, rfl⟩ := Option.map_eq_some_iff.1 hi
        exact ve7 hE h bw himm (fun hb => by rw [hb]; rfl) (hr i x' y h2 hy) hpi
    · have e1 : ub8 st.b bw x = x := by
        cases x <;> first | rfl | exact absurd ⟨_, rfl⟩ hrw | exact absurd ⟨_, rfl⟩ hag
      rw [e1] at hp ⊢
      exact hx.alone hE himm hp
theorem vG7 {S : Nat → Type} {x c : AV S} (h : Weak x c) (hc : idsV c = []) : idsV x = [] := by
  cases h with
  | refl => exact hc
  | full => rfl
  | nil => rfl
  | op0 => rfl
  | op1 => rfl
  | so0 => rfl
  | so1 => rfl
  | so2 => rfl
theorem uR3 (hE : E.Ok) {w : World} {G : Gh} {L : Nat → Value} {st : St E.S} {ts : Array Value} (h : ue7 E w G L st ts) (f : Nat) {x : AV E.S} {v : Value} (hx : Rep E w G L st.n x v) (hp : idsV (lent E st.b f x) = []) (hne : ∀ c off, x = .bp c off → lent E st.b f x ≠ .bp c off → ud1 E f = true) :
    (lent E st.b f x = x ∧ idsV x = []) ∨ (ud1 E f = true ∧ Rep E w (fun _ => none) (fun _ => undef) 0 (lent E st.b f x) v) := by
  by_cases hbp : ∃ c off, x = .bp c off
  · obtain ⟨c, off, rfl⟩ := hbp
    have hsr : ud1 E f = true := by
      refine hne c off rfl fun e => ?_
      rw [e] at hp; simp [idsV] at hp
    refine .inr ⟨hsr, ?_⟩
    unfold lent at hp ⊢
    cases hro : (ud1 E f && E.ro f) with
    | false => rw [hro] at hp; simp [idsV] at hp
    | true =>
      rw [hro] at hp
      simp only [cond_true] at hp ⊢
      cases hb : st.b c with
      | none => rw [hb] at hp; simp [idsV] at hp
      | some bx =>
        rw [hb] at hp
        cases bx <;> try (simp [idsV] at hp; done)
        rename_i t cs
        simp only at hp ⊢
        cases hpk : E.pack t (cs.map (un8 st.b true)) with
        | none => rw [hpk] at hp; simp [idsV] at hp
        | some y =>
          simp only
          obtain ⟨_, hbx⟩ := h.boxes c _ hb
          cases hbx with
          | var _ _ b0 hl hg hcs =>
            have hv : v = .pointer (some ⟨b0, off, none⟩) := by
              cases hx with
              | bp _ _ b1 hc h1 =>
                rw [hl] at h1
                simp only [Value.pointer.injEq, Option.some.injEq, Addr.mk.injEq, and_true] at h1
                rw [h1]
            subst hv
            obtain ⟨hlen, hw⟩ := hE.pack t _ _ hpk
            have key : ∀ j cc, (E.cells t y)[j]? = some cc → ∃ u, w.cell? ⟨b0, j, none⟩ = some u ∧ Rep E w (fun _ => none) (fun _ => undef) 0 cc u := by
              intro j cc hj
              have hjl : j < cs.length := by
                have := (List.getElem?_eq_some_iff.1 hj).1
                rw [← hlen, List.length_map] at this
                exact this
              have hcj := List.getElem?_eq_getElem hjl
              have hwj := hw j (un8 st.b true cs[j]) cc (by rw [List.getElem?_map, hcj]; rfl) hj
              have hid := vG7 hwj (hE.cell t y cc (List.mem_of_getElem? hj)).2
              obtain ⟨_, u, h2, _, h3⟩ := hcs j _ hcj
              exact ⟨u, h2, (ve7 (Gc := fun _ => none) hE h true (fun _ _ _ => Imm.none rfl) (fun _ => rfl) h3 hid).weak hwj⟩
            have := Rep.el (E := E) (w := w) (G := fun _ => none) (L := fun _ => undef) (n := 0) t y off b0 0 (fun o => (w.cell? ⟨b0, o, none⟩).getD undef)
              (fun j cc hj => by
                obtain ⟨u, h1, _⟩ := key j cc hj
                exact ⟨Imm.none rfl, by rw [Nat.zero_add, h1]; rfl⟩)
              (fun j cc hj => by
                obtain ⟨u, h1, h2⟩ := key j cc hj
                rw [Nat.zero_add, h1]; exact h2)
            rwa [Nat.zero_add] at this
  · have e1 : lent E st.b f x = x := by cases x <;> first | rfl | exact absurd ⟨_, _, rfl⟩ hbp
    exact .inl ⟨e1, by rw [e1] at hp; exact hp⟩
theorem vr7 {b : Nat → Option (Box E.S)} {f c off : Nat} (h : lent E b f (.bp c off) ≠ .bp c off) : ud1 E f = true := by
  unfold lent at h
  cases hs : ud1 E f with
  | true => rfl
  | false => rw [hs] at h; exact absurd rfl h
theorem u32 {S : Nat → Type} : ∀ (l : List (AV S)), pureL l = true → ∀ x ∈ l, u76 x = true
 | [], _, x, h => by cases h
 | y :: l, hp, x, h => by
   simp only [pureL, Bool.and_eq_true] at hp
   rcases List.mem_cons.1 h with rfl | h
   · exact hp.1
   · exact u32 l hp.2 x h
theorem vB9 {w : World} {G : Gh} {L : Nat → Value} {st : St E.S} {ts : Array Value} (h : ue7 E w G L st ts) (bx : List (Box E.S)) : boxed st.b st.n bx = up2 st.b st.n bx := by
  cases bx with
  | cons => rfl
  | nil =>
    funext i
    unfold boxed up2
    cases hi : Nat.blt i st.n with
    | true => rfl
    | false =>
      cases hb : st.b i with
      | none => simpa using hb
      | some x =>
        have := (h.boxes i x hb).1
        have h2 : ¬ i < st.n := fun h3 => by rw [← Nat.blt_eq, hi] at h3; cases h3
        exact absurd this h2
theorem vO4 (hE : E.Ok) {spec : Spec E.S} (hS : ul9 E spec) {w0 w : World} {G0 : Org} {G : Gh} {L : Nat → Value} {st : St E.S} {a : Act} (h : Inv E w0 G0 st a w G L) (o : Oper) {c : Call} (ho : o.op = .call c) {fo : Operand} (hc : c.callee = .value fo) {f : Nat} {caps : List (AV E.S)} (hf : opv st fo = .fn f caps)
    (hp : pureL (uT6 E st.b f (c.args.toList.map (opv (E := E) st)) caps) = true) {sp : Sp E.S} (hs : spec f (uT6 E st.b f (c.args.toList.map (opv (E := E) st)) caps) [] = some sp) {ρ : sp.ρ} (hρ : sp.run = some ρ)
    (hb : (!ud1 E f || vq7 (sp.av ρ) && (sp.bx ρ).all (vk4 E)) = true) {κ : St E.S → Option R} {r : R}
    (hr : κ { s := putO st o.dst (uD3 st.n (sp.av ρ)), b := boxed st.b st.n (sp.bx ρ), n := st.n + (sp.bx ρ).length, z := st.z } = some r) (Q : Exit → Act → World → Prop) : o.wp E.P a w (Nxt E w0 G0 κ r) Q := by
  rw [vB9 h.st] at hr
  obtain ⟨hl, hargs⟩ := uA8 h.st c.args
  have hfv := h.st.opv fo
  rw [hf] at hfv
  obtain ⟨cv, hcv, hcl, hcr⟩ : ∃ cv : List Value, a.eval fo = .func (.func f) #[] cv.toArray ∧ caps.length = cv.length ∧ ∀ (i : Nat) (x : AV E.S) (y : Value), caps[i]? = some x → cv[i]? = some y → Rep E w G L st.n x y := by
    generalize a.eval fo = u at hfv
    cases hfv with
    | fn _ _ vs hl h => exact ⟨vs, rfl, hl, h⟩
  have hpm := u32 _ hp
  generalize hGc : (bif ud1 E f then (fun _ => none : Gh) else ui7 G) = Gc
  have himm : ∀ b o, Imm G b o → Imm Gc b o := by
    intro b o hi
    rw [← hGc]
    cases ud1 E f with
    | true => exact Imm.none rfl
    | false => exact uy2.2 hi
  have hA : ux3 E w Gc (fun _ => undef) 0 (uT6 E st.b f (c.args.toList.map (opv (E := E) st)) caps) ((c.args.map a.eval).toList ++ cv) := by
    unfold uT6 at hpm ⊢
    refine ⟨by rw [List.length_append, List.length_append, List.length_map, hl, List.length_map, hcl], fun i x v hx hv => ?_⟩
    rw [List.getElem?_append] at hx hv
    rw [List.length_map, hl] at hx
    split at hx
    · rename_i hi
      rw [if_pos hi] at hv
      rw [List.getElem?_map] at hx
      obtain ⟨x', h1, rfl⟩ := Option.map_eq_some_iff.1 hx
      have hm := hpm _ (List.mem_append_left _ (List.mem_map_of_mem (List.mem_of_getElem? h1)))
      by_cases hbp : ∃ c0 off, x' = .bp c0 off
      · obtain ⟨c0, off, rfl⟩ := hbp
        rcases uR3 hE h.st f (hargs i _ v h1 hv) (uB9 _ hm) (fun c1 o1 e he => by cases e; exact vr7 he) with ⟨_, h2⟩ | ⟨h2, h3⟩
        · simp [idsV] at h2
        · rw [← hGc, h2]; exact h3
      · have e1 : argP E st.b f x' = ub8 st.b (ud1 E f) x' := by
          unfold argP
          cases x' <;> first | rfl | exact absurd ⟨_, _, rfl⟩ hbp | skip
          rename_i c0
          simp only [ub8]
          split <;> (try split) <;> first | rfl | (rename_i hh; cases hh; rfl) | skip
          rename_i e2 l2 sh2 _
          cases (sh2 || ud1 E f) <;> rfl
        rw [e1] at hm ⊢
        rw [← hGc]
        refine vo3 hE h.st _ (hargs i x' v h1 hv) (uB9 _ hm) fun hd => ?_
        rw [hd] at hm; cases hm
    · rename_i hi
      rw [if_neg hi] at hv
      have hm := hpm _ (List.mem_append_right _ (List.mem_of_getElem? hx))
      rw [List.getElem?_map] at hx
      obtain ⟨x', h1, rfl⟩ := Option.map_eq_some_iff.1 hx
      rcases uR3 hE h.st f (hcr _ x' v h1 hv) (uB9 _ hm) (fun c1 o1 e he => by subst e; exact vr7 he) with ⟨e1, h2⟩ | ⟨h2, h3⟩
      · rw [e1]
        exact (hcr _ x' v h1 hv).alone hE himm h2
      · rw [← hGc, h2]; exact h3
  have hown : ∀ b c u, Gc b = some (c, u) → c = none ∧ b < w.heap.size := by
    intro b c u hg
    rw [← hGc] at hg
    cases hsr : ud1 E f with
    | true => rw [hsr] at hg; cases hg
    | false =>
      rw [hsr] at hg
      simp only [cond_false, ui7] at hg
      obtain ⟨p, h1, h2⟩ := Option.map_eq_some_iff.1 hg
      obtain ⟨rfl, rfl⟩ := Prod.mk.inj h2
      exact ⟨rfl, (h.st.own b p.1 p.2 h1).1⟩
  have hglob : ∀ g x, E.glob g = some x → Rep E w Gc (fun _ => undef) 0 x (.pointer (some ⟨g, 0, none⟩)) := fun g x hg => (h.st.glob g x hg).alone hE himm (hE.glob g x hg)
  have hheld : Held E w Gc := (h.kp.2.2.step h.fr).ghost fun b hb' => by
    rw [← hGc]
    cases ud1 E f with
    | true => rfl
    | false => simp [ui7, hb']
  obtain ⟨nx, w1, hrun, hent⟩ := hS f _ [] sp hs ρ hρ w Gc (fun _ => undef) _ ⟨fun b c u hg => ⟨(hown b c u hg).2, fun k hk => by rw [(hown b c u hg).1] at hk; cases hk⟩, hglob, hA, fun k x hk => by simp at hk, fun k hk => by simp at hk, hheld⟩
  have hcase : Gc = ui7 G ∨ ((Gc = fun _ => none) ∧ vq7 (sp.av ρ) = true ∧ (sp.bx ρ).all (vk4 E) = true) := by
    rw [← hGc]
    cases hsr : ud1 E f with
    | false => exact .inl rfl
    | true =>
      rw [hsr] at hb
      simp only [Bool.not_true, Bool.false_or, Bool.and_eq_true] at hb
      exact .inr ⟨rfl, hb.1, hb.2⟩
  have hex : (execOp a.eval o).run E.P w = .ok nx w1 := by
    have e1 : ((c.args.map a.eval).toList ++ cv).toArray = c.args.map a.eval ++ cv.toArray := by simp
    rw [e1] at hrun
    unfold execOp
    rw [ho]
    simp only [resolve, hc, hcv, Deferred.ofValue, Sem.run_bind, Sem.run_pure, Result.andThen_ok, invoke, Array.empty_append]
    exact hrun
  have fin : ∀ v w', (∃ G' L, uA4 E w Gc (sp.av ρ) (sp.bx ρ) v w' G' L ∧ sp.k ≤ (sp.bx ρ).length ∧ ∀ i, i < sp.k → L i = (fun _ => undef : Nat → Value) i) → Nxt E w0 G0 κ r (a.put o.dst v) w' := by
    rintro v w' ⟨G', L', hres, _⟩
    obtain ⟨G2, L2, hI⟩ := h.call hE hcase hres o.dst
    exact ⟨_, G2, L2, hr, hI⟩
  unfold Oper.wp
  rw [hex]
  rcases hent with ⟨rfl, hcalls⟩ | ⟨v, rfl, hv⟩
  · rw [Oper.upon_enter]
    refine hcalls.mono ?_
    rintro e w' ⟨v, rfl, hv⟩
    exact fin v w' hv
  · rw [Oper.upon_value]
    exact fin v w1 hv
end Go.Proofs.YtaennkkcnhfglaaGreatDoor.Ev
