/- A part of the proof. -/
import Derived.Test.YtaennkkcnhfglaaGreatDoorSEvRead3
import Derived.Laws.IdiomCopy
set_option linter.unusedVariables false
namespace Go.Proofs.YtaennkkcnhfglaaGreatDoor.Ev
open Go.RowKit
variable {E : Env}
structure Frm (w0 : World) (G0 : Gh) (w : World) (G : Gh) : Prop where
  os : w.os = w0.os
  tape : w.tape = w0.tape
  output : w.output = w0.output
  size : w0.heap.size ≤ w.heap.size
  old : ∀ b, b < w0.heap.size → (∀ k u, ¬ G0 b = some (some k, u)) → w.heap[b]? = w0.heap[b]? ∧ G b = G0 b
  imm : ∀ b o v, Imm G0 b o → w0.cell? ⟨b, o, none⟩ = some v → Imm G b o ∧ w.cell? ⟨b, o, none⟩ = some v
theorem Frm.refl (w : World) (G : Gh) : Frm w G w G := ⟨rfl, rfl, rfl, Nat.le_refl _, fun _ _ h => ⟨rfl, rfl⟩, fun _ _ _ h1 h2 => ⟨h1, h2⟩⟩
theorem Frm.trans {w0 w1 w2 : World} {G0 G1 G2 : Gh} (h : Frm w0 G0 w1 G1) (k : Frm w1 G1 w2 G2) : Frm w0 G0 w2 G2 :=
  ⟨k.os.trans h.os, k.tape.trans h.tape, k.output.trans h.output, Nat.le_trans h.size k.size,
   fun b hb hg => have hq := k.old b (Nat.lt_of_lt_of_le hb h.size) (by rw [(h.old b hb hg).2]; exact hg)
     ⟨hq.1.trans (h.old b hb hg).1, hq.2.trans (h.old b hb hg).2⟩,
   fun b o v hi hc => k.imm b o v (h.imm b o v hi hc).1 (h.imm b o v hi hc).2⟩
theorem Frm.below {w w' : World} {G : Gh} (hb : Below w.heap.size w w') : Frm w G w' G :=
  ⟨hb.os, hb.tape, hb.output, hb.size, fun b h1 h2 => ⟨hb.block b h1, rfl⟩, fun b o v h1 h2 => ⟨h1, ua9 hb h2⟩⟩
theorem Frm.toBelow {w w' : World} {G : Gh} (h : Frm w (fun _ => none) w' G) : Below w.heap.size w w' := ⟨h.os, h.tape, h.output, h.size, fun b hb => (h.old b hb (fun k u h => by cases h)).1⟩
structure Org where
  g : Gh
  l : Nat → Value
  k : Nat
def Held (E : Env) (w : World) (G : Gh) : Prop := ∀ g nm cs, E.held g = some (nm, cs) → E.P.globalNamed nm = some g ∧ w.var? E.P nm = some cs ∧ G g = none
theorem vu7 {w w' : World} {P : Program} {nm : String} {g : Nat} {cs : Array Value} (hg : P.globalNamed nm = some g) (h : w.var? P nm = some cs) (hb : g < w.heap.size → w'.heap[g]? = w.heap[g]?) : w'.var? P nm = some cs := by
  unfold World.var? at h ⊢
  rw [hg] at h ⊢
  simp only [Option.bind_some] at h ⊢
  by_cases hl : g < w.heap.size
  · rw [hb hl]; exact h
  · rw [Array.getElem?_eq_none (by omega)] at h
    cases h
theorem Held.step {w w' : World} {G G' : Gh} (h : Held E w G) (hf : Frm w G w' G') : Held E w' G' := by
  intro g nm cs hg
  obtain ⟨h1, h2, h3⟩ := h g nm cs hg
  refine ⟨h1, vu7 h1 h2 fun hl => (hf.old g hl (fun k u e => by rw [h3] at e; cases e)).1, ?_⟩
  by_cases hl : g < w.heap.size
  · rw [(hf.old g hl (fun k u e => by rw [h3] at e; cases e)).2]; exact h3
  · unfold World.var? at h2
    rw [h1] at h2
    simp only [Option.bind_some] at h2
    rw [Array.getElem?_eq_none (by omega)] at h2
    cases h2
theorem Held.ghost {w : World} {G G' : Gh} (h : Held E w G) (hG : ∀ b, G b = none → G' b = none) : Held E w G' := fun g nm cs hg => ⟨(h g nm cs hg).1, (h g nm cs hg).2.1, hG g (h g nm cs hg).2.2⟩
def Kept (E : Env) (w0 : World) (G0 : Org) (n : Nat) (L : Nat → Value) : Prop := G0.k ≤ n ∧ (∀ i, i < G0.k → L i = G0.l i) ∧ Held E w0 G0.g
theorem Kept.mono {w0 : World} {G0 : Org} {n n' : Nat} {L L' : Nat → Value} (h : Kept E w0 G0 n L) (hn : n ≤ n') (hL : ∀ c, c < n → L' c = L c) : Kept E w0 G0 n' L' :=
  ⟨Nat.le_trans h.1 hn, fun i hi => (hL i (Nat.lt_of_lt_of_le hi h.1)).trans (h.2.1 i hi), h.2.2⟩
structure Inv (E : Env) (w0 : World) (G0 : Org) (s : St E.S) (a : Act) (w : World) (G : Gh) (L : Nat → Value) : Prop where
  st : ue7 E w G L s a.tmps
  fr : Frm w0 G0.g w G
  df : a.defers = []
  kp : Kept E w0 G0 s.n L
theorem Rep.step {w w' : World} {G G' : Gh} {L L' : Nat → Value} {n n' : Nat} (hf : ∀ b o v, Imm G b o → w.cell? ⟨b, o, none⟩ = some v → Imm G' b o ∧ w'.cell? ⟨b, o, none⟩ = some v) (hL : ∀ c, c < n → L' c = L c) (hn : n ≤ n') {x : AV E.S} {v : Value} (h : Rep E w G L n x v) : Rep E w' G' L' n' x v := h.mono hf hL hn
theorem ui3.step {w w' : World} {G G' : Gh} {L L' : Nat → Value} {n n' c : Nat} {k : PK} {e : Nat} {l : List (k.T × E.S e)} (hc : c < n) (hf : ∀ b o v, Imm G b o → w.cell? ⟨b, o, none⟩ = some v → Imm G' b o ∧ w'.cell? ⟨b, o, none⟩ = some v) (hL : ∀ c, c < n → L' c = L c) (hn : n ≤ n')
    (ho : ∀ b u, G b = some (some c, u) → G' b = some (some c, u) ∧ (∀ o v, w.cell? ⟨b, o, none⟩ = some v → w'.cell? ⟨b, o, none⟩ = some v ∧ w'.frozen? ⟨b, o, none⟩ = w.frozen? ⟨b, o, none⟩) ∧ ∀ ob, obj ob = true → w.heap[b]? = some ob → w'.heap[b]? = some ob) (h : ui3 E w G L n c k e l) : ui3 E w' G' L' n' c k e l := by
  cases h with
  | mk l0 b es clock hl hg hh he hv hq => exact .mk l0 b es clock (by rw [hL c hc]; exact hl) (ho b 0 hg).1 ((ho b 0 hg).2.2 _ rfl hh) he (fun i p en X h1 h2 h3 => (hv i p en X h1 h2 h3).step hf hL hn) hq
theorem ub2.step {w w' : World} {G G' : Gh} {L L' : Nat → Value} {n n' c : Nat} {bx : Box E.S} (hE : E.Ok) (hc : c < n) (hf : ∀ b o v, Imm G b o → w.cell? ⟨b, o, none⟩ = some v → Imm G' b o ∧ w'.cell? ⟨b, o, none⟩ = some v) (hL : ∀ c, c < n → L' c = L c) (hn : n ≤ n')
    (ho : ∀ b u, G b = some (some c, u) → G' b = some (some c, u) ∧ (∀ o v, w.cell? ⟨b, o, none⟩ = some v → w'.cell? ⟨b, o, none⟩ = some v ∧ w'.frozen? ⟨b, o, none⟩ = w.frozen? ⟨b, o, none⟩) ∧ ∀ ob, obj ob = true → w.heap[b]? = some ob → w'.heap[b]? = some ob) (h : ub2 E w G L n c bx) : ub2 E w' G' L' n' c bx := by
  cases h with
  | var t cs b hl hg h =>
    refine .var t cs b (by rw [hL c hc]; exact hl) (ho b 0 hg).1 fun j x hj => ?_
    obtain ⟨h1, v, h2, h4, h3⟩ := h j x hj
    obtain ⟨h5, h6⟩ := (ho b 0 hg).2.1 j v h2
    exact ⟨by rw [h6]; exact h1, v, h5, h4, h3.step hf hL hn⟩
  | nil e sh o hl => exact .nil e sh o (by rw [hL c hc]; exact hl)
  | un hl => exact .un (by rw [hL c hc]; exact hl)
  | iter s pos b hl hg hh => exact .iter s pos b (by rw [hL c hc]; exact hl) (ho b 0 hg).1 ((ho b 0 hg).2.2 _ rfl hh)
  | mp k v l h => exact .mp k v l (h.step hc hf hL hn ho)
  | mv k v cs hcs h => exact .mv k v cs hcs (h.step hc hf hL hn ho)
  | lk e l i j x b off cap hl hle hij hg hcs hw =>
    obtain ⟨g1, g2, _⟩ := ho b 0 hg
    refine .lk e l i j x b off cap (by rw [hL c hc]; exact hl) hle hij g1 (fun k y o cc hi hj => ?_) fun o ho1 ho2 => ?_
    · obtain ⟨v, h1, h0, h2⟩ := hcs k y o cc hi hj
      exact ⟨v, (g2 _ v h1).1, h0, h2.step hf hL hn⟩
    · obtain ⟨h5, h6⟩ := hw o ho1 ho2
      obtain ⟨v, hv⟩ := Option.isSome_iff_exists.1 h5
      obtain ⟨h7, h8⟩ := g2 o v hv
      exact ⟨by rw [h7]; rfl, by rw [h8]; exact h6⟩
  | row e l sh b off cap h =>
    refine .row e l sh b off cap ⟨by rw [hL c hc]; exact h.loc, h.le, fun i x j cc hi hj => ?_, ?_⟩
    · obtain ⟨v, h1, h2⟩ := h.cells i x j cc hi hj
      refine ⟨v, ?_, h2.step hf hL hn⟩
      rcases h.own with ⟨_, _, h3⟩ | ⟨u, h3, _⟩
      · have hi' : i < l.length := (List.getElem?_eq_some_iff.1 hi).1
        have hj' : j < E.P.cellsOf e := by rw [← hE.len e x]; exact (List.getElem?_eq_some_iff.1 hj).1
        have h5 : i * E.P.cellsOf e + E.P.cellsOf e ≤ l.length * E.P.cellsOf e := by rw [← Nat.succ_mul]; exact Nat.mul_le_mul_right _ hi'
        exact (hf _ _ _ (h3 _ (by omega) (by omega)) h1).2
      · exact ((ho b u h3).2.1 _ _ h1).1
    · rcases h.own with ⟨h1, h2, h3⟩ | ⟨u, h1, h2, h3, h4⟩
      · by_cases hz : E.P.cellsOf e = 0
        · exact .inl ⟨h1, h2, fun o ho1 ho2 => by rw [hz] at ho2; omega⟩
        · refine .inl ⟨h1, h2, fun o ho1 ho2 => ?_⟩
          have hdiv := Nat.div_add_mod (o - off) (E.P.cellsOf e)
          have hmod := Nat.mod_lt (o - off) (Nat.pos_of_ne_zero hz)
          have hi' : (o - off) / E.P.cellsOf e < l.length := by
            rw [Nat.div_lt_iff_lt_mul (Nat.pos_of_ne_zero hz)]; omega
          have hx := List.getElem?_eq_getElem hi'
          have hj := List.getElem?_eq_getElem (show (o - off) % E.P.cellsOf e < (E.cells e l[(o - off) / E.P.cellsOf e]).length by rw [hE.len]; exact hmod)
          obtain ⟨v, h5, _⟩ := h.cells _ _ _ _ hx hj
          have e1 : off + (o - off) / E.P.cellsOf e * E.P.cellsOf e + (o - off) % E.P.cellsOf e = o := by
            have : (o - off) / E.P.cellsOf e * E.P.cellsOf e = E.P.cellsOf e * ((o - off) / E.P.cellsOf e) := Nat.mul_comm _ _
            omega
          rw [e1] at h5
          exact (hf b o v (h3 o ho1 ho2) h5).1
      · refine .inr ⟨u, (ho b u h1).1, h2, h3, fun o ho1 ho2 => ?_⟩
        obtain ⟨h5, h6⟩ := h4 o ho1 ho2
        obtain ⟨v, hv⟩ := Option.isSome_iff_exists.1 h5
        obtain ⟨h7, h8⟩ := (ho b u h1).2.1 o v hv
        exact ⟨by rw [h7]; rfl, by rw [h8]; exact h6⟩
theorem uj6 (w : World) (o : Obj) : (w.alloc o).heap.size = w.heap.size + 1 := by unfold World.alloc; simp only [Array.size_push]
theorem uo7 (w : World) (c : Array Value) (t : TypeId) (j : Nat) : (w.alloc (.cells c t)).frozen? ⟨w.heap.size, j, none⟩ = false := by
  unfold World.frozen? World.alloc
  simp only [Array.getElem?_push_size]
  simp
theorem Inv.alloc (hE : E.Ok) {w0 w : World} {G0 : Org} {G : Gh} {L : Nat → Value} {st : St E.S} {a : Act} (h : Inv E w0 G0 st a w G L) {t d : Nat} {cs : List (AV E.S)} {vs : List Value} (hr : RL E w G L st.n cs vs) :
    ∃ G' L', Inv E w0 G0 { s := putS st d (.bp st.n 0), b := upd st.b st.n (some (.var t cs)), n := st.n + 1, z := st.z } (a.put (some d) (.pointer (some ⟨w.heap.size, 0, none⟩))) (w.alloc (.cells vs.toArray t)) G' L' := by
  let G' : Gh := fun b => if b = w.heap.size then some (some st.n, 0) else G b
  let L' : Nat → Value := fun c => if c = st.n then .pointer (some ⟨w.heap.size, 0, none⟩) else L c
  have hb : Below w.heap.size w (w.alloc (.cells vs.toArray t)) := (Below.refl _ _).alloc (Nat.le_refl _) _
  have hL : ∀ c, c < st.n → L' c = L c := fun c hc => if_neg (by omega)
  have hf : ∀ b o v, Imm G b o → w.cell? ⟨b, o, none⟩ = some v → Imm G' b o ∧ (w.alloc (.cells vs.toArray t)).cell? ⟨b, o, none⟩ = some v := by
    intro b o v hi hc
    have hlt : b < w.heap.size := World.block_lt_of_cell? w _ hc
    refine ⟨fun c u hg => hi c u ?_, ua9 hb hc⟩
    have : G' b = G b := if_neg (by omega)
    rw [← this]; exact hg
  have hbig : L' st.n = .pointer (some ⟨w.heap.size, 0, none⟩) := if_pos rfl
  refine ⟨G', L', ⟨?_, ?_, ?_, ?_, ?_, ?_⟩, ?_, ?_, h.kp.mono (Nat.le_succ _) hL⟩
  ·
    have := um6 (E := E) (w := w.alloc (.cells vs.toArray t)) (G := G') (L := L') (n := st.n + 1) (st := st) (a := a) (d := some d) (x := .bp st.n 0) (v := .pointer (some ⟨w.heap.size, 0, none⟩)) h.st.size
      (fun i => (h.st.slots i).step hf hL (Nat.le_succ _)) (.bp st.n 0 w.heap.size (Nat.lt_succ_self _) hbig)
    exact this
  · rw [uq7]; exact h.st.size
  · intro c bx hc
    by_cases e : c = st.n
    · subst e
      simp only [ub4] at hc
      obtain rfl := Option.some.inj hc
      refine ⟨Nat.lt_succ_self _, .var t cs w.heap.size hbig (if_pos rfl) fun j x hj => ?_⟩
      have hjl : j < vs.length := by rw [← hr.len]; exact (List.getElem?_eq_some_iff.1 hj).1
      refine ⟨uo7 _ _ _ _, vs[j], ?_, hr.one _ (List.getElem_mem hjl), (hr.rep j x _ hj (List.getElem?_eq_getElem hjl)).step hf hL (Nat.le_succ _)⟩
      rw [World.cell?_alloc_new]; simp [hjl]
    · simp only [ud5 _ _ e] at hc
      obtain ⟨h1, h2⟩ := h.st.boxes c bx hc
      refine ⟨Nat.lt_succ_of_lt h1, h2.step hE h1 hf hL (Nat.le_succ _) fun b u hg => ?_⟩
      have hlt := (h.st.own b c u hg).1
      refine ⟨by rw [← hg]; exact if_neg (by omega), fun o v hv => ⟨ua9 hb hv, uc2 hb hv⟩, fun ob _ hs => (hb.block b (Array.getElem?_eq_some_iff.1 hs).1).trans hs⟩
  · intro b c u hg
    by_cases e : b = w.heap.size
    · have : G' b = some (some st.n, 0) := if_pos e
      rw [this] at hg
      obtain ⟨rfl, rfl⟩ := Prod.mk.inj (Option.some.inj hg)
      exact ⟨by rw [e, uj6]; exact Nat.lt_succ_self _, fun k hk => by obtain rfl := Option.some.inj hk; exact Nat.lt_succ_self _⟩
    · have : G' b = G b := if_neg e
      rw [this] at hg
      obtain ⟨h1, h2⟩ := h.st.own b c u hg
      exact ⟨Nat.lt_of_lt_of_le h1 hb.size, fun k hk => Nat.lt_succ_of_lt (h2 k hk)⟩
  · intro c hc
    by_cases e : c = st.n
    · subst e; rw [hbig]; rfl
    · rw [hL c (by simp at hc; omega)]; exact h.st.one c (by simp at hc; omega)
  · exact fun g x hg => (h.st.glob g x hg).step hf hL (Nat.le_succ _)
  · refine h.fr.trans ⟨hb.os, hb.tape, hb.output, hb.size, fun b h1 h2 => ⟨hb.block b h1, ?_⟩, hf⟩
    exact if_neg (by omega)
  · rw [ue0]; exact h.df
end Go.Proofs.YtaennkkcnhfglaaGreatDoor.Ev
