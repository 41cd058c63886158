/- A part of the proof. -/
import Derived.Test.YtaennkkcnhfglaaGreatDoorSEvEff2
import Derived.Deep.Upon
set_option linter.unusedVariables false
namespace Go.Proofs.YtaennkkcnhfglaaGreatDoor.Ev
open Go.RowKit
variable {E : Env} {R : Type}
def uA3 (E : Env) (w : World) (G : Gh) (L : Nat → Value) (n e : Nat) (l : List (E.S e)) (v : Value) : Prop :=
  (v = .slice none 0 0 ∧ l = []) ∨ (∃ b off cap, v = .slice (some ⟨b, off, none⟩) l.length cap ∧ l.length ≤ cap ∧
    ∀ i x j cc, l[i]? = some x → (E.cells e x)[j]? = some cc → ∃ u, w.cell? ⟨b, off + i * E.P.cellsOf e + j, none⟩ = some u ∧ u.oneCell' = true ∧ Rep E w G L n cc u) ∨ ∃ a, v = .slice (some a) 0 0 ∧ l = []
theorem Rep.elems (hE : E.Ok) {w : World} {G : Gh} {L : Nat → Value} {n e : Nat} (hL : ∀ c, c < n → (L c).oneCell' = true) {l : List (E.S e)} {f : Bool} {v : Value} (h : Rep E w G L n (.sl e l f) v) : uA3 E w G L n e l v := by
  cases h with
  | sn => exact .inl ⟨rfl, rfl⟩
  | se _ a _ => exact .inr (.inr ⟨a, rfl, rfl⟩)
  | sl _ _ _ b off cap vals hc hf h1 h2 => exact .inr (.inl ⟨b, off, cap, rfl, hc, fun i x j cc hi hj => ⟨_, (h1 i x j cc hi hj).2, (h2 i x j cc hi hj).oneCell hL (hE.cell e x cc (List.mem_of_getElem? hj)).1, h2 i x j cc hi hj⟩⟩)
theorem ub2.elems (hE : E.Ok) {w : World} {G : Gh} {L : Nat → Value} {n c e : Nat} (hL : ∀ c, c < n → (L c).oneCell' = true) {l : List (E.S e)} {sh : Bool} (h : ub2 E w G L n c (.row e l sh)) : uA3 E w G L n e l (L c) := by
  cases h with
  | nil _ _ o hl =>
    cases o with
    | none => exact .inl ⟨hl, rfl⟩
    | some a => exact .inr (.inr ⟨a, hl, rfl⟩)
  | row _ _ _ b off cap h => exact .inr (.inl ⟨b, off, cap, h.loc, h.le, fun i x j cc hi hj => by
      obtain ⟨u, h1, h2⟩ := h.cells i x j cc hi hj
      exact ⟨u, h1, h2.oneCell hL (hE.cell e x cc (List.mem_of_getElem? hj)).1, h2⟩⟩)
structure Flat (E : Env) (w : World) (G : Gh) (L : Nat → Value) (n e : Nat) (l : List (E.S e)) (vs : List Value) : Prop where
  len : vs.length = l.length * E.P.cellsOf e
  one : ∀ v ∈ vs, v.oneCell' = true
  rep : ∀ i x j cc, l[i]? = some x → (E.cells e x)[j]? = some cc → ∃ u, vs[i * E.P.cellsOf e + j]? = some u ∧ Rep E w G L n cc u
theorem us8 {len sz k : Nat} (h : k < len * sz) : k / sz < len ∧ k % sz < sz ∧ k / sz * sz + k % sz = k := by
  have hz : 0 < sz := by
    rcases Nat.eq_zero_or_pos sz with h0 | h0
    · subst h0; simp at h
    · exact h0
  refine ⟨by rwa [Nat.div_lt_iff_lt_mul hz], Nat.mod_lt _ hz, ?_⟩
  rw [Nat.mul_comm]; exact Nat.div_add_mod k sz
theorem Rep.imm (hE : E.Ok) {w : World} {G : Gh} {L : Nat → Value} {n e : Nat} {l : List (E.S e)} {f : Bool} {b off k cap : Nat} (h : Rep E w G L n (.sl e l f) (.slice (some ⟨b, off, none⟩) k cap)) : ∀ o, off ≤ o → o < off + l.length * E.P.cellsOf e → Imm G b o := by
  intro o h1 h2
  cases h with
  | se => simp at h2; omega
  | sl _ _ _ _ _ _ vals hc hf h3 h4 =>
    obtain ⟨h5, h6, h7⟩ := us8 (show o - off < l.length * E.P.cellsOf e by omega)
    have hj := List.getElem?_eq_getElem (show (o - off) % E.P.cellsOf e < (E.cells e l[(o - off) / E.P.cellsOf e]).length by rw [hE.len]; exact h6)
    have := (h3 _ _ _ _ (List.getElem?_eq_getElem h5) hj).1
    rwa [Nat.add_assoc, h7, show off + (o - off) = o by omega] at this
theorem uA3.flat (hE : E.Ok) {w : World} {G : Gh} {L : Nat → Value} {n e : Nat} {l : List (E.S e)} {v : Value} (h : uA3 E w G L n e l v) :
    ∃ vs, Flat E w G L n e l vs ∧ ((v = .slice none 0 0 ∧ l = []) ∨ (∃ b off cap, v = .slice (some ⟨b, off, none⟩) l.length cap ∧ l.length ≤ cap ∧ ∀ j u, vs[j]? = some u → w.cell? ⟨b, off + j, none⟩ = some u) ∨ ∃ a, v = .slice (some a) 0 0 ∧ l = []) := by
  rcases h with ⟨rfl, rfl⟩ | ⟨b, off, cap, rfl, hc, h⟩ | ⟨a, rfl, rfl⟩
  rotate_left 2
  · exact ⟨[], ⟨by simp, (fun v hv => by cases hv), (fun i x j cc hi => by simp at hi)⟩, .inr (.inr ⟨a, rfl, rfl⟩)⟩
  · exact ⟨[], ⟨by simp, (fun v hv => by cases hv), (fun i x j cc hi => by simp at hi)⟩, .inl ⟨rfl, rfl⟩⟩
  · have key : ∀ k, k < l.length * E.P.cellsOf e → ∃ u, w.cell? ⟨b, off + k, none⟩ = some u ∧ u.oneCell' = true := by
      intro k hk
      obtain ⟨h1, h2, h3⟩ := us8 hk
      have hx := List.getElem?_eq_getElem h1
      have hj := List.getElem?_eq_getElem (show k % E.P.cellsOf e < (E.cells e l[k / E.P.cellsOf e]).length by rw [hE.len]; exact h2)
      obtain ⟨u, h4, h5, _⟩ := h _ _ _ _ hx hj
      rw [Nat.add_assoc, h3] at h4
      exact ⟨u, h4, h5⟩
    have get : ∀ k u, ((List.range (l.length * E.P.cellsOf e)).map fun k => (w.cell? ⟨b, off + k, none⟩).getD undef)[k]? = some u → w.cell? ⟨b, off + k, none⟩ = some u ∧ u.oneCell' = true := by
      intro k u hu
      rw [List.getElem?_map] at hu
      cases hr : (List.range (l.length * E.P.cellsOf e))[k]? with
      | none => simp [hr] at hu
      | some k' =>
        rw [hr] at hu
        have hk := List.getElem?_eq_some_iff.1 hr
        obtain ⟨hk1, hk2⟩ := hk
        simp at hk1 hk2
        subst hk2
        obtain ⟨u', h1, h2⟩ := key k hk1
        simp only [Option.map_some, h1, Option.getD_some] at hu
        obtain rfl := Option.some.inj hu
        exact ⟨h1, h2⟩
    refine ⟨(List.range (l.length * E.P.cellsOf e)).map fun k => (w.cell? ⟨b, off + k, none⟩).getD undef, ⟨by simp, fun v hv => ?_, fun i x j cc hi hj => ?_⟩, .inr (.inl ⟨b, off, cap, rfl, hc, fun j u hu => (get j u hu).1⟩)⟩
    · obtain ⟨k, hk⟩ := List.getElem?_of_mem hv
      exact (get k v hk).2
    · obtain ⟨u, h1, _, h2⟩ := h i x j cc hi hj
      have hi' : i < l.length := (List.getElem?_eq_some_iff.1 hi).1
      have hj' : j < E.P.cellsOf e := by rw [← hE.len e x]; exact (List.getElem?_eq_some_iff.1 hj).1
      have hk : i * E.P.cellsOf e + j < l.length * E.P.cellsOf e := by
        have : i * E.P.cellsOf e + E.P.cellsOf e ≤ l.length * E.P.cellsOf e := by rw [← Nat.succ_mul]; exact Nat.mul_le_mul_right _ hi'
        omega
      refine ⟨u, ?_, h2⟩
      rw [List.getElem?_map, List.getElem?_range hk]
      simp only [Option.map_some]
      rw [← Nat.add_assoc, h1]; rfl
theorem Flat.append {w : World} {G : Gh} {L : Nat → Value} {n e : Nat} {l m : List (E.S e)} {vs us : List Value} (hE : E.Ok) (h : Flat E w G L n e l vs) (k : Flat E w G L n e m us) : Flat E w G L n e (l ++ m) (vs ++ us) := by
  refine ⟨by rw [List.length_append, List.length_append, h.len, k.len, Nat.add_mul], fun v hv => ?_, fun i x j cc hi hj => ?_⟩
  · rcases List.mem_append.1 hv with hv | hv
    · exact h.one v hv
    · exact k.one v hv
  · have hj' : j < E.P.cellsOf e := by rw [← hE.len e x]; exact (List.getElem?_eq_some_iff.1 hj).1
    rw [List.getElem?_append] at hi
    split at hi
    · rename_i hil
      obtain ⟨u, h1, h2⟩ := h.rep i x j cc hi hj
      refine ⟨u, ?_, h2⟩
      rw [List.getElem?_append_left (List.getElem?_eq_some_iff.1 h1).1]; exact h1
    · rename_i hil
      obtain ⟨u, h1, h2⟩ := k.rep (i - l.length) x j cc hi hj
      refine ⟨u, ?_, h2⟩
      have e1 : i * E.P.cellsOf e + j = vs.length + ((i - l.length) * E.P.cellsOf e + j) := by
        rw [h.len, ← Nat.add_assoc, ← Nat.add_mul]
        congr 2
        omega
      rw [e1, List.getElem?_append_right (by omega), Nat.add_sub_cancel_left]
      exact h1
theorem Flat.step {w w' : World} {G G' : Gh} {L L' : Nat → Value} {n n' e : Nat} {l : List (E.S e)} {vs : List Value} (hf : ∀ b o v, Imm G b o → w.cell? ⟨b, o, none⟩ = some v → Imm G' b o ∧ w'.cell? ⟨b, o, none⟩ = some v) (hL : ∀ c, c < n → L' c = L c) (hn : n ≤ n') (h : Flat E w G L n e l vs) : Flat E w' G' L' n' e l vs :=
  ⟨h.len, h.one, fun i x j cc hi hj => let ⟨u, h1, h2⟩ := h.rep i x j cc hi hj; ⟨u, h1, h2.step hf hL hn⟩⟩
theorem uA3.src (hE : E.Ok) {w : World} {G : Gh} {L : Nat → Value} {n e t size : Nat} {l : List (E.S e)} {v : Value} (hs : size = E.P.cellsOf e) (hu : ∃ e', E.P.underlying t = some (.slice e')) (h : uA3 E w G L n e l v) :
    ∃ vs, Flat E w G L n e l vs ∧ Src E.P size t v l.length vs w ∧ (Builtin.firstCells size l.length v).run E.P w.drew = .ok vs.toArray w.drew := by
  obtain ⟨e', hu⟩ := hu
  obtain ⟨vs, h1, h2⟩ := h.flat hE
  rcases h2 with ⟨rfl, rfl⟩ | ⟨b, off, cap, rfl, hc, h3⟩ | ⟨a, rfl, rfl⟩
  rotate_left 2
  · have : vs = [] := List.eq_nil_of_length_eq_zero (by rw [h1.len]; simp)
    subst this
    have hsrc := Src.ofSlice (P := E.P) w (size := size) hu a 0 0 [] (by simp) (fun j u hj => by simp at hj) (fun v hv => by cases hv)
    exact ⟨[], h1, hsrc, hsrc.cellsD⟩
  · have : vs = [] := List.eq_nil_of_length_eq_zero (by rw [h1.len]; simp)
    subst this
    have hsrc := Src.ofNil (P := E.P) w (size := size) hu 0
    exact ⟨[], h1, hsrc, hsrc.cellsD⟩
  · have hsrc := Src.ofSlice (P := E.P) w (size := size) hu ⟨b, off, none⟩ l.length cap vs (by rw [h1.len, hs]) (fun j u hj => by rw [Addr.add_mid]; exact h3 j u hj) h1.one
    exact ⟨vs, h1, hsrc, hsrc.cellsD⟩
theorem ui4.fresh (hE : E.Ok) {w : World} {G : Gh} {L : Nat → Value} {n c e : Nat} {l : List (E.S e)} {vs : List Value} {sh : Bool} {b off cap : Nat} (hl : L c = .slice (some ⟨b, off, none⟩) l.length cap) (hle : l.length ≤ cap) (hf : Flat E w G L n e l vs) (hv : ∀ j u, vs[j]? = some u → w.cell? ⟨b, off + j, none⟩ = some u)
    (ho : (cap = l.length ∧ (sh = true ∨ l = []) ∧ ∀ o, off ≤ o → o < off + l.length * E.P.cellsOf e → Imm G b o) ∨
    (∃ u, G b = some (some c, u) ∧ (sh = true → u = off + l.length * E.P.cellsOf e) ∧ (sh = false → u = 0) ∧ ∀ o, off ≤ o → o < off + cap * E.P.cellsOf e → (w.cell? ⟨b, o, none⟩).isSome = true ∧ w.frozen? ⟨b, o, none⟩ = false)) : ui4 E w G L n c e l sh b off cap :=
  ⟨hl, hle, fun i x j cc hi hj => let ⟨u, h1, h2⟩ := hf.rep i x j cc hi hj; ⟨u, by rw [Nat.add_assoc]; exact hv _ u h1, h2⟩, ho⟩
theorem uP9 (z : Array Value) (n : Nat) : (Builtin.zeroCells z n).size = n * z.size := by simp [Builtin.zeroCells]
def up4 (st : St E.S) (d : Nat) (c : Option Nat) (e : Nat) (l : List (E.S e)) (sh : Bool) : St E.S := { s := putS st d (.rw st.n), b := upd (drop st.b c) st.n (some (.row e l sh)), n := st.n + 1, z := st.z }
theorem Inv.newRowL (hE : E.Ok) {w0 w w' : World} {G0 : Org} {G G' : Gh} {L : Nat → Value} {st : St E.S} {a : Act} (h : Inv E w0 G0 st a w G L) {d e : Nat} {c : Option Nat} {l : List (E.S e)} {sh : Bool} {v : Value} (hv1 : v.oneCell' = true)
    (hf : ∀ b o u, Imm G b o → w.cell? ⟨b, o, none⟩ = some u → Imm G' b o ∧ w'.cell? ⟨b, o, none⟩ = some u)
    (hb : ∀ c' b u, some c' ≠ c → G b = some (some c', u) → G' b = some (some c', u) ∧ (∀ o v, w.cell? ⟨b, o, none⟩ = some v → w'.cell? ⟨b, o, none⟩ = some v ∧ w'.frozen? ⟨b, o, none⟩ = w.frozen? ⟨b, o, none⟩) ∧ ∀ ob, obj ob = true → w.heap[b]? = some ob → w'.heap[b]? = some ob)
    (hown : ∀ b c' u, G' b = some (c', u) → b < w'.heap.size ∧ ∀ k, c' = some k → k < st.n + 1)
    (hfr : Frm w G w' G')
    (hrow : ub2 E w' G' (fun k => if k = st.n then v else L k) (st.n + 1) st.n (.row e l sh)) :
    Inv E w0 G0 (up4 st d c e l sh) (a.put (some d) v) w' G' (fun k => if k = st.n then v else L k) := by
  have hL : ∀ k, k < st.n → (fun k => if k = st.n then v else L k) k = L k := fun k hk => if_neg (by omega)
  refine ⟨⟨?_, ?_, ?_, hown, ?_, fun g x hg => (h.st.glob g x hg).step hf hL (Nat.le_succ _)⟩, h.fr.trans hfr, by rw [ue0]; exact h.df, h.kp.mono (Nat.le_succ _) hL⟩
  · have hrw : Rep E w' G' (fun k => if k = st.n then v else L k) (st.n + 1) (.rw st.n) v := by
      have := Rep.rw (E := E) (w := w') (G := G') (L := fun k => if k = st.n then v else L k) (n := st.n + 1) st.n (Nat.lt_succ_self _) hrow.isSl
      simpa using this
    exact um6 (st := st) (a := a) (d := some d) (x := .rw st.n) (v := v) h.st.size (fun i => (h.st.slots i).step hf hL (Nat.le_succ _)) hrw
  · rw [uq7]; exact h.st.size
  · intro c' bx hc
    by_cases e' : c' = st.n
    · subst e'
      simp only [up4, ub4] at hc
      obtain rfl := Option.some.inj hc
      exact ⟨Nat.lt_succ_self _, hrow⟩
    · simp only [up4, ud5 _ _ e'] at hc
      have hc' : st.b c' = some bx ∧ some c' ≠ c := by
        cases c with
        | none => exact ⟨hc, by simp⟩
        | some k =>
          simp only [drop] at hc
          by_cases ek : c' = k
          · subst ek; simp only [ub4] at hc; cases hc
          · rw [ud5 _ _ ek] at hc; exact ⟨hc, by simpa using ek⟩
      obtain ⟨h1, h2⟩ := h.st.boxes c' bx hc'.1
      exact ⟨Nat.lt_succ_of_lt h1, h2.step hE h1 hf hL (Nat.le_succ _) fun b u hg => hb c' b u hc'.2 hg⟩
  · intro k hk
    by_cases e' : k = st.n
    · subst e'; simpa using hv1
    · have : k < st.n := by simp [up4] at hk; omega
      rw [if_neg e']; exact h.st.one k this
theorem Inv.newRow (hE : E.Ok) {w0 w w' : World} {G0 : Org} {G G' : Gh} {L : Nat → Value} {st : St E.S} {a : Act} (h : Inv E w0 G0 st a w G L) {d e : Nat} {c : Option Nat} {l : List (E.S e)} {sh : Bool} {v : Value} (hv1 : v.oneCell' = true)
    (hf : ∀ b o u, Imm G b o → w.cell? ⟨b, o, none⟩ = some u → Imm G' b o ∧ w'.cell? ⟨b, o, none⟩ = some u)
    (hb : ∀ c' b u, some c' ≠ c → G b = some (some c', u) → G' b = some (some c', u) ∧ (∀ o v, w.cell? ⟨b, o, none⟩ = some v → w'.cell? ⟨b, o, none⟩ = some v ∧ w'.frozen? ⟨b, o, none⟩ = w.frozen? ⟨b, o, none⟩) ∧ ∀ ob, obj ob = true → w.heap[b]? = some ob → w'.heap[b]? = some ob)
    (hown : ∀ b c' u, G' b = some (c', u) → b < w'.heap.size ∧ ∀ k, c' = some k → k < st.n + 1)
    (hfr : Frm w G w' G')
    (hrow : ub2 E w' G' (fun k => if k = st.n then v else L k) (st.n + 1) st.n (.row e l sh)) :
    ∃ L', Inv E w0 G0 (up4 st d c e l sh) (a.put (some d) v) w' G' L' := ⟨_, h.newRowL hE hv1 hf hb hown hfr hrow⟩
inductive Base (E : Env) (w : World) (G : Gh) (L : Nat → Value) (n e : Nat) : Option Nat → List (E.S e) → Bool → Value → Prop
 | nil (c : Option Nat) (sh : Bool) (o : Option Addr) : Base E w G L n e c [] sh (.slice o 0 0)
 | full (l : List (E.S e)) (sh : Bool) (hs : sh = true ∨ l = []) (b off : Nat) (h : Rep E w G L n (.sl e l true) (.slice (some ⟨b, off, none⟩) l.length l.length)) (c : Option Nat) : Base E w G L n e c l sh (.slice (some ⟨b, off, none⟩) l.length l.length)
 | row (c : Nat) (l : List (E.S e)) (sh : Bool) (b off cap : Nat) (h : ui4 E w G L n c e l sh b off cap) (hc : c < n) : Base E w G L n e (some c) l sh (L c)
theorem uT3 {w : World} {G : Gh} {L : Nat → Value} {st : St E.S} {ts : Array Value} (h : ue7 E w G L st ts) {e : Nat} {wr : Bool} {x : AV E.S} {v : Value} (hx : Rep E w G L st.n x v) {c : Option Nat} {l : List (E.S e)} {sh : Bool} (hb : uo0 st e wr x = some (c, l, sh)) : Base E w G L st.n e c l sh v := by
  unfold uo0 at hb
  split at hb
  · obtain ⟨rfl, rfl, rfl⟩ : none = c ∧ [] = l ∧ (!wr) = sh := by simpa using hb
    cases hx
    exact .nil _ _ _
  · rename_i e' l'
    split at hb
    · rename_i he
      subst he
      obtain ⟨rfl, rfl, hsh⟩ : none = c ∧ l' = l ∧ shOf wr l' = sh := by simpa using hb
      have hsh' : sh = true ∨ l' = [] := by
        cases l' with
        | nil => exact .inr rfl
        | cons x l => left; rw [← hsh]; cases wr <;> rfl
      have hx' := hx
      cases hx with
      | sn => exact .nil _ _ _
      | se => exact .nil _ _ _
      | sl _ _ _ b off cap vals hc hf h1 h2 =>
        obtain rfl := hf rfl
        exact .full _ _ hsh' b off hx' _
    · cases hb
  · rename_i k
    split at hb
    · rename_i e' l' sh' hbx
      split at hb
      · rename_i he
        subst he
        obtain ⟨rfl, rfl, rfl⟩ : some k = c ∧ l' = l ∧ sh' = sh := by simpa using hb
        obtain ⟨rfl, hk⟩ := hx.rw_inv
        have := (h.boxes k _ hbx).2
        cases this with
        | nil _ _ o hl => rw [hl]; exact .nil _ _ _
        | row _ _ _ b off cap h' => exact .row k l' sh' b off cap h' hk
      · cases hb
    · cases hb
  · cases hb
theorem uA7 (hE : E.Ok) {w : World} {G : Gh} {L : Nat → Value} {st : St E.S} {ts : Array Value} (h : ue7 E w G L st ts) {e : Nat} {x : AV E.S} {v : Value} (hx : Rep E w G L st.n x v) {m : List (E.S e)} (hb : up3 st e x = some m) : uA3 E w G L st.n e m v := by
  unfold up3 at hb
  split at hb
  · obtain rfl := Option.some.inj hb
    cases hx
    exact .inl ⟨rfl, rfl⟩
  · rename_i e' l' f
    split at hb
    · rename_i he
      subst he
      obtain rfl := Option.some.inj hb
      exact hx.elems hE h.one
    · cases hb
  · rename_i k
    split at hb
    · rename_i e' l' sh' hbx
      split at hb
      · rename_i he
        subst he
        obtain rfl := Option.some.inj hb
        obtain ⟨rfl, hk⟩ := hx.rw_inv
        exact (h.boxes k _ hbx).2.elems hE h.one
      · cases hb
    · cases hb
  · cases hb
theorem Base.elems (hE : E.Ok) {w : World} {G : Gh} {L : Nat → Value} {n e : Nat} (hL : ∀ c, c < n → (L c).oneCell' = true) {c : Option Nat} {l : List (E.S e)} {sh : Bool} {v : Value} (h : Base E w G L n e c l sh v) : uA3 E w G L n e l v := by
  cases h with
  | nil _ _ o =>
    cases o with
    | none => exact .inl ⟨rfl, rfl⟩
    | some a => exact .inr (.inr ⟨a, rfl, rfl⟩)
  | full l sh hs b off h => exact h.elems hE hL
  | row c l sh b off cap h => exact (ub2.row e l sh b off cap h).elems hE hL
theorem grownCap_ge (w : World) (need old e : Nat) : need ≤ grownCap w need old e := by
  unfold grownCap
  simp only [Question.cut]
  omega
theorem uT4 (hE : E.Ok) {w0 w : World} {G0 : Org} {G : Gh} {L : Nat → Value} {st : St E.S} {a : Act} (h : Inv E w0 G0 st a w G L) {d e t tx ty : Nat} {c : Option Nat} {l m : List (E.S e)} {sh : Bool} {v x : Value} {ie : TypeInfo} {z : Value}
    (hu : E.P.underlying t = some (.slice e)) (hux : ∃ e', E.P.underlying tx = some (.slice e')) (hi : E.P.info? e = some ie) (hz : ie.zero = some z) (hzs : z.cells.size = E.P.cellsOf e) (hby : 0 < ie.bytes) (hlim : (l.length + m.length) * ie.bytes ≤ 140737488355328)
    (hv : uA3 E w G L st.n e l v) (hx : uA3 E w G L st.n e m x) {base : Option Addr} {cap : Nat} (hvs : v = .slice base l.length cap) (hg : cap < l.length + m.length) :
    ∃ v' w' G' L', (Builtin.append_ #[t, tx] ty #[v, x]).run E.P w = .ok v' w' ∧ Inv E w0 G0 (up4 st d c e (l ++ m) sh) (a.put (some d) v') w' G' L' := by
  have hsz : ie.size = E.P.cellsOf e := by simp [Program.cellsOf, hi]
  obtain ⟨olds, ho1, ho2, ho3⟩ := hv.src (size := ie.size) (t := t) hE hsz ⟨e, hu⟩
  obtain ⟨news, hn1, hn2, _⟩ := hx.src (size := ie.size) (t := tx) hE hsz hux
  subst hvs
  have h63 : l.length + m.length ≤ (l.length + m.length) * ie.bytes := Nat.le_mul_of_pos_right _ hby
  have hcap2 := nextslicecap_le hg
  have hfit : Builtin.nextslicecap (l.length + m.length) cap * ie.bytes ≤ 281474976710656 := by
    have : Builtin.nextslicecap (l.length + m.length) cap * ie.bytes ≤ 2 * (l.length + m.length) * ie.bytes := Nat.mul_le_mul_right _ hcap2
    rw [Nat.mul_assoc] at this
    omega
  have hrun := run_append_grow_src (P := E.P) w t tx ty e ie z hu hi hz base l.length cap olds ho3 x m.length news hn2 hg (by omega) hfit
  generalize hN : grownCap w (l.length + m.length) cap e = N at hrun
  have hNge : l.length + m.length ≤ N := by rw [← hN]; exact grownCap_ge ..
  generalize hC : (olds ++ news).toArray ++ Builtin.zeroCells z.cells (N - (l.length + m.length)) = C at hrun
  have hflat := ho1.append hE hn1
  have hCsz : C.size = N * E.P.cellsOf e := by
    rw [← hC]
    simp only [Array.size_append, List.size_toArray, uP9, hzs, hflat.len, List.length_append]
    rw [← Nat.add_mul]
    congr 1
    omega
  have hCget : ∀ (j : Nat) (u : Value), (olds ++ news)[j]? = some u → C[j]? = some u := by
    intro j u hj
    have hjl := (List.getElem?_eq_some_iff.1 hj).1
    rw [← hC, Array.getElem?_append_left (by simpa using hjl)]
    simpa using hj
  have hbel : Below w.heap.size w (w.drew.alloc (.cells C e)) := ((Below.refl _ _).drew).alloc (Nat.le_refl _) _
  let u' : Nat := if sh = true then (l ++ m).length * E.P.cellsOf e else 0
  let G' : Gh := fun b => if b = w.heap.size then some (some st.n, u') else G b
  have hGo : ∀ b, b < w.heap.size → G' b = G b := fun b hb => if_neg (by omega)
  have hGn : G' w.heap.size = some (some st.n, u') := if_pos rfl
  have hf : ∀ b o u, Imm G b o → w.cell? ⟨b, o, none⟩ = some u → Imm G' b o ∧ (w.drew.alloc (.cells C e)).cell? ⟨b, o, none⟩ = some u := by
    intro b o u hi hc
    have hlt : b < w.heap.size := World.block_lt_of_cell? w _ hc
    exact ⟨fun c u hg => hi c u (by rw [← hGo b hlt]; exact hg), ua9 hbel hc⟩
  have hsz' : (w.drew.alloc (.cells C e)).heap.size = w.heap.size + 1 := uj6 w.drew _
  have hcell : ∀ j, (w.drew.alloc (.cells C e)).cell? ⟨w.heap.size, j, none⟩ = C[j]? := fun j => World.cell?_alloc_new (w := w.drew) C e j
  obtain ⟨L', hI⟩ := h.newRow (w' := w.drew.alloc (.cells C e)) (G' := G') hE (d := d) (c := c) (l := l ++ m) (sh := sh) (v := .slice (some ⟨w.heap.size, 0, none⟩) (l.length + m.length) N) rfl hf
    (fun c' b u _ hg => by
      have hlt := (h.st.own b c' u hg).1
      exact ⟨by rw [hGo b hlt]; exact hg, fun o v hv => ⟨ua9 hbel hv, uc2 hbel hv⟩, fun ob _ hs => (hbel.block b (Array.getElem?_eq_some_iff.1 hs).1).trans hs⟩)
    (fun b c' u hg => by
      by_cases e1 : b = w.heap.size
      · subst e1
        rw [hGn] at hg
        obtain ⟨rfl, rfl⟩ := Prod.mk.inj (Option.some.inj hg)
        exact ⟨by omega, fun k hk => by obtain rfl := Option.some.inj hk; exact Nat.lt_succ_self _⟩
      · have : G' b = G b := if_neg e1
        rw [this] at hg
        obtain ⟨h1, h2⟩ := h.st.own b c' u hg
        exact ⟨by omega, fun k hk => Nat.lt_succ_of_lt (h2 k hk)⟩)
    ⟨hbel.os, hbel.tape, hbel.output, hbel.size, fun b h1 h2 => ⟨hbel.block b h1, hGo b h1⟩, hf⟩
    (.row e (l ++ m) sh w.heap.size 0 N (ui4.fresh hE (vs := olds ++ news) (by simp) (by rw [List.length_append]; exact hNge)
      (hflat.step hf (fun k hk => if_neg (by omega)) (Nat.le_succ _)) (fun j u hj => by rw [Nat.zero_add, hcell]; exact hCget j u hj)
      (.inr ⟨u', hGn, fun hs => by simp only [u', hs, if_true, Nat.zero_add], fun hs => by simp only [u', hs, Bool.false_eq_true, if_false], fun o _ ho => by
        rw [Nat.zero_add, ← hCsz] at ho
        exact ⟨by rw [hcell]; simp [ho], uo7 w.drew C e o⟩⟩)))
  exact ⟨_, _, G', L', hrun, hI⟩
theorem ve0 (hE : E.Ok) {w0 w : World} {G0 : Org} {G : Gh} {L : Nat → Value} {st : St E.S} {a : Act} (h : Inv E w0 G0 st a w G L) {d e t tx ty : Nat} {c : Nat} {l m : List (E.S e)} {sh : Bool} {x : Value} {ie : TypeInfo}
    (hu : E.P.underlying t = some (.slice e)) (hux : ∃ e', E.P.underlying tx = some (.slice e')) (hi : E.P.info? e = some ie)
    {b off cap : Nat} (hrow : ui4 E w G L st.n c e l sh b off cap) (hx : uA3 E w G L st.n e m x) (hg : l.length + m.length ≤ cap) {u : Nat} (hgb : G b = some (some c, u)) (hu1 : sh = true → u = off + l.length * E.P.cellsOf e) (hu0 : sh = false → u = 0)
    (hth : ∀ o, off ≤ o → o < off + cap * E.P.cellsOf e → (w.cell? ⟨b, o, none⟩).isSome = true ∧ w.frozen? ⟨b, o, none⟩ = false) :
    ∃ v' w' G' L', (Builtin.append_ #[t, tx] ty #[L c, x]).run E.P w = .ok v' w' ∧ Inv E w0 G0 (up4 st d (some c) e (l ++ m) sh) (a.put (some d) v') w' G' L' := by
  have hsz : ie.size = E.P.cellsOf e := by simp [Program.cellsOf, hi]
  obtain ⟨news, hn1, hn2, _⟩ := hx.src (size := ie.size) (t := tx) hE hsz hux
  have hel : uA3 E w G L st.n e l (L c) := (ub2.row e l sh b off cap hrow).elems hE h.st.one
  obtain ⟨olds, ho1, ho2⟩ := hel.flat hE
  have ho3 : ∀ (j : Nat) (u : Value), olds[j]? = some u → w.cell? ⟨b, off + j, none⟩ = some u := by
    rcases ho2 with ⟨h1, _⟩ | ⟨b', off', cap', h1, _, h2⟩ | ⟨_, _, rfl⟩
    rotate_left 2
    · intro j u hj
      have h0 := ho1.len
      have := (List.getElem?_eq_some_iff.1 hj).1
      rw [List.length_nil, Nat.zero_mul] at h0; omega
    · rw [hrow.loc] at h1; cases h1
    · rw [hrow.loc] at h1
      simp only [Value.slice.injEq, Option.some.injEq, Addr.mk.injEq, and_true, true_and] at h1
      obtain ⟨⟨rfl, rfl⟩, _⟩ := h1
      exact h2
  have hroom : (l.length + m.length) * E.P.cellsOf e ≤ cap * E.P.cellsOf e := Nat.mul_le_mul_right _ hg
  rw [Nat.add_mul] at hroom
  have hnl := hn1.len
  have hth' : ∀ j, j < news.length → (w.cell? ⟨b, off + l.length * E.P.cellsOf e + j, none⟩).isSome = true ∧ w.frozen? ⟨b, off + l.length * E.P.cellsOf e + j, none⟩ = false := fun j hj => hth _ (by omega) (by omega)
  have hrun := run_append_room_src (P := E.P) w t tx ty e ie hu hi b off l.length cap x m.length news hn2 hg (fun j hj => by rw [hsz]; exact (hth' j hj).1) (fun j hj => by rw [hsz]; exact (hth' j hj).2)
  rw [hsz, ← hrow.loc] at hrun
  generalize hW : w.setCells b (off + l.length * E.P.cellsOf e) news = w' at hrun
  obtain ⟨q1, q2, q3, q4, q5⟩ := uh0 b news (off + l.length * E.P.cellsOf e) w
  rw [hW] at q1 q2 q3 q4 q5
  let u' : Nat := if sh = true then off + (l ++ m).length * E.P.cellsOf e else 0
  let G' : Gh := fun b' => if b' = b then some (some st.n, u') else G b'
  have hGo : ∀ b', b' ≠ b → G' b' = G b' := fun b' hb => if_neg hb
  have hGn : G' b = some (some st.n, u') := if_pos rfl
  have huu : u ≤ u' := by
    cases sh with
    | false => rw [hu0 rfl]; exact Nat.zero_le _
    | true =>
      rw [hu1 rfl]
      simp only [u', if_true, List.length_append, Nat.add_mul]
      omega
  have hcell_ne : ∀ b' o, b' ≠ b → w'.cell? ⟨b', o, none⟩ = w.cell? ⟨b', o, none⟩ := fun b' o hne => by rw [← hW]; exact uc3 news hne
  have hcell_lo : ∀ o, o < off + l.length * E.P.cellsOf e → w'.cell? ⟨b, o, none⟩ = w.cell? ⟨b, o, none⟩ := fun o ho => by
    rw [← hW]; exact World.cell?_setCells_out b news _ w _ (fun _ _ => .inl ho)
  have hf : ∀ b' o v, Imm G b' o → w.cell? ⟨b', o, none⟩ = some v → Imm G' b' o ∧ w'.cell? ⟨b', o, none⟩ = some v := by
    intro b' o v hi hc
    by_cases hne : b' = b
    · subst hne
      have hou := hi (some c) u hgb
      refine ⟨fun c' u'' hg' => ?_, ?_⟩
      · rw [hGn] at hg'
        obtain ⟨rfl, rfl⟩ := Prod.mk.inj (Option.some.inj hg')
        omega
      · rw [hcell_lo]
        · exact hc
        · cases sh with
          | false => rw [hu0 rfl] at hou; omega
          | true => rw [hu1 rfl] at hou; exact hou
    · exact ⟨fun c' u'' hg' => hi c' u'' (by rw [← hGo b' hne]; exact hg'), by rw [hcell_ne b' o hne]; exact hc⟩
  obtain ⟨L', hI⟩ := h.newRow (w' := w') (G' := G') hE (d := d) (c := some c) (l := l ++ m) (sh := sh) (v := .slice (some ⟨b, off, none⟩) (l.length + m.length) cap) rfl hf
    (fun c' b' u'' hne hg => by
      have hbb : b' ≠ b := by
        intro e1
        subst e1
        rw [hgb] at hg
        exact hne (Prod.mk.inj (Option.some.inj hg)).1.symm
      exact ⟨by rw [hGo b' hbb]; exact hg, fun o v hv => ⟨by rw [hcell_ne b' o hbb]; exact hv, by rw [← hW]; exact World.frozen?_setCells ..⟩, fun ob _ hs => (q5 b' hbb).trans hs⟩)
    (fun b' c' u'' hg => by
      by_cases e1 : b' = b
      · subst e1
        rw [hGn] at hg
        obtain ⟨rfl, rfl⟩ := Prod.mk.inj (Option.some.inj hg)
        exact ⟨by rw [q4]; exact (h.st.own _ _ _ hgb).1, fun k hk => by obtain rfl := Option.some.inj hk; exact Nat.lt_succ_self _⟩
      · rw [hGo b' e1] at hg
        obtain ⟨h1, h2⟩ := h.st.own b' c' u'' hg
        exact ⟨by omega, fun k hk => Nat.lt_succ_of_lt (h2 k hk)⟩)
    ⟨q1, q2, q3, by omega, fun b' h1 h2 => by
      have hbb : b' ≠ b := fun e1 => h2 c u (e1 ▸ hgb)
      exact ⟨q5 b' hbb, hGo b' hbb⟩, hf⟩
    (.row e (l ++ m) sh b off cap (ui4.fresh hE (vs := olds ++ news) (by simp) (by rw [List.length_append]; exact hg)
      ((ho1.append hE hn1).step hf (fun k hk => if_neg (by omega)) (Nat.le_succ _)) (fun j v hj => by
        rw [List.getElem?_append] at hj
        split at hj
        · rename_i hjl
          rw [ho1.len] at hjl
          rw [hcell_lo _ (by omega)]
          exact ho3 j v hj
        · rename_i hjl
          rw [ho1.len] at hjl hj
          have hjn := (List.getElem?_eq_some_iff.1 hj)
          obtain ⟨hj1, hj2⟩ := hjn
          have := World.cell?_setCells_in b news (off + l.length * E.P.cellsOf e) w (fun j hj => (hth' j hj).1) _ hj1
          rw [hW, hj2, show off + l.length * E.P.cellsOf e + (j - l.length * E.P.cellsOf e) = off + j by omega] at this
          exact this)
      (.inr ⟨u', hGn, fun hs => by simp only [u', hs, if_true], fun hs => by simp only [u', hs, Bool.false_eq_true, if_false], fun o h1 h2 => by
        obtain ⟨h3, h4⟩ := hth o h1 h2
        refine ⟨?_, by rw [← hW]; rw [World.frozen?_setCells]; exact h4⟩
        rw [← hW]
        exact World.isSome_setCells b news _ w _ h3⟩)))
  exact ⟨_, _, G', L', hrun, hI⟩
theorem uT5 (hE : E.Ok) {w0 w : World} {G0 : Org} {G : Gh} {L : Nat → Value} {st : St E.S} {a : Act} (h : Inv E w0 G0 st a w G L) {d e t tx ty : Nat} {c : Option Nat} {l m : List (E.S e)} {sh : Bool} {v x : Value} {ie : TypeInfo}
    (hu : E.P.underlying t = some (.slice e)) (hux : ∃ e', E.P.underlying tx = some (.slice e')) (hi : E.P.info? e = some ie) (hx : uA3 E w G L st.n e m x) (hm : m = [])
    (hv : (∃ o, v = .slice o 0 0 ∧ l = []) ∨ ((sh = true ∨ l = []) ∧ ∃ b off, v = .slice (some ⟨b, off, none⟩) l.length l.length ∧ (∀ o, off ≤ o → o < off + l.length * E.P.cellsOf e → Imm G b o) ∧ uA3 E w G L st.n e l v)) :
    ∃ v' w' G' L', (Builtin.append_ #[t, tx] ty #[v, x]).run E.P w = .ok v' w' ∧ Inv E w0 G0 (up4 st d c e (l ++ m) sh) (a.put (some d) v') w' G' L' := by
  have hsz : ie.size = E.P.cellsOf e := by simp [Program.cellsOf, hi]
  obtain ⟨news, hn1, hn2, _⟩ := hx.src (size := ie.size) (t := tx) hE hsz hux
  subst hm
  have hnil : news = [] := List.eq_nil_of_length_eq_zero (by rw [hn1.len]; simp)
  subst hnil
  have nr : ∀ {vv : Value} (hv1 : vv.oneCell' = true), ub2 E w G (fun k => if k = st.n then vv else L k) (st.n + 1) st.n (.row e (l ++ []) sh) → ∃ L', Inv E w0 G0 (up4 st d c e (l ++ []) sh) (a.put (some d) vv) w G L' := by
    intro vv hv1 hr
    exact h.newRow (w' := w) (G' := G) hE hv1 (fun _ _ _ h1 h2 => ⟨h1, h2⟩) (fun c' b u _ hg => ⟨hg, fun o v hv => ⟨hv, rfl⟩, fun _ _ hs => hs⟩) (fun b c' u hg => ⟨(h.st.own b c' u hg).1, fun k hk => Nat.lt_succ_of_lt ((h.st.own b c' u hg).2 k hk)⟩) (.refl _ _) hr
  rcases hv with ⟨o, rfl, rfl⟩ | ⟨hsh, b, off, rfl, himm, hel⟩
  · have hrun := run_append_nothing (P := E.P) w t tx ty e ie hu hi o 0 0 (Nat.le_refl _) x hn2
    obtain ⟨L', hI⟩ := nr (vv := .slice o 0 0) rfl (.nil e sh o (by simp))
    exact ⟨_, _, G, L', hrun, hI⟩
  · have hrun := run_append_nothing (P := E.P) w t tx ty e ie hu hi (some ⟨b, off, none⟩) l.length l.length (Nat.le_refl _) x hn2
    obtain ⟨olds, ho1, ho2⟩ := hel.flat hE
    have ho3 : ∀ (j : Nat) (u : Value), olds[j]? = some u → w.cell? ⟨b, off + j, none⟩ = some u := by
      rcases ho2 with ⟨h1, _⟩ | ⟨b', off', cap', h1, _, h2⟩ | ⟨_, _, rfl⟩
      rotate_left 2
      · intro j u hj
        have h0 := ho1.len
        have := (List.getElem?_eq_some_iff.1 hj).1
        rw [List.length_nil, Nat.zero_mul] at h0; omega
      · cases h1
      · simp only [Value.slice.injEq, Option.some.injEq, Addr.mk.injEq, and_true, true_and] at h1
        obtain ⟨⟨rfl, rfl⟩, _⟩ := h1
        exact h2
    obtain ⟨L', hI⟩ := nr (vv := .slice (some ⟨b, off, none⟩) l.length l.length) rfl (by
      rw [List.append_nil]
      exact .row e l sh b off l.length (ui4.fresh hE (by simp) (Nat.le_refl _) (ho1.step (fun _ _ _ h1 h2 => ⟨h1, h2⟩) (fun k hk => if_neg (by omega)) (Nat.le_succ _)) ho3 (.inl ⟨rfl, hsh, himm⟩)))
    exact ⟨_, _, G, L', hrun, hI⟩
theorem u02 (hE : E.Ok) {w0 w : World} {G0 : Org} {G : Gh} {L : Nat → Value} {st : St E.S} {a : Act} (h : Inv E w0 G0 st a w G L) {d e t tx ty : Nat} {wr : Bool} {x y : AV E.S} {v z : Value} (hx : Rep E w G L st.n x v) (hy : Rep E w G L st.n y z)
    (hu : E.P.underlying t = some (.slice e)) (hux : ∃ e', E.P.underlying tx = some (.slice e')) (hby : ¬ E.P.bytesOf e = 0) (hzf : uI9 E e = true) {c : Option Nat} {l m : List (E.S e)} {sh : Bool} (hb : uo0 st e wr x = some (c, l, sh)) (hm : up3 st e y = some m)
    (hlim : ((l.length + m.length : Nat) : Int) * (E.P.bytesOf e : Int) ≤ 140737488355328) :
    ∃ v' w' G' L', (Builtin.append_ #[t, tx] ty #[v, z]).run E.P w = .ok v' w' ∧ Inv E w0 G0 (up4 st d c e (l ++ m) sh) (a.put (some d) v') w' G' L' := by
  have hbase := uT3 h.st hx hb
  have hmore := uA7 hE h.st hy hm
  obtain ⟨ie, hi⟩ : ∃ ie, E.P.info? e = some ie := by
    cases hi : E.P.info? e with
    | none => exact absurd (by unfold Program.bytesOf; rw [hi]; rfl) hby
    | some i => exact ⟨i, rfl⟩
  have hbs : ie.bytes = E.P.bytesOf e := by unfold Program.bytesOf; rw [hi]; rfl
  have hlim' : (l.length + m.length) * ie.bytes ≤ 140737488355328 := by
    rw [hbs]
    have h' : (((l.length + m.length) * E.P.bytesOf e : Nat) : Int) ≤ 140737488355328 := by rw [Int.natCast_mul]; exact hlim
    omega
  obtain ⟨zv, hz, hzs⟩ : ∃ zv, ie.zero = some zv ∧ zv.cells.size = E.P.cellsOf e := by
    unfold uI9 at hzf
    split at hzf
    · rename_i zc hzc
      obtain ⟨i', v', h1, h2, rfl, hok⟩ := uw5 hzc
      rw [hi] at h1
      obtain rfl := Option.some.inj h1
      refine ⟨v', h2, ?_⟩
      have h3 := Nat.eq_of_beq_eq_true hzf
      have h4 := (RL.const (E := E) (w := w) (G := G) (L := L) (n := st.n) h.st.one hok).len
      simp at h4
      omega
    · cases hzf
  have hel := hbase.elems hE h.st.one
  by_cases hm0 : m = []
  · cases hbase with
    | nil => exact uT5 hE h hu hux hi hmore hm0 (.inl ⟨_, rfl, rfl⟩)
    | full l sh hs b off hr c =>
      exact uT5 hE h hu hux hi hmore hm0 (.inr ⟨hs, b, off, rfl, hr.imm hE, hel⟩)
    | row c l sh b off cap hr hc =>
      rcases hr.own with ⟨h1, h2, h3⟩ | ⟨u, h1, h2, h3, h4⟩
      · subst h1
        have := uT5 (ty := ty) (d := d) (c := some c) hE h hu hux hi hmore hm0 (v := L c) (l := l) (sh := sh) (.inr ⟨h2, b, off, hr.loc, h3, hel⟩)
        exact this
      · exact ve0 hE h hu hux hi hr hmore (by rw [hm0]; simpa using hr.le) h1 h2 h3 h4
  · have hpos : 0 < m.length := by cases m with | nil => exact absurd rfl hm0 | cons => simp
    cases hbase with
    | nil => exact uT4 hE h hu hux hi hz hzs (by omega) hlim' hel hmore (cap := 0) rfl (by omega)
    | full l sh hs b off hr c => exact uT4 hE h hu hux hi hz hzs (by omega) hlim' hel hmore rfl (by omega)
    | row c l sh b off cap hr hc =>
      by_cases hroom : l.length + m.length ≤ cap
      · rcases hr.own with ⟨h1, h2, h3⟩ | ⟨u, h1, h2, h3, h4⟩
        · omega
        · exact ve0 hE h hu hux hi hr hmore hroom h1 h2 h3 h4
      · exact uT4 hE h hu hux hi hz hzs (by omega) hlim' hel hmore hr.loc (by omega)
end Go.Proofs.YtaennkkcnhfglaaGreatDoor.Ev
