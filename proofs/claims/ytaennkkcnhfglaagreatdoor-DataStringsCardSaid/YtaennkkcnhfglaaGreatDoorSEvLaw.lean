/- A part of the proof. -/
import Derived.Test.YtaennkkcnhfglaaGreatDoorSEvTab
import Derived.Lib.LaidTab
import Derived.Handed
import Derived.Carry
import Derived.LaidLaws
import Derived.ChangeArms
import Derived.ChangeShapes
import Derived.ChangeCalls
import Derived.RowKit
import Derived.OpenShut
import Derived.SevenTiedAt
import Derived.JoinedOf
set_option linter.unusedVariables false
set_option linter.unusedSimpArgs false
namespace Go.Proofs.YtaennkkcnhfglaaGreatDoor.Ev
open Go.RowKit Go.ChangeShapes
variable {E : Env}
abbrev noG : Gh := fun _ => none
abbrev noL : Nat → Value := fun _ => undef
def ue6 (E : Env) (N t : Nat) {α : Type} (p : Pk E.S α) (Q : α → Prop) : Prop :=
  ∀ (H : Type) (enc : TypeId × Value → H) (w : World) (n : Nat), n ≤ N → ∀ (cs : List Value) (x : DataW H × List MemPlace), DataW.trod enc E.P w 0 (fun _ => true) true n t cs = some x → ∃ a, Q a ∧ RL E w noG noL 0 (p.wt a) cs
theorem RL.single {w : World} {G : Gh} {L : Nat → Value} {n : Nat} {c : AV E.S} {v : Value} (h : Rep E w G L n c v) (ho : v.oneCell' = true) : RL E w G L n [c] [v] :=
  ⟨rfl, fun i x y hx hy => by
    cases i with
    | zero => simp at hx hy; subst hx hy; exact h
    | succ i => simp at hx, fun y hy => by obtain rfl := List.mem_singleton.1 hy; exact ho⟩
theorem RL.nil {w : World} {G : Gh} {L : Nat → Value} {n : Nat} : RL E w G L n [] [] := ⟨rfl, fun i x y hx => by simp at hx, fun y hy => by cases hy⟩
theorem RL.app {w : World} {G : Gh} {L : Nat → Value} {n : Nat} {cs cs' : List (AV E.S)} {vs vs' : List Value} (h : RL E w G L n cs vs) (k : RL E w G L n cs' vs') : RL E w G L n (cs ++ cs') (vs ++ vs') := by
  refine ⟨by simp [h.len, k.len], fun i x y hx hy => ?_, fun y hy => ?_⟩
  · rw [List.getElem?_append] at hx hy
    by_cases hi : i < cs.length
    · rw [if_pos hi] at hx
      rw [if_pos (h.len ▸ hi)] at hy
      exact h.rep i x y hx hy
    · rw [if_neg hi] at hx
      rw [if_neg (h.len ▸ hi), ← h.len] at hy
      exact k.rep _ x y hx hy
  · rcases List.mem_append.1 hy with hy | hy
    · exact h.one y hy
    · exact k.one y hy
theorem ue6.int {N t : Nat} {k : IntKind} (hu : E.P.underlying t = some (.int k)) : ue6 E N t (Pk.int k) (fun n => (Lit.int k n).wf = true) := by
  intro H enc w n hn cs x h
  obtain ⟨m, rfl, _, hw⟩ := DataW.trod_int hu h
  exact ⟨m, hw, .single (.v _ rfl) rfl⟩
theorem ue6.bool {N t : Nat} (hu : E.P.underlying t = some .bool) : ue6 E N t Pk.bool (fun _ => True) := by
  intro H enc w n hn cs x h
  obtain ⟨m, rfl, _⟩ := DataW.trod_bool hu h
  exact ⟨m, trivial, .single (.v _ rfl) rfl⟩
theorem ue6.str {N t : Nat} (hu : E.P.underlying t = some .string) : ue6 E N t Pk.str (fun s => s.size ≤ maxLen) := by
  intro H enc w n hn cs x h
  obtain ⟨s, rfl, _, hs⟩ := DataW.trod_string hu h
  exact ⟨s, hs, .single (.v _ rfl) rfl⟩
theorem cells?_get {w : World} {base n : Nat} {a : Addr} {cs : List Value} (h : w.cells? base a n = some cs) : cs.length = n ∧ ∀ j, j < n → w.cell? (a.add j) = cs[j]? := by
  unfold World.cells? at h
  split at h
  · have h1 := mapM_some_length h
    refine ⟨by simpa using h1, fun j hj => ?_⟩
    exact mapM_some_get h j j (by simp [hj])
  · cases h
theorem cell?_spot {w : World} {a : Addr} {v : Value} (h : w.cell? a = some v) : a.spot = none := by
  unfold World.cell? at h
  split at h
  · split at h
    · cases h
    · rename_i hs; simpa using hs
  · cases h
theorem u66 {α : Type} {n : Nat} {Q : Nat → α → Prop} (h : ∀ i, i < n → ∃ a, Q i a) : ∃ l : List α, l.length = n ∧ ∀ i a, l[i]? = some a → Q i a := by
  induction n with
  | zero => exact ⟨[], rfl, fun i a h => by simp at h⟩
  | succ n ih =>
    obtain ⟨l, h1, h2⟩ := ih fun i hi => h i (by omega)
    obtain ⟨a, ha⟩ := h n (by omega)
    refine ⟨l ++ [a], by simp [h1], fun i b hb => ?_⟩
    rw [List.getElem?_append] at hb
    split at hb
    · exact h2 i b hb
    · rename_i hi
      have : i - l.length = 0 := by
        have := (List.getElem?_eq_some_iff.1 hb).1
        simp at this; omega
      rw [this] at hb
      simp at hb
      subst hb
      obtain rfl : i = n := by omega
      exact ha
theorem ue6.slI {N t e : Nat} (hu : E.P.underlying t = some (.slice e)) (h0 : 0 < E.P.cellsOf e) {p : Pk E.S (E.S e)} (hp : ∀ x, E.cells e x = p.wt x) {Q : E.S e → Prop} (he : ∀ M, M < N → ue6 E M e p Q) : ue6 E N t (Pk.sl e) (fun l => l.length ≤ maxLen ∧ ∀ x ∈ l, Q x) := by
  intro H enc w n hn cs x h
  rcases DataW.trod_slice hu h with ⟨rfl, _⟩ | ⟨a, len, cap, elems, rest, m, hm, rfl, _, _, hlc, hcm, hel, h1, h2, _⟩
  · exact ⟨[], ⟨by simp, fun x hx => by cases hx⟩, .single (.sn e false) rfl⟩
  · have key : ∀ i, i < len → ∃ y : E.S e, Q y ∧ ∃ vs, w.cells? 0 (a.add (i * E.P.cellsOf e)) (E.P.cellsOf e) = some vs ∧ RL E w noG noL 0 (p.wt y) vs := by
      intro i hi
      have h2 := h1 i hi
      rw [List.getElem?_eq_getElem (show i < elems.length by omega)] at h2
      obtain ⟨vs, h3, h4⟩ := Option.bind_eq_some_iff.1 h2
      obtain ⟨y, hy, hr⟩ := he m (by omega) H enc w m (Nat.le_refl _) vs _ h4
      exact ⟨y, hy, vs, h3, hr⟩
    obtain ⟨l, hl1, hl2⟩ := u66 key
    refine ⟨l, ⟨by omega, fun x hx => ?_⟩, .single ?_ rfl⟩
    · obtain ⟨i, hi⟩ := List.getElem?_of_mem hx
      exact (hl2 i x hi).1
    · show Rep E w noG noL 0 (.sl e l false) (.slice (some a) len cap)
      by_cases hc : cap = 0
      · subst hc
        obtain rfl : len = 0 := by omega
        obtain rfl := List.length_eq_zero_iff.1 hl1
        exact .se e a false
      ·
        have hsp : a.spot = none := by
          have first : ∃ vs, w.cells? 0 (a.add (0 * E.P.cellsOf e)) (E.P.cellsOf e) = some vs := by
            by_cases hl : len = 0
            · obtain ⟨h3, h4⟩ := h2 rfl
              have h5 := h4 0 (by omega)
              rw [List.getElem?_eq_getElem (show 0 < rest.length by omega)] at h5
              obtain ⟨vs, h6, _⟩ := Option.bind_eq_some_iff.1 h5
              rw [hl] at h6
              exact ⟨vs, h6⟩
            · have h5 := h1 0 (by omega)
              rw [List.getElem?_eq_getElem (show 0 < elems.length by omega)] at h5
              obtain ⟨vs, h6, _⟩ := Option.bind_eq_some_iff.1 h5
              exact ⟨vs, h6⟩
          obtain ⟨vs, h6⟩ := first
          obtain ⟨h7, h8⟩ := cells?_get h6
          have h9 := h8 0 h0
          rw [List.getElem?_eq_getElem (by omega)] at h9
          have := cell?_spot h9
          simpa [Addr.add] using this
        obtain ⟨b, off, sp⟩ := a
        simp only at hsp
        subst hsp
        rw [← hl1]
        have cell : ∀ i x j c, l[i]? = some x → (E.cells e x)[j]? = some c → ∃ u, w.cell? ⟨b, off + i * E.P.cellsOf e + j, none⟩ = some u ∧ Rep E w noG noL 0 c u := by
          intro i x j c hi hj
          obtain ⟨_, vs, h3, h4⟩ := hl2 i x hi
          obtain ⟨h5, h6⟩ := cells?_get h3
          rw [hp] at hj
          have hj2 : j < vs.length := by rw [← h4.len]; exact (List.getElem?_eq_some_iff.1 hj).1
          have h7 := h6 j (by omega)
          rw [List.getElem?_eq_getElem hj2] at h7
          refine ⟨vs[j], ?_, h4.rep j c _ hj (List.getElem?_eq_getElem hj2)⟩
          rw [Addr.add_mid, Addr.add_mid] at h7
          exact h7
        exact .sl e l false b off cap (fun o => (w.cell? ⟨b, o, none⟩).getD undef) (by omega) (fun h => by cases h)
          (fun i x j c hi hj => by
            obtain ⟨u, h3, h4⟩ := cell i x j c hi hj
            exact ⟨.none rfl, by rw [h3]; rfl⟩)
          (fun i x j c hi hj => by
            obtain ⟨u, h3, h4⟩ := cell i x j c hi hj
            rw [h3]; exact h4)
theorem ue6.le {N M t : Nat} {α : Type} {p : Pk E.S α} {Q : α → Prop} (h : ue6 E N t p Q) (hM : M ≤ N) : ue6 E M t p Q := fun H enc w n hn cs x hx => h H enc w n (Nat.le_trans hn hM) cs x hx
theorem ue6.sl {N t e : Nat} (hu : E.P.underlying t = some (.slice e)) (h0 : 0 < E.P.cellsOf e) {p : Pk E.S (E.S e)} (hp : ∀ x, E.cells e x = p.wt x) {Q : E.S e → Prop} (he : ue6 E N e p Q) : ue6 E N t (Pk.sl e) (fun l => l.length ≤ maxLen ∧ ∀ x ∈ l, Q x) := ue6.slI hu h0 hp fun M hM => he.le (Nat.le_of_lt hM)
def uw9 (E : Env) (N : Nat) {α : Type} (off : Nat) (fs : List Field) (p : Pk E.S α) (Q : α → Prop) : Prop :=
  ∀ (H : Type) (enc : TypeId × Value → H) (w : World) (n : Nat), n ≤ N → ∀ (cs : List Value), cs.length = off + p.len →
    (∀ f ∈ fs, ∃ x, DataW.trod enc E.P w 0 (fun _ => true) true n f.type ((cs.drop f.offset).take (E.P.cellsOf f.type)) = some x) → ∃ a, Q a ∧ RL E w noG noL 0 (p.wt a) (cs.drop off)
theorem uw9.nil {N off : Nat} : uw9 E N off [] Pk.unit (fun _ => True) := by
  intro H enc w n hn cs hl _
  refine ⟨(), trivial, ?_⟩
  rw [List.drop_eq_nil_of_le (by rw [hl]; exact Nat.le_refl _)]
  exact .nil
theorem uw9.cons {N off : Nat} {f : Field} {fs : List Field} {α β : Type} {p : Pk E.S α} {q : Pk E.S β} {Q : α → Prop} {R : β → Prop} (ho : f.offset = off) (hc : E.P.cellsOf f.type = p.len) (h : ue6 E N f.type p Q) (k : uw9 E N (off + p.len) fs q R) : uw9 E N off (f :: fs) (Pk.cons p q) (fun a => Q a.1 ∧ R a.2) := by
  intro H enc w n hn cs hl hf
  obtain ⟨x, hx⟩ := hf f (List.mem_cons_self ..)
  obtain ⟨a, ha, h1⟩ := h H enc w n hn _ x hx
  obtain ⟨b, hb, h2⟩ := k H enc w n hn cs (by rw [hl]; exact (Nat.add_assoc ..).symm) fun g hg => hf g (List.mem_cons_of_mem _ hg)
  refine ⟨(a, b), ⟨ha, hb⟩, ?_⟩
  have := h1.app h2
  rw [ho, hc] at this
  have e : cs.drop (off + p.len) = (cs.drop off).drop p.len := by rw [List.drop_drop]
  rw [e, List.take_append_drop] at this
  exact this
theorem ue6.struct {N t : Nat} {fs : Array Field} (hu : E.P.underlying t = some (.struct fs)) {α : Type} {p : Pk E.S α} {Q : α → Prop} (hc : E.P.cellsOf t = p.len) (h : uw9 E N 0 fs.toList p Q) : ue6 E N t p Q := by
  intro H enc w n hn cs x hx
  obtain ⟨xs, m, hm, _, hl, hxl, hf⟩ := DataW.trod_struct hu hx
  obtain ⟨a, ha, h1⟩ := h H enc w m (by omega) cs (by rw [hl, hc, Nat.zero_add]) fun f hf' => by
    obtain ⟨i, hi⟩ := List.getElem?_of_mem hf'
    have hi' : fs[i]? = some f := by simpa using hi
    have := hf i f hi'
    rw [this]
    have hlt : i < xs.length := by rw [hxl]; exact (Array.getElem?_eq_some_iff.1 hi').1
    exact ⟨_, List.getElem?_eq_getElem hlt⟩
  exact ⟨a, ha, by simpa using h1⟩
def uQ1 (E : Env) (N e : Nat) {α : Type} (k n : Nat) (p : Pk E.S α) (Q : α → Prop) : Prop :=
  ∀ (H : Type) (enc : TypeId × Value → H) (w : World) (m : Nat), m ≤ N → ∀ (cs : List Value), cs.length = k * E.P.cellsOf e + p.len →
    (∀ i, i < n → ∃ x, DataW.trod enc E.P w 0 (fun _ => true) true m e ((cs.drop ((k + i) * E.P.cellsOf e)).take (E.P.cellsOf e)) = some x) → ∃ a, Q a ∧ RL E w noG noL 0 (p.wt a) (cs.drop (k * E.P.cellsOf e))
theorem uQ1.nil {N e k : Nat} : uQ1 E N e k 0 Pk.unit (fun _ => True) := by
  intro H enc w n hn cs hl _
  refine ⟨(), trivial, ?_⟩
  rw [List.drop_eq_nil_of_le (by rw [hl]; exact Nat.le_refl _)]
  exact .nil
theorem uQ1.cons {N e k n : Nat} {α β : Type} {p : Pk E.S α} {q : Pk E.S β} {Q : α → Prop} {R : β → Prop} (hc : E.P.cellsOf e = p.len) (h : ue6 E N e p Q) (j : uQ1 E N e (k + 1) n q R) : uQ1 E N e k (n + 1) (Pk.cons p q) (fun a => Q a.1 ∧ R a.2) := by
  intro H enc w m hm cs hl hf
  obtain ⟨x, hx⟩ := hf 0 (by omega)
  obtain ⟨a, ha, h1⟩ := h H enc w m hm _ x hx
  have e1 : (k + 1) * E.P.cellsOf e = k * E.P.cellsOf e + p.len := by rw [Nat.succ_mul, hc]
  obtain ⟨b, hb, h2⟩ := j H enc w m hm cs (by rw [hl, e1]; exact (Nat.add_assoc ..).symm) fun i hi => by
    have := hf (i + 1) (by omega)
    rwa [show k + 1 + i = k + (i + 1) by omega]
  refine ⟨(a, b), ⟨ha, hb⟩, ?_⟩
  have := h1.app h2
  rw [e1, Nat.add_zero, hc, ← List.drop_drop, List.take_append_drop] at this
  rw [hc]
  exact this
theorem ue6.array {N t e len : Nat} (hu : E.P.underlying t = some (.array len e)) {α : Type} {p : Pk E.S α} {Q : α → Prop} (hc : E.P.cellsOf t = p.len) (h : uQ1 E N e 0 len p Q) : ue6 E N t p Q := by
  intro H enc w n hn cs x hx
  cases n with
  | zero => simp [DataW.trod] at hx
  | succ m =>
    simp only [DataW.trod, hu] at hx
    split at hx
    · rename_i hl
      obtain ⟨xs, h1, _⟩ := Option.map_eq_some_iff.1 hx
      obtain ⟨a, ha, h2⟩ := h H enc w m (by omega) cs (by rw [hl, hc, Nat.zero_mul, Nat.zero_add]) fun i hi => by
        have h3 := mapM_some_length h1
        have h4 := mapM_some_get h1 i i (by simp [hi])
        rw [Nat.zero_add]
        exact ⟨_, h4.trans (List.getElem?_eq_getElem (by simpa [h3] using hi))⟩
      exact ⟨a, ha, by simpa using h2⟩
    · cases hx
theorem ue6.iso {N t : Nat} {α β : Type} {p : Pk E.S α} {Q : α → Prop} {f : α → β} {g : β → α} {hfg : ∀ a, g (f a) = a} (h : ue6 E N t p Q) : ue6 E N t (Pk.iso p f g hfg) (fun b => Q (g b)) := by
  intro H enc w n hn cs x hx
  obtain ⟨a, ha, h1⟩ := h H enc w n hn cs x hx
  refine ⟨f a, by show Q (g (f a)); rw [hfg]; exact ha, ?_⟩
  show RL E w noG noL 0 (p.wt (g (f a))) cs
  rw [hfg]; exact h1
theorem ue6.mono {N t : Nat} {α : Type} {p : Pk E.S α} {Q R : α → Prop} (h : ue6 E N t p Q) (hq : ∀ a, Q a → R a) : ue6 E N t p R := by
  intro H enc w n hn cs x hx
  obtain ⟨a, ha, h1⟩ := h H enc w n hn cs x hx
  exact ⟨a, hq a ha, h1⟩
def ArgR (E : Env) (t : Nat) {α : Type} (r : Rw E α) (Q : α → Prop) : Prop :=
  ∀ (H : Type) (enc : TypeId × Value → H) (w : World) (base : Nat) (v : Value) (d : DataW H) (ps : List MemPlace), DataW.Trod enc E.P w 0 (fun _ => true) true t v d ps → Value.okWide E.P w .any base t v → ∃ a, Q a ∧ Rep E w noG noL 0 (r.wt a) v
theorem ArgR.cell {t : Nat} {d : TypeDesc} (hu : E.P.underlying t = some d) (hd : aggD d = false) {α : Type} {p : Pk E.S α} {Q : α → Prop} {r : Rw E α} (h : ∀ N, ue6 E N t p Q) (hw : ∀ a, p.wt a = [r.wt a]) : ArgR E t r Q := by
  intro H enc w base v dd ps ⟨n, ht⟩ hv
  obtain ⟨a, ha, h1⟩ := h n H enc w n (Nat.le_refl _) _ _ ht
  refine ⟨a, ha, ?_⟩
  rw [hw] at h1
  have hl := h1.len
  have hnot : ∀ cs, v ≠ .agg cs := by
    intro cs e
    subst e
    unfold Value.okWide at hv
    rw [hu] at hv
    cases d <;> first | (simp [aggD] at hd; done) | (simp [Cell.okWide, Cell.ok, hu] at hv; done)
  have hc : v.cells = #[v] := by
    cases v <;> first | rfl | exact absurd rfl (hnot _)
  rw [hc] at h1
  exact h1.rep 0 _ _ rfl rfl
theorem ArgR.agg {t : Nat} {d : TypeDesc} (hu : E.P.underlying t = some d) (hd : aggD d = true) {α β : Type} {p : Pk E.S β} {Q : β → Prop} {r : Rw E α} (f : β → α) (g : α → β) (h : ∀ N, ue6 E N t p Q) (hw : ∀ b, r.wt (f b) = .agg (p.wt b)) (hg : ∀ b, g (f b) = b) : ArgR E t r (fun a => Q (g a)) := by
  intro H enc w base v dd ps ⟨n, ht⟩ hv
  obtain ⟨a, ha, h1⟩ := h n H enc w n (Nat.le_refl _) _ _ ht
  refine ⟨f a, by show Q (g (f a)); rw [hg]; exact ha, ?_⟩
  rw [hw]
  obtain ⟨cs, rfl, _⟩ : ∃ cs, v = .agg cs ∧ True := by
    unfold Value.okWide at hv
    rw [hu] at hv
    cases d <;> first | (simp [aggD] at hd; done) | (obtain ⟨cs, rfl, _⟩ := hv; exact ⟨cs, rfl, trivial⟩)
  have := Rep.agg (E := E) (p.wt a) cs.toList h1.len h1.rep h1.one
  simpa using this
def uO9 (E : Env) (ts : List Nat) {α : Type} (r : RwL E α) (Q : α → Prop) : Prop :=
  ∀ (H : Type) (enc : TypeId × Value → H) (w : World) (base : Nat) (vs : List Value) (ds : List (DataW H)) (ps : List MemPlace), DataW.TrodAll enc E.P w 0 (fun _ => true) true ts vs ds ps → (∀ (j : Nat) t v, ts[j]? = some t → vs[j]? = some v → Value.okWide E.P w .any base t v) → ∃ a, Q a ∧ ux3 E w noG noL 0 (r.wt a) vs
theorem uO9.nil : uO9 E [] RwL.nil (fun _ => True) := by
  intro H enc w base vs ds ps h _
  obtain ⟨rfl, _⟩ := trodAll_nil h
  exact ⟨(), trivial, ⟨rfl, fun i x v h => by simp [RwL.nil] at h⟩⟩
theorem uO9.cons {t : Nat} {ts : List Nat} {α β : Type} {r : Rw E α} {l : RwL E β} {Q : α → Prop} {R : β → Prop} (h : ArgR E t r Q) (k : uO9 E ts l R) : uO9 E (t :: ts) (RwL.cons r l) (fun a => Q a.1 ∧ R a.2) := by
  intro H enc w base vs ds ps ht hv
  obtain ⟨v, vs', d, ds', p, q, rfl, rfl, rfl, h1, h2⟩ := trodAll_cons ht
  obtain ⟨a, ha, h3⟩ := h H enc w base v d p h1 (hv 0 t v rfl rfl)
  obtain ⟨b, hb, h4⟩ := k H enc w base vs' ds' q h2 fun j t' v' hj hj' => hv (j + 1) t' v' (by simpa using hj) (by simpa using hj')
  refine ⟨(a, b), ⟨ha, hb⟩, ⟨by simp [RwL.cons, h4.len], fun i x u hx hu => ?_⟩⟩
  cases i with
  | zero => simp [RwL.cons] at hx hu; subst hx hu; exact h3
  | succ i => exact h4.rep i x u (by simpa [RwL.cons] using hx) (by simpa using hu)
theorem uD4 {H : Type} {enc : TypeId × Value → H} {P : Program} (hl : laidOutB P = true) {W W' : World} (hb : Below W.heap.size W W') : ∀ {ts : List TypeId} {vs : List Value} {ds : List (DataW H)} {ps : List MemPlace},
    (∀ t ∈ ts, P.readableRec t = true ∧ t < P.types.size) → DataW.TrodAll enc P W 0 (fun _ => true) true ts vs ds ps → (∀ x ∈ ps, x.block < W.heap.size) → DataW.TrodAll enc P W' 0 (fun b => decide (b < W.heap.size)) true ts vs ds ps
 | [], vs, ds, ps, _, h, _ => by
   obtain ⟨rfl, rfl, rfl⟩ := trodAll_nil h
   exact trodAll_mk0
 | t :: ts, vs, ds, ps, hr, h, hlt => by
   obtain ⟨v, vs', d, ds', p, q, rfl, rfl, rfl, h1, h2⟩ := trodAll_cons h
   obtain ⟨r1, r2⟩ := hr t (List.mem_cons_self ..)
   exact ⟨p, q, Below.trod hl r1 r2 h1 hb (fun x hx => hlt x (List.mem_append_left _ hx)), uD4 hl hb (fun t' ht' => hr t' (List.mem_cons_of_mem _ ht')) h2 (fun x hx => hlt x (List.mem_append_right _ hx)), rfl⟩
theorem vr6 {H : Type} {enc : TypeId × Value → H} {s : ChangeSpec} {fn : Func} {apart fresh handsOn : Bool} (hlo : laidOutB E.P = true) (hpar : ∀ t ∈ fn.params.toList, E.P.readableRec t = true ∧ t < E.P.types.size) {tb : Nat} (hres : fn.resultTypes = #[tb]) (hb : E.P.underlying tb = some .bool)
    (hvars : s.vars = []) (hs : ∀ ds : List (DataW H), ds.length = fn.params.size → s.fn H ds = { results := [.lit (.bool true)], args := ds }) (con : Con E) (hcon : con.Ok) (hfb : ∀ fn', E.P.funcs[con.f]? = some fn' → fn'.body.isSome = true ∧ (fn'.name == "runtime.NumGoroutine") = false) {fn0 : Func} (hf0 : E.P.funcs[con.f]? = some fn0) {Q : con.α → Prop} (hargs : uO9 E fn.params.toList con.rl Q) {X : World → Prop} (hglob : ∀ W, X W → ∀ g x, E.glob g = some x → Rep E W noG noL 0 x (.pointer (some ⟨g, 0, none⟩))) (hheld : ∀ W, X W → Held E W noG)
    (b : con.β) (hbx : con.rb.wt b = []) (hpure : ∀ a, Q a → ∃ r, con.run a b = some r ∧ con.av r = .v (.bool true))
    (W : World) (base : Nat) (args : Array Value) (ds gs : List (DataW H)) (before : List MemPlace)
    (hval : ∀ (j : Nat) t v, fn.params[j]? = some t → args[j]? = some v → Value.okWide E.P W .any base t v)
    (hW : DataW.Whole enc E.P fn.params.toList s.vars apart W args.toList ds gs before) (hX : X W) :
    Calls E.P con.f args W fun e W' => ∃ v, e = .returned v ∧ s.post enc E.P fn apart fresh handsOn false W args v W' := by
  have hW' := hW
  obtain ⟨p, q, hA, hV, rfl, hfz, hnd⟩ := hW
  rw [hvars] at hV
  obtain ⟨rfl, rfl⟩ := trodVars_none hV
  obtain ⟨a, ha, hrep⟩ := hargs H enc W base _ _ _ hA fun j t v hj hv => hval j t v (by simpa using hj) (by simpa using hv)
  obtain ⟨r, hr, hav⟩ := hpure a ha
  have hok := hcon a b r hr W noG noL args.toList
  rw [hbx] at hok
  have hgiv : vm9 E W noG noL [] (con.rl.wt a) args.toList := ⟨(fun b c u h => by cases h), fun g x hg => hglob W hX g x hg, hrep, (fun k x h => by simp at h), (fun k h => by simp at h), hheld W hX⟩
  obtain ⟨nx, w1, h1, h2⟩ := hok hgiv
  obtain ⟨hbody, hnm⟩ := hfb fn0 hf0
  have hcall : (callFunc con.f args.toList.toArray).run E.P W = .ok (.enter con.f args.toList.toArray) W := by
    have hnm' : ¬ fn0.name = "runtime.NumGoroutine" := by simpa using hnm
    obtain ⟨body, hb'⟩ := Option.isSome_iff_exists.1 hbody
    unfold callFunc
    simp [hf0, hnm', hb']
  rw [hcall] at h1
  obtain ⟨rfl, rfl⟩ : Next.enter con.f args.toList.toArray = nx ∧ W = w1 := by
    have := h1
    simp only [Result.ok.injEq] at this
    exact this
  rcases h2 with ⟨_, hc⟩ | ⟨v, hv, _⟩
  · rw [Array.toArray_toList] at hc
    refine Calls.mono hc fun e W1 ⟨v, he, G', L, hres', _, _⟩ => ⟨v, he, ?_⟩
    have hv : v = .bool true := by
      have := hres'.rep
      rw [hav] at this
      exact this.v_inv
    subst hv
    have hbel : Below W.heap.size W W1 := hres'.fr.toBelow
    have hlen : ds.length = fn.params.size := by
      have := (trodAll_length hA).2
      simpa using this
    have hlt : ∀ x ∈ p, x.block < W.heap.size := DataW.TrodAll.lt hA
    have e1 : s.fn H (ds ++ []) = { results := [.lit (.bool true)], args := ds } := by rw [List.append_nil]; exact hs ds hlen
    refine ⟨ds, [], _, [], p, [], hW', ?_, ?_, ?_, hbel.frame _, fun h => by cases h⟩
    · rw [e1, hres]
      exact trodAll_mk1 (shut_bool hb true)
    · rw [e1]
      exact uD4 hlo hbel hpar hA hlt
    · rw [e1, hvars]; rfl
  · cases hv
theorem un3 {P : Program} {W : World} : ∀ {l : List (String × DataW Unit)} {ps : List MemPlace}, DataW.LaidVars P W l ps → ∀ {n : String} {d : DataW Unit}, (n, d) ∈ l →
    ∃ g t cs fuel p, P.globalNamed n = some g ∧ (P.globals[g]?).map (·.type) = some t ∧ W.var? P n = some cs ∧ DataW.trod (fun _ => ()) P W 0 (fun _ => true) false fuel t cs.toList = some (d, p)
 | [], _, _, n, d, h => by cases h
 | (n', d') :: l, ps, ⟨g, t, cs, fuel, p, q, h1, h2, h3, h4, h5, _⟩, n, d, h => by
   rcases List.mem_cons.1 h with h | h
   · obtain ⟨rfl, rfl⟩ := Prod.mk.inj h
     exact ⟨g, t, cs, fuel, p, h1, h2, h3, h4⟩
   · exact un3 h5 h
theorem vD6 {P : Program} {W : World} {laid : List (String × DataW Unit)} (h : laidMet P laid W) {name : String} {k : IntKind} {zs : List Int} {d : DataW Unit} (hm : (name, d) ∈ laid) (hd : d = Lib.tabData k zs) {g : Nat} {t e : TypeId} {n : Nat}
    (hg : P.globalNamed name = some g) (hty : (P.globals[g]?).map (·.type) = some t) (ht : P.underlying t = some (.array n e)) (he : P.underlying e = some (.int k)) (hce : P.cellsOf e = 1) (hct : P.cellsOf t = n) : Lib.TabIs P W name k zs := by
  subst hd
  obtain ⟨ps, hps, _, _⟩ := h
  obtain ⟨g', t', cs, fuel, p, k1, k2, k3, k4⟩ := un3 hps hm
  obtain rfl := Option.some.inj (hg.symm.trans k1)
  obtain rfl := Option.some.inj (hty.symm.trans k2)
  unfold Lib.TabIs
  rw [k3, ← Lib.cells_of_tab ht he hce hct k4]
theorem vf3 {W : World} {laid : List (String × DataW Unit)} (h : laidMet E.P laid W) {name : String} {e g : Nat} {x : E.S e} {d : DataW Unit} {nm : String} {d' : DataW Unit} (hm : (name, d) ∈ laid) (hd : d = DataW.iface nm d') (hg : E.P.globalNamed name = some g) (ht : (E.P.globals[g]?).map (·.type) = some e)
    {ms : Array (String × TypeId)} (hu : E.P.underlying e = some (.interface ms)) (hc : E.cells e x = [.er true]) : Rep E W noG noL 0 (.el e x 0) (.pointer (some ⟨g, 0, none⟩)) := by
  subst hd
  obtain ⟨ps, hps, _, _⟩ := h
  obtain ⟨g', t', cs, fuel, p, k1, k2, k3, k4⟩ := un3 hps hm
  obtain rfl := Option.some.inj (hg.symm.trans k1)
  obtain rfl := Option.some.inj (ht.symm.trans k2)
  obtain ⟨T, v, hcs⟩ : ∃ T v, cs.toList = [.iface T v] := by
    cases fuel with
    | zero => simp [DataW.trod] at k4
    | succ m =>
      unfold DataW.trod at k4
      rw [hu] at k4
      split at k4 <;> simp_all
  have h0 : W.cell? ⟨g, 0, none⟩ = some (.iface T v) := by
    rw [World.var?_cell hg k3 0]
    have : cs = #[.iface T v] := by
      obtain ⟨l⟩ := cs
      simp at hcs
      rw [hcs]
    rw [this]; rfl
  refine .el e x 0 g 0 (fun _ => .iface T v) (fun j c hj => ?_) (fun j c hj => ?_)
  · rw [hc] at hj
    match j, hj with
    | 0, hj => exact ⟨.none rfl, by simpa using h0⟩
    | j + 1, hj => simp at hj
  · rw [hc] at hj
    match j, hj with
    | 0, hj => simp at hj; subst hj; exact .er1 _ _
    | j + 1, hj => simp at hj
theorem uL2 {W : World} {laid : List (String × DataW Unit)} (h : laidMet E.P laid W) {name : String} {k : IntKind} {e g t len : Nat} {l : List (E.S e)} (toI : E.S e → Int) {d : DataW Unit} (hm : (name, d) ∈ laid) (hd : d = DataW.agg (l.map fun x => .lit (.int k (toI x)))) (hg : E.P.globalNamed name = some g) (ht : (E.P.globals[g]?).map (·.type) = some t)
    (hu : E.P.underlying t = some (.array len e)) (he : E.P.underlying e = some (.int k)) (h1 : E.P.cellsOf e = 1) (hl : l.length = len) (hc : ∀ x, E.cells e x = [.v (.int k (toI x))]) : Rep E W noG noL 0 (.ar e l) (.pointer (some ⟨g, 0, none⟩)) := by
  subst hd
  obtain ⟨ps, hps, _, _⟩ := h
  obtain ⟨g', t', cs, fuel, p, k1, k2, k3, k4⟩ := un3 hps hm
  obtain rfl := Option.some.inj (hg.symm.trans k1)
  obtain rfl := Option.some.inj (ht.symm.trans k2)
  have cell : ∀ i x, l[i]? = some x → W.cell? ⟨g, i, none⟩ = some (.int k (toI x)) := by
    intro i x hx
    rw [World.var?_cell hg k3 i]
    cases fuel with
    | zero => simp [DataW.trod] at k4
    | succ m =>
      simp only [DataW.trod, hu] at k4
      split at k4
      · rename_i hcl
        obtain ⟨xs, h3, h4⟩ := Option.map_eq_some_iff.1 k4
        have hxl := mapM_some_length h3
        have hi : i < len := by rw [← hl]; exact (List.getElem?_eq_some_iff.1 hx).1
        have h5 := mapM_some_get h3 i i (by simp [hi])
        have hix : i < xs.length := by simpa [hxl] using hi
        rw [List.getElem?_eq_getElem hix, h1, Nat.mul_one] at h5
        obtain ⟨n, h6, h7, _⟩ := DataW.trod_int he h5
        have h8 : (xs.map (·.1))[i]? = some (DataW.lit (.int k n)) := by rw [List.getElem?_map, List.getElem?_eq_getElem hix, h7]; rfl
        have h9 : DataW.agg (xs.map (·.1)) = DataW.agg (l.map fun x => DataW.lit (.int k (toI x))) := (Prod.mk.inj h4).1
        rw [DataW.agg.injEq] at h9
        rw [h9, List.getElem?_map, hx] at h8
        have h10 : toI x = n := by simpa using h8
        rw [h10, ← Array.getElem?_toList]
        have h11 : (cs.toList.drop i)[0]? = some (.int k n) := by
          have := congrArg (fun l => l[0]?) h6
          simpa [List.getElem?_take] using this
        simpa [List.getElem?_drop] using h11
      · cases k4
  refine .ar e l g 0 (.sl e l false g 0 l.length (fun o => (W.cell? ⟨g, o, none⟩).getD undef) (Nat.le_refl _) (fun h => by cases h) (fun i x j c hi hj => ?_) (fun i x j c hi hj => ?_))
  all_goals
    rw [hc] at hj
    have hj0 : j = 0 := by
      have := (List.getElem?_eq_some_iff.1 hj).1
      simp at this; omega
    subst hj0
    have e1 : 0 + i * E.P.cellsOf e + 0 = i := by rw [h1]; omega
    rw [e1]
  · exact ⟨.none rfl, by rw [cell i x hi]; rfl⟩
  · rw [cell i x hi]
    obtain rfl := Option.some.inj hj
    exact .v _ rfl
theorem vY2 {P : Program} {ts : List Nat} (h : (ts.all fun t => P.readableRec t && decide (t < P.types.size)) = true) : ∀ t ∈ ts, P.readableRec t = true ∧ t < P.types.size := by
  intro t ht
  have := List.all_eq_true.1 h t ht
  simp only [Bool.and_eq_true, decide_eq_true_eq] at this
  exact this
theorem vs3 {P : Program} {fn : Func} (h : (fn.params.toList.all fun t => !P.wantsStandIn t) = true) : ∀ (j : Nat) t, fn.params[j]? = some t → P.wantsStandIn t = false := by
  intro j t ht
  have hm : t ∈ fn.params.toList := by
    obtain ⟨h1, h2⟩ := Array.getElem?_eq_some_iff.1 ht
    rw [← h2]; simp
  simpa using List.all_eq_true.1 h t hm
end Go.Proofs.YtaennkkcnhfglaaGreatDoor.Ev
