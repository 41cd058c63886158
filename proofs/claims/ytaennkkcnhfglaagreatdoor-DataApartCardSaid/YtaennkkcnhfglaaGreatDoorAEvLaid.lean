/- A part of the proof. -/
import Derived.Test.YtaennkkcnhfglaaGreatDoorAEvLaw
set_option linter.unusedVariables false
set_option linter.unusedSimpArgs false
set_option linter.unnecessarySimpa false
namespace Go.Proofs.YtaennkkcnhfglaaGreatDoor.Ev
variable {E : Env}
def uV8 (E : Env) (t : Nat) {α : Type} (p : Pk E.S α) (d : α → DataW Unit) : Prop :=
  ∀ (w : World) (n : Nat) (cs : List Value) (a : α) (ps : List MemPlace), DataW.trod (fun _ => ()) E.P w 0 (fun _ => true) false n t cs = some (d a, ps) → RL E w noG noL 0 (p.wt a) cs
theorem uV8.int {t : Nat} {k : IntKind} (hu : E.P.underlying t = some (.int k)) : uV8 E t (Pk.int k) (fun n => .lit (.int k n)) := by
  intro w n cs a ps h
  obtain ⟨m, rfl, hx, _⟩ := DataW.trod_int hu h
  obtain rfl : a = m := by simpa using (Prod.mk.inj hx).1
  exact .single (.v _ rfl) rfl
theorem uV8.bool {t : Nat} (hu : E.P.underlying t = some .bool) : uV8 E t Pk.bool (fun b => .lit (.bool b)) := by
  intro w n cs a ps h
  obtain ⟨m, rfl, hx⟩ := DataW.trod_bool hu h
  obtain rfl : a = m := by simpa using (Prod.mk.inj hx).1
  exact .single (.v _ rfl) rfl
theorem uV8.str {t : Nat} (hu : E.P.underlying t = some .string) : uV8 E t Pk.str (fun s => .lit (.string s.data.toList)) := by
  intro w n cs a ps h
  obtain ⟨s, rfl, hx, _⟩ := DataW.trod_string hu h
  have : a.data.toList = s.data.toList := by simpa using (Prod.mk.inj hx).1
  obtain rfl : a = s := by
    cases a; cases s
    simp at this
    rw [this]
  exact .single (.v _ rfl) rfl
def vn0 (E : Env) {α : Type} (off : Nat) (fs : List Field) (p : Pk E.S α) (d : α → List (DataW Unit)) : Prop :=
  ∀ (w : World) (n : Nat) (cs : List Value) (a : α) (xs : List (DataW Unit × List MemPlace)), cs.length = off + p.len →
    fs.mapM (fun f => DataW.trod (fun _ => ()) E.P w 0 (fun _ => true) false n f.type ((cs.drop f.offset).take (E.P.cellsOf f.type))) = some xs → xs.map (·.1) = d a → RL E w noG noL 0 (p.wt a) (cs.drop off)
theorem vn0.nil {off : Nat} : vn0 E off [] Pk.unit (fun _ => []) := by
  intro w n cs a xs hl _ _
  rw [List.drop_eq_nil_of_le (by rw [hl]; exact Nat.le_refl _)]
  exact .nil
theorem vn0.cons {off : Nat} {f : Field} {fs : List Field} {α β : Type} {p : Pk E.S α} {q : Pk E.S β} {d : α → DataW Unit} {d' : β → List (DataW Unit)} (ho : f.offset = off) (hc : E.P.cellsOf f.type = p.len) (h : uV8 E f.type p d) (k : vn0 E (off + p.len) fs q d') : vn0 E off (f :: fs) (Pk.cons p q) (fun a => d a.1 :: d' a.2) := by
  intro w n cs a xs hl hm hx
  rw [List.mapM_cons] at hm
  obtain ⟨y, hy, hm⟩ := Option.bind_eq_some_iff.1 hm
  obtain ⟨ys, hys, hm⟩ := Option.bind_eq_some_iff.1 hm
  obtain rfl := (Option.some.inj hm).symm
  rw [List.map_cons, List.cons.injEq] at hx
  obtain ⟨y1, y2⟩ := y
  obtain rfl : y1 = d a.1 := hx.1
  have h1 := h w n _ a.1 y2 hy
  have h2 := k w n cs a.2 ys (by rw [hl]; exact (Nat.add_assoc ..).symm) hys hx.2
  have := h1.app h2
  rw [ho, hc] at this
  have e : cs.drop (off + p.len) = (cs.drop off).drop p.len := by rw [List.drop_drop]
  rw [e, List.take_append_drop] at this
  exact this
theorem uV8.struct {t : Nat} {fs : Array Field} (hu : E.P.underlying t = some (.struct fs)) {α : Type} {p : Pk E.S α} {d : α → List (DataW Unit)} (hc : E.P.cellsOf t = p.len) (h : vn0 E 0 fs.toList p d) : uV8 E t p (fun a => .agg (d a)) := by
  intro w n cs a ps hx
  cases n with
  | zero => simp [DataW.trod] at hx
  | succ m =>
    simp only [DataW.trod, hu] at hx
    split at hx
    · rename_i hcl
      obtain ⟨xs, h3, h4⟩ := Option.map_eq_some_iff.1 hx
      have h5 : xs.map (·.1) = d a := by simpa using (Prod.mk.inj h4).1
      simpa using h w m cs a xs (by rw [hcl, hc, Nat.zero_add]) h3 h5
    · cases hx
theorem uV8.iso {t : Nat} {α β : Type} {p : Pk E.S α} {d : α → DataW Unit} {f : α → β} {g : β → α} {hfg : ∀ a, g (f a) = a} (h : uV8 E t p d) : uV8 E t (Pk.iso p f g hfg) (fun b => d (g b)) :=
  fun w n cs b ps hx => h w n cs (g b) ps hx
theorem x38 {W : World} {laid : List (String × DataW Unit)} (h : laidMet E.P laid W) {name : String} {e g t len : Nat} {l : List (E.S e)} {d : DataW Unit} {q : E.S e → DataW Unit} {p : Pk E.S (E.S e)} (hm : (name, d) ∈ laid) (hd : d = DataW.agg (l.map q)) (hg : E.P.globalNamed name = some g) (ht : (E.P.globals[g]?).map (·.type) = some t)
    (hu : E.P.underlying t = some (.array len e)) (hk : uV8 E e p q) (hl : l.length = len) (hp : ∀ x, E.cells e x = p.wt x) (hpl : ∀ x, (p.wt x).length = E.P.cellsOf e) : Rep E W noG noL 0 (.ar e l) (.pointer (some ⟨g, 0, none⟩)) := by
  subst hd
  obtain ⟨ps, hps, _, _⟩ := h
  obtain ⟨g', t', cs, fuel, ps', k1, k2, k3, k4⟩ := uq7 hps hm
  obtain rfl := Option.some.inj (hg.symm.trans k1)
  obtain rfl := Option.some.inj (ht.symm.trans k2)
  have cell : ∀ i x, l[i]? = some x → RL E W noG noL 0 (p.wt x) ((cs.toList.drop (i * E.P.cellsOf e)).take (E.P.cellsOf e)) := by
    intro i x hx
    cases fuel with
    | zero => simp [DataW.trod] at k4
    | succ m =>
      simp only [DataW.trod, hu] at k4
      split at k4
      · rename_i hcl
        obtain ⟨xs, h3, h4⟩ := Option.map_eq_some_iff.1 k4
        have hxl := mapM_some_length h3
        have hi : i < len := by rw [← hl]; exact (List.getElem?_eq_some_iff.1 hx).1
        have h5 := mapM_some_get h3 i i (by simp [hi])
        have hix : i < xs.length := by simpa [hxl] using hi
        rw [List.getElem?_eq_getElem hix] at h5
        have h9 : xs.map (·.1) = l.map q := by simpa using (Prod.mk.inj h4).1
        have h8 : (xs.map (·.1))[i]? = some (q x) := by rw [h9, List.getElem?_map, hx]; rfl
        rw [List.getElem?_map, List.getElem?_eq_getElem hix] at h8
        have h10 : (xs[i]).1 = q x := by simpa using h8
        have h11 : xs[i] = (q x, (xs[i]).2) := by rw [← h10]
        rw [h11] at h5
        exact hk W m _ x _ h5
      · cases k4
  have key : ∀ i x j c, l[i]? = some x → (E.cells e x)[j]? = some c → ∃ v, W.cell? ⟨g, i * E.P.cellsOf e + j, none⟩ = some v ∧ Rep E W noG noL 0 c v := by
    intro i x j c hi hj
    obtain ⟨r1, r2⟩ := cell i x hi
    rw [hp] at hj
    have hjl : j < (p.wt x).length := (List.getElem?_eq_some_iff.1 hj).1
    have hjv : j < ((cs.toList.drop (i * E.P.cellsOf e)).take (E.P.cellsOf e)).length := by rw [← r1]; exact hjl
    refine ⟨_, ?_, r2 j c _ hj (List.getElem?_eq_getElem hjv)⟩
    rw [World.var?_cell hg k3 _, ← Array.getElem?_toList, ← List.getElem?_eq_getElem hjv, List.getElem?_take, if_pos (by rw [← hpl x]; exact hjl), List.getElem?_drop]
  refine .ar e l g 0 (.sl e l false g 0 l.length (fun o => (W.cell? ⟨g, o, none⟩).getD undef) (Nat.le_refl _) (fun h => by cases h) (fun i x j c hi hj => ?_) (fun i x j c hi hj => ?_))
  all_goals
    obtain ⟨v, v1, v2⟩ := key i x j c hi hj
    rw [Nat.zero_add, v1]
  · exact ⟨.none rfl, rfl⟩
  · exact v2
end Go.Proofs.YtaennkkcnhfglaaGreatDoor.Ev
