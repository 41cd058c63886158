/- Maps with plain keys and values. -/
import Derived.Test.YtjededkgblbamaaGreatDoorEvIter
set_option linter.unusedVariables false
set_option linter.unusedSimpArgs false
namespace Go.Proofs.YtjededkgblbamaaGreatDoor.Ev
open Go.RowKit
variable {E : Env} {R : Type}

/-! ### entries -/
theorem PK.beq_eq {a b : PK} (h : PK.beq a b = true) : a = b := by
  cases a <;> cases b <;> simp [PK.beq] at h <;> first | rfl | rw [h]
theorem PK.read_val {k : PK} {v : Value} {x : k.T} (h : k.read v = some x) : v = k.val x := by
  cases k with
  | int k =>
    cases v with
    | int k' n =>
      simp only [PK.read] at h
      rw [Bool.cond_eq_ite] at h
      split at h
      · rename_i hd
        rw [of_decide_eq_true hd, Option.some.inj h]
        rfl
      · cases h
    | _ => cases h
  | str =>
    cases v with
    | string s => rw [Option.some.inj h]; rfl
    | _ => cases h
  | bool =>
    cases v with
    | bool b => rw [Option.some.inj h]; rfl
    | _ => cases h
theorem PK.one (k : PK) (x : k.T) : (k.val x).oneCell' = true := by cases k <;> rfl
theorem seq_iff' {a b : ByteArray} : seq a b = true ↔ a = b := by
  obtain ⟨⟨a⟩⟩ := a
  obtain ⟨⟨b⟩⟩ := b
  simp [seq]
theorem ieq_iff (a b : Int) : ieq a b = true ↔ a = b := by unfold ieq; exact beq_iff_eq
theorem bleq_iff (a b : Bool) : bleq a b = true ↔ a = b := by unfold bleq; exact beq_iff_eq
theorem sbeq (a b : ByteArray) : (a == b) = seq a b := by
  obtain ⟨⟨a⟩⟩ := a
  obtain ⟨⟨b⟩⟩ := b
  rw [Bool.eq_iff_iff, seq_iff']
  show ((({ toList := a } : Array UInt8) == { toList := b }) = true) ↔ _
  simp
theorem PK.eqb_iff {k : PK} {x y : k.T} : k.eqb x y = true ↔ x = y := by
  cases k with
  | int k => exact ieq_iff x y
  | str => exact seq_iff'
  | bool => exact bleq_iff x y
theorem same_int (k : IntKind) (a b : Int) : Instr.sameNow (.int k) (.int k a) (.int k b) = some (ieq a b) := by simp [Instr.sameNow, ieq]
theorem same_str (a b : ByteArray) : Instr.sameNow .string (.string a) (.string b) = some (seq a b) := by simp [Instr.sameNow, sbeq]
theorem same_bool (a b : Bool) : Instr.sameNow .bool (.bool a) (.bool b) = some (bleq a b) := by simp [Instr.sameNow, bleq]
theorem sb_int (k : IntKind) (a : Int) : Instr.sameBits 10000 (.int k a) (.int k a) = true := by simp [Instr.sameBits]
theorem sb_str (a : ByteArray) : Instr.sameBits 10000 (.string a) (.string a) = true := by simp only [Instr.sameBits, sbeq]; exact seq_iff'.2 rfl
theorem sb_bool (a : Bool) : Instr.sameBits 10000 (.bool a) (.bool a) = true := by simp [Instr.sameBits]
theorem PK.same {k : PK} {d : TypeDesc} {P : Program} {t : Nat} (hp : pkOf P t = some k) (hu : P.underlying t = some d) (x y : k.T) : Instr.sameNow d (k.val x) (k.val y) = some (k.eqb x y) := by
  unfold pkOf at hp
  rw [hu] at hp
  split at hp
  · rename_i k' h
    cases h
    cases hp
    exact same_int _ x y
  · rename_i h
    cases h
    cases hp
    exact same_str x y
  · rename_i h
    cases h
    cases hp
    exact same_bool x y
  · cases hp
theorem pkOf_desc {k : PK} {P : Program} {t : Nat} (hp : pkOf P t = some k) : ∃ d, P.underlying t = some d := by
  unfold pkOf at hp
  split at hp
  · exact ⟨_, by assumption⟩
  · exact ⟨_, by assumption⟩
  · exact ⟨_, by assumption⟩
  · cases hp
theorem PK.checkKey {k : PK} {P : Program} {t : Nat} (hp : pkOf P t = some k) (b : Bool) (n : Nat) (x : k.T) (w : World) : (Instr.checkKey b (n + 1) t (k.val x)).run P w = .ok () w := by
  unfold pkOf at hp
  split at hp
  · rename_i k' h
    cases hp
    simp [Instr.checkKey, run_underlying h, PK.val]
  · rename_i h
    cases hp
    simp [Instr.checkKey, run_underlying h, PK.val]
  · rename_i h
    cases hp
    simp [Instr.checkKey, run_underlying h, PK.val]
  · cases hp
/-- which entry, and what it holds -/
def agetI {α β : Type} (eq : α → α → Bool) : List (α × β) → α → Option (Nat × β)
 | [], _ => none
 | p :: l, x => if eq x p.1 = true then some (0, p.2) else (agetI eq l x).map fun q => (q.1 + 1, q.2)
theorem aget_eq {α β : Type} (eq : α → α → Bool) : ∀ (l : List (α × β)) (x : α), aget eq l x = (agetI eq l x).map (·.2)
 | [], x => rfl
 | p :: l, x => by
   simp only [aget, agetI]
   split
   · rfl
   · rw [aget_eq eq l x]
     cases agetI eq l x <;> rfl
theorem findNow_eq {k v : PK} {d : TypeDesc} {P : Program} {t : Nat} (hp : pkOf P t = some k) (hu : P.underlying t = some d) (x : k.T) : ∀ (l : List (k.T × v.T)) (es : List MapEntry) (i : Nat), es.map (fun e => (e.key, e.val)) = l.map (fun p => (k.val p.1, v.val p.2)) →
    Instr.findNow d (k.val x) es i = some ((agetI k.eqb l x).map fun q => (i + q.1, v.val q.2))
 | [], es, i, h => by
   have : es = [] := by simpa using h
   rw [this]
   rfl
 | p :: l, [], i, h => by simp at h
 | p :: l, e :: es, i, h => by
   simp only [List.map_cons, List.cons.injEq, Prod.mk.injEq] at h
   obtain ⟨⟨h1, h2⟩, h3⟩ := h
   simp only [Instr.findNow, h1, PK.same hp hu, agetI]
   cases he : k.eqb x p.1 with
   | true => simp [h2]
   | false =>
     simp only [Bool.false_eq_true, if_false]
     rw [findNow_eq hp hu x l es (i + 1) h3]
     cases agetI k.eqb l x with
     | none => rfl
     | some q => simp; omega
theorem findKey_eq {k v : PK} {P : Program} {t : Nat} (hp : pkOf P t = some k) (x : k.T) (l : List (k.T × v.T)) (es : List MapEntry) (h : es.map (fun e => (e.key, e.val)) = l.map (fun p => (k.val p.1, v.val p.2))) (w : World) :
    (Instr.findKey t (k.val x) es).run P w = .ok ((agetI k.eqb l x).map fun q => (q.1, v.val q.2)) w := by
  obtain ⟨d, hu⟩ := pkOf_desc hp
  have := findNow_eq hp hu x l es 0 h
  simp only [Nat.zero_add] at this
  simp [Instr.findKey, run_underlying hu, this]
theorem aput_none {α β : Type} {eq : α → α → Bool} {x : α} (y : β) : ∀ (l : List (α × β)), agetI eq l x = none → aput eq l x y = l ++ [(x, y)]
 | [], _ => rfl
 | p :: l, h => by
   simp only [agetI] at h
   split at h
   · cases h
   · rename_i hn
     simp only [aput, if_neg hn, List.cons_append]
     rw [aput_none y l (by cases hg : agetI eq l x with | none => rfl | some q => rw [hg] at h; cases h)]
theorem aput_some {k v : PK} {x : k.T} (y : v.T) : ∀ (l : List (k.T × v.T)) (es : List MapEntry) (j : Nat) (z : v.T), agetI k.eqb l x = some (j, z) → es.map (fun e => (e.key, e.val)) = l.map (fun p => (k.val p.1, v.val p.2)) →
    (∃ e, es[j]? = some e ∧ e.key = k.val x) ∧ (es.modify j fun e => { e with key := k.val x, val := v.val y }).map (fun e => (e.key, e.val)) = (aput k.eqb l x y).map (fun p => (k.val p.1, v.val p.2))
 | [], es, j, z, h, _ => by cases h
 | p :: l, [], j, z, _, h => by simp at h
 | p :: l, e :: es, j, z, h, hm => by
   simp only [List.map_cons, List.cons.injEq, Prod.mk.injEq] at hm
   obtain ⟨⟨h1, h2⟩, h3⟩ := hm
   simp only [agetI] at h
   split at h
   · rename_i he
     obtain ⟨rfl, rfl⟩ : 0 = j ∧ p.2 = z := by simpa using h
     have hx := PK.eqb_iff.1 he
     refine ⟨⟨e, rfl, by rw [h1, hx]⟩, ?_⟩
     simp only [aput, if_pos he, List.modify_zero_cons, List.map_cons, h3]
   · rename_i he
     cases hg : agetI k.eqb l x with
     | none => rw [hg] at h; cases h
     | some q =>
       obtain ⟨j', z'⟩ := q
       rw [hg] at h
       obtain ⟨rfl, rfl⟩ : j' + 1 = j ∧ z' = z := by simpa using h
       obtain ⟨⟨e', g1, g2⟩, g3⟩ := aput_some y l es j' z' hg h3
       refine ⟨⟨e', by simpa using g1, g2⟩, ?_⟩
       simp only [aput, if_neg he, List.modify_succ_cons, List.map_cons, g3, h1, h2]
theorem sameBits_self (k : PK) (x : k.T) : Instr.sameBits 10000 (k.val x) (k.val x) = true := by
  cases k with
  | int k => exact sb_int k x
  | str => exact sb_str x
  | bool => exact sb_bool x

/-! ### a map as a box -/
theorem obj_cell {w : World} {b : Nat} {ob : Obj} (h : w.heap[b]? = some ob) (ho : obj ob = true) (o : Nat) : w.cell? ⟨b, o, none⟩ = none ∧ w.frozen? ⟨b, o, none⟩ = false := by
  cases ob <;> first | (cases ho; done) | skip
  · exact ⟨by simp only [World.cell?, h], by simp only [World.frozen?, h]⟩
  · exact ⟨by simp only [World.cell?, h], by simp only [World.frozen?, h]⟩
theorem Inv.allocMap (hE : E.Ok) {w0 w : World} {G0 : Org} {G : Gh} {L : Nat → Value} {st : St E.S} {a : Act} (h : Inv E w0 G0 st a w G L) {k v : PK} {d : Nat} :
    ∃ G' L', Inv E w0 G0 { s := putS st d (.rw st.n), b := upd st.b st.n (some (.mp k v [])), n := st.n + 1, z := st.z } (a.put (some d) (.map (some w.heap.size))) (w.alloc (.map #[] 0)) G' L' := by
  let G' : Gh := fun b => if b = w.heap.size then some (some st.n, 0) else G b
  let L' : Nat → Value := fun c => if c = st.n then .map (some w.heap.size) else L c
  have hb : Below w.heap.size w (w.alloc (.map #[] 0)) := (Below.refl _ _).alloc (Nat.le_refl _) _
  have hsz : (w.alloc (.map #[] 0)).heap.size = w.heap.size + 1 := size_new w _
  have hL : ∀ c, c < st.n → L' c = L c := fun c hc => if_neg (by omega)
  have hf : ∀ b o v, Imm G b o → w.cell? ⟨b, o, none⟩ = some v → Imm G' b o ∧ (w.alloc (.map #[] 0)).cell? ⟨b, o, none⟩ = some v := by
    intro b o v hi hc
    have hlt : b < w.heap.size := World.block_lt_of_cell? w _ hc
    refine ⟨fun c u hg => hi c u ?_, cell_below hb hc⟩
    have : G' b = G b := if_neg (by omega)
    rw [← this]; exact hg
  have hbig : L' st.n = .map (some w.heap.size) := if_pos rfl
  have hnew : (w.alloc (.map #[] 0)).heap[w.heap.size]? = some (.map #[] 0) := by
    show (w.heap.push (Obj.map #[] 0))[w.heap.size]? = _
    simp
  refine ⟨G', L', ⟨?_, ?_, ?_, ?_, ?_, ?_⟩, ?_, ?_, h.kp.mono (Nat.le_succ _) hL⟩
  · have hr : Rep E (w.alloc (.map #[] 0)) G' L' (st.n + 1) (.rw st.n) (.map (some w.heap.size)) := by
      have := Rep.rw (E := E) (w := w.alloc (.map #[] 0)) (G := G') (L := L') (n := st.n + 1) st.n (Nat.lt_succ_self _) (by rw [hbig]; rfl)
      rwa [hbig] at this
    have := slots_put (E := E) (w := w.alloc (.map #[] 0)) (G := G') (L := L') (n := st.n + 1) (st := st) (a := a) (d := some d) (x := .rw st.n) (v := .map (some w.heap.size)) h.st.size
      (fun i => (h.st.slots i).step hf hL (Nat.le_succ _)) hr
    exact this
  · rw [put_size]; exact h.st.size
  · intro c bx hc
    by_cases e : c = st.n
    · subst e
      simp only [upd_same] at hc
      obtain rfl := Option.some.inj hc
      exact ⟨Nat.lt_succ_self _, .mp k v [] w.heap.size #[] 0 hbig (if_pos rfl) hnew rfl⟩
    · simp only [upd_ne _ _ e] at hc
      obtain ⟨h1, h2⟩ := h.st.boxes c bx hc
      refine ⟨Nat.lt_succ_of_lt h1, h2.step hE h1 hf hL (Nat.le_succ _) fun b u hg => ?_⟩
      have hlt := (h.st.own b c u hg).1
      refine ⟨by rw [← hg]; exact if_neg (by omega), fun o v hv => ⟨cell_below hb hv, frozen_below hb hv⟩, fun ob _ hs => (hb.block b (Array.getElem?_eq_some_iff.1 hs).1).trans hs⟩
  · intro b c u hg
    by_cases e : b = w.heap.size
    · have : G' b = some (some st.n, 0) := if_pos e
      rw [this] at hg
      obtain ⟨rfl, rfl⟩ := Prod.mk.inj (Option.some.inj hg)
      exact ⟨by rw [e, hsz]; exact Nat.lt_succ_self _, fun k hk => by obtain rfl := Option.some.inj hk; exact Nat.lt_succ_self _⟩
    · have : G' b = G b := if_neg e
      rw [this] at hg
      obtain ⟨h1, h2⟩ := h.st.own b c u hg
      exact ⟨Nat.lt_of_lt_of_le h1 hb.size, fun k hk => Nat.lt_succ_of_lt (h2 k hk)⟩
  · intro c hc
    by_cases e : c = st.n
    · subst e; rw [hbig]; rfl
    · rw [hL c (by simp at hc; omega)]; exact h.st.one c (by simp at hc; omega)
  · exact fun g x hg => (h.st.glob g x hg).step hf hL (Nat.le_succ _)
  · refine h.fr.trans ⟨hb.os, hb.tape, hb.output, hb.size, fun b h1 h2 => ⟨hb.block b h1, ?_⟩, hf⟩
    exact if_neg (by omega)
  · rw [put_defers]; exact h.df
theorem mapTy_spec {t : Nat} {k v : PK} {kt et : Nat} (h : mapTy E t = some (k, v, kt, et)) : E.P.underlying t = some (.map kt et) ∧ pkOf E.P kt = some k ∧ pkOf E.P et = some v := by
  unfold mapTy at h
  split at h
  · rename_i kt' et' hu
    split at h
    · rename_i k' v' h1 h2
      cases h
      exact ⟨hu, h1, h2⟩
    · cases h
  · cases h
theorem makeMap_wp (hE : E.Ok) {w0 w : World} {G0 : Org} {G : Gh} {L : Nat → Value} {st : St E.S} {a : Act} (h : Inv E w0 G0 st a w G L) (o : Oper) {t d : Nat} (ho : o.op = .makeMap t none) (hd : o.dst = some d) {k v : PK} {κ : St E.S → Option R} {r : R}
    (hr : κ { s := putS st d (.rw st.n), b := upd st.b st.n (some (.mp k v [])), n := st.n + 1, z := st.z } = some r) (Q : Exit → Act → World → Prop) : o.wp E.P a w (Nxt E w0 G0 κ r) Q := by
  obtain ⟨G', L', hI⟩ := h.allocMap hE (k := k) (v := v) (d := d)
  have hex : (execOp a.eval o).run E.P w = .ok (.value (.map (some w.heap.size))) (w.alloc (.map #[] 0)) := by
    unfold execOp
    rw [ho]
    simp [Instr.makeMap]
  unfold Oper.wp
  rw [hex, Oper.upon_value, hd]
  exact ⟨_, G', L', hr, hI⟩
def setOb (w : World) (b : Nat) (ob : Obj) : World := { w with heap := w.heap.setIfInBounds b ob }
theorem setOb_ne {w : World} {b b' : Nat} {ob : Obj} (h : b' ≠ b) : (setOb w b ob).heap[b']? = w.heap[b']? := by
  simp [setOb, Array.getElem?_setIfInBounds_ne (Ne.symm h)]
theorem Inv.setMap (hE : E.Ok) {w0 w : World} {G0 : Org} {G : Gh} {L : Nat → Value} {st : St E.S} {a : Act} (h : Inv E w0 G0 st a w G L) {c b : Nat} {k v : PK} {l l' : List (k.T × v.T)} {es es' : Array MapEntry} {clock clock' : Nat} (hb : st.b c = some (.mp k v l)) (hl : L c = .map (some b)) (hg : G b = some (some c, 0)) (hh : w.heap[b]? = some (.map es clock))
    (he : es'.toList.map (fun e => (e.key, e.val)) = l'.map fun p => (k.val p.1, v.val p.2)) :
    Inv E w0 G0 { s := st.s, b := upd st.b c (some (.mp k v l')), n := st.n, z := st.z } a (setOb w b (.map es' clock')) G L := by
  have hlt : b < w.heap.size := (Array.getElem?_eq_some_iff.1 hh).1
  have hnew : (setOb w b (.map es' clock')).heap[b]? = some (.map es' clock') := by simp [setOb, hlt]
  have hcell : ∀ b' o, (setOb w b (.map es' clock')).cell? ⟨b', o, none⟩ = w.cell? ⟨b', o, none⟩ := fun b' o => by
    by_cases e : b' = b
    · subst e; rw [(obj_cell hnew rfl o).1, (obj_cell hh rfl o).1]
    · exact World.cell?_of_block (w := w) (setOb_ne e)
  have hfz : ∀ b' o, (setOb w b (.map es' clock')).frozen? ⟨b', o, none⟩ = w.frozen? ⟨b', o, none⟩ := fun b' o => by
    by_cases e : b' = b
    · subst e; rw [(obj_cell hnew rfl o).2, (obj_cell hh rfl o).2]
    · exact World.frozen?_of_block (w := w) (setOb_ne e)
  have hf : ∀ b1 o v, Imm G b1 o → w.cell? ⟨b1, o, none⟩ = some v → Imm G b1 o ∧ (setOb w b (.map es' clock')).cell? ⟨b1, o, none⟩ = some v := fun b' o v h1 h2 => ⟨h1, (hcell b' o).trans h2⟩
  have hsz : (setOb w b (.map es' clock')).heap.size = w.heap.size := by simp [setOb]
  have hcn := (h.st.boxes c _ hb).1
  refine ⟨⟨fun i => (h.st.slots i).step hf (fun _ _ => rfl) (Nat.le_refl _), h.st.size, fun c' bx hc => ?_, fun b' c' u hg' => by rw [hsz]; exact h.st.own b' c' u hg', h.st.one, fun g x hg => (h.st.glob g x hg).step hf (fun _ _ => rfl) (Nat.le_refl _)⟩, ?_, h.df, h.kp⟩
  · by_cases e : c' = c
    · subst e
      simp only [upd_same] at hc
      obtain rfl := Option.some.inj hc
      exact ⟨hcn, .mp k v l' b es' clock' hl hg hnew he⟩
    · simp only [upd_ne _ _ e] at hc
      obtain ⟨h1, h2⟩ := h.st.boxes c' bx hc
      refine ⟨h1, h2.step hE h1 hf (fun _ _ => rfl) (Nat.le_refl _) fun b' u hg' => ⟨hg', fun o v hv => ⟨(hcell b' o).trans hv, hfz b' o⟩, fun ob _ hs' => ?_⟩⟩
      have hne : b' ≠ b := fun e' => by
        subst e'
        rw [hg] at hg'
        exact e (by simpa using (Prod.mk.inj (Option.some.inj hg')).1.symm)
      exact (setOb_ne hne).trans hs'
  · refine h.fr.trans ⟨rfl, rfl, rfl, by rw [hsz]; exact Nat.le_refl _, fun b' h1 h2 => ⟨setOb_ne fun e => h2 c 0 (e ▸ hg), rfl⟩, hf⟩
/-- what a map operation is handed -/
theorem map_eval {w0 w : World} {G0 : Org} {G : Gh} {L : Nat → Value} {st : St E.S} {a : Act} (h : Inv E w0 G0 st a w G L) {m : Operand} {c : Nat} (hm : opv st m = .rw c) : a.eval m = L c := by
  have hv := h.st.opv m
  rw [hm] at hv
  generalize a.eval m = v at hv
  cases hv with
  | rw _ hc h' => rfl
theorem v_eval {w0 w : World} {G0 : Org} {G : Gh} {L : Nat → Value} {st : St E.S} {a : Act} (h : Inv E w0 G0 st a w G L) {x : Operand} {v : Value} (hx : opv st x = .v v) : a.eval x = v := by
  have hv := h.st.opv x
  rw [hx] at hv
  generalize a.eval x = u at hv
  exact hv.v_inv
theorem put_run {P : Program} {t kt et : Nat} {k v : PK} (hu : P.underlying t = some (.map kt et)) (hk : pkOf P kt = some k) (x : k.T) (y : v.T) {w : World} {b : Nat} {es : Array MapEntry} {clock : Nat} (hh : w.heap[b]? = some (.map es clock)) {l : List (k.T × v.T)} (he : es.toList.map (fun e => (e.key, e.val)) = l.map fun p => (k.val p.1, v.val p.2)) :
    ∃ es' clock', (Instr.mapUpdate t (.map (some b)) (k.val x) (v.val y)).run P w = .ok () (setOb w b (.map es' clock')) ∧ es'.toList.map (fun e => (e.key, e.val)) = (aput k.eqb l x y).map fun p => (k.val p.1, v.val p.2) := by
  have hc := PK.checkKey hk false 9999 x w
  have hf := findKey_eq hk x l es.toList he w
  cases hg : agetI k.eqb l x with
  | none =>
    rw [hg] at hf
    refine ⟨es.push { key := k.val x, val := v.val y, born := clock }, clock + 1, ?_, ?_⟩
    · simp [Instr.mapUpdate, run_underlying hu, getObj, setObj, Sem.run, hh, hc, hf, setOb]
    · rw [Array.toList_push, List.map_append, he, aput_none y l hg, List.map_append]
      rfl
  | some q =>
    obtain ⟨j, z⟩ := q
    rw [hg] at hf
    obtain ⟨⟨e, g1, g2⟩, g3⟩ := aput_some y l es.toList j z hg he
    have g1' : es[j]? = some e := by rw [← Array.getElem?_toList]; exact g1
    refine ⟨es.modify j fun e => { e with key := k.val x, val := v.val y }, clock, ?_, ?_⟩
    · simp [Instr.mapUpdate, run_underlying hu, getObj, setObj, Sem.run, hh, hc, hf, setOb, g1', g2, Instr.keyThatStays, sameBits_self]
    · rw [Array.toList_modify]
      exact g3
theorem evPut_wp (hE : E.Ok) {w0 w : World} {G0 : Org} {G : Gh} {L : Nat → Value} {st : St E.S} {a : Act} (h : Inv E w0 G0 st a w G L) (o : Oper) {t : Nat} {m x y : Operand} (ho : o.op = .mapUpdate t m x y ∨ o.op = .insert t m x y) (hd : o.dst = none) {κ : St E.S → Option R} {r : R}
    (hr : evPut E st t m x y κ = some r) (Q : Exit → Act → World → Prop) : o.wp E.P a w (Nxt E w0 G0 κ r) Q := by
  unfold evPut at hr
  split at hr
  case h_2 => cases hr
  rename_i c hm
  split at hr
  case h_2 => cases hr
  rename_i k v l hb
  split at hr
  case h_2 => cases hr
  rename_i k' v' kt et xa ya hty hx hy
  rw [Bool.cond_eq_ite] at hr
  split at hr
  case isFalse => cases hr
  rename_i hkv
  rw [Bool.and_eq_true] at hkv
  obtain rfl := PK.beq_eq hkv.1
  obtain rfl := PK.beq_eq hkv.2
  split at hr
  case h_2 => cases hr
  rename_i a' b' ha' hb'
  obtain rfl := PK.read_val ha'
  obtain rfl := PK.read_val hb'
  obtain ⟨hu, hk, _⟩ := mapTy_spec hty
  obtain ⟨hcn, hbx⟩ := h.st.boxes c _ hb
  cases hbx with
  | mp _ _ _ bk es clock hl hg hh he =>
    obtain ⟨es', clock', hrun, he'⟩ := put_run hu hk a' b' hh he
    have hex : (execOp a.eval o).run E.P w = .ok .skip (setOb w bk (.map es' clock')) := by
      have e1 := map_eval h hm
      have e2 := v_eval h hx
      have e3 := v_eval h hy
      unfold execOp
      rcases ho with ho | ho <;> (rw [ho]; simp [e1, e2, e3, hl, hrun])
    have hI := h.setMap hE (clock' := clock') hb hl hg hh he'
    unfold Oper.wp
    rw [hex, Oper.upon_skip, hd]
    exact ⟨_, G, L, hr, hI⟩
theorem evGet_wp (hE : E.Ok) {w0 w : World} {G0 : Org} {G : Gh} {L : Nat → Value} {st : St E.S} {a : Act} (h : Inv E w0 G0 st a w G L) (o : Oper) {t : Nat} {m x : Operand} {ok : Bool} (ho : o.op = .lookup t m x ok) {κ : St E.S → Option R} {r : R}
    (hr : evGet E st o.dst t m x ok κ = some r) (Q : Exit → Act → World → Prop) : o.wp E.P a w (Nxt E w0 G0 κ r) Q := by
  unfold evGet at hr
  split at hr
  case h_2 => cases hr
  rename_i c hm
  split at hr
  case h_2 => cases hr
  rename_i k v l hb
  split at hr
  case h_2 => cases hr
  rename_i k' v' kt et xa hty hx
  rw [Bool.cond_eq_ite] at hr
  split at hr
  case isFalse => cases hr
  rename_i hkv
  rw [Bool.and_eq_true] at hkv
  obtain rfl := PK.beq_eq hkv.1
  obtain rfl := PK.beq_eq hkv.2
  split at hr
  case h_2 => cases hr
  rename_i a' z ha' hz
  obtain rfl := PK.read_val ha'
  obtain ⟨hu, hk, _⟩ := mapTy_spec hty
  obtain ⟨hcn, hbx⟩ := h.st.boxes c _ hb
  cases hbx with
  | mp _ _ _ bk es clock hl hg hh he =>
    have hc := PK.checkKey hk es.isEmpty 9999 a' w
    have hf := findKey_eq hk a' l es.toList he w
    have hzero : (zeroValue et).run E.P w = .ok (v'.val z) w := by
      unfold zeroPK at hz
      split at hz
      case h_2 => cases hz
      rename_i i hi
      split at hz
      case h_2 => cases hz
      rename_i zv hzv
      obtain rfl := PK.read_val hz
      simp [zeroValue, run_typeInfo (w := w) hi, hzv]
    have hget : aget k'.eqb l a' = (agetI k'.eqb l a').map (·.2) := aget_eq _ _ _
    have hrun : (Instr.lookup t (.map (some bk)) (k'.val a') ok).run E.P w = .ok (if ok then .tuple #[v'.val ((aget k'.eqb l a').getD z), .bool (aget k'.eqb l a').isSome] else v'.val ((aget k'.eqb l a').getD z)) w := by
      rw [hget]
      cases hgi : agetI k'.eqb l a' with
      | none =>
        rw [hgi] at hf
        simp [Instr.lookup, run_underlying hu, getObj, Sem.run, hh, hc, hf, hzero]
      | some q =>
        rw [hgi] at hf
        simp [Instr.lookup, run_underlying hu, getObj, Sem.run, hh, hc, hf]
    have e1 := map_eval h hm
    have e2 := v_eval h hx
    have hex : (execOp a.eval o).run E.P w = .ok (.value (if ok then .tuple #[v'.val ((aget k'.eqb l a').getD z), .bool (aget k'.eqb l a').isSome] else v'.val ((aget k'.eqb l a').getD z))) w := by
      unfold execOp
      rw [ho]
      simp [e1, e2, hl, hrun]
    have one : ∀ (X : AV E.S) (V : Value), Rep E w G L st.n X V → κ (put st o.dst X) = some r → (execOp a.eval o).run E.P w = .ok (.value V) w → o.wp E.P a w (Nxt E w0 G0 κ r) Q := by
      intro X V hX hκ hex
      have hI2 := h.st.put (Below.refl _ _) (d := o.dst) (a := a) (x := X) (v := V) hX
      unfold Oper.wp
      rw [hex, Oper.upon_value]
      refine ⟨_, G, L, hκ, ⟨hI2, h.fr, by rw [put_defers]; exact h.df, ?_⟩⟩
      have : (put st o.dst X).n = st.n := by cases o.dst <;> rfl
      rw [this]; exact h.kp
    cases ok with
    | false => exact one _ _ (.v _ (PK.one _ _)) hr hex
    | true =>
      refine one _ _ (.tup _ [v'.val ((aget k'.eqb l a').getD z), .bool (aget k'.eqb l a').isSome] rfl fun i x y hi hy => ?_) hr hex
      match i, hi, hy with
      | 0, hi, hy => cases hi; cases hy; exact .v _ (PK.one _ _)
      | 1, hi, hy => cases hi; cases hy; exact .v _ rfl
      | i + 2, hi, _ => simp at hi
end Go.Proofs.YtjededkgblbamaaGreatDoor.Ev
