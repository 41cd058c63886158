/- A part of the proof. -/
import Derived.Test.YtaennkkcnhfglaaGreatDoorSEvIter
set_option linter.unusedVariables false
set_option linter.unusedSimpArgs false
namespace Go.Proofs.YtaennkkcnhfglaaGreatDoor.Ev
open Go.RowKit
variable {E : Env} {R : Type}
theorem PK.beq_eq {a b : PK} (h : PK.beq a b = true) : a = b := by
  cases a <;> cases b <;> simp [PK.beq] at h <;> first | rfl | rw [h]
theorem PK.read_val {k : PK} {v : Value} {x : k.T} (h : k.read v = some x) : v = k.val x := by
  cases k with
  | int k =>
    cases v with
    | int k' n =>
      simp only [PK.read] at h
      rw [Bool.cond_eq_ite] at h
      split at h
      · rename_i hd
        rw [of_decide_eq_true hd, Option.some.inj h]
        rfl
      · cases h
    | _ => cases h
  | str =>
    cases v with
    | string s => rw [Option.some.inj h]; rfl
    | _ => cases h
  | bool =>
    cases v with
    | bool b => rw [Option.some.inj h]; rfl
    | _ => cases h
theorem PK.one (k : PK) (x : k.T) : (k.val x).oneCell' = true := by cases k <;> rfl
theorem uZ0 {a b : ByteArray} : seq a b = true ↔ a = b := by
  obtain ⟨⟨a⟩⟩ := a
  obtain ⟨⟨b⟩⟩ := b
  simp [seq]
theorem uK9 (a b : Int) : ieq a b = true ↔ a = b := by unfold ieq; exact beq_iff_eq
theorem vB8 (a b : Bool) : bleq a b = true ↔ a = b := by unfold bleq; exact beq_iff_eq
theorem sbeq (a b : ByteArray) : (a == b) = seq a b := by
  obtain ⟨⟨a⟩⟩ := a
  obtain ⟨⟨b⟩⟩ := b
  rw [Bool.eq_iff_iff, uZ0]
  show ((({ toList := a } : Array UInt8) == { toList := b }) = true) ↔ _
  simp
theorem PK.eqb_iff {k : PK} {x y : k.T} : k.eqb x y = true ↔ x = y := by
  cases k with
  | int k => exact uK9 x y
  | str => exact uZ0
  | bool => exact vB8 x y
theorem vF3 (k : IntKind) (a b : Int) : Instr.sameNow (.int k) (.int k a) (.int k b) = some (ieq a b) := by simp [Instr.sameNow, ieq]
theorem vF4 (a b : ByteArray) : Instr.sameNow .string (.string a) (.string b) = some (seq a b) := by simp [Instr.sameNow, sbeq]
theorem vt5 (a b : Bool) : Instr.sameNow .bool (.bool a) (.bool b) = some (bleq a b) := by simp [Instr.sameNow, bleq]
theorem vZ5 (k : IntKind) (a : Int) : Instr.sameBits 10000 (.int k a) (.int k a) = true := by simp [Instr.sameBits]
theorem vZ6 (a : ByteArray) : Instr.sameBits 10000 (.string a) (.string a) = true := by simp only [Instr.sameBits, sbeq]; exact uZ0.2 rfl
theorem vR8 (a : Bool) : Instr.sameBits 10000 (.bool a) (.bool a) = true := by simp [Instr.sameBits]
theorem PK.same {k : PK} {d : TypeDesc} {P : Program} {t : Nat} (hp : pkOf P t = some k) (hu : P.underlying t = some d) (x y : k.T) : Instr.sameNow d (k.val x) (k.val y) = some (k.eqb x y) := by
  unfold pkOf at hp
  rw [hu] at hp
  split at hp
  · rename_i k' h
    cases h
    cases hp
    exact vF3 _ x y
  · rename_i h
    cases h
    cases hp
    exact vF4 x y
  · rename_i h
    cases h
    cases hp
    exact vt5 x y
  · cases hp
theorem u31 {k : PK} {P : Program} {t : Nat} (hp : pkOf P t = some k) : ∃ d, P.underlying t = some d := by
  unfold pkOf at hp
  split at hp
  · exact ⟨_, by assumption⟩
  · exact ⟨_, by assumption⟩
  · exact ⟨_, by assumption⟩
  · cases hp
theorem PK.checkKey {k : PK} {P : Program} {t : Nat} (hp : pkOf P t = some k) (b : Bool) (n : Nat) (x : k.T) (w : World) : (Instr.checkKey b (n + 1) t (k.val x)).run P w = .ok () w := by
  unfold pkOf at hp
  split at hp
  · rename_i k' h
    cases hp
    simp [Instr.checkKey, run_underlying h, PK.val]
  · rename_i h
    cases hp
    simp [Instr.checkKey, run_underlying h, PK.val]
  · rename_i h
    cases hp
    simp [Instr.checkKey, run_underlying h, PK.val]
  · cases hp
def ut3 {α β : Type} (eq : α → α → Bool) : List (α × β) → α → Option (Nat × β)
 | [], _ => none
 | p :: l, x => if eq x p.1 = true then some (0, p.2) else (ut3 eq l x).map fun q => (q.1 + 1, q.2)
theorem vn9 {α β : Type} (eq : α → α → Bool) : ∀ (l : List (α × β)) (x : α), aget eq l x = (ut3 eq l x).map (·.2)
 | [], x => rfl
 | p :: l, x => by
   simp only [aget, ut3]
   split
   · rfl
   · rw [vn9 eq l x]
     cases ut3 eq l x <;> rfl
theorem uE2 {k : PK} {β : Type} {d : TypeDesc} {P : Program} {t : Nat} (hp : pkOf P t = some k) (hu : P.underlying t = some d) (x : k.T) : ∀ (l : List (k.T × β)) (es : List MapEntry) (i : Nat), es.map (·.key) = l.map (fun p => k.val p.1) →
    (ut3 k.eqb l x = none → Instr.findNow d (k.val x) es i = some none) ∧ ∀ j y, ut3 k.eqb l x = some (j, y) → ∃ en, es[j]? = some en ∧ (l[j]?).map (·.2) = some y ∧ Instr.findNow d (k.val x) es i = some (some (i + j, en.val))
 | [], es, i, h => by
   have : es = [] := by simpa using h
   rw [this]
   exact ⟨fun _ => rfl, fun j y h => by cases h⟩
 | p :: l, [], i, h => by simp at h
 | p :: l, e :: es, i, h => by
   simp only [List.map_cons, List.cons.injEq] at h
   obtain ⟨h1, h3⟩ := h
   obtain ⟨ih1, ih2⟩ := uE2 hp hu x l es (i + 1) h3
   simp only [Instr.findNow, h1, PK.same hp hu, ut3]
   cases he : k.eqb x p.1 with
   | true =>
     refine ⟨fun h => by simp at h, fun j y h => ?_⟩
     simp only [if_true, Option.some.injEq, Prod.mk.injEq] at h
     obtain ⟨rfl, rfl⟩ := h
     exact ⟨e, rfl, rfl, by simp⟩
   | false =>
     simp only [Bool.false_eq_true, if_false]
     refine ⟨fun h => ?_, fun j y h => ?_⟩
     · cases hg : ut3 k.eqb l x with
       | none => exact ih1 hg
       | some q => rw [hg] at h; cases h
     · obtain ⟨q, hq, hq2⟩ := Option.map_eq_some_iff.1 h
       obtain ⟨j', y'⟩ := q
       obtain ⟨rfl, rfl⟩ : j' + 1 = j ∧ y' = y := by simpa using hq2
       obtain ⟨en, g1, g2, g3⟩ := ih2 j' y' hq
       exact ⟨en, by simpa using g1, by simpa using g2, by rw [g3]; congr 3; omega⟩
theorem uG2 {k : PK} {β : Type} {P : Program} {t : Nat} (hp : pkOf P t = some k) (x : k.T) {l : List (k.T × β)} {es : List MapEntry} (h : es.map (·.key) = l.map (fun p => k.val p.1)) (w : World) (hg : ut3 k.eqb l x = none) : (Instr.findKey t (k.val x) es).run P w = .ok none w := by
  obtain ⟨d, hu⟩ := u31 hp
  have := (uE2 hp hu x l es 0 h).1 hg
  simp [Instr.findKey, run_underlying hu, this]
theorem uG3 {k : PK} {β : Type} {P : Program} {t : Nat} (hp : pkOf P t = some k) (x : k.T) {l : List (k.T × β)} {es : List MapEntry} (h : es.map (·.key) = l.map (fun p => k.val p.1)) (w : World) {j : Nat} {y : β} (hg : ut3 k.eqb l x = some (j, y)) :
    ∃ en, es[j]? = some en ∧ (l[j]?).map (·.2) = some y ∧ (Instr.findKey t (k.val x) es).run P w = .ok (some (j, en.val)) w := by
  obtain ⟨d, hu⟩ := u31 hp
  obtain ⟨en, g1, g2, g3⟩ := (uE2 hp hu x l es 0 h).2 j y hg
  exact ⟨en, g1, g2, by simp [Instr.findKey, run_underlying hu, g3]⟩
theorem uJ1 {α β : Type} {eq : α → α → Bool} {x : α} (y : β) : ∀ (l : List (α × β)), ut3 eq l x = none → aput eq l x y = l ++ [(x, y)]
 | [], _ => rfl
 | p :: l, h => by
   simp only [ut3] at h
   split at h
   · cases h
   · rename_i hn
     simp only [aput, if_neg hn, List.cons_append]
     rw [uJ1 y l (by cases hg : ut3 eq l x with | none => rfl | some q => rw [hg] at h; cases h)]
theorem u03 {k : PK} {β : Type} {x : k.T} (y : β) : ∀ (l : List (k.T × β)) (j : Nat) (z : β), ut3 k.eqb l x = some (j, z) → (∃ p, l[j]? = some p ∧ p.1 = x) ∧ aput k.eqb l x y = l.set j (x, y)
 | [], j, z, h => by cases h
 | p :: l, j, z, h => by
   simp only [ut3] at h
   split at h
   · rename_i he
     obtain ⟨rfl, rfl⟩ : 0 = j ∧ p.2 = z := by simpa using h
     exact ⟨⟨p, rfl, (PK.eqb_iff.1 he).symm⟩, by simp [aput, if_pos he]⟩
   · rename_i he
     obtain ⟨q, hq, hq2⟩ := Option.map_eq_some_iff.1 h
     obtain ⟨j', z'⟩ := q
     obtain ⟨rfl, rfl⟩ : j' + 1 = j ∧ z' = z := by simpa using hq2
     obtain ⟨⟨p', g1, g2⟩, g3⟩ := u03 y l j' z' hq
     exact ⟨⟨p', by simpa using g1, g2⟩, by simp [aput, if_neg he, g3]⟩
theorem uY9 (k : PK) (x : k.T) : Instr.sameBits 10000 (k.val x) (k.val x) = true := by
  cases k with
  | int k => exact vZ5 k x
  | str => exact vZ6 x
  | bool => exact vR8 x
theorem uI2 {w : World} {b : Nat} {ob : Obj} (h : w.heap[b]? = some ob) (ho : obj ob = true) (o : Nat) : w.cell? ⟨b, o, none⟩ = none ∧ w.frozen? ⟨b, o, none⟩ = false := by
  cases ob <;> first | (cases ho; done) | skip
  · exact ⟨by simp only [World.cell?, h], by simp only [World.frozen?, h]⟩
  · exact ⟨by simp only [World.cell?, h], by simp only [World.frozen?, h]⟩
theorem Inv.allocMap (hE : E.Ok) {w0 w : World} {G0 : Org} {G : Gh} {L : Nat → Value} {st : St E.S} {a : Act} (h : Inv E w0 G0 st a w G L) {k : PK} {v : Nat} {d : Nat} :
    ∃ G' L', Inv E w0 G0 { s := putS st d (.rw st.n), b := upd st.b st.n (some (.mp k v [])), n := st.n + 1, z := st.z } (a.put (some d) (.map (some w.heap.size))) (w.alloc (.map #[] 0)) G' L' := by
  let G' : Gh := fun b => if b = w.heap.size then some (some st.n, 0) else G b
  let L' : Nat → Value := fun c => if c = st.n then .map (some w.heap.size) else L c
  have hb : Below w.heap.size w (w.alloc (.map #[] 0)) := (Below.refl _ _).alloc (Nat.le_refl _) _
  have hsz : (w.alloc (.map #[] 0)).heap.size = w.heap.size + 1 := uj6 w _
  have hL : ∀ c, c < st.n → L' c = L c := fun c hc => if_neg (by omega)
  have hf : ∀ b o v, Imm G b o → w.cell? ⟨b, o, none⟩ = some v → Imm G' b o ∧ (w.alloc (.map #[] 0)).cell? ⟨b, o, none⟩ = some v := by
    intro b o v hi hc
    have hlt : b < w.heap.size := World.block_lt_of_cell? w _ hc
    refine ⟨fun c u hg => hi c u ?_, ua9 hb hc⟩
    have : G' b = G b := if_neg (by omega)
    rw [← this]; exact hg
  have hbig : L' st.n = .map (some w.heap.size) := if_pos rfl
  have hnew : (w.alloc (.map #[] 0)).heap[w.heap.size]? = some (.map #[] 0) := by
    show (w.heap.push (Obj.map #[] 0))[w.heap.size]? = _
    simp
  refine ⟨G', L', ⟨?_, ?_, ?_, ?_, ?_, ?_⟩, ?_, ?_, h.kp.mono (Nat.le_succ _) hL⟩
  · have hr : Rep E (w.alloc (.map #[] 0)) G' L' (st.n + 1) (.rw st.n) (.map (some w.heap.size)) := by
      have := Rep.rw (E := E) (w := w.alloc (.map #[] 0)) (G := G') (L := L') (n := st.n + 1) st.n (Nat.lt_succ_self _) (by rw [hbig]; rfl)
      rwa [hbig] at this
    have := um6 (E := E) (w := w.alloc (.map #[] 0)) (G := G') (L := L') (n := st.n + 1) (st := st) (a := a) (d := some d) (x := .rw st.n) (v := .map (some w.heap.size)) h.st.size
      (fun i => (h.st.slots i).step hf hL (Nat.le_succ _)) hr
    exact this
  · rw [uq7]; exact h.st.size
  · intro c bx hc
    by_cases e : c = st.n
    · subst e
      simp only [ub4] at hc
      obtain rfl := Option.some.inj hc
      exact ⟨Nat.lt_succ_self _, .mp k v [] (.mk [] w.heap.size #[] 0 hbig (if_pos rfl) hnew rfl (fun i p en X h => by simp at h) (fun _ => rfl))⟩
    · simp only [ud5 _ _ e] at hc
      obtain ⟨h1, h2⟩ := h.st.boxes c bx hc
      refine ⟨Nat.lt_succ_of_lt h1, h2.step hE h1 hf hL (Nat.le_succ _) fun b u hg => ?_⟩
      have hlt := (h.st.own b c u hg).1
      refine ⟨by rw [← hg]; exact if_neg (by omega), fun o v hv => ⟨ua9 hb hv, uc2 hb hv⟩, fun ob _ hs => (hb.block b (Array.getElem?_eq_some_iff.1 hs).1).trans hs⟩
  · intro b c u hg
    by_cases e : b = w.heap.size
    · have : G' b = some (some st.n, 0) := if_pos e
      rw [this] at hg
      obtain ⟨rfl, rfl⟩ := Prod.mk.inj (Option.some.inj hg)
      exact ⟨by rw [e, hsz]; exact Nat.lt_succ_self _, fun k hk => by obtain rfl := Option.some.inj hk; exact Nat.lt_succ_self _⟩
    · have : G' b = G b := if_neg e
      rw [this] at hg
      obtain ⟨h1, h2⟩ := h.st.own b c u hg
      exact ⟨Nat.lt_of_lt_of_le h1 hb.size, fun k hk => Nat.lt_succ_of_lt (h2 k hk)⟩
  · intro c hc
    by_cases e : c = st.n
    · subst e; rw [hbig]; rfl
    · rw [hL c (by simp at hc; omega)]; exact h.st.one c (by simp at hc; omega)
  · exact fun g x hg => (h.st.glob g x hg).step hf hL (Nat.le_succ _)
  · refine h.fr.trans ⟨hb.os, hb.tape, hb.output, hb.size, fun b h1 h2 => ⟨hb.block b h1, ?_⟩, hf⟩
    exact if_neg (by omega)
  · rw [ue0]; exact h.df
theorem Inv.setBox {w0 w : World} {G0 : Org} {G : Gh} {L : Nat → Value} {st : St E.S} {a : Act} (h : Inv E w0 G0 st a w G L) {c : Nat} {bx : Box E.S} (hc : c < st.n) (hb : ub2 E w G L st.n c bx) : Inv E w0 G0 { st with b := upd st.b c (some bx) } a w G L := by
  refine ⟨⟨h.st.slots, h.st.size, fun d bx' hd => ?_, h.st.own, h.st.one, h.st.glob⟩, h.fr, h.df, h.kp⟩
  by_cases hdc : d = c
  · subst hdc
    simp only [ub4] at hd
    obtain rfl := Option.some.inj hd
    exact ⟨hc, hb⟩
  · have hd : upd st.b c (some bx) d = some bx' := hd
    rw [ud5 _ _ hdc] at hd
    exact h.st.boxes d bx' hd
theorem uA5 {k : PK} {β : Type} (x : k.T) (y : β) (z : k.T) : ∀ (l : List (k.T × β)), aget k.eqb (aput k.eqb l x y) z = if k.eqb z x = true then some y else aget k.eqb l z
 | [] => rfl
 | p :: l => by
   unfold aput
   by_cases h : k.eqb x p.1 = true
   · rw [if_pos h]
     have hx := PK.eqb_iff.1 h
     unfold aget
     simp only
     by_cases hz : k.eqb z x = true
     · rw [if_pos hz, if_pos hz]
     · rw [if_neg hz, if_neg hz, if_neg (by rw [← hx]; exact hz)]
   · rw [if_neg h]
     unfold aget
     by_cases hz : k.eqb z p.1 = true
     · rw [if_pos hz, if_pos hz]
       have : ¬ k.eqb z x = true := fun h' => h (by rw [PK.eqb_iff] at *; rw [← h', hz])
       rw [if_neg this]
     · rw [if_neg hz, if_neg hz, uA5 x y z l]
theorem ui3.congr {w : World} {G : Gh} {L : Nat → Value} {n c : Nat} {k : PK} {e : Nat} {l l' : List (k.T × E.S e)} (hl : ∀ x, aget k.eqb l x = aget k.eqb l' x) (h : ui3 E w G L n c k e l) : ui3 E w G L n c k e l' := by
  cases h with
  | mk l0 b es clock h1 h2 h3 h4 h5 hq => exact .mk l0 b es clock h1 h2 h3 h4 h5 fun x => (hq x).trans (hl x)
theorem uE7 (e : Nat) : ∀ (cs : List (AV E.S)) (m : Nat) (z : Int), aget ieq (uj7 (S := E.S) e m cs) z = if (m : Int) ≤ z then (cs[(z - m).toNat]?).bind (vk9 e) else none
 | [], m, z => by simp [uj7, aget]
 | x :: cs, m, z => by
   have ih := uE7 e cs (m + 1) z
   have e1 : ((m + 1 : Nat) : Int) = (m : Int) + 1 := rfl
   have key : aget ieq (uj7 (S := E.S) e m (x :: cs)) z = if z = (m : Int) then (vk9 e x).or (aget ieq (uj7 (S := E.S) e (m + 1) cs) z) else aget ieq (uj7 (S := E.S) e (m + 1) cs) z := by
     rw [uj7]
     cases hx : vk9 e x with
     | none => simp
     | some v =>
       simp only
       rw [show aget ieq (((m : Int), v) :: uj7 (S := E.S) e (m + 1) cs) z = if ieq z (m : Int) = true then some v else aget ieq (uj7 e (m + 1) cs) z from rfl]
       by_cases hz : z = (m : Int)
       · rw [if_pos ((uK9 _ _).2 hz), if_pos hz]; rfl
       · rw [if_neg (fun h => hz ((uK9 _ _).1 h)), if_neg hz]
   rw [key, ih, e1]
   by_cases hz : z = (m : Int)
   · subst hz
     rw [if_pos rfl, if_neg (by omega), if_pos (Int.le_refl _)]
     simp
   · rw [if_neg hz]
     by_cases hle : (m : Int) + 1 ≤ z
     · rw [if_pos hle, if_pos (by omega)]
       have : (z - (m : Int)).toNat = (z - ((m : Int) + 1)).toNat + 1 := by omega
       rw [this, List.getElem?_cons_succ]
     · rw [if_neg hle, if_neg (by omega)]
theorem u71 (e k m : Nat) : uj7 (S := E.S) e m (List.replicate k (.op e none)) = [] := by
  induction k generalizing m with
  | zero => rfl
  | succ k ih =>
    rw [List.replicate_succ]
    unfold uj7
    simp [vk9, ih]
theorem vk8 {e n : Nat} {cs : List (AV E.S)} (hn : n < cs.length) (v : E.S e) (z : Int) : aget ieq (uj7 (S := E.S) e 0 (setCells cs n [.op e (some v)])) z = if ieq z (n : Int) = true then some v else aget ieq (uj7 (S := E.S) e 0 cs) z := by
  have hs : setCells cs n [AV.op e (some v)] = cs.set n (.op e (some v)) := by
    unfold setCells
    rw [List.set_eq_take_append_cons_drop, if_pos hn]
    simp
  rw [hs, uE7, uE7]
  by_cases hz : z = (n : Int)
  · subst hz
    rw [if_pos (by omega), if_pos ((uK9 _ _).2 rfl)]
    simp [List.getElem?_set_self hn, vk9]
  · rw [if_neg (fun h => hz ((uK9 _ _).1 h))]
    by_cases h0 : (0 : Int) ≤ z
    · have h0' : ((0 : Nat) : Int) ≤ z := h0
      rw [if_pos h0', if_pos h0', List.getElem?_set_ne (by omega)]
    · have h0' : ¬ ((0 : Nat) : Int) ≤ z := h0
      rw [if_neg h0', if_neg h0']
theorem ub2.view {w : World} {G : Gh} {L : Nat → Value} {n c : Nat} {bx : Box E.S} {k : PK} {e : Nat} {l : List (k.T × E.S e)} (h : ub2 E w G L n c bx) (hv : vs0 (some bx) = some ⟨k, e, l⟩) : ui3 E w G L n c k e l := by
  cases h with
  | mp k' e' l' h =>
    have := Option.some.inj hv
    cases this
    exact h
  | mv k' e' cs hc h =>
    have := Option.some.inj hv
    cases this
    exact h
  | _ => cases hv
theorem ub2.out {w : World} {G : Gh} {L : Nat → Value} {n c : Nat} {bx : Box E.S} (h : ub2 E w G L n c bx) : ub2 E w G L n c (vY1 bx) := by
  cases h with
  | mv k' e' cs hc h => exact .mp _ _ _ h
  | var t cs b hl hg h => exact .var t cs b hl hg h
  | nil e sh o hl => exact .nil e sh o hl
  | row e l sh b off cap h => exact .row e l sh b off cap h
  | un hl => exact .un hl
  | mp k e l h => exact .mp k e l h
  | iter s pos b hl hg hh => exact .iter s pos b hl hg hh
  | lk e l i j x b off cap hl hle hij hg hc hw => exact .lk e l i j x b off cap hl hle hij hg hc hw
theorem uR4 {t : Nat} {k : PK} {kt et : Nat} (h : u70 E t = some (k, kt, et)) : E.P.underlying t = some (.map kt et) ∧ pkOf E.P kt = some k := by
  unfold u70 at h
  split at h
  · rename_i kt' et' hu
    split at h
    · rename_i k' h1
      cases h
      exact ⟨hu, h1⟩
    · cases h
  · cases h
theorem vk6 (hE : E.Ok) {w0 w : World} {G0 : Org} {G : Gh} {L : Nat → Value} {st : St E.S} {a : Act} (h : Inv E w0 G0 st a w G L) (o : Oper) {t d : Nat} (ho : o.op = .makeMap t none) (hd : o.dst = some d) {k : PK} {v : Nat} {κ : St E.S → Option R} {r : R}
    (hr : κ { s := putS st d (.rw st.n), b := upd st.b st.n (some (.mp k v [])), n := st.n + 1, z := st.z } = some r) (Q : Exit → Act → World → Prop) : o.wp E.P a w (Nxt E w0 G0 κ r) Q := by
  obtain ⟨G', L', hI⟩ := h.allocMap hE (k := k) (v := v) (d := d)
  have hex : (execOp a.eval o).run E.P w = .ok (.value (.map (some w.heap.size))) (w.alloc (.map #[] 0)) := by
    unfold execOp
    rw [ho]
    simp [Instr.makeMap]
  unfold Oper.wp
  rw [hex, Oper.upon_value, hd]
  exact ⟨_, G', L', hr, hI⟩
theorem u69 (hE : E.Ok) {w0 w : World} {G0 : Org} {G : Gh} {L : Nat → Value} {st : St E.S} {a : Act} (h : Inv E w0 G0 st a w G L) (o : Oper) {t d : Nat} (ho : o.op = .makeMap t none) (hd : o.dst = some d) {k : IntKind} {v : Nat} {κ : St E.S → Option R} {r : R}
    (hr : κ { s := putS st d (.rw st.n), b := upd st.b st.n (some (.mv k v (List.replicate 16 (.op v none)))), n := st.n + 1, z := st.z } = some r) (Q : Exit → Act → World → Prop) : o.wp E.P a w (Nxt E w0 G0 κ r) Q := by
  obtain ⟨G', L', hI⟩ := h.allocMap hE (k := .int k) (v := v) (d := d)
  have hex : (execOp a.eval o).run E.P w = .ok (.value (.map (some w.heap.size))) (w.alloc (.map #[] 0)) := by
    unfold execOp
    rw [ho]
    simp [Instr.makeMap]
  unfold Oper.wp
  rw [hex, Oper.upon_value, hd]
  refine ⟨_, G', L', hr, ?_⟩
  obtain ⟨hlt, hbx⟩ := hI.st.boxes st.n _ (ub4 _ _ _)
  have := hI.setBox hlt (bx := .mv k v (List.replicate 16 (.op v none))) (.mv k v _ (fun x hx => ⟨none, (List.mem_replicate.1 hx).2⟩) (by rw [u71]; exact hbx.view rfl))
  have e1 : upd (upd st.b st.n (some (.mp (.int k) v []))) st.n (some (.mv k v (List.replicate 16 (.op v none)))) = upd st.b st.n (some (Box.mv k v (List.replicate 16 (AV.op v none)))) := by
    funext c
    unfold upd
    cases Nat.beq c st.n <;> rfl
  simp only [e1] at this
  exact this
def uD2 (w : World) (b : Nat) (ob : Obj) : World := { w with heap := w.heap.setIfInBounds b ob }
theorem uI8 {w : World} {b b' : Nat} {ob : Obj} (h : b' ≠ b) : (uD2 w b ob).heap[b']? = w.heap[b']? := by
  simp [uD2, Array.getElem?_setIfInBounds_ne (Ne.symm h)]
theorem Inv.setMap (hE : E.Ok) {w0 w : World} {G0 : Org} {G : Gh} {L : Nat → Value} {st : St E.S} {a : Act} (h : Inv E w0 G0 st a w G L) {c b : Nat} {k : PK} {v : Nat} {l0' l' : List (k.T × E.S v)} {bx bx' : Box E.S} {es es' : Array MapEntry} {clock clock' : Nat} (hb : st.b c = some bx) (hl : L c = .map (some b)) (hg : G b = some (some c, 0)) (hh : w.heap[b]? = some (.map es clock))
    (hbx : ∀ w', ui3 E w' G L st.n c k v l' → ub2 E w' G L st.n c bx') (hq : ∀ x, aget k.eqb l0' x = aget k.eqb l' x) (he : es'.toList.map (·.key) = l0'.map fun p => k.val p.1) (hv : ∀ (i : Nat) p en X, l0'[i]? = some p → es'.toList[i]? = some en → vm5 E v p.2 = some X → Rep E w G L st.n X en.val) :
    Inv E w0 G0 { s := st.s, b := upd st.b c (some bx'), n := st.n, z := st.z } a (uD2 w b (.map es' clock')) G L := by
  have hlt : b < w.heap.size := (Array.getElem?_eq_some_iff.1 hh).1
  have hnew : (uD2 w b (.map es' clock')).heap[b]? = some (.map es' clock') := by simp [uD2, hlt]
  have hcell : ∀ b' o, (uD2 w b (.map es' clock')).cell? ⟨b', o, none⟩ = w.cell? ⟨b', o, none⟩ := fun b' o => by
    by_cases e : b' = b
    · subst e; rw [(uI2 hnew rfl o).1, (uI2 hh rfl o).1]
    · exact World.cell?_of_block (w := w) (uI8 e)
  have hfz : ∀ b' o, (uD2 w b (.map es' clock')).frozen? ⟨b', o, none⟩ = w.frozen? ⟨b', o, none⟩ := fun b' o => by
    by_cases e : b' = b
    · subst e; rw [(uI2 hnew rfl o).2, (uI2 hh rfl o).2]
    · exact World.frozen?_of_block (w := w) (uI8 e)
  have hf : ∀ b1 o v, Imm G b1 o → w.cell? ⟨b1, o, none⟩ = some v → Imm G b1 o ∧ (uD2 w b (.map es' clock')).cell? ⟨b1, o, none⟩ = some v := fun b' o v h1 h2 => ⟨h1, (hcell b' o).trans h2⟩
  have hsz : (uD2 w b (.map es' clock')).heap.size = w.heap.size := by simp [uD2]
  have hcn := (h.st.boxes c _ hb).1
  refine ⟨⟨fun i => (h.st.slots i).step hf (fun _ _ => rfl) (Nat.le_refl _), h.st.size, fun c' bx1 hc => ?_, fun b' c' u hg' => by rw [hsz]; exact h.st.own b' c' u hg', h.st.one, fun g x hg => (h.st.glob g x hg).step hf (fun _ _ => rfl) (Nat.le_refl _)⟩, ?_, h.df, h.kp⟩
  · by_cases e : c' = c
    · subst e
      simp only [ub4] at hc
      obtain rfl := Option.some.inj hc
      exact ⟨hcn, hbx _ (.mk l0' b es' clock' hl hg hnew he (fun i p en X h1 h2 h3 => (hv i p en X h1 h2 h3).step hf (fun _ _ => rfl) (Nat.le_refl _)) hq)⟩
    · simp only [ud5 _ _ e] at hc
      obtain ⟨h1, h2⟩ := h.st.boxes c' bx1 hc
      refine ⟨h1, h2.step hE h1 hf (fun _ _ => rfl) (Nat.le_refl _) fun b' u hg' => ⟨hg', fun o v hv => ⟨(hcell b' o).trans hv, hfz b' o⟩, fun ob _ hs' => ?_⟩⟩
      have hne : b' ≠ b := fun e' => by
        subst e'
        rw [hg] at hg'
        exact e (by simpa using (Prod.mk.inj (Option.some.inj hg')).1.symm)
      exact (uI8 hne).trans hs'
  · refine h.fr.trans ⟨rfl, rfl, rfl, by rw [hsz]; exact Nat.le_refl _, fun b' h1 h2 => ⟨uI8 fun e => h2 c 0 (e ▸ hg), rfl⟩, hf⟩
theorem uU7 {w0 w : World} {G0 : Org} {G : Gh} {L : Nat → Value} {st : St E.S} {a : Act} (h : Inv E w0 G0 st a w G L) {m : Operand} {c : Nat} (hm : opv st m = .rw c) : a.eval m = L c := by
  have hv := h.st.opv m
  rw [hm] at hv
  generalize a.eval m = v at hv
  cases hv with
  | rw _ hc h' => rfl
theorem vI2 {w0 w : World} {G0 : Org} {G : Gh} {L : Nat → Value} {st : St E.S} {a : Act} (h : Inv E w0 G0 st a w G L) {x : Operand} {v : Value} (hx : opv st x = .v v) : a.eval x = v := by
  have hv := h.st.opv x
  rw [hx] at hv
  generalize a.eval x = u at hv
  exact hv.v_inv
theorem vQ9 {P : Program} {t kt et : Nat} {k : PK} {β : Type} (hu : P.underlying t = some (.map kt et)) (hk : pkOf P kt = some k) (x : k.T) (y : β) (yv : Value) {w : World} {b : Nat} {es : Array MapEntry} {clock : Nat} (hh : w.heap[b]? = some (.map es clock)) {l : List (k.T × β)} (he : es.toList.map (·.key) = l.map fun p => k.val p.1) :
    ∃ es' clock', (Instr.mapUpdate t (.map (some b)) (k.val x) yv).run P w = .ok () (uD2 w b (.map es' clock')) ∧ es'.toList.map (·.key) = (aput k.eqb l x y).map (fun p => k.val p.1) ∧
      ∀ (i : Nat) p en, (aput k.eqb l x y)[i]? = some p → es'.toList[i]? = some en → (p.2 = y ∧ en.val = yv) ∨ ∃ en0, l[i]? = some p ∧ es.toList[i]? = some en0 ∧ en.val = en0.val := by
  have hc := PK.checkKey hk false 9999 x w
  have hlen : es.toList.length = l.length := by have := congrArg List.length he; simpa using this
  cases hg : ut3 k.eqb l x with
  | none =>
    have hf := uG2 hk x he w hg
    refine ⟨es.push { key := k.val x, val := yv, born := clock }, clock + 1, ?_, ?_, ?_⟩
    · simp [Instr.mapUpdate, run_underlying hu, getObj, setObj, Sem.run, hh, hc, hf, uD2]
    · rw [Array.toList_push, List.map_append, he, uJ1 y l hg, List.map_append]
      rfl
    · intro i p en h1 h2
      rw [uJ1 y l hg, List.getElem?_append] at h1
      rw [Array.toList_push, List.getElem?_append] at h2
      rw [hlen] at h2
      split at h1
      · rename_i hi
        rw [if_pos hi] at h2
        exact .inr ⟨en, h1, h2, rfl⟩
      · rename_i hi
        rw [if_neg hi] at h2
        have e0 : i - l.length = 0 := by
          have := (List.getElem?_eq_some_iff.1 h1).1
          simp at this; omega
        rw [e0] at h1 h2
        simp at h1 h2
        subst h1 h2
        exact .inl ⟨rfl, rfl⟩
  | some q =>
    obtain ⟨j, z⟩ := q
    obtain ⟨en1, g1, _, hf⟩ := uG3 hk x he w hg
    obtain ⟨⟨p1, k1, k2⟩, k3⟩ := u03 y l j z hg
    have g1' : es[j]? = some en1 := by rw [← Array.getElem?_toList]; exact g1
    have hkey : en1.key = k.val x := by
      have := congrArg (fun l => l[j]?) he
      simp only [List.getElem?_map, g1, k1, Option.map_some, Option.some.injEq] at this
      rw [this, k2]
    refine ⟨es.modify j fun e => { e with key := k.val x, val := yv }, clock, ?_, ?_, ?_⟩
    · simp [Instr.mapUpdate, run_underlying hu, getObj, setObj, Sem.run, hh, hc, hf, uD2, g1', hkey, Instr.keyThatStays, uY9]
    · rw [Array.toList_modify, k3]
      refine List.ext_getElem? fun i => ?_
      rw [List.getElem?_map, List.getElem?_map, List.getElem?_modify, List.getElem?_set]
      have hei := congrArg (fun l => l[i]?) he
      simp only [List.getElem?_map] at hei
      by_cases hij : j = i
      · subst hij
        have hjl : j < l.length := (List.getElem?_eq_some_iff.1 k1).1
        simp [g1, hjl]
      · simp only [hij, if_false]
        rw [← hei]
        cases es.toList[i]? <;> rfl
    · intro i p en h1 h2
      rw [k3, List.getElem?_set] at h1
      rw [Array.toList_modify, List.getElem?_modify] at h2
      by_cases hij : j = i
      · subst hij
        have hjl : j < l.length := (List.getElem?_eq_some_iff.1 k1).1
        simp [hjl] at h1
        simp [g1] at h2
        subst h1 h2
        exact .inl ⟨rfl, rfl⟩
      · simp only [hij, if_false] at h1 h2
        cases h3 : es.toList[i]? with
        | none => rw [h3] at h2; simp at h2
        | some en0 =>
          rw [h3] at h2
          simp at h2
          subst h2
          exact .inr ⟨en0, h1, rfl, rfl⟩
theorem vg0 (hE : E.Ok) {w : World} {G : Gh} {L : Nat → Value} {n : Nat} {e : Nat} {y : E.S e} {X0 : AV E.S} {v : Value} (hX : Rep E w G L n X0 v) (hag : vh7 E e X0 = true) (hp : E.pack e (cellsOf X0) = some y) {X : AV E.S} (hv : vm5 E e y = some X) : Rep E w G L n X v := by
  obtain ⟨h1, h2⟩ := hE.pack e _ _ hp
  have hlen := hE.len e y
  unfold vm5 at hv
  by_cases hx : ∃ cs, X0 = .agg cs
  · obtain ⟨cs, rfl⟩ := hx
    have hag : vh8 E e = true := hag
    have agg : (bif Nat.beq (((E.cells e y).drop 0).take (E.P.cellsOf e)).length (E.P.cellsOf e) then some (AV.agg (((E.cells e y).drop 0).take (E.P.cellsOf e))) else none) = some X → Rep E w G L n X v := by
      intro hb
      rw [Bool.cond_eq_ite] at hb
      split at hb
      · obtain rfl := Option.some.inj hb
        have e1 : ((E.cells e y).drop 0).take (E.P.cellsOf e) = E.cells e y := by rw [List.drop_zero, List.take_of_length_le (by omega)]
        rw [e1]
        have h1 : cs.length = (E.cells e y).length := h1
        cases hX with
        | agg _ vs hl hr hone =>
          refine .agg _ vs (by rw [← h1]; exact hl) (fun i x u hx hu => ?_) hone
          have hi : i < cs.length := by rw [h1]; exact (List.getElem?_eq_some_iff.1 hx).1
          exact (hr i _ u (List.getElem?_eq_getElem hi) hu).weak (h2 i _ x (List.getElem?_eq_getElem hi) hx)
      · cases hb
    unfold vh8 at hag
    unfold ue8 at hv
    split at hag
    · rename_i fs hu
      rw [hu] at hv
      exact agg hv
    · rename_i len e' hu
      rw [hu] at hv
      exact agg hv
    · cases hag
  · have hag' : vh8 E e = false := by
      cases X0 <;> first | exact absurd ⟨_, rfl⟩ hx | (simpa [vh7] using hag)
    have hc : cellsOf X0 = [X0] := by
      cases X0 <;> first | exact absurd ⟨_, rfl⟩ hx | rfl
    unfold vh8 at hag'
    unfold ue8 at hv
    split at hv
    · rename_i fs hu; rw [hu] at hag'; cases hag'
    · rename_i len e' hu; rw [hu] at hag'; cases hag'
    · exact hX.weak (h2 0 X0 X (by rw [hc]; rfl) hv)
    · cases hv
theorem vg1 (hE : E.Ok) {w0 w : World} {G0 : Org} {G : Gh} {L : Nat → Value} {st : St E.S} {a : Act} (h : Inv E w0 G0 st a w G L) (o : Oper) {t : Nat} {m x y : Operand} (ho : o.op = .mapUpdate t m x y ∨ o.op = .insert t m x y) (hd : o.dst = none) {κ : St E.S → Option R} {r : R}
    {c e kt : Nat} {k : PK} {l : List (k.T × E.S e)} {bx bx' : Box E.S} {a' : k.T} {b' : E.S e} (hm : opv st m = .rw c) (hb : st.b c = some bx) (hx : opv st x = .v (k.val a')) (hty : u70 E t = some (k, kt, e)) (hag : vh7 E e (uh6 st.b (opv st y)) = true) (hb' : E.pack e (cellsOf (uh6 st.b (opv st y))) = some b') (hmr : ui3 E w G L st.n c k e l)
    (hbx : ∀ w', ui3 E w' G L st.n c k e (aput k.eqb l a' b') → ub2 E w' G L st.n c bx') (hr : κ { s := st.s, b := upd st.b c (some bx'), n := st.n, z := st.z } = some r) (Q : Exit → Act → World → Prop) : o.wp E.P a w (Nxt E w0 G0 κ r) Q := by
  obtain ⟨hu, hk⟩ := uR4 hty
  have hrep := um7 hE h.st (h.st.opv y)
  cases hmr with
  | mk l0 bk es clock hl hg hh he hv hq =>
    obtain ⟨es', clock', hrun, he', hv'⟩ := vQ9 hu hk a' b' (a.eval y) hh he
    have hex : (execOp a.eval o).run E.P w = .ok .skip (uD2 w bk (.map es' clock')) := by
      have e1 := uU7 h hm
      have e2 := vI2 h hx
      unfold execOp
      rcases ho with ho | ho <;> (rw [ho]; simp [e1, e2, hl, hrun])
    have hI := h.setMap hE (clock' := clock') hb hl hg hh hbx (l0' := aput k.eqb l0 a' b') (fun z => by rw [uA5, uA5, hq z]) he' fun i p en X h1 h2 h3 => by
      rcases hv' i p en h1 h2 with ⟨e1, e2⟩ | ⟨en0, e1, e2, e3⟩
      · rw [e2]
        rw [e1] at h3
        exact vg0 hE hrep hag hb' h3
      · rw [e3]
        exact hv i p en0 X e1 e2 h3
    unfold Oper.wp
    rw [hex, Oper.upon_skip, hd]
    exact ⟨_, G, L, hr, hI⟩
theorem ve9 (hE : E.Ok) {w0 w : World} {G0 : Org} {G : Gh} {L : Nat → Value} {st : St E.S} {a : Act} (h : Inv E w0 G0 st a w G L) (o : Oper) {t : Nat} {m x y : Operand} (ho : o.op = .mapUpdate t m x y ∨ o.op = .insert t m x y) (hd : o.dst = none) {κ : St E.S → Option R} {r : R}
    (hr : uH5 E st t m x y κ = some r) (Q : Exit → Act → World → Prop) : o.wp E.P a w (Nxt E w0 G0 κ r) Q := by
  unfold uH5 at hr
  split at hr
  case h_2 => cases hr
  rename_i c hm
  split at hr
  · rename_i k e l hb
    split at hr
    case h_2 => cases hr
    rename_i k' kt et xa hty hx
    rw [Bool.cond_eq_ite] at hr
    split at hr
    case isFalse => cases hr
    rename_i hkv
    simp only [Bool.and_eq_true] at hkv
    obtain rfl := PK.beq_eq hkv.1
    obtain rfl := Nat.eq_of_beq_eq_true hkv.2.1
    split at hr
    case h_2 => cases hr
    rename_i a' b' ha' hb'
    obtain rfl := PK.read_val ha'
    obtain ⟨hcn, hbx⟩ := h.st.boxes c _ hb
    exact vg1 hE h o ho hd hm hb hx hty hkv.2.2.2 hb' (hbx.view rfl) (fun w' hw' => .mp _ _ _ hw') hr Q
  · rename_i ik e cs hb
    split at hr
    case h_2 => cases hr
    rename_i k' kt et ik' n hty hx
    rw [Bool.cond_eq_ite] at hr
    split at hr
    case isFalse => cases hr
    rename_i hkv
    simp only [Bool.and_eq_true, decide_eq_true_eq] at hkv
    obtain ⟨h1, rfl, h3, h4, h5, h6⟩ := hkv
    obtain rfl := PK.beq_eq h1
    obtain rfl := Nat.eq_of_beq_eq_true h3
    split at hr
    case h_2 => cases hr
    rename_i b' hb'
    have hn : n < cs.length := Nat.le_of_ble_eq_true h6
    obtain ⟨hcn, hbx⟩ := h.st.boxes c _ hb
    have hcs : ∀ x ∈ cs, ∃ o, x = AV.op et o := by cases hbx with | mv _ _ _ hc _ => exact hc
    refine vg1 hE h o ho hd hm hb (k := .int ik') (a' := (n : Int)) hx hty h5 hb' (hbx.view rfl) (fun w' hw' => .mv _ _ _ (fun x hx => ?_) (hw'.congr fun z => ?_)) hr Q
    · unfold setCells at hx
      simp only [List.mem_append, List.mem_singleton] at hx
      rcases hx with (hx | rfl) | hx
      · exact hcs x (List.mem_of_mem_take hx)
      · exact ⟨_, rfl⟩
      · exact hcs x (List.mem_of_mem_drop hx)
    · exact (uA5 (k := .int ik') (n : Int) b' z _).trans (vk8 hn b' z).symm
  · cases hr
theorem vC7 (hE : E.Ok) {w0 w : World} {G0 : Org} {G : Gh} {L : Nat → Value} {st : St E.S} {a : Act} (h : Inv E w0 G0 st a w G L) (o : Oper) {t : Nat} {m x : Operand} {ok : Bool} (ho : o.op = .lookup t m x ok) {κ : St E.S → Option R} {r : R}
    (hr : uK1 E st o.dst t m x ok κ = some r) (Q : Exit → Act → World → Prop) : o.wp E.P a w (Nxt E w0 G0 κ r) Q := by
  unfold uK1 at hr
  split at hr
  case h_2 => cases hr
  rename_i c hm
  split at hr
  case h_2 => cases hr
  rename_i k e l hb
  split at hr
  case h_2 => cases hr
  rename_i k' kt et xa zc hty hx hzc
  rw [Bool.cond_eq_ite] at hr
  split at hr
  case isFalse => cases hr
  rename_i hkv
  simp only [Bool.and_eq_true] at hkv
  obtain rfl := PK.beq_eq hkv.1
  obtain rfl := Nat.eq_of_beq_eq_true hkv.2.1
  split at hr
  case h_2 => cases hr
  rename_i a' z ha' hz
  obtain rfl := PK.read_val ha'
  obtain ⟨hu, hk⟩ := uR4 hty
  obtain ⟨bx, hbx0, hb⟩ : ∃ bx, st.b c = some bx ∧ vs0 (some bx) = some ⟨k', et, l⟩ := by
    cases hbc : st.b c with
    | none => rw [hbc] at hb; cases hb
    | some bx => rw [hbc] at hb; exact ⟨bx, rfl, hb⟩
  obtain ⟨hcn, hbx⟩ := h.st.boxes c _ hbx0
  have hbx := hbx.view hb
  split at hr
  case h_2 => cases hr
  rename_i Y hY
  obtain ⟨zv, hzero, hzr⟩ : ∃ zv, (zeroValue et).run E.P w = .ok zv w ∧ Rep E w G L st.n zc zv := by
    unfold vI4 at hzc
    split at hzc
    case h_2 => cases hzc
    rename_i i hi
    split at hzc
    case h_2 => cases hzc
    rename_i zv hzv
    rw [Bool.cond_eq_ite] at hzc
    split at hzc
    · obtain rfl := Option.some.inj hzc
      exact ⟨zv, by simp [zeroValue, run_typeInfo (w := w) hi, hzv], Rep.constAV zv⟩
    · cases hzc
  cases hbx with
  | mk l0 bk es clock hl hg hh he hv hq =>
    have hc := PK.checkKey hk es.isEmpty 9999 a' w
    have hget : aget k'.eqb l a' = (ut3 k'.eqb l0 a').map (·.2) := (hq a').symm.trans (vn9 _ _ _)
    obtain ⟨V, hV, hrun⟩ : ∃ V, Rep E w G L st.n Y V ∧ (Instr.lookup t (.map (some bk)) (k'.val a') ok).run E.P w = .ok (if ok then .tuple #[V, .bool (aget k'.eqb l a').isSome] else V) w := by
      rw [hget] at hY ⊢
      cases hgi : ut3 k'.eqb l0 a' with
      | none =>
        rw [hgi] at hY
        have hf := uG2 hk a' he w hgi
        refine ⟨zv, vg0 hE hzr hkv.2.2 hz hY, ?_⟩
        simp [Instr.lookup, run_underlying hu, getObj, Sem.run, hh, hc, hf, hzero]
      | some q =>
        obtain ⟨j, y⟩ := q
        rw [hgi] at hY
        obtain ⟨en, g1, g2, hf⟩ := uG3 hk a' he w hgi
        obtain ⟨p, g3, g4⟩ := Option.map_eq_some_iff.1 g2
        refine ⟨en.val, hv j p en Y g3 g1 (by rw [g4]; exact hY), ?_⟩
        simp [Instr.lookup, run_underlying hu, getObj, Sem.run, hh, hc, hf]
    have e1 := uU7 h hm
    have e2 := vI2 h hx
    have hex : (execOp a.eval o).run E.P w = .ok (.value (if ok then .tuple #[V, .bool (aget k'.eqb l a').isSome] else V)) w := by
      unfold execOp
      rw [ho]
      simp [e1, e2, hl, hrun]
    have one : ∀ (X : AV E.S) (V : Value), Rep E w G L st.n X V → κ (put st o.dst X) = some r → (execOp a.eval o).run E.P w = .ok (.value V) w → o.wp E.P a w (Nxt E w0 G0 κ r) Q := by
      intro X V hX hκ hex
      have hI2 := h.st.put (Below.refl _ _) (d := o.dst) (a := a) (x := X) (v := V) hX
      unfold Oper.wp
      rw [hex, Oper.upon_value]
      refine ⟨_, G, L, hκ, ⟨hI2, h.fr, by rw [ue0]; exact h.df, ?_⟩⟩
      have : (put st o.dst X).n = st.n := by cases o.dst <;> rfl
      rw [this]; exact h.kp
    cases ok with
    | false => exact one _ _ hV hr hex
    | true =>
      refine one _ _ (.tup _ [V, .bool (aget k'.eqb l a').isSome] rfl fun i x y hi hy => ?_) hr hex
      match i, hi, hy with
      | 0, hi, hy => cases hi; cases hy; exact hV
      | 1, hi, hy => cases hi; cases hy; exact .v _ rfl
      | i + 2, hi, _ => simp at hi
def uB1 {α : Type} (l : List α) : Nat → List α → List α
 | _, [] => l
 | i, x :: m => uB1 (l.set i x) (i + 1) m
theorem u11 {α : Type} : ∀ (m l : List α) (i : Nat), i + m.length ≤ l.length → uB1 l i m = l.take i ++ m ++ l.drop (i + m.length)
 | [], l, i, h => by simp [uB1]
 | x :: m, l, i, h => by
   simp only [List.length_cons] at h
   unfold uB1
   rw [u11 m (l.set i x) (i + 1) (by simp; omega)]
   have h1 : (l.set i x).take (i + 1) = l.take i ++ [x] := by
     rw [List.take_add_one, List.take_set_of_le (Nat.le_refl _), List.getElem?_set_self (by omega)]
     try rfl
   have h2 : (l.set i x).drop (i + 1 + m.length) = l.drop (i + 1 + m.length) := List.drop_set_of_lt (by omega)
   rw [h1, h2]
   simp [Nat.add_assoc, Nat.add_comm 1]
theorem Inv.rowFill (hE : E.Ok) {w0 : World} {G0 : Org} {G : Gh} {L : Nat → Value} {a : Act} {c e b o0 len cap : Nat} (hc1 : E.P.cellsOf e = 1) (hl : L c = .slice (some ⟨b, o0, none⟩) len cap) : ∀ (m : List (E.S e)) (vs : List Value) (i : Nat) (l : List (E.S e)) {w : World} {st : St E.S}, Inv E w0 G0 st a w G L → st.b c = some (.row e l false) → vs.length = m.length → i + m.length ≤ l.length → (∀ v ∈ vs, v.oneCell' = true) →
    (∀ (j : Nat) x u cc, m[j]? = some x → vs[j]? = some u → (E.cells e x)[0]? = some cc → Rep E w G L st.n cc u) →
    (∀ j, j < vs.length → (w.cell? ⟨b, o0 + i + j, none⟩).isSome = true ∧ w.frozen? ⟨b, o0 + i + j, none⟩ = false) ∧ Inv E w0 G0 { st with b := upd st.b c (some (.row e (uB1 l i m) false)) } a (w.setCells b (o0 + i) vs) G L
 | [], [], i, l, w, st, h, hb, _, _, _, _ => by
   refine ⟨fun j hj => by simp at hj, ?_⟩
   have e1 : upd st.b c (some (.row e (uB1 l i []) false)) = st.b := by
     funext k
     by_cases hk : k = c
     · subst hk; rw [ub4, hb]; rfl
     · rw [ud5 _ _ hk]
   rw [e1]
   exact h
 | [], _ :: _, _, _, _, _, _, _, hlen, _, _, _ => by simp at hlen
 | _ :: _, [], _, _, _, _, _, _, hlen, _, _, _ => by simp at hlen
 | x :: m, v :: vs, i, l, w, st, h, hb, hlen, hle, hone, hrep => by
   simp only [List.length_cons] at hlen hle
   have hcl : (E.cells e x).length = 1 := by rw [hE.len, hc1]
   obtain ⟨cc, hcc⟩ : ∃ cc, E.cells e x = [cc] := by
     match hx : E.cells e x, hcl with
     | [cc], _ => exact ⟨cc, rfl⟩
   have hi : i < l.length := by omega
   have hy : idx l (i : Int) = some l[i] := by unfold idx; rw [if_pos (by omega), Int.toNat_natCast, List.getElem?_eq_getElem hi]
   have hset : setCells (E.cells e l[i]) 0 [cc] = [cc] := by
     have : (E.cells e l[i]).length = 1 := by rw [hE.len, hc1]
     unfold setCells
     rw [List.take_zero, List.nil_append, Nat.zero_add, List.drop_of_length_le (by simp; omega)]
     rfl
   have hr1 : RL E w G L st.n [cc] [v] := ⟨rfl, fun k p q hp hq => by
     cases k with
     | zero => simp at hp hq; subst hp hq; exact hrep 0 x v cc rfl rfl (by rw [hcc]; rfl)
     | succ k => simp at hp, fun y hy => by obtain rfl := List.mem_singleton.1 hy; exact hone _ (List.mem_cons_self ..)⟩
   obtain ⟨ht, hI⟩ := h.rowStoreW hE hb hl hr1 hy (y' := x) (off := 0) (by rw [hset, hcc]; exact ⟨rfl, fun j c1 c2 h1 h2 => by rw [h1] at h2; cases h2; exact .refl _⟩) (by rw [hc1]; simp)
   simp only [hc1, Int.toNat_natCast, Nat.mul_one, Nat.add_zero] at ht hI
   have hthere := ht 0 (by simp)
   have hkeep : ∀ {X : AV E.S} {V : Value}, Rep E w G L st.n X V → Rep E (w.setCells b (o0 + i) [v]) G L st.n X V := by
     intro X V hX
     refine hX.step (fun b' o u hi hc => ⟨hi, ?_⟩) (fun _ _ => rfl) (Nat.le_refl _)
     by_cases hne : b' = b
     · subst hne
       obtain ⟨_, hbx⟩ := h.st.boxes c _ hb
       cases hbx with
       | nil => simp at hi
       | row _ _ _ b2 o2 cap2 hrow =>
         have hloc := hrow.loc
         rw [hl] at hloc
         simp only [Value.slice.injEq, Option.some.injEq, Addr.mk.injEq, and_true] at hloc
         obtain ⟨⟨rfl, rfl⟩, rfl, rfl⟩ := hloc
         rcases hrow.own with ⟨_, h1, _⟩ | ⟨u', hg, _, hu0, _⟩
         · rcases h1 with h1 | h1
           · cases h1
           · subst h1; simp at hle
         · obtain rfl := hu0 rfl
           exact absurd (hi (some c) 0 hg) (by omega)
     · rw [uc3 _ hne]; exact hc
   have hb2 : ({ st with b := upd st.b c (some (.row e (l.set i x) false)) } : St E.S).b c = some (.row e (l.set i x) false) := ub4 ..
   obtain ⟨k1, k2⟩ := Inv.rowFill hE hc1 hl m vs (i + 1) (l.set i x) hI hb2 (by omega) (by simp; omega) (fun u hu => hone u (List.mem_cons_of_mem _ hu)) (fun j y u cc' h1 h2 h3 => hkeep (hrep (j + 1) y u cc' (by simpa using h1) (by simpa using h2) h3))
   refine ⟨fun j hj => ?_, ?_⟩
   · cases j with
     | zero => simpa using hthere
     | succ j =>
       obtain ⟨c1, c2⟩ := k1 j (by simpa using hj)
       rw [show o0 + i + (j + 1) = o0 + (i + 1) + j by omega]
       rw [World.frozen?_setCells] at c2
       refine ⟨?_, c2⟩
       rw [World.cell?_setCells_out b [v] (o0 + i) w _ (fun _ _ => .inr (by simp; omega))] at c1
       exact c1
   · have e1 : (w.setCells b (o0 + i) [v]).setCells b (o0 + (i + 1)) vs = w.setCells b (o0 + i) (v :: vs) := rfl
     have e2 : upd (upd st.b c (some (.row e (l.set i x) false))) c (some (.row e (uB1 (l.set i x) (i + 1) m) false)) = upd st.b c (some (.row e (uB1 l i (x :: m)) false)) := by
       funext k
       by_cases hk : k = c
       · subst hk; rw [ub4, ub4]; rfl
       · rw [ud5 _ _ hk, ud5 _ _ hk, ud5 _ _ hk]
     rw [e1] at k2
     simp only [e2] at k2
     exact k2
theorem vO6 (hE : E.Ok) {w0 w : World} {G0 : Org} {G : Gh} {L : Nat → Value} {st : St E.S} {a : Act} (h : Inv E w0 G0 st a w G L) (o : Oper) {c : Call} (ho : o.op = .call c) (hc : c.callee = .builtin .copy) {x y : AV E.S} (hxs : c.args.toList.map (opv (E := E) st) = [x, y]) {t t' : Nat} (ht : c.argTypes.toList = [t, t'])
    {κ : St E.S → Option R} {r : R} (hr : uG0 E st o.dst t x y κ = some r) (Q : Exit → Act → World → Prop) : o.wp E.P a w (Nxt E w0 G0 κ r) Q := by
  unfold uG0 at hr
  split at hr
  case h_2 => cases hr
  rename_i cb
  split at hr
  case h_2 => cases hr
  rename_i e l hb
  split at hr
  case h_2 => cases hr
  rename_i e' m he hm
  rw [Bool.cond_eq_ite] at hr
  split at hr
  case isFalse => cases hr
  rename_i hk
  simp only [Bool.and_eq_true] at hk
  obtain rfl := Nat.eq_of_beq_eq_true hk.1
  have hc1 := Nat.eq_of_beq_eq_true hk.2.1
  obtain ⟨ie, hie⟩ := Option.isSome_iff_exists.1 hk.2.2
  obtain ⟨a1, a2, ha⟩ : ∃ a1 a2, c.args = #[a1, a2] := by
    have hlen : c.args.toList.length = 2 := by
      have := congrArg List.length hxs
      simpa using this
    match hq : c.args.toList, hlen with
    | [a1, a2], _ => exact ⟨a1, a2, by rw [← Array.toArray_toList (xs := c.args), hq]⟩
  have hty : c.argTypes = #[t, t'] := by rw [← Array.toArray_toList (xs := c.argTypes), ht]
  rw [ha] at hxs
  simp only [List.map_cons, List.map_nil, List.cons.injEq, and_true] at hxs
  obtain ⟨hx1, rfl⟩ := hxs
  have hu : E.P.underlying t = some (.slice e') := by
    unfold un2 at he
    split at he
    · rename_i h1; rw [h1]; exact congrArg _ (congrArg _ (Option.some.inj he))
    · cases he
  have hs1 : (E.P.info? e').map (·.size) = some 1 := by
    rw [hie]
    have : ie.size = E.P.cellsOf e' := by simp [Program.cellsOf, hie]
    simp [this, hc1]
  have hv1 : a.eval a1 = L cb := uU7 h hx1
  have hel := uA7 hE h.st (h.st.opv a2) hm
  obtain ⟨vs, hf1, hf2⟩ := hel.flat hE
  obtain ⟨hcn, hbx⟩ := h.st.boxes cb _ hb
  have fin : ∀ {w' : World} {st' : St E.S}, Inv E w0 G0 st' a w' G L → st' = { st with b := upd st.b cb (some (.row e' (over l m) false)) } → (Builtin.copy_ #[t, t'] o.type #[L cb, a.eval a2]).run E.P w = .ok (goInt ((min l.length m.length : Nat) : Int)) w' → o.wp E.P a w (Nxt E w0 G0 κ r) Q := by
    rintro w' st' hI rfl hrun
    have hex : (execOp a.eval o).run E.P w = .ok (.value (goInt ((min l.length m.length : Nat) : Int))) w' := by
      unfold execOp
      rw [ho]
      simp [resolve, hc, ha, hty, invoke, builtin, hv1, hrun]
    unfold Oper.wp
    rw [hex, Oper.upon_value]
    exact ⟨_, G, L, hr, hI.put (Below.refl _ _) (.v _ rfl)⟩
  have stay : min l.length m.length = 0 → upd st.b cb (some (.row e' (over l m) false)) = st.b := by
    intro h0
    have : over l m = l := by
      unfold over
      rcases Nat.eq_zero_or_pos m.length with hm0 | hm0
      · obtain rfl := List.eq_nil_of_length_eq_zero hm0
        simp
      · have : l = [] := List.eq_nil_of_length_eq_zero (by omega)
        subst this
        simp
    funext k
    by_cases hk : k = cb
    · subst hk; rw [ub4, hb, this]
    · rw [ud5 _ _ hk]
  obtain ⟨d0, cap, hL⟩ : ∃ d0 cap, L cb = .slice d0 l.length cap := by
    cases hbx with
    | nil _ _ o hl => exact ⟨o, 0, hl⟩
    | row _ _ _ b off cap hrow => exact ⟨_, cap, hrow.loc⟩
  obtain ⟨s0, scap, hS⟩ : ∃ s0 scap, a.eval a2 = .slice s0 m.length scap := by
    rcases hf2 with ⟨h1, h2⟩ | ⟨b, off, cap, h1, _, _⟩ | ⟨ad, h1, h2⟩
    · exact ⟨none, 0, by rw [h1, h2]; rfl⟩
    · exact ⟨_, cap, h1⟩
    · exact ⟨some ad, 0, by rw [h1, h2]; rfl⟩
  by_cases h0 : min l.length m.length = 0
  · have hrun := run_copy_none (P := E.P) w t t' o.type e' d0 s0 l.length cap m.length scap hu hs1 (show min m.length l.length = 0 by omega)
    rw [← hL, ← hS] at hrun
    refine fin h ?_ (by rw [h0]; exact hrun)
    rw [stay h0]
  · have hml : m ≠ [] := fun e => by rw [e] at h0; simp at h0
    have hll : l ≠ [] := fun e => by rw [e] at h0; simp at h0
    obtain ⟨b2, off2, cap2, hS2, hle2, hcells⟩ : ∃ b off cap, a.eval a2 = .slice (some ⟨b, off, none⟩) m.length cap ∧ m.length ≤ cap ∧ ∀ j u, vs[j]? = some u → w.cell? ⟨b, off + j, none⟩ = some u := by
      rcases hf2 with ⟨h1, h2⟩ | h2 | ⟨ad, h1, h2⟩
      · exact absurd h2 hml
      · exact h2
      · exact absurd h2 hml
    cases hbx with
    | nil _ _ _ hl => exact absurd rfl hll
    | row _ _ _ b off cap' hrow =>
      have hvl : vs.length = m.length := by have := hf1.len; rw [hc1, Nat.mul_one] at this; exact this
      have hmin : Nat.min m.length l.length = min l.length m.length := Nat.min_comm ..
      obtain ⟨k1, k2⟩ := Inv.rowFill (E := E) hE hc1 hrow.loc (m.take (min l.length m.length)) (vs.take (min l.length m.length)) 0 l h hb (by simp; omega) (by simp; omega) (fun v hv => hf1.one v (List.mem_of_mem_take hv))
        (fun j x u cc h1 h2 h3 => by
          rw [List.getElem?_take] at h1 h2
          split at h1
          · rename_i hj
            rw [if_pos hj] at h2
            obtain ⟨u', h4, h5⟩ := hf1.rep j x 0 cc h1 h3
            rw [hc1, Nat.mul_one, Nat.add_zero, h2] at h4
            cases h4
            exact h5
          · cases h1)
      simp only [Nat.add_zero] at k1 k2
      have hrun := run_copy_cells (P := E.P) w t t' o.type e' b off l.length cap' ⟨b2, off2, none⟩ m.length cap2 (vs.take (min l.length m.length)) hu hs1 (by rw [hmin]; simp; omega)
        (fun j v hj => by
          rw [List.getElem?_take] at hj
          split at hj
          · have := hcells j v hj
            by_cases hj0 : j = 0
            · subst hj0; simpa [Addr.add] using this
            · simpa [Addr.add, hj0] using this
          · cases hj) (fun j hj => (k1 j hj).1) (fun j hj => (k1 j hj).2) (fun v hv => hf1.one v (List.mem_of_mem_take hv))
      rw [← hrow.loc, ← hS2] at hrun
      have e2 : (vs.take (min l.length m.length)).length = min l.length m.length := by simp; omega
      rw [e2] at hrun
      have e3 : uB1 l 0 (m.take (min l.length m.length)) = over l m := by
        rw [u11 _ _ _ (by simp; omega)]
        unfold over
        simp only [List.take_zero, List.nil_append, Nat.zero_add, List.length_take]
        have e6 : min (min l.length m.length) m.length = min l.length m.length := by omega
        rw [e6]
        by_cases hh : m.length ≤ l.length
        · rw [show min l.length m.length = m.length by omega, List.take_of_length_le (Nat.le_refl _), List.take_of_length_le hh]
        · rw [show min l.length m.length = l.length by omega, List.drop_of_length_le (Nat.le_refl _), List.drop_of_length_le (by omega)]
      rw [e3] at k2
      exact fin k2 rfl hrun
end Go.Proofs.YtaennkkcnhfglaaGreatDoor.Ev
