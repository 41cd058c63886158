/- A part of the proof. -/
import Derived.Test.YtaennkkcnhfglaaGreatDoorSEvOp
import Derived.Laws.Tables
set_option linter.unusedVariables false
namespace Go.Proofs.YtaennkkcnhfglaaGreatDoor.Ev
open Go.RowKit
variable {E : Env}
theorem uw5 {t : Nat} {z : List (AV E.S)} (h : zeroCells E t = some z) : ∃ i v, E.P.info? t = some i ∧ i.zero = some v ∧ z = cellsOf (constAV v) ∧ okC (constAV (S := E.S) v) = true := by
  unfold zeroCells at h
  split at h
  · rename_i i hi
    split at h
    · rename_i v hv
      cases hb : okC (constAV (S := E.S) v) with
      | false => simp [hb] at h
      | true => simp [hb] at h; exact ⟨i, v, hi, hv, h.symm, hb⟩
    · cases h
  · cases h
theorem RL.const {w : World} {G : Gh} {L : Nat → Value} {n : Nat} (hL : ∀ c, c < n → (L c).oneCell' = true) {v : Value} (h : okC (constAV (S := E.S) v) = true) : RL E w G L n (cellsOf (constAV v)) v.cells.toList :=
  (Rep.constAV v).cells hL (uu3 h)
theorem uJ6 {w : World} {G : Gh} {L : Nat → Value} {n : Nat} (hL : ∀ c, c < n → (L c).oneCell' = true) {t : Nat} {z : List (AV E.S)} (hz : zeroCells E t = some z) {place : Nat → Option (Nat × Nat)}
    {ps : List (Nat × AV E.S)} {pv : Array (Nat × Value)} (hl : ps.length = pv.toList.length) (hp : ∀ (i : Nat) (p : Nat × AV E.S) (q : Nat × Value), ps[i]? = some p → pv.toList[i]? = some q → p.1 = q.1 ∧ Rep E w G L n p.2 q.2)
    {cs : List (AV E.S)} (hf : uo6 z (ps.map fun p => (place p.1, p.2)) = some cs)
    (hb : ∀ (i : TypeInfo) (v : Value) (va : Array Value), E.P.info? t = some i → i.zero = some v → Instr.fill place v.cells pv.toList = some va → E.P.built t pv.toList = some va) :
    uc5 E w G L n (.agg cs) (Instr.build t pv) := by
  obtain ⟨i, v, hi, hv, rfl, hok⟩ := uw5 hz
  obtain ⟨va, h1, h2⟩ := uQ9 hL place ps pv.toList _ v.cells cs hl hp (RL.const hL hok) hf
  refine .here (run_build w t pv va (hb i v va hi hv h1)) ?_
  have := Rep.agg (E := E) cs va.toList h2.len h2.rep h2.one
  simpa using this
theorem u41 {α : Type} (l a c : List α) (x : Nat) (h : x ≤ l.length) : setCells (setCells l x a) (x + a.length) c = setCells l x (a ++ c) := by
  have e : (l.take x ++ a).length = x + a.length := by simp; omega
  have key : ∀ (p d : List α), (p ++ d).take p.length ++ c ++ (p ++ d).drop (p.length + c.length) = p ++ c ++ d.drop c.length := by
    intro p d
    rw [List.take_left, ← List.drop_drop, List.drop_left]
  unfold setCells
  rw [← e, key, List.drop_drop, e]
  simp [List.append_assoc, Nat.add_assoc]
theorem uQ8 (size : Nat) : ∀ (pv : List (Nat × Value)) (k : Nat) (va : Array Value), (∀ (i : Nat) (q : Nat × Value), pv[i]? = some q → q.1 = k + i ∧ q.2.cells.size = size) → (k + pv.length) * size ≤ va.size →
    ∃ va', Instr.fill (fun i => some (i * size, size)) va pv = some va' ∧ va'.toList = setCells va.toList (k * size) (pv.flatMap fun q => q.2.cells.toList)
 | [], k, va, _, _ => ⟨va, rfl, by simp [setCells]⟩
 | q :: pv, k, va, h, hle => by
   obtain ⟨i, v⟩ := q
   obtain ⟨h1, h2⟩ := h 0 _ rfl
   simp only [Nat.add_zero] at h1 h2
   subst h1
   have e1 : (i + (pv.length + 1)) * size = i * size + size + pv.length * size := by rw [Nat.add_mul, Nat.add_mul]; omega
   simp only [List.length_cons] at hle
   have hfold := uK3 (i * size) v.cells.toList 0 va (by simp; omega)
   rw [Nat.add_zero] at hfold
   have hva : (v.cells.zipIdx.foldl (fun cs (x : Value × Nat) => cs.setIfInBounds (i * size + x.2) x.1) va).toList = setCells va.toList (i * size) v.cells.toList := by
     rw [← Array.foldl_toList]
     simpa using hfold
   have hsz : (v.cells.zipIdx.foldl (fun cs (x : Value × Nat) => cs.setIfInBounds (i * size + x.2) x.1) va).size = va.size := by
     rw [← Array.length_toList, hva, ue1 _ _ _ (by simp; omega)]; simp
   obtain ⟨va', h3, h4⟩ := uQ8 size pv (i + 1) (v.cells.zipIdx.foldl (fun cs (x : Value × Nat) => cs.setIfInBounds (i * size + x.2) x.1) va) (fun j q hq => by
     have := h (j + 1) q (by simpa using hq)
     exact ⟨by omega, this.2⟩) (by rw [hsz]; have : (i + 1 + pv.length) * size = (i + (pv.length + 1)) * size := by congr 1; omega
                                   omega)
   refine ⟨va', ?_, ?_⟩
   · unfold Instr.fill
     simp only
     rw [if_neg (by simp [h2]; omega)]
     exact h3
   · rw [h4, hva]
     have e2 : (i + 1) * size = i * size + v.cells.toList.length := by rw [Nat.add_mul]; simp [h2]
     rw [e2]
     simp only [List.flatMap_cons]
     exact u41 _ _ _ _ (by simp; omega)
theorem vf0 {α β : Type} (f : α → List β) (size : Nat) : ∀ (l : List α), (∀ x ∈ l, (f x).length = size) → (l.flatMap f).length = l.length * size
 | [], _ => by simp
 | x :: l, h => by
   rw [List.flatMap_cons, List.length_append, vf0 f size l (fun y hy => h y (List.mem_cons_of_mem _ hy)), h x (List.mem_cons_self ..), List.length_cons, Nat.add_mul]
   omega
theorem vq6 {α β : Type} (f : α → List β) (size : Nat) : ∀ (l : List α), (∀ x ∈ l, (f x).length = size) → ∀ (i j : Nat) x, l[i]? = some x → j < size → (l.flatMap f)[i * size + j]? = (f x)[j]?
 | [], _, i, j, x, h, _ => by simp at h
 | y :: l, h, 0, j, x, hx, hj => by
   obtain rfl := Option.some.inj hx
   rw [List.flatMap_cons, List.getElem?_append, if_pos (by rw [h y (List.mem_cons_self ..)]; omega)]
   simp
 | y :: l, h, i + 1, j, x, hx, hj => by
   have e : (i + 1) * size + j = size + (i * size + j) := by rw [Nat.add_mul]; omega
   rw [List.flatMap_cons, List.getElem?_append, h y (List.mem_cons_self ..), e, if_neg (by omega), Nat.add_sub_cancel_left]
   exact vq6 f size l (fun z hz => h z (List.mem_cons_of_mem _ hz)) i j x (by simpa using hx) hj
theorem uu0 : ∀ (l : List (Nat × Operand)) (k : Nat), uy3 k l = true → ∀ (i : Nat) p, l[i]? = some p → p.1 = k + i
 | [], _, _, i, p, h => by simp at h
 | (j, x) :: l, k, h, i, p, hp => by
   unfold uy3 at h
   cases hb : Nat.beq j k with
   | false => simp [hb] at h
   | true =>
     simp only [hb, cond_true] at h
     obtain rfl := Nat.eq_of_beq_eq_true hb
     cases i with
     | zero => obtain rfl := Option.some.inj hp; rfl
     | succ i => have := uu0 l (j + 1) h i p (by simpa using hp); omega
theorem uE9 {e : Nat} : ∀ (xs : List (AV E.S)) (l : List (E.S e)), uL9 E e xs = some l → l.length = xs.length ∧ ∀ (i : Nat) x y, xs[i]? = some x → l[i]? = some y → E.pack e (cellsOf x) = some y
 | [], l, h => by obtain rfl := Option.some.inj h; exact ⟨rfl, fun i x y h => by simp at h⟩
 | x :: xs, l, h => by
   unfold uL9 at h
   split at h
   · rename_i y ys hy hys
     obtain rfl := Option.some.inj h
     obtain ⟨h1, h2⟩ := uE9 xs ys hys
     refine ⟨by simp [h1], fun i x' y' hx hy' => ?_⟩
     cases i with
     | zero => obtain rfl := Option.some.inj hx; obtain rfl := Option.some.inj hy'; exact hy
     | succ i => exact h2 i x' y' (by simpa using hx) (by simpa using hy')
   · cases h
theorem Weak.cell {S : Nat → Type} {x y : AV S} (h : Weak x y) (hy : y.isCell = true) : x.isCell = true := by cases h <;> first | exact hy | rfl
theorem vE0 (hE : E.Ok) {e : Nat} {x : AV E.S} {y : E.S e} (h : E.pack e (cellsOf x) = some y) : x.isCell = true ∨ ∃ cs, x = .agg cs := by
  obtain ⟨h1, h2⟩ := hE.pack e _ y h
  cases x with
  | tup vs =>
    have hl : (E.cells e y).length = 1 := by rw [← h1]; rfl
    obtain ⟨c, hc⟩ : ∃ c, (E.cells e y)[0]? = some c := ⟨_, List.getElem?_eq_getElem (by omega)⟩
    have := (h2 0 _ c rfl hc).cell (hE.cell e y c (List.mem_of_getElem? hc)).1
    simp [AV.isCell] at this
  | dead =>
    have hl : (E.cells e y).length = 1 := by rw [← h1]; rfl
    obtain ⟨c, hc⟩ : ∃ c, (E.cells e y)[0]? = some c := ⟨_, List.getElem?_eq_getElem (by omega)⟩
    have := (h2 0 _ c rfl hc).cell (hE.cell e y c (List.mem_of_getElem? hc)).1
    simp [AV.isCell] at this
  | agg cs => exact .inr ⟨cs, rfl⟩
  | _ => exact .inl rfl
theorem uE8 (hE : E.Ok) {w : World} {G : Gh} {L : Nat → Value} {n : Nat} (hL : ∀ c, c < n → (L c).oneCell' = true) {e : Nat} {x : AV E.S} {y : E.S e} {v : Value} (h : E.pack e (cellsOf x) = some y) (hx : Rep E w G L n x v) :
    RL E w G L n (E.cells e y) v.cells.toList := by
  have hc := hx.cells hL (vE0 hE h)
  obtain ⟨h1, h2⟩ := hE.pack e _ y h
  have hl := hc.len
  refine ⟨by omega, fun i a b ha hb => ?_, hc.one⟩
  have hi : i < (cellsOf x).length := by have := (List.getElem?_eq_some_iff.1 ha).1; omega
  exact (hc.rep i _ b (List.getElem?_eq_getElem hi) hb).weak (h2 i _ a (List.getElem?_eq_getElem hi) ha)
theorem ux0 (hE : E.Ok) {w : World} {G : Gh} {L : Nat → Value} {n : Nat} (hL : ∀ c, c < n → (L c).oneCell' = true) (hG : ∀ b c u, G b = some (c, u) → b < w.heap.size) {t e m : Nat} (hu : E.P.underlying t = some (.slice e)) {z : List (AV E.S)} (hz : zeroCells E e = some z)
    {xs : List (AV E.S)} {l : List (E.S e)} (hl : uL9 E e xs = some l) {pv : Array (Nat × Value)} (hpl : xs.length = pv.toList.length) (hm : pv.toList.length = m) (hsm : m * E.P.cellsOf e ≤ 16777216)
    (hp : ∀ (i : Nat) x (q : Nat × Value), xs[i]? = some x → pv.toList[i]? = some q → q.1 = i ∧ Rep E w G L n x q.2) :
    ∃ fl : Array Value, (Instr.buildSlice t m pv).run E.P w = .ok (.slice (some ⟨w.heap.size, 0, none⟩) m m) (w.alloc (.cells fl e)) ∧ l.length = m ∧ fl.toList.length = m * E.P.cellsOf e ∧ (∀ v ∈ fl.toList, v.oneCell' = true) ∧
      ∀ (i : Nat) x (j : Nat) c, l[i]? = some x → (E.cells e x)[j]? = some c → ∃ v, fl.toList[i * E.P.cellsOf e + j]? = some v ∧ Rep E w G L n c v := by
  obtain ⟨ie, zv, hi, hv, rfl, hok⟩ := uw5 hz
  have hsz : ie.size = E.P.cellsOf e := by simp [Program.cellsOf, hi]
  obtain ⟨hll, hpk⟩ := uE9 xs l hl
  have hpart : ∀ (i : Nat) (q : Nat × Value), pv.toList[i]? = some q → ∃ y, l[i]? = some y ∧ q.1 = i ∧ RL E w G L n (E.cells e y) q.2.cells.toList := by
    intro i q hq
    have hi2 : i < pv.toList.length := (List.getElem?_eq_some_iff.1 hq).1
    have hx := List.getElem?_eq_getElem (show i < xs.length by omega)
    have hy := List.getElem?_eq_getElem (show i < l.length by omega)
    obtain ⟨h1, h2⟩ := hp i _ q hx hq
    exact ⟨_, hy, h1, uE8 hE hL (hpk i _ _ hx hy) h2⟩
  have hqs : ∀ (i : Nat) (q : Nat × Value), pv.toList[i]? = some q → q.1 = 0 + i ∧ q.2.cells.size = ie.size := by
    intro i q hq
    obtain ⟨y, h1, h2, h3⟩ := hpart i q hq
    refine ⟨by omega, ?_⟩
    have := h3.len
    rw [hE.len] at this
    simp at this
    omega
  obtain ⟨C0, hC0⟩ : ∃ C0 : Array Value, C0.size = m * ie.size ∧ ∀ fl : Array Value, Instr.fill (fun i => some (i * ie.size, ie.size)) C0 pv.toList = some fl → (Instr.buildSlice t m pv).run E.P w = .ok (.slice (some ⟨w.heap.size, 0, none⟩) m m) (w.alloc (.cells fl e)) := by
    have h24 : ¬ m * ie.size > 2 ^ 24 := by rw [hsz]; omega
    by_cases h0 : m * ie.size = 0
    · refine ⟨#[], by simp [h0], fun fl hf => ?_⟩
      have h24' : ¬ 2 ^ 24 < m * ie.size := h24
      have e0 : Array.map (fun _ => (default : Value)) (Array.range 0) = #[] := by simp [Array.range]
      simp [Instr.buildSlice, run_underlying hu, sizeOf, typeInfo, hi, h0, newRow, e0, hf]
    · refine ⟨(Array.range (m * ie.size)).map (zv.cells[· % zv.cells.size]!), by simp, fun fl hf => ?_⟩
      have h24' : ¬ 16777216 < m * ie.size := h24
      simp [Instr.buildSlice, run_underlying hu, sizeOf, typeInfo, zeroValue, hi, hv, h24', h0, newRow, hf]
  obtain ⟨fl, hf1, hf2⟩ := uQ8 ie.size pv.toList 0 C0 hqs (by rw [hC0.1, Nat.zero_add, hm]; exact Nat.le_refl _)
  have hflen : (pv.toList.flatMap fun q => q.2.cells.toList).length = m * ie.size := by
    rw [vf0 (fun q : Nat × Value => q.2.cells.toList) ie.size pv.toList (fun q hq => by
      obtain ⟨i, hi⟩ := List.getElem?_of_mem hq
      simpa using (hqs i q hi).2), hm]
  have hfl : fl.toList = pv.toList.flatMap fun q => q.2.cells.toList := by
    rw [hf2]
    unfold setCells
    simp only [Nat.zero_mul, List.take_zero, List.nil_append, Nat.zero_add]
    rw [List.drop_eq_nil_of_le (by rw [hflen]; simp [hC0.1]), List.append_nil]
  have hrun := hC0.2 fl hf1
  have hlm : l.length = m := by omega
  have hat : ∀ (i : Nat) x (j : Nat) c, l[i]? = some x → (E.cells e x)[j]? = some c → ∃ v, fl.toList[i * E.P.cellsOf e + j]? = some v ∧ Rep E w G L n c v := by
    intro i x j c hx hc
    have hi2 : i < l.length := (List.getElem?_eq_some_iff.1 hx).1
    have hj : j < E.P.cellsOf e := by rw [← hE.len e x]; exact (List.getElem?_eq_some_iff.1 hc).1
    have hq := List.getElem?_eq_getElem (show i < pv.toList.length by omega)
    obtain ⟨y, h1, h2, h3⟩ := hpart i _ hq
    rw [hx] at h1
    obtain rfl := Option.some.inj h1
    rw [hfl, ← hsz, vq6 (fun q : Nat × Value => q.2.cells.toList) ie.size pv.toList (fun q hq => by
      obtain ⟨i, hi⟩ := List.getElem?_of_mem hq
      simpa using (hqs i q hi).2) i j _ hq (by omega)]
    have hl3 := h3.len
    have hj3 : j < (pv.toList[i]'(by omega)).2.cells.toList.length := by rw [← hl3]; exact (List.getElem?_eq_some_iff.1 hc).1
    exact ⟨_, List.getElem?_eq_getElem hj3, h3.rep j c _ hc (List.getElem?_eq_getElem hj3)⟩
  refine ⟨fl, hrun, hlm, by rw [hfl, hflen, hsz], fun v hv => ?_, hat⟩
  rw [hfl] at hv
  obtain ⟨q, hq, hv⟩ := List.mem_flatMap.1 hv
  obtain ⟨i, hi'⟩ := List.getElem?_of_mem hq
  obtain ⟨y, _, _, h3⟩ := hpart i q hi'
  exact h3.one v hv
theorem uH3 (hE : E.Ok) {w : World} {G : Gh} {L : Nat → Value} {n : Nat} (hL : ∀ c, c < n → (L c).oneCell' = true) (hG : ∀ b c u, G b = some (c, u) → b < w.heap.size) {t e m : Nat} (hu : E.P.underlying t = some (.slice e)) {z : List (AV E.S)} (hz : zeroCells E e = some z)
    {xs : List (AV E.S)} {l : List (E.S e)} (hl : uL9 E e xs = some l) {pv : Array (Nat × Value)} (hpl : xs.length = pv.toList.length) (hm : pv.toList.length = m) (hsm : m * E.P.cellsOf e ≤ 16777216)
    (hp : ∀ (i : Nat) x (q : Nat × Value), xs[i]? = some x → pv.toList[i]? = some q → q.1 = i ∧ Rep E w G L n x q.2) :
    uc5 E w G L n (.sl e l true) (Instr.buildSlice t m pv) := by
  obtain ⟨fl, hrun, hlm, _, _, hat⟩ := ux0 hE hL hG hu hz hl hpl hm hsm hp
  refine ⟨_, _, hrun, (Below.refl _ _).alloc (Nat.le_refl _) _, ?_⟩
  rw [← hlm]
  refine .sl e l true w.heap.size 0 l.length (fun o => fl.toList.getD o undef) (Nat.le_refl _) (fun _ => rfl) (fun i x j c hx hc => ?_) (fun i x j c hx hc => ?_)
  · obtain ⟨v, h1, h2⟩ := hat i x j c hx hc
    rw [Nat.zero_add]
    refine ⟨fun c' u hg => absurd (hG _ _ _ hg) (by omega), ?_⟩
    rw [World.cell?_alloc_new, ← Array.getElem?_toList, h1, List.getD_eq_getElem?_getD, h1]
    rfl
  · obtain ⟨v, h1, h2⟩ := hat i x j c hx hc
    rw [Nat.zero_add, List.getD_eq_getElem?_getD, h1]
    exact h2.keep ((Below.refl _ _).alloc (Nat.le_refl _) _)
end Go.Proofs.YtaennkkcnhfglaaGreatDoor.Ev
