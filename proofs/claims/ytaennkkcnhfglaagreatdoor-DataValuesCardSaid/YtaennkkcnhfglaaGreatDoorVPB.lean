/- A part of the proof. -/
import Derived.Test.YtaennkkcnhfglaaGreatDoorVPA
import Derived.Test.YtaennkkcnhfglaaGreatDoorVPA
set_option linter.unusedVariables false
set_option linter.unusedSimpArgs false
set_option linter.unnecessarySimpa false
namespace Go.Proofs.YtaennkkcnhfglaaGreatDoor.Ev.F
open Go.Proofs.YtaennkkcnhfglaaGreatDoor.Ev
abbrev Ex : Type := Int × Nat × ua5
def ud7 (f : ua3 → Nat → Ex) : List ua6 → Nat → Int × Nat × List (Option ua5)
 | [], c => (0, c, [])
 | x :: r, c => if (f x.Type_ c).1 = 0 then ((ud7 f r (f x.Type_ c).2.1).1, (ud7 f r (f x.Type_ c).2.1).2.1, some (f x.Type_ c).2.2 :: (ud7 f r (f x.Type_ c).2.1).2.2) else ((f x.Type_ c).1, 0, [])
def ug6 (f : ua3 → Nat → Ex) : List ua1 → Nat → Int × Nat × List data_variant
 | [], c => (0, c, [])
 | x :: r, c => if (ud7 f x.Fields c).1 = 0 then ((ug6 f r (ud7 f x.Fields c).2.1).1, (ug6 f r (ud7 f x.Fields c).2.1).2.1, ⟨x.Name, x.Fields, some (ud7 f x.Fields c).2.2⟩ :: (ug6 f r (ud7 f x.Fields c).2.1).2.2) else ((ud7 f x.Fields c).1, 0, [])
def junk : ua5 := ⟨0, none⟩
def exS (l : List ua2) (deep : Bool) (f : ua3 → Nat → Ex) (t : ua3) (c : Nat) : Ex :=
  if tree t = true then
    if t.Kind = 2 then (26, 0, junk)
    else if t.Name = sBit then
      match t.Parts with
      | p :: _ => (uh4 [if p.Kind = 2 then 0 else 26, if 1 ≤ p.Value ∧ p.Value ≤ 16 then 0 else 25, if c + 1 ≤ 200 ∧ deep = true then 0 else 8], c + 1, ⟨p.Value, none⟩)
      | [] => (0, 0, junk)
    else if c + 1 ≤ 200 ∧ deep = true then ((ug6 f (ub1 l t) (c + 1)).1, (ug6 f (ub1 l t) (c + 1)).2.1, ⟨0, some (ug6 f (ub1 l t) (c + 1)).2.2⟩)
    else (8, 0, junk)
  else (8, 0, junk)
def exT (l : List ua2) : Nat → ua3 → Nat → Ex
 | 0 => exS l false fun _ _ => (8, 0, junk)
 | n + 1 => exS l true (exT l n)
structure Ty (l : List ua2) (t : ua3) : Prop where
  sz : tsz t ≤ 1000000
  ok : ur0 l [] t = 0
theorem Ty.kind {l : List ua2} {t : ua3} (h : Ty l t) : t.Kind = 1 ∨ t.Kind = 2 := by
  obtain ⟨k, v, s, ts⟩ := t
  have := (uE2.1 h.ok).1
  unfold uB1 at this
  by_cases h0 : k = 0
  · rw [if_pos h0] at this; cases this
  · by_cases h1 : k = 1
    · exact .inl h1
    · by_cases h2 : k = 2
      · exact .inr h2
      · rw [if_neg h0, if_neg h1, if_neg h2] at this; cases this
theorem Ty.con {l : List ua2} (hp : uh6 l) {t : ua3} (h : Ty l t) (hk : t.Kind = 1) : (t.Name = sBit → ∃ p, t.Parts = [p]) ∧ (∀ d, dat l t.Name = some d → d.Params.length = t.Parts.length) ∧ (t.Name ≠ sBit → t.Name ≠ uF7 → dat l t.Name ≠ none) ∧ ∀ p ∈ t.Parts, ur0 l [] p = 0 := by
  obtain ⟨k, v, s, ts⟩ := t
  obtain ⟨h1, h2, _, h4⟩ := uE2.1 h.ok
  simp only at hk ⊢
  subst hk
  unfold uB1 at h1 h2
  rw [if_neg (by decide), if_pos rfl] at h1 h2
  refine ⟨fun e => ?_, fun d hd => ?_, fun e1 e2 hn => ?_, h4⟩
  · rw [uD8 hp (.inl e)] at h2
    simp only at h2
    rw [if_pos e] at h2
    match ts, h2 with
    | [p], _ => exact ⟨p, rfl⟩
    | [], h => simp at h
    | _ :: _ :: _, h => simp at h; omega
  · rw [hd] at h2
    simp only at h2
    omega
  · rw [hn] at h1
    simp only at h1
    rw [if_neg e1, if_neg e2] at h1
    cases h1
theorem uN5 {t p : ua3} (h : p ∈ t.Parts) : tsz p ≤ tsz t := by
  obtain ⟨k, v, s, ts⟩ := t
  have hts : tsz ⟨k, v, s, ts⟩ = 1 + tszs ts := by rw [tsz]
  have := uR7 h
  simp only at this
  omega
theorem uj2 {l : List ua2} (hv : uj3 l) {t : ua3} (h : Ty l t) (ht : tree t = true) (hk : t.Kind = 1) : (0 < (ub1 l t).length ∧ (ub1 l t).length ≤ 16) ∧ ∀ c ∈ ub1 l t, c.Fields.length ≤ 8 ∧ ∀ f ∈ c.Fields, Ty l f.Type_ := by
  have hc := h.con hv.plain hk
  unfold ub1
  cases hd : dat l t.Name with
  | none => exact ⟨by simp, fun c hc => by simp at hc; rcases hc with rfl | rfl <;> exact ⟨by simp, fun f hf => by cases hf⟩⟩
  | some d =>
    obtain ⟨hm, _⟩ := va4 hd
    obtain ⟨h1, h2, _⟩ := hv.cons d hm
    refine ⟨by simp only [List.length_map]; exact ⟨h1, h2⟩, fun c hcm => ?_⟩
    obtain ⟨c0, hc0, rfl⟩ := List.mem_map.1 hcm
    obtain ⟨l0, hb, hf0⟩ := hv.fields d hm
    obtain ⟨m1, m2⟩ := hf0 c0 hc0
    refine ⟨by simp only [List.length_map]; exact m1, fun f hf => ?_⟩
    obtain ⟨f0, hf0, rfl⟩ := List.mem_map.1 hf
    obtain ⟨e1, e2⟩ := m2 f0 hf0
    have s1 := ur4 e1
    have s2 := ur4 ht
    have hsz := wp8 (ps := d.Params) (args := t.Parts) (M := 200) (by decide) (fun a ha => by have := uN5 ha; omega) f0.Type_
    refine ⟨?_, vM3 hb hv.plain (hc.2.1 d hd) hc.2.2.2 _ e2⟩
    have : tsz f0.Type_ * 200 ≤ 200 * 200 := Nat.mul_le_mul_right _ s1.1
    show tsz (rep d.Params t.Parts f0.Type_) ≤ 1000000
    omega
def vD8 (l : List ua2) (deep : Int) (f : ua3 → Nat → Ex) : Prop := ∀ t c, Ty l t → c ≤ 200 → ((f t c).1 = 0 → (f t c).2.1 ≤ 200) ∧ ∃ o c'', uc6 (.start l [] t.Kind t.Value t.Name t.Parts deep (c : Int)) = some ((o, ((f t c).1, ())), ((c'', ()), ())) ∧ ((f t c).1 = 0 → o = some (f t c).2.2 ∧ c'' = ((f t c).2.1 : Int))
theorem wo8 {l : List ua2} {deep : Nat} (hdeep : deep ≤ 100) {f : ua3 → Nat → Ex} (hf : vD8 l ((deep + 1 : Nat) : Int) f) (B : List data_variant) (i n : Nat) (hi : i < B.length) (fs : List ua6) (hl : fs.length ≤ 12) (hok : ∀ x ∈ fs, Ty l x.Type_) :
    ∀ {k}, k ≤ fs.length → ∀ (c : Nat) (acc : List (Option ua5)), c ≤ 200 → acc.length = k → ((ud7 f (fs.drop k) c).1 = 0 → (ud7 f (fs.drop k) c).2.1 ≤ 200) ∧
      ((ud7 f (fs.drop k) c).1 ≠ 0 → ∃ c'', uc6 (.p4188572 (deep : Int) (i : Int) (n : Int) (i : Int) fs (List.length fs : Int) (k : Int) (c : Int) l [] 0 (B, i) acc) = some ((none, ((ud7 f (fs.drop k) c).1, ())), ((c'', ()), ()))) ∧
      ((ud7 f (fs.drop k) c).1 = 0 → uc6 (.p4188572 (deep : Int) (i : Int) (n : Int) (i : Int) fs (List.length fs : Int) (k : Int) (c : Int) l [] 0 (B, i) acc) = uc6 (.p8180 (deep : Int) (n : Int) (IntKind.wrap .i64 ((i : Int) + 1)) ((ud7 f (fs.drop k) c).2.1 : Int) l [] 0 (B.modify i fun y => ⟨y.name, y.fields, some (acc ++ (ud7 f (fs.drop k) c).2.2)⟩))) := by
  refine ub0 fs (P := fun k => ∀ (c : Nat) (acc : List (Option ua5)), c ≤ 200 → acc.length = k → ((ud7 f (fs.drop k) c).1 = 0 → (ud7 f (fs.drop k) c).2.1 ≤ 200) ∧
      ((ud7 f (fs.drop k) c).1 ≠ 0 → ∃ c'', uc6 (.p4188572 (deep : Int) (i : Int) (n : Int) (i : Int) fs (List.length fs : Int) (k : Int) (c : Int) l [] 0 (B, i) acc) = some ((none, ((ud7 f (fs.drop k) c).1, ())), ((c'', ()), ()))) ∧
      ((ud7 f (fs.drop k) c).1 = 0 → uc6 (.p4188572 (deep : Int) (i : Int) (n : Int) (i : Int) fs (List.length fs : Int) (k : Int) (c : Int) l [] 0 (B, i) acc) = uc6 (.p8180 (deep : Int) (n : Int) (IntKind.wrap .i64 ((i : Int) + 1)) ((ud7 f (fs.drop k) c).2.1 : Int) l [] 0 (B.modify i fun y => ⟨y.name, y.fields, some (acc ++ (ud7 f (fs.drop k) c).2.2)⟩)))) ?_ ?_
  · intro c acc hc _
    rw [List.drop_length]
    refine ⟨fun _ => hc, fun h => absurd rfl h, fun _ => ?_⟩
    conv => lhs; rw [uc6]
    simp only [lt_f, Bool.false_eq_true, if_false, ud7, List.append_nil]
  · intro k hk ih c acc hc hacc
    rw [ua8 hk]
    obtain ⟨g0, o, c'', e1, e2⟩ := hf fs[k].Type_ c (hok _ (List.getElem_mem hk)) hc
    have hw : IntKind.wrap .i64 ((deep : Int) + 1) = ((deep + 1 : Nat) : Int) := uj9 (by omega)
    have hstep : uc6 (.p4188572 (deep : Int) (i : Int) (n : Int) (i : Int) fs (List.length fs : Int) (k : Int) (c : Int) l [] 0 (B, i) acc) = if ((f fs[k].Type_ c).1 != (0 : Int)) = true then some ((none, ((f fs[k].Type_ c).1, ())), ((c'', ()), ())) else uc6 (.p4188572 (deep : Int) (i : Int) (n : Int) (i : Int) fs (List.length fs : Int) ((k + 1 : Nat) : Int) c'' l [] 0 (B, i) (acc ++ [o])) := by
      conv => lhs; rw [uc6]
      simp only [lt_t hk, if_true, ua7 hk, ua0, hw, e1, List.getElem?_eq_getElem hi]
      rw [if_pos (uh5 (by simp only [List.length_cons, List.length_nil]; omega)), ua9 hk (by omega)]
    by_cases h0 : (f fs[k].Type_ c).1 = 0
    · obtain ⟨e3, e4⟩ := e2 h0
      rw [if_neg (by rw [h0]; decide), e3, e4] at hstep
      obtain ⟨i1, i2, i3⟩ := ih (f fs[k].Type_ c).2.1 (acc ++ [some (f fs[k].Type_ c).2.2]) (g0 h0) (by rw [List.length_append, hacc]; rfl)
      rw [hstep]
      simp only [ud7, if_pos h0]
      refine ⟨i1, i2, fun h => ?_⟩
      rw [i3 h, List.append_assoc]
      rfl
    · rw [if_pos (by simpa using h0)] at hstep
      rw [hstep]
      simp only [ud7, if_neg h0]
      exact ⟨fun h => absurd h h0, fun _ => ⟨c'', rfl⟩, fun h => absurd h h0⟩
theorem uL0 {α : Type} (f : α → α) : ∀ (a : List α) (x : α) (b : List α), (a ++ x :: b).modify a.length f = a ++ f x :: b
 | [], x, b => by simp
 | y :: a, x, b => by simp [uL0 f a x b]
theorem v36 {l : List ua2} {deep : Nat} (hdeep : deep ≤ 100) {f : ua3 → Nat → Ex} (hf : vD8 l ((deep + 1 : Nat) : Int) f) (n : Nat) : ∀ (cs : List ua1) (vs : List data_variant) (c : Nat), n = vs.length + cs.length → n ≤ 20 → (∀ x ∈ cs, x.Fields.length ≤ 8 ∧ ∀ y ∈ x.Fields, Ty l y.Type_) → c ≤ 200 → ((ug6 f cs c).1 = 0 → (ug6 f cs c).2.1 ≤ 200) ∧
    ∃ o c'', uc6 (.p8180 (deep : Int) (n : Int) (vs.length : Int) (c : Int) l [] 0 (vs ++ cs.map rawV)) = some ((o, ((ug6 f cs c).1, ())), ((c'', ()), ())) ∧ ((ug6 f cs c).1 = 0 → o = some ⟨0, some (vs ++ (ug6 f cs c).2.2)⟩ ∧ c'' = ((ug6 f cs c).2.1 : Int))
 | [], vs, c, hn, _, _, hc => by
   refine ⟨fun _ => hc, some ⟨0, some vs⟩, (c : Int), ?_, fun _ => ⟨by simp [ug6], rfl⟩⟩
   rw [uc6]
   obtain rfl : n = vs.length := by simpa using hn
   simp only [lt_f, Bool.false_eq_true, if_false, List.map_nil, List.append_nil, ug6]
 | x :: r, vs, c, hn, h20, hok, hc => by
   obtain ⟨x1, x2⟩ := hok x (List.mem_cons_self ..)
   have hlt : vs.length < n := by rw [hn, List.length_cons]; omega
   have hB : vs.length < (vs ++ (x :: r).map rawV).length := by simp
   have hget : (vs ++ (x :: r).map rawV)[vs.length]? = some (rawV x) := by simp
   have hget' : (vs ++ (x :: r).map rawV)[vs.length] = rawV x := Option.some.inj ((List.getElem?_eq_getElem hB).symm.trans hget)
   have hstep : uc6 (.p8180 (deep : Int) (n : Int) (vs.length : Int) (c : Int) l [] 0 (vs ++ (x :: r).map rawV)) = uc6 (.p4188572 (deep : Int) (vs.length : Int) (n : Int) (vs.length : Int) x.Fields (List.length x.Fields : Int) 0 (c : Int) l [] 0 (vs ++ (x :: r).map rawV, vs.length) []) := by
     conv => lhs; rw [uc6]
     rw [lt_t hlt, if_pos rfl, if_pos (by simp; omega), ua7 hB, hget']
     simp only [ua0]
     rw [if_pos (by rfl), Int.toNat_natCast, hget, if_pos rfl]
     rfl
   obtain ⟨i1, i2, i3⟩ := wo8 hdeep hf (vs ++ (x :: r).map rawV) vs.length n hB x.Fields (by omega) x2 (Nat.zero_le _) c [] hc rfl
   rw [List.drop_zero] at i1 i2 i3
   rw [hstep]
   by_cases h0 : (ud7 f x.Fields c).1 = 0
   · have i3' := i3 h0
     rw [List.map_cons, uL0, uj9 (by omega), List.nil_append] at i3'
     rw [show ((0 : Nat) : Int) = 0 from rfl] at i3'
     rw [List.map_cons, i3']
     simp only [ug6, if_pos h0]
     have := v36 hdeep hf n r (vs ++ [⟨x.Name, x.Fields, some (ud7 f x.Fields c).2.2⟩]) (ud7 f x.Fields c).2.1 (by rw [hn]; simp only [List.length_append, List.length_cons, List.length_nil]; omega) h20 (fun y hy => hok y (List.mem_cons_of_mem _ hy)) (i1 h0)
     rw [List.length_append, List.append_assoc] at this
     obtain ⟨j1, o, c'', j2, j3⟩ := this
     refine ⟨j1, o, c'', j2, fun h => ⟨?_, (j3 h).2⟩⟩
     rw [(j3 h).1, List.append_assoc]
     rfl
   · obtain ⟨c'', hc''⟩ := i2 h0
     rw [show ((0 : Nat) : Int) = 0 from rfl] at hc''
     simp only [ug6, if_neg h0]
     exact ⟨fun h => absurd h h0, none, c'', hc'', fun h => absurd h h0⟩
theorem wo6 {l : List ua2} (hv : uj3 l) (deep : Nat) (hdeep : deep ≤ 100) {f : ua3 → Nat → Ex} (hf : deep ≤ 40 → vD8 l ((deep + 1 : Nat) : Int) f) : vD8 l (deep : Int) (exS l (decide (deep ≤ 40)) f) := by
  intro t c ht hc
  have hlb : l.length ≤ big := by have := hv.len; unfold big; omega
  have hlen : lenOk t := u88 t (by have := ht.sz; unfold big; omega)
  have hstart : uc6 (.start l [] t.Kind t.Value t.Name t.Parts (deep : Int) (c : Int)) = if tree t = true then uc6 (.p31 (deep : Int) (if c + 1 ≤ 200 ∧ deep ≤ 40 then 0 else 8) ((c + 1 : Nat) : Int) l [] t.Kind t.Value t.Name t.Parts) else some ((none, ((8 : Int), ())), (((c : Int), ()), ())) := by
    conv => lhs; rw [uc6]
    simp only [v39 t hlen, ua0, uj9 (show c ≤ 4611686018427387904 by omega), uy9]
    cases tree t with
    | false => rfl
    | true =>
      rw [if_pos rfl, if_neg (by decide), if_pos rfl]
      by_cases h2 : c + 1 ≤ 200
      · rw [if_pos (by simp; omega)]
        by_cases h4 : deep ≤ 40
        · rw [if_pos (show c + 1 ≤ 200 ∧ deep ≤ 40 from ⟨h2, h4⟩), if_pos (by simp; omega)]
        · rw [if_neg (show ¬ (c + 1 ≤ 200 ∧ deep ≤ 40) from fun h => h4 h.2), if_neg (by simp; omega)]
      · rw [if_neg (show ¬ (c + 1 ≤ 200 ∧ deep ≤ 40) from fun h => h2 h.1), if_neg (by simp; omega), if_neg (by simp)]
  rw [hstart]
  have hdec : (c + 1 ≤ 200 ∧ decide (deep ≤ 40) = true) ↔ (c + 1 ≤ 200 ∧ deep ≤ 40) := by simp
  cases htr : tree t with
  | false =>
    have e : exS l (decide (deep ≤ 40)) f t c = (8, 0, junk) := by unfold exS; rw [htr]; rfl
    rw [e]
    exact ⟨fun h => (by cases h), none, (c : Int), rfl, fun h => (by cases h)⟩
  | true =>
    rw [if_pos rfl, uc6]
    by_cases hk2 : t.Kind = 2
    · have e : exS l (decide (deep ≤ 40)) f t c = (26, 0, junk) := by unfold exS; rw [htr, if_pos rfl, if_pos hk2]
      rw [e, if_pos (by simpa using hk2)]
      exact ⟨fun h => (by cases h), none, _, rfl, fun h => (by cases h)⟩
    · have hk1 : t.Kind = 1 := ht.kind.resolve_right hk2
      obtain ⟨hc1, hc2, hc3, hc4⟩ := ht.con hv.plain hk1
      rw [if_neg (by simpa using hk2)]
      simp only [ui0]
      by_cases hb : t.Name = sBit
      · obtain ⟨p, hp⟩ := hc1 hb
        have e : exS l (decide (deep ≤ 40)) f t c = (uh4 [if p.Kind = 2 then 0 else 26, if 1 ≤ p.Value ∧ p.Value ≤ 16 then 0 else 25, if c + 1 ≤ 200 ∧ deep ≤ 40 then 0 else 8], c + 1, ⟨p.Value, none⟩) := by
          unfold exS
          rw [htr, if_pos rfl, if_neg hk2, if_pos hb, hp]
          simp only [hdec]
        have hbt : decide (t.Name = sBit) = true := by simpa using hb
        rw [e, if_pos hbt, hp]
        simp only [show idx [p] (0 : Int) = some p from rfl, ua0, uy9, uH6]
        rw [uL2 _ (by simp [big])]
        simp only [ua0]
        have e1 : (if (p.Kind == (2 : Int)) = true then (0 : Int) else 26) = if p.Kind = 2 then 0 else 26 := by
          by_cases h : p.Kind = 2 <;> simp [h]
        have e2 : (if decide (1 ≤ p.Value ∧ p.Value ≤ 16) = true then (0 : Int) else 25) = if 1 ≤ p.Value ∧ p.Value ≤ 16 then 0 else 25 := by
          by_cases h : 1 ≤ p.Value ∧ p.Value ≤ 16
          · rw [decide_eq_true h, if_pos rfl, if_pos h]
          · rw [decide_eq_false h, if_neg (by simp), if_neg h]
        rw [e1, e2]
        refine ⟨fun h => ?_, _, _, rfl, fun _ => ⟨rfl, rfl⟩⟩
        have h3 := (uc8 (uc8 (uc8 h).2).2).1
        by_cases hh : c + 1 ≤ 200 ∧ deep ≤ 40
        · exact hh.1
        · rw [if_neg hh] at h3; cases h3
      · rw [if_neg (by simpa using hb)]
        by_cases hh : c + 1 ≤ 200 ∧ deep ≤ 40
        · have e : exS l (decide (deep ≤ 40)) f t c = ((ug6 f (ub1 l t) (c + 1)).1, (ug6 f (ub1 l t) (c + 1)).2.1, ⟨0, some (ug6 f (ub1 l t) (c + 1)).2.2⟩) := by
            unfold exS
            rw [htr, if_pos rfl, if_neg hk2, if_neg hb, if_pos (hdec.2 hh)]
          rw [e, if_pos hh, if_neg (by decide)]
          have hs := ur4 htr
          rw [we2 hlb hv.light t.Kind t.Value t.Name t.Parts hc2 (fun a ha => by have := uN5 ha; omega), us6]
          simp only [ua0, List.length_map]
          obtain ⟨⟨_, m1⟩, m2⟩ := uj2 hv ht htr hk1
          have := v36 hdeep (hf hh.2) (ub1 l t).length (ub1 l t) [] (c + 1) (by simp) (by omega) m2 hh.1
          simp only [List.length_nil, List.nil_append] at this
          exact this
        · have e : exS l (decide (deep ≤ 40)) f t c = (8, 0, junk) := by
            unfold exS
            rw [htr, if_pos rfl, if_neg hk2, if_neg hb, if_neg (fun h => hh (hdec.1 h))]
          rw [e, if_neg hh, if_pos (by decide)]
          exact ⟨fun h => (by cases h), none, _, rfl, fun h => (by cases h)⟩
theorem wo7 {l : List ua2} (hv : uj3 l) : ∀ n, n ≤ 40 → vD8 l ((41 - n : Nat) : Int) (exT l n)
 | 0, _ => by
   have := wo6 hv 41 (by omega) (f := fun _ _ => (8, 0, junk)) (fun h => by omega)
   exact this
 | n + 1, h => by
   have := wo6 hv (41 - (n + 1)) (by omega) (f := exT l n) (fun _ => by rw [show 41 - (n + 1) + 1 = 41 - n by omega]; exact wo7 hv n (by omega))
   rw [decide_eq_true (by omega)] at this
   exact this
end Go.Proofs.YtaennkkcnhfglaaGreatDoor.Ev.F
namespace Go.Proofs.YtaennkkcnhfglaaGreatDoor.Ev.F
open Go.Proofs.YtaennkkcnhfglaaGreatDoor.Ev
def ExpR (l : List ua2) (depth : Nat) (f : ua3 → Nat → Ex) : Prop := ∀ (t : ua3) (c : Nat), Ty l t → c ≤ 200 → ∃ c'', ub8 (.start l t.Kind t.Value t.Name t.Parts (c : Int) 0 (depth : Int)) = some (((c'', ((f t c).1, ((depth : Int), ()))), ()), ()) ∧ ((f t c).1 = 0 → c'' = ((f t c).2.1 : Int) ∧ (f t c).2.1 ≤ 200)
theorem ul1 (t : ua3) : um9 (.start t.Kind t.Value t.Name t.Parts) = some ((decide (t.Kind = 1 ∧ t.Name = sBit), ()), ()) := by
  rw [um9]
  by_cases h : t.Kind = 1
  · rw [if_pos (by simpa using h), ui0]
    by_cases h2 : t.Name = sBit <;> simp [h, h2]
  · rw [if_neg (by simpa using h)]
    simp [h]
theorem vx4 (n : Int) : u22 (.start n) = some ((decide (1 ≤ n ∧ n ≤ 16), ()), ()) := by
  rw [u22, u23]
  simp only [ua0]
theorem wq3 {l : List ua2} {d : Nat} (hd : d ≤ 100) {f : ua3 → Nat → Ex} (hf : ExpR l (d + 1) f) (all : List ua1) (hal : all.length ≤ 20) (i : Nat) (hi : i < all.length) (b0 b1 b2 : Int) (hl : all[i].Fields.length ≤ 12) (hok : ∀ x ∈ all[i].Fields, Ty l x.Type_) :
    ∀ {k}, k ≤ all[i].Fields.length → ∀ (c : Nat), c ≤ 200 → ((ud7 f (all[i].Fields.drop k) c).1 = 0 → (ud7 f (all[i].Fields.drop k) c).2.1 ≤ 200) ∧
      ((ud7 f (all[i].Fields.drop k) c).1 ≠ 0 → ∃ c'', ub8 (.p523556 l all (i : Int) (k : Int) b0 b1 b2 (c : Int) 0 (d : Int)) = some (((c'', ((ud7 f (all[i].Fields.drop k) c).1, ((d : Int), ()))), ()), ())) ∧
      ((ud7 f (all[i].Fields.drop k) c).1 = 0 → ub8 (.p523556 l all (i : Int) (k : Int) b0 b1 b2 (c : Int) 0 (d : Int)) = ub8 (.p8180 l all ((i + 1 : Nat) : Int) b0 b1 b2 ((ud7 f (all[i].Fields.drop k) c).2.1 : Int) 0 (d : Int))) := by
  refine ub0 all[i].Fields (P := fun k => ∀ (c : Nat), c ≤ 200 → ((ud7 f (all[i].Fields.drop k) c).1 = 0 → (ud7 f (all[i].Fields.drop k) c).2.1 ≤ 200) ∧
      ((ud7 f (all[i].Fields.drop k) c).1 ≠ 0 → ∃ c'', ub8 (.p523556 l all (i : Int) (k : Int) b0 b1 b2 (c : Int) 0 (d : Int)) = some (((c'', ((ud7 f (all[i].Fields.drop k) c).1, ((d : Int), ()))), ()), ())) ∧
      ((ud7 f (all[i].Fields.drop k) c).1 = 0 → ub8 (.p523556 l all (i : Int) (k : Int) b0 b1 b2 (c : Int) 0 (d : Int)) = ub8 (.p8180 l all ((i + 1 : Nat) : Int) b0 b1 b2 ((ud7 f (all[i].Fields.drop k) c).2.1 : Int) 0 (d : Int)))) ?_ ?_
  · intro c hc
    rw [List.drop_length]
    refine ⟨fun _ => hc, fun h => absurd rfl h, fun _ => ?_⟩
    conv => lhs; rw [ub8]
    simp only [ua7 hi, ua0, lt_f, Bool.false_eq_true, if_false, ud7]
    rw [ua9 hi (by omega)]
  · intro k hk ih c hc
    rw [ua8 hk]
    obtain ⟨c'', e1, e2⟩ := hf all[i].Fields[k].Type_ c (hok _ (List.getElem_mem hk)) hc
    have hstep : ub8 (.p523556 l all (i : Int) (k : Int) b0 b1 b2 (c : Int) 0 (d : Int)) = if ((f all[i].Fields[k].Type_ c).1 != (0 : Int)) = true then some (((c'', ((f all[i].Fields[k].Type_ c).1, ((d : Int), ()))), ()), ()) else ub8 (.p523556 l all (i : Int) ((k + 1 : Nat) : Int) b0 b1 b2 c'' (f all[i].Fields[k].Type_ c).1 (d : Int)) := by
      conv => lhs; rw [ub8]
      simp only [ua7 hi, ua0, lt_t hk, if_true, ua7 hk]
      rw [uj9 (show d ≤ 4611686018427387904 by omega), e1]
      simp only [ua0]
      rw [ua9 hk (by omega)]
    by_cases h0 : (f all[i].Fields[k].Type_ c).1 = 0
    · obtain ⟨e3, e4⟩ := e2 h0
      rw [if_neg (by rw [h0]; decide), e3, h0] at hstep
      obtain ⟨i1, i2, i3⟩ := ih (f all[i].Fields[k].Type_ c).2.1 e4
      rw [hstep]
      simp only [ud7, if_pos h0]
      exact ⟨i1, i2, i3⟩
    · rw [if_pos (by simpa using h0)] at hstep
      rw [hstep]
      simp only [ud7, if_neg h0]
      exact ⟨fun h => absurd h h0, fun _ => ⟨c'', rfl⟩, fun h => absurd h h0⟩
theorem wq2 {l : List ua2} {d : Nat} (hd : d ≤ 100) {f : ua3 → Nat → Ex} (hf : ExpR l (d + 1) f) (all : List ua1) (hal : all.length ≤ 20) (b0 b1 b2 : Int) (hok : ∀ x ∈ all, x.Fields.length ≤ 8 ∧ ∀ y ∈ x.Fields, Ty l y.Type_) :
    ∀ {i}, i ≤ all.length → ∀ c : Nat, c ≤ 200 → ∃ c'', ub8 (.p8180 l all (i : Int) b0 b1 b2 (c : Int) 0 (d : Int)) = some (((c'', ((ug6 f (all.drop i) c).1, ((d : Int), ()))), ()), ()) ∧ ((ug6 f (all.drop i) c).1 = 0 → c'' = ((ug6 f (all.drop i) c).2.1 : Int) ∧ (ug6 f (all.drop i) c).2.1 ≤ 200) := by
  refine ub0 all (P := fun i => ∀ c : Nat, c ≤ 200 → ∃ c'', ub8 (.p8180 l all (i : Int) b0 b1 b2 (c : Int) 0 (d : Int)) = some (((c'', ((ug6 f (all.drop i) c).1, ((d : Int), ()))), ()), ()) ∧ ((ug6 f (all.drop i) c).1 = 0 → c'' = ((ug6 f (all.drop i) c).2.1 : Int) ∧ (ug6 f (all.drop i) c).2.1 ≤ 200)) ?_ ?_
  · intro c hc
    rw [List.drop_length]
    refine ⟨(c : Int), ?_, fun _ => ⟨rfl, hc⟩⟩
    rw [ub8]
    simp only [lt_f, Bool.false_eq_true, if_false, ug6]
  · intro i hi ih c hc
    obtain ⟨m1, m2⟩ := hok _ (List.getElem_mem hi)
    obtain ⟨i1, i2, i3⟩ := wq3 hd hf all hal i hi b0 b1 b2 (by omega) m2 (Nat.zero_le _) c hc
    rw [List.drop_zero] at i1 i2 i3
    have hstep : ub8 (.p8180 l all (i : Int) b0 b1 b2 (c : Int) 0 (d : Int)) = ub8 (.p523556 l all (i : Int) ((0 : Nat) : Int) b0 b1 b2 (c : Int) 0 (d : Int)) := by
      conv => lhs; rw [ub8]
      simp only [lt_t hi, if_true]
      rfl
    rw [ua8 hi, hstep]
    by_cases h0 : (ud7 f all[i].Fields c).1 = 0
    · rw [i3 h0]
      simp only [ug6, if_pos h0]
      exact ih _ (i1 h0)
    · obtain ⟨c'', e⟩ := i2 h0
      rw [e]
      simp only [ug6, if_neg h0]
      exact ⟨c'', rfl, fun h => absurd h h0⟩
theorem wp9 {l : List ua2} (hv : uj3 l) (d : Nat) (hd : d ≤ 100) {f : ua3 → Nat → Ex} (hf : d < 40 → ExpR l (d + 1) f) : ExpR l d (exS l (decide (d < 40)) f) := by
  intro t c ht hc
  have hlb : l.length ≤ big := by have := hv.len; unfold big; omega
  have hdec : (c + 1 ≤ 200 ∧ decide (d < 40) = true) ↔ (c + 1 ≤ 200 ∧ d < 40) := by simp
  rw [ub8]
  simp only [wg1, ua0, uj9 (show c ≤ 4611686018427387904 by omega)]
  cases htr : tree t with
  | false =>
    have e : exS l (decide (d < 40)) f t c = (8, 0, junk) := by unfold exS; rw [htr]; rfl
    rw [e]
    exact ⟨_, rfl, fun h => (by cases h)⟩
  | true =>
    simp only [Bool.not_true, Bool.false_eq_true, if_false]
    by_cases hk2 : t.Kind = 2
    · have e : exS l (decide (d < 40)) f t c = (26, 0, junk) := by unfold exS; rw [htr, if_pos rfl, if_pos hk2]
      rw [e, if_pos (by simpa using hk2)]
      exact ⟨_, rfl, fun h => (by cases h)⟩
    · have hk1 : t.Kind = 1 := ht.kind.resolve_right hk2
      obtain ⟨hc1, hc2, hc3, hc4⟩ := ht.con hv.plain hk1
      rw [if_neg (by simpa using hk2), ul1]
      simp only [ua0]
      have h63 : ∀ b0 b1 b2 : Int, ub8 (.p63 l t.Kind t.Value t.Name t.Parts b0 b1 b2 ((c + 1 : Nat) : Int) 0 (d : Int)) = if c + 1 ≤ 200 ∧ d < 40 then ub8 (.p127 l t.Kind t.Value t.Name t.Parts b0 b1 b2 ((c + 1 : Nat) : Int) 0 (d : Int)) else some (((((c + 1 : Nat) : Int), ((8 : Int), ((d : Int), ()))), ()), ()) := by
        intro b0 b1 b2
        conv => lhs; rw [ub8]
        by_cases h2 : c + 1 ≤ 200
        · rw [decide_eq_false (by omega), if_neg (by simp)]
          by_cases h4 : d < 40
          · rw [decide_eq_false (by omega), if_neg (by simp), if_pos ⟨h2, h4⟩]
          · rw [decide_eq_true (by omega), if_pos rfl, if_neg (fun h => h4 h.2)]
        · rw [decide_eq_true (by omega), if_pos rfl, if_neg (fun h => h2 h.1)]
      by_cases hb : t.Name = sBit
      · obtain ⟨p, hp⟩ := hc1 hb
        have e : exS l (decide (d < 40)) f t c = (uh4 [if p.Kind = 2 then 0 else 26, if 1 ≤ p.Value ∧ p.Value ≤ 16 then 0 else 25, if c + 1 ≤ 200 ∧ d < 40 then 0 else 8], c + 1, ⟨p.Value, none⟩) := by
          unfold exS
          rw [htr, if_pos rfl, if_neg hk2, if_pos hb, hp]
          simp only [hdec]
        have hbt : decide (t.Kind = 1 ∧ t.Name = sBit) = true := decide_eq_true ⟨hk1, hb⟩
        have h127 : ∀ b0 b1 b2 : Int, ub8 (.p127 l t.Kind t.Value t.Name t.Parts b0 b1 b2 ((c + 1 : Nat) : Int) 0 (d : Int)) = some (((((c + 1 : Nat) : Int), ((0 : Int), ((d : Int), ()))), ()), ()) := by
          intro b0 b1 b2
          rw [ub8, ul1]
          simp only [ua0, hbt, if_true]
        rw [hbt, if_pos rfl]
        rw [e]
        rw [show idx t.Parts (0 : Int) = some p by rw [hp]; rfl]
        simp only [ua0]
        by_cases q1 : p.Kind = 2
        · rw [if_neg (by simpa using q1), ub8, ul1]
          simp only [ua0, hbt, if_true]
          rw [show idx t.Parts (0 : Int) = some p by rw [hp]; rfl]
          simp only [ua0, vx4, if_pos q1]
          by_cases q2 : 1 ≤ p.Value ∧ p.Value ≤ 16
          · rw [decide_eq_true q2]
            simp only [Bool.not_true, Bool.false_eq_true, if_false, if_pos q2, h63, h127]
            by_cases q3 : c + 1 ≤ 200 ∧ d < 40
            · simp only [if_pos q3]
              exact ⟨_, rfl, fun _ => ⟨rfl, q3.1⟩⟩
            · simp only [if_neg q3]
              exact ⟨_, rfl, fun h => (by cases h)⟩
          · rw [decide_eq_false q2]
            simp only [Bool.not_false, if_true, if_neg q2]
            exact ⟨_, rfl, fun h => (by cases h)⟩
        · rw [if_pos (by simpa using q1)]
          simp only [if_neg q1]
          exact ⟨_, rfl, fun h => (by cases h)⟩
      · have hbf : decide (t.Kind = 1 ∧ t.Name = sBit) = false := decide_eq_false fun h => hb h.2
        have h31 : ∀ b0 b1 b2 : Int, ub8 (.p31 l t.Kind t.Value t.Name t.Parts b0 b1 b2 ((c + 1 : Nat) : Int) 0 (d : Int)) = ub8 (.p63 l t.Kind t.Value t.Name t.Parts b0 b1 b2 ((c + 1 : Nat) : Int) 0 (d : Int)) := by
          intro b0 b1 b2
          conv => lhs; rw [ub8]
          rw [ul1]
          simp only [ua0, hbf, Bool.false_eq_true, if_false]
        rw [hbf, if_neg (by simp), h31, h63]
        by_cases q3 : c + 1 ≤ 200 ∧ d < 40
        · have e : exS l (decide (d < 40)) f t c = ((ug6 f (ub1 l t) (c + 1)).1, (ug6 f (ub1 l t) (c + 1)).2.1, ⟨0, some (ug6 f (ub1 l t) (c + 1)).2.2⟩) := by
            unfold exS
            rw [htr, if_pos rfl, if_neg hk2, if_neg hb, if_pos (hdec.2 q3)]
          have hs := ur4 htr
          obtain ⟨⟨_, m1⟩, m2⟩ := uj2 hv ht htr hk1
          rw [if_pos q3, e, ub8, ul1]
          simp only [ua0, hbf, Bool.false_eq_true, if_false]
          rw [vL9 hlb hv.plain hv.light t.Kind t.Value t.Name t.Parts hc2 (fun a ha => by have := uN5 ha; omega) (hc3 hb), us6]
          simp only [ua0]
          have := wq2 hd (hf q3.2) (ub1 l t) (by omega) 0 0 0 m2 (Nat.zero_le _) (c + 1) q3.1
          rw [List.drop_zero] at this
          exact this
        · have e : exS l (decide (d < 40)) f t c = (8, 0, junk) := by
            unfold exS
            rw [htr, if_pos rfl, if_neg hk2, if_neg hb, if_neg (fun h => q3 (hdec.1 h))]
          rw [e, if_neg q3]
          exact ⟨_, rfl, fun h => (by cases h)⟩
theorem wq0 {l : List ua2} (hv : uj3 l) : ∀ n, n ≤ 40 → ExpR l (40 - n) (exT l n)
 | 0, _ => by
   have := wp9 hv 40 (by omega) (f := fun _ _ => (8, 0, junk)) (fun h => by omega)
   exact this
 | n + 1, h => by
   have := wp9 hv (40 - (n + 1)) (by omega) (f := exT l n) (fun _ => by rw [show 40 - (n + 1) + 1 = 40 - n by omega]; exact wq0 hv n (by omega))
   rw [decide_eq_true (by omega)] at this
   exact this
end Go.Proofs.YtaennkkcnhfglaaGreatDoor.Ev.F
namespace Go.Proofs.YtaennkkcnhfglaaGreatDoor.Ev.F
open Go.Proofs.YtaennkkcnhfglaaGreatDoor.Ev
def tagN (n : Nat) : Nat := if n ≤ 1 then 0 else if n ≤ 2 then 1 else if n ≤ 4 then 2 else if n ≤ 8 then 3 else 4
mutual
def nds : ua5 → Nat
 | ⟨_, none⟩ => 1
 | ⟨_, some vs⟩ => 1 + ndsV vs
def ndsV : List data_variant → Nat
 | [] => 0
 | v :: r => ndsW v + ndsV r
def ndsW : data_variant → Nat
 | ⟨_, _, none⟩ => 0
 | ⟨_, _, some ps⟩ => ndsP ps
def ndsP : List (Option ua5) → Nat
 | [] => 0
 | none :: r => ndsP r
 | some x :: r => nds x + ndsP r
end
mutual
def wid : ua5 → Nat
 | ⟨b, none⟩ => b.toNat
 | ⟨_, some vs⟩ => tagN vs.length + rooms vs
def rooms : List data_variant → Nat
 | [] => 0
 | v :: r => max (roomV v) (rooms r)
def roomV : data_variant → Nat
 | ⟨_, _, none⟩ => 0
 | ⟨_, _, some ps⟩ => roomP ps
def roomP : List (Option ua5) → Nat
 | [] => 0
 | none :: r => roomP r
 | some x :: r => wid x + roomP r
end
inductive All2 {α β : Type} (R : α → β → Prop) : List α → List β → Prop
 | nil : All2 R [] []
 | cons {a : α} {b : β} {l : List α} {m : List β} (h : R a b) (t : All2 R l m) : All2 R (a :: l) (b :: m)
theorem All2.len {α β : Type} {R : α → β → Prop} {l : List α} {m : List β} (h : All2 R l m) : l.length = m.length := by
  induction h with
  | nil => rfl
  | cons _ _ ih => rw [List.length_cons, List.length_cons, ih]
theorem All2.get {α β : Type} {R : α → β → Prop} {l : List α} {m : List β} (h : All2 R l m) : ∀ (i : Nat) (h1 : i < l.length) (h2 : i < m.length), R l[i] m[i] := by
  induction h with
  | nil => intro i h1; simp at h1
  | cons h t ih =>
    intro i h1 h2
    cases i with
    | zero => exact h
    | succ i => exact ih i (by simpa using h1) (by simpa using h2)
theorem All2.memR {α β : Type} {R : α → β → Prop} {l : List α} {m : List β} (h : All2 R l m) : ∀ b ∈ m, ∃ a ∈ l, R a b := by
  induction h with
  | nil => intro b hb; cases hb
  | cons h t ih =>
    intro b hb
    rcases List.mem_cons.1 hb with rfl | hb
    · exact ⟨_, List.mem_cons_self .., h⟩
    · obtain ⟨a, ha, hr⟩ := ih b hb
      exact ⟨a, List.mem_cons_of_mem _ ha, hr⟩
def BitR (t : ua3) (x : ua5) : Prop := t.Kind = 1 ∧ t.Name = sBit ∧ ∃ p, t.Parts = [p] ∧ 1 ≤ p.Value ∧ p.Value ≤ 16 ∧ x = ⟨p.Value, none⟩
def FR (R : ua3 → ua5 → Prop) (f : ua6) (p : Option ua5) : Prop := ∃ x, p = some x ∧ R f.Type_ x
def VR (R : ua3 → ua5 → Prop) (c : ua1) (v : data_variant) : Prop := ∃ ps, v = ⟨c.Name, c.Fields, some ps⟩ ∧ All2 (FR R) c.Fields ps
def ConR (l : List ua2) (R : ua3 → ua5 → Prop) (t : ua3) (x : ua5) : Prop := t.Kind = 1 ∧ t.Name ≠ sBit ∧ Ty l t ∧ tree t = true ∧ ∃ vs, x = ⟨0, some vs⟩ ∧ All2 (VR R) (ub1 l t) vs
def SR (l : List ua2) : Nat → ua3 → ua5 → Prop
 | 0, _, _ => False
 | n + 1, t, x => BitR t x ∨ ConR l (SR l n) t x
def ExOk (l : List ua2) (R : ua3 → ua5 → Prop) (f : ua3 → Nat → Ex) : Prop := ∀ (t : ua3) (c : Nat), Ty l t → c ≤ 200 → (f t c).1 = 0 → R t (f t c).2.2 ∧ (f t c).2.1 = c + nds (f t c).2.2 ∧ (f t c).2.1 ≤ 200
theorem vv9 {l : List ua2} {R : ua3 → ua5 → Prop} {f : ua3 → Nat → Ex} (hf : ExOk l R f) : ∀ (fs : List ua6) (c : Nat), (∀ x ∈ fs, Ty l x.Type_) → c ≤ 200 → (ud7 f fs c).1 = 0 → All2 (FR R) fs (ud7 f fs c).2.2 ∧ (ud7 f fs c).2.1 = c + ndsP (ud7 f fs c).2.2 ∧ (ud7 f fs c).2.1 ≤ 200
 | [], c, _, hc, _ => ⟨.nil, by unfold ud7; simp only; rw [ndsP]; rfl, hc⟩
 | x :: r, c, hok, hc, h => by
   by_cases h0 : (f x.Type_ c).1 = 0
   · obtain ⟨a1, a2, a3⟩ := hf x.Type_ c (hok x (List.mem_cons_self ..)) hc h0
     simp only [ud7, if_pos h0] at h ⊢
     obtain ⟨b1, b2, b3⟩ := vv9 hf r _ (fun y hy => hok y (List.mem_cons_of_mem _ hy)) a3 h
     refine ⟨.cons ⟨_, rfl, a1⟩ b1, ?_, b3⟩
     rw [b2, ndsP, a2]
     omega
   · simp only [ud7, if_neg h0] at h
     exact absurd h h0
theorem vv8 {l : List ua2} {R : ua3 → ua5 → Prop} {f : ua3 → Nat → Ex} (hf : ExOk l R f) : ∀ (cs : List ua1) (c : Nat), (∀ x ∈ cs, ∀ y ∈ x.Fields, Ty l y.Type_) → c ≤ 200 → (ug6 f cs c).1 = 0 → All2 (VR R) cs (ug6 f cs c).2.2 ∧ (ug6 f cs c).2.1 = c + ndsV (ug6 f cs c).2.2 ∧ (ug6 f cs c).2.1 ≤ 200
 | [], c, _, hc, _ => ⟨.nil, by unfold ug6; simp only; rw [ndsV]; rfl, hc⟩
 | x :: r, c, hok, hc, h => by
   by_cases h0 : (ud7 f x.Fields c).1 = 0
   · obtain ⟨a1, a2, a3⟩ := vv9 hf x.Fields c (hok x (List.mem_cons_self ..)) hc h0
     simp only [ug6, if_pos h0] at h ⊢
     obtain ⟨b1, b2, b3⟩ := vv8 hf r _ (fun y hy => hok y (List.mem_cons_of_mem _ hy)) a3 h
     refine ⟨.cons ⟨_, rfl, a1⟩ b1, ?_, b3⟩
     rw [b2, ndsV, ndsW, a2]
     omega
   · simp only [ug6, if_neg h0] at h
     exact absurd h h0
theorem vI5 {l : List ua2} {b : Bool} {f : ua3 → Nat → Ex} {t : ua3} {c : Nat} (hv : uj3 l) (ht : Ty l t) (h : (exS l b f t c).1 = 0) : b = true ∧ c + 1 ≤ 200 ∧ tree t = true ∧ t.Kind = 1 ∧ ((BitR t (exS l b f t c).2.2 ∧ (exS l b f t c).2.1 = c + 1) ∨ (t.Name ≠ sBit ∧ exS l b f t c = ((ug6 f (ub1 l t) (c + 1)).1, (ug6 f (ub1 l t) (c + 1)).2.1, ⟨0, some (ug6 f (ub1 l t) (c + 1)).2.2⟩))) := by
  cases htr : tree t with
  | false => unfold exS at h; rw [htr] at h; simp at h
  | true =>
    by_cases hk2 : t.Kind = 2
    · unfold exS at h; rw [htr, if_pos rfl, if_pos hk2] at h; cases h
    · have hk1 := ht.kind.resolve_right hk2
      obtain ⟨hc1, _⟩ := ht.con hv.plain hk1
      by_cases hb : t.Name = sBit
      · obtain ⟨p, hp⟩ := hc1 hb
        have e : exS l b f t c = (uh4 [if p.Kind = 2 then 0 else 26, if 1 ≤ p.Value ∧ p.Value ≤ 16 then 0 else 25, if c + 1 ≤ 200 ∧ b = true then 0 else 8], c + 1, ⟨p.Value, none⟩) := by
          unfold exS
          rw [htr, if_pos rfl, if_neg hk2, if_pos hb, hp]
        rw [e] at h ⊢
        obtain ⟨_, h⟩ := uc8 h
        obtain ⟨h2, h⟩ := uc8 h
        obtain ⟨h3, _⟩ := uc8 h
        by_cases q3 : c + 1 ≤ 200 ∧ b = true
        · by_cases q2 : 1 ≤ p.Value ∧ p.Value ≤ 16
          · exact ⟨q3.2, q3.1, rfl, hk1, .inl ⟨⟨hk1, hb, p, hp, q2.1, q2.2, rfl⟩, rfl⟩⟩
          · rw [if_neg q2] at h2; cases h2
        · rw [if_neg q3] at h3; cases h3
      · by_cases q3 : c + 1 ≤ 200 ∧ b = true
        · refine ⟨q3.2, q3.1, rfl, hk1, .inr ⟨hb, ?_⟩⟩
          unfold exS
          rw [htr, if_pos rfl, if_neg hk2, if_neg hb, if_pos q3]
        · unfold exS at h
          rw [htr, if_pos rfl, if_neg hk2, if_neg hb, if_neg q3] at h; cases h
theorem uH2 (b : Int) : nds ⟨b, none⟩ = 1 := by rw [nds]
theorem uQ3 (b : Int) (vs : List data_variant) : nds ⟨b, some vs⟩ = 1 + ndsV vs := by rw [nds]
theorem vv5 {l : List ua2} (hv : uj3 l) : ∀ n, ExOk l (SR l n) (exT l n)
 | 0 => fun t c ht hc h => by
   have := (vI5 hv ht h).1
   cases this
 | n + 1 => fun t c ht hc h => by
   have h' : (exS l true (exT l n) t c).1 = 0 := h
   obtain ⟨_, h200, htr, hk1, hh⟩ := vI5 hv ht h'
   show SR l (n + 1) t (exS l true (exT l n) t c).2.2 ∧ (exS l true (exT l n) t c).2.1 = c + nds (exS l true (exT l n) t c).2.2 ∧ (exS l true (exT l n) t c).2.1 ≤ 200
   rcases hh with ⟨hb, e⟩ | ⟨hb, e⟩
   · rw [e]
     obtain ⟨q1, q2, p, q3, q4, q5, q6⟩ := id hb
     refine ⟨.inl hb, ?_, h200⟩
     rw [q6, uH2]
   · rw [e] at h' ⊢
     obtain ⟨_, m2⟩ := uj2 hv ht htr hk1
     obtain ⟨b1, b2, b3⟩ := vv8 (vv5 hv n) (ub1 l t) (c + 1) (fun x hx => (m2 x hx).2) h200 h'
     refine ⟨.inr ⟨hk1, hb, ht, htr, _, rfl, b1⟩, ?_, b3⟩
     simp only
     rw [uQ3, b2]
     omega
end Go.Proofs.YtaennkkcnhfglaaGreatDoor.Ev.F
namespace Go.Proofs.YtaennkkcnhfglaaGreatDoor.Ev.F
open Go.Proofs.YtaennkkcnhfglaaGreatDoor.Ev
theorem wp0 (m : Nat) (h : m < 16) : ul4 (.start (m : Int)) = some (((tagN (m + 1) : Int), ()), ()) := by
  rw [ul4]
  rw [if_neg (by simp; omega), ul4]
  rw [if_neg (by simp; omega), ul4]
  rw [if_neg (by simp; omega), ul4]
  have hm : m = 0 ∨ m = 1 ∨ m = 2 ∨ m = 3 ∨ m = 4 ∨ m = 5 ∨ m = 6 ∨ m = 7 ∨ m = 8 ∨ m = 9 ∨ m = 10 ∨ m = 11 ∨ m = 12 ∨ m = 13 ∨ m = 14 ∨ m = 15 := by omega
  rcases hm with rfl | rfl | rfl | rfl | rfl | rfl | rfl | rfl | rfl | rfl | rfl | rfl | rfl | rfl | rfl | rfl <;> rfl
theorem ptag (b : Int) (vs : List data_variant) (h1 : 0 < vs.length) (h2 : vs.length ≤ 16) : uR3 (.start (some ⟨b, some vs⟩)) = some (((tagN vs.length : Int), ()), ()) := by
  rw [uR3]
  simp only [ua0, Option.getD_some]
  rw [show (List.length vs : Int) - 1 = ((vs.length - 1 : Nat) : Int) by omega, wrap_i64 (by omega) (by omega)]
  rw [show IntKind.wrap .u64 ((vs.length - 1 : Nat) : Int) = ((vs.length - 1 : Nat) : Int) by simp [IntKind.wrap, IntKind.bits, IntKind.signed]; omega]
  rw [u14, wp0 _ (by omega)]
  simp only [ua0]
  rw [show vs.length - 1 + 1 = vs.length by omega]
theorem uC5 (k : Nat) (h : k ≤ 62) : uo0 (.start (k : Int)) = some ((((2 ^ k : Nat) : Int), ()), ()) := by
  rw [uo0, if_pos (by simp), ve9 (by omega)]
  simp [pw]
theorem uL6 (c : Int) (k : Nat) (h : k ≤ 10) : uw2 (.p56 c (k : Int)) = if ((2 ^ k : Nat) : Int) < c then uw2 (.p56 c ((k + 1 : Nat) : Int)) else some (((k : Int), ()), ()) := by
  conv => lhs; rw [uw2]
  rw [uC5 k (by omega)]
  simp only [ua0, uj9 (show k ≤ 4611686018427387904 by omega)]
  by_cases h : ((2 ^ k : Nat) : Int) < c
  · rw [decide_eq_true h, if_pos rfl, if_pos h]
  · rw [decide_eq_false h, if_neg (by simp), if_neg h]
theorem rtag (n : Nat) (h : n ≤ 16) : uw2 (.start (n : Int)) = some (((tagN n : Int), ()), ()) := by
  rw [uw2, show ((0 : Int)) = ((0 : Nat) : Int) from rfl]
  unfold tagN
  rw [uL6 _ 0 (by omega)]
  by_cases h1 : n ≤ 1
  · rw [if_neg (by simp; omega), if_pos h1]
  · rw [if_pos (by simp; omega), if_neg h1, uL6 _ 1 (by omega)]
    by_cases h2 : n ≤ 2
    · rw [if_neg (by simp; omega), if_pos h2]
    · rw [if_pos (by simp; omega), if_neg h2, uL6 _ 2 (by omega)]
      by_cases h4 : n ≤ 4
      · rw [if_neg (by simp; omega), if_pos h4]
      · rw [if_pos (by simp; omega), if_neg h4, uL6 _ 3 (by omega)]
        by_cases h8 : n ≤ 8
        · rw [if_neg (by simp; omega), if_pos h8]
        · rw [if_pos (by simp; omega), if_neg h8, uL6 _ 4 (by omega)]
          rw [if_neg (by simp; omega)]
theorem wg8 (n : Nat) : tagN n ≤ 4 := by
  unfold tagN
  split
  · omega
  · split
    · omega
    · split
      · omega
      · split <;> omega
theorem uw3 (b : Int) : wid ⟨b, none⟩ = b.toNat := by rw [wid]
theorem ur6 (b : Int) (vs : List data_variant) : wid ⟨b, some vs⟩ = tagN vs.length + rooms vs := by rw [wid]
theorem uo5 (v : data_variant) (r : List data_variant) : rooms (v :: r) = max (roomV v) (rooms r) := by rw [rooms]
theorem u01 : rooms [] = 0 := by rw [rooms]
theorem uo4 (n : ByteArray) (fs : List ua6) (ps : List (Option ua5)) : roomV ⟨n, fs, some ps⟩ = roomP ps := by rw [roomV]
theorem uj1 : roomP [] = 0 := by rw [roomP]
theorem uc4 (x : ua5) (r : List (Option ua5)) : roomP (some x :: r) = wid x + roomP r := by rw [roomP]
theorem uB9 (v : data_variant) (r : List data_variant) : ndsV (v :: r) = ndsW v + ndsV r := by rw [ndsV]
theorem uw8 (n : ByteArray) (fs : List ua6) (ps : List (Option ua5)) : ndsW ⟨n, fs, some ps⟩ = ndsP ps := by rw [ndsW]
theorem uB8 (x : ua5) (r : List (Option ua5)) : ndsP (some x :: r) = nds x + ndsP r := by rw [ndsP]
def AllP (Q : ua5 → Prop) (ps : List (Option ua5)) : Prop := ∀ p ∈ ps, ∃ x, p = some x ∧ Q x
def AllV (Q : ua5 → Prop) (vs : List data_variant) : Prop := ∀ v ∈ vs, ∃ n fs ps, v = ⟨n, fs, some ps⟩ ∧ fs.length = ps.length ∧ ps.length ≤ 8 ∧ AllP Q ps
theorem AllP.tail {Q : ua5 → Prop} {p : Option ua5} {r : List (Option ua5)} (h : AllP Q (p :: r)) : AllP Q r := fun x hx => h x (List.mem_cons_of_mem _ hx)
theorem AllV.tail {Q : ua5 → Prop} {p : data_variant} {r : List data_variant} (h : AllV Q (p :: r)) : AllV Q r := fun x hx => h x (List.mem_cons_of_mem _ hx)
theorem AllP.mono {Q R : ua5 → Prop} (hq : ∀ x, Q x → R x) {ps : List (Option ua5)} (h : AllP Q ps) : AllP R ps := fun p hp => by
  obtain ⟨x, hx, hx2⟩ := h p hp
  exact ⟨x, hx, hq x hx2⟩
theorem AllV.mono {Q R : ua5 → Prop} (hq : ∀ x, Q x → R x) {vs : List data_variant} (h : AllV Q vs) : AllV R vs := fun v hv => by
  obtain ⟨n, fs, ps, h1, h2, h3, h4⟩ := h v hv
  exact ⟨n, fs, ps, h1, h2, h3, h4.mono hq⟩
theorem AllP.of {R : ua3 → ua5 → Prop} {Q : ua5 → Prop} (hq : ∀ t x, R t x → Q x) {fs : List ua6} {ps : List (Option ua5)} (h : All2 (FR R) fs ps) : AllP Q ps := fun p hp => by
  obtain ⟨f, _, x, e, hr⟩ := h.memR p hp
  exact ⟨x, e, hq _ _ hr⟩
theorem AllV.of {R : ua3 → ua5 → Prop} {Q : ua5 → Prop} (hq : ∀ t x, R t x → Q x) {cs : List ua1} (hc : ∀ c ∈ cs, c.Fields.length ≤ 8) {vs : List data_variant} (h : All2 (VR R) cs vs) : AllV Q vs := fun v hv => by
  obtain ⟨c, hcm, ps, e, hr⟩ := h.memR v hv
  exact ⟨c.Name, c.Fields, ps, e, hr.len, by rw [← hr.len]; exact hc c hcm, AllP.of hq hr⟩
theorem vb4 {ps : List (Option ua5)} {x : ua5} (h : some x ∈ ps) : nds x ≤ ndsP ps := by
  induction ps with
  | nil => cases h
  | cons p r ih =>
    rcases List.mem_cons.1 h with rfl | h
    · rw [uB8]; omega
    · have := ih h
      cases p with
      | none => rw [ndsP]; exact this
      | some y => rw [uB8]; omega
theorem vb3 {vs : List data_variant} {v : data_variant} (h : v ∈ vs) : ndsW v ≤ ndsV vs := by
  induction vs with
  | nil => cases h
  | cons p r ih =>
    rw [uB9]
    rcases List.mem_cons.1 h with rfl | h
    · omega
    · have := ih h; omega
def PW (x : ua5) : Prop := nds x ≤ 200 → run_z41 (.start (some x)) = some (((wid x : Int), ()), ()) ∧ wid x ≤ 16 * nds x
theorem vb8 {ps : List (Option ua5)} (h : AllP PW ps) (hn : ndsP ps ≤ 200) : roomP ps ≤ 16 * ndsP ps := by
  induction ps with
  | nil => rw [uj1]; omega
  | cons p r ih =>
    obtain ⟨x, rfl, hx⟩ := h p (List.mem_cons_self ..)
    rw [uB8] at hn
    rw [uc4, uB8]
    have := (hx (by omega)).2
    have := ih h.tail (by omega)
    omega
theorem vY8 {vs : List data_variant} (h : AllV PW vs) (hn : ndsV vs ≤ 200) : rooms vs ≤ 16 * ndsV vs := by
  induction vs with
  | nil => rw [u01]; omega
  | cons v r ih =>
    obtain ⟨n, fs, ps, rfl, _, _, hp⟩ := h v (List.mem_cons_self ..)
    rw [uB9, uw8] at hn
    rw [uo5, uB9, uw8, uo4]
    have := vb8 hp (by omega)
    have := ih h.tail (by omega)
    omega
theorem v40 (n : ByteArray) (fs : List ua6) {ps : List (Option ua5)} (h : AllP PW ps) (hl : ps.length ≤ 8) (hn : ndsP ps ≤ 200) : um6 (.start n fs (some ps)) = some (((roomP ps : Int), ()), ()) := by
  rw [um6]
  simp only [Option.getD_some]
  have loop : ∀ {i}, i ≤ ps.length → ∀ s : Nat, s + roomP (ps.drop i) ≤ 100000 → um6 (.p116 (s : Int) (some ps) (List.length ps : Int) (i : Int)) = some ((((s + roomP (ps.drop i) : Nat) : Int), ()), ()) := by
    refine ub0 ps (P := fun i => ∀ s : Nat, s + roomP (ps.drop i) ≤ 100000 → um6 (.p116 (s : Int) (some ps) (List.length ps : Int) (i : Int)) = some ((((s + roomP (ps.drop i) : Nat) : Int), ()), ())) ?_ ?_
    · intro s hs
      rw [um6, List.drop_length, uj1]
      simp only [lt_f, Bool.false_eq_true, if_false]
      rfl
    · intro i hi ih s hs
      obtain ⟨x, hx, hq⟩ := h ps[i] (List.getElem_mem hi)
      have hm : nds x ≤ ndsP ps := vb4 (hx ▸ List.getElem_mem hi)
      rw [um6]
      simp only [lt_t hi, if_true, Option.getD_some, ua7 hi, ua0, hx, (hq (by omega)).1]
      rw [ua8 hi, hx, uc4] at hs ⊢
      rw [ua9 hi (by omega), ← Int.natCast_add, wrap_i64 (by omega) (by omega), ih (s + wid x) (by omega), Nat.add_assoc]
  have hr := vb8 h hn
  have := loop (Nat.zero_le _) 0 (by rw [List.drop_zero]; omega)
  rw [List.drop_zero, Nat.zero_add] at this
  exact this
theorem we8 (b : Int) {vs : List data_variant} (h : AllV PW vs) (hl : vs.length ≤ 16) (hn : ndsV vs ≤ 200) : run_z42 (.start (some ⟨b, some vs⟩)) = some (((rooms vs : Int), ()), ()) := by
  rw [run_z42]
  simp only [ua0, Option.getD_some]
  have loop : ∀ {i}, i ≤ vs.length → ∀ s : Nat, run_z42 (.p116 (s : Int) (some vs) (List.length vs : Int) (i : Int)) = some ((((max s (rooms (vs.drop i)) : Nat) : Int), ()), ()) := by
    refine ub0 vs (P := fun i => ∀ s : Nat, run_z42 (.p116 (s : Int) (some vs) (List.length vs : Int) (i : Int)) = some ((((max s (rooms (vs.drop i)) : Nat) : Int), ()), ())) ?_ ?_
    · intro s
      rw [run_z42, List.drop_length, u01]
      simp only [lt_f, Bool.false_eq_true, if_false, Nat.max_zero]
    · intro i hi ih s
      obtain ⟨n, fs, ps, hx, _, hpl, hq⟩ := h vs[i] (List.getElem_mem hi)
      have hm := vb3 (List.getElem_mem hi)
      rw [hx, uw8] at hm
      rw [run_z42]
      simp only [lt_t hi, if_true, Option.getD_some, ua7 hi, ua0, hx]
      rw [v40 n fs hq hpl (by omega)]
      simp only [ua0]
      rw [ua8 hi, hx, uo5, uo4, ua9 hi (by omega)]
      rw [show (if (roomP ps : Int) > (s : Int) then (roomP ps : Int) else (s : Int)) = ((max s (roomP ps) : Nat) : Int) by
        by_cases hh : (roomP ps : Int) > (s : Int)
        · rw [if_pos hh]; omega
        · rw [if_neg hh]; omega]
      rw [ih, Nat.max_assoc]
  have := loop (Nat.zero_le _) 0
  rw [List.drop_zero, Nat.zero_max] at this
  exact this
def SOkN : Nat → ua5 → Prop
 | 0, _ => False
 | n + 1, x => (∃ b : Int, 1 ≤ b ∧ b ≤ 16 ∧ x = ⟨b, none⟩) ∨ (∃ vs : List data_variant, 0 < vs.length ∧ vs.length ≤ 16 ∧ AllV (SOkN n) vs ∧ x = ⟨0, some vs⟩)
def SOk (x : ua5) : Prop := ∃ n, SOkN n x
theorem sokN {l : List ua2} (hv : uj3 l) : ∀ n t x, SR l n t x → SOkN n x
 | 0, t, x, h => h.elim
 | n + 1, t, x, h => by
   rcases h with ⟨_, _, p, _, h1, h2, rfl⟩ | ⟨hk, hb, ht, htr, vs, rfl, hr⟩
   · exact .inl ⟨_, h1, h2, rfl⟩
   · obtain ⟨⟨m0, m1⟩, m2⟩ := uj2 hv ht htr hk
     have hlen := hr.len
     exact .inr ⟨vs, by omega, by omega, AllV.of (fun t x h => sokN hv n t x h) (fun c hc => (m2 c hc).1) hr, rfl⟩
theorem sok {l : List ua2} (hv : uj3 l) {n : Nat} {t : ua3} {x : ua5} (h : SR l n t x) : SOk x := ⟨n, sokN hv n t x h⟩
theorem uy7 (b : Int) : ur2 (.start (some ⟨b, none⟩)) = some ((true, ()), ()) := rfl
theorem uy8 (b : Int) (vs : List data_variant) (h : 0 < vs.length) : ur2 (.start (some ⟨b, some vs⟩)) = some ((false, ()), ()) := by
  cases vs with
  | nil => simp at h
  | cons => rfl
theorem u25 {Q : ua5 → Prop} (hb : ∀ b : Int, 1 ≤ b → b ≤ 16 → Q ⟨b, none⟩) (hc : ∀ vs : List data_variant, 0 < vs.length → vs.length ≤ 16 → AllV (fun x => SOk x ∧ Q x) vs → Q ⟨0, some vs⟩) : ∀ x, SOk x → Q x := by
  have key : ∀ n x, SOkN n x → Q x := by
    intro n
    induction n with
    | zero => intro x h; exact h.elim
    | succ n ih =>
      intro x h
      rcases h with ⟨b, h1, h2, rfl⟩ | ⟨vs, h0, h1, h, rfl⟩
      · exact hb b h1 h2
      · exact hc vs h0 h1 (h.mono fun x hx => ⟨⟨n, hx⟩, ih x hx⟩)
  exact fun x ⟨n, h⟩ => key n x h
theorem pwid : ∀ x, SOk x → PW x := by
  refine u25 (fun b h1 h2 => ?_) (fun vs h0 h1 h => ?_)
  · intro _
    rw [run_z41, uy7, uw3, uH2]
    simp only [ua0, if_true]
    refine ⟨?_, by omega⟩
    rw [Int.toNat_of_nonneg (by omega)]
  · intro hn
    rw [uQ3] at hn ⊢
    have h' : AllV PW vs := h.mono fun x hx => hx.2
    have hr := vY8 h' (by omega)
    have ht := wg8 vs.length
    rw [run_z41, uy8 _ _ h0, ur6]
    simp only [ua0, Bool.false_eq_true, if_false, ptag _ vs h0 h1, we8 0 h' h1 (by omega)]
    rw [← Int.natCast_add, wrap_i64 (by omega) (by omega)]
    exact ⟨rfl, by omega⟩
end Go.Proofs.YtaennkkcnhfglaaGreatDoor.Ev.F
namespace Go.Proofs.YtaennkkcnhfglaaGreatDoor.Ev.F
open Go.Proofs.YtaennkkcnhfglaaGreatDoor.Ev
theorem vN2 {x : ua5} (h : SOk x) (hn : nds x ≤ 200) : wid x ≤ 3200 := by
  have := (pwid x h hn).2
  omega
def RW (l : List ua2) (t : ua3) (x : ua5) : Prop := nds x ≤ 200 → SOk x ∧ run_z100 (.start l t.Kind t.Value t.Name t.Parts) = some (((wid x : Int), ()), ())
theorem ve4 {l : List ua2} (c : ua1) (hl : c.Fields.length ≤ 8) {ps : List (Option ua5)} (h : All2 (FR (RW l)) c.Fields ps) (hn : ndsP ps ≤ 200) : up6 (.start l c.Name c.Fields) = some (((roomP ps : Int), ()), ()) := by
  rw [up6]
  have hlen := h.len
  have hP : AllP (fun x => nds x ≤ 200 → SOk x) ps := AllP.of (fun t x hx hn => (hx hn).1) h
  have hW : AllP PW ps := fun p hp => by
    obtain ⟨x, e, hx⟩ := hP p hp
    have : nds x ≤ ndsP ps := vb4 (e ▸ hp)
    exact ⟨x, e, pwid x (hx (by omega))⟩
  have hr := vb8 hW hn
  have loop : ∀ {i}, i ≤ c.Fields.length → ∀ s : Nat, s + roomP (ps.drop i) ≤ 100000 → up6 (.p116 l (s : Int) (i : Int) c.Name c.Fields) = some ((((s + roomP (ps.drop i) : Nat) : Int), ()), ()) := by
    refine ub0 c.Fields (P := fun i => ∀ s : Nat, s + roomP (ps.drop i) ≤ 100000 → up6 (.p116 l (s : Int) (i : Int) c.Name c.Fields) = some ((((s + roomP (ps.drop i) : Nat) : Int), ()), ())) ?_ ?_
    · intro s hs
      rw [up6, hlen, List.drop_length, uj1]
      simp only [lt_f, Bool.false_eq_true, if_false]
      rfl
    · intro i hi ih s hs
      have hi2 : i < ps.length := by omega
      obtain ⟨x, hx, hq⟩ := h.get i hi hi2
      have hm : nds x ≤ ndsP ps := vb4 (hx ▸ List.getElem_mem hi2)
      rw [up6]
      simp only [lt_t hi, if_true, ua7 hi, ua0, (hq (by omega)).2]
      rw [ua8 hi2, hx, uc4] at hs ⊢
      rw [ua9 hi (by omega), ← Int.natCast_add, wrap_i64 (by omega) (by omega), ih (s + wid x) (by omega), Nat.add_assoc]
  have := loop (Nat.zero_le _) 0 (by rw [List.drop_zero]; omega)
  rw [List.drop_zero, Nat.zero_add] at this
  exact this
theorem u47 {l : List ua2} (hv : uj3 l) {t : ua3} (hk : t.Kind = 1) (hb : t.Name ≠ sBit) (ht : Ty l t) (htr : tree t = true) : ud3 (.start l t.Kind t.Value t.Name t.Parts) = some ((ub1 l t, ()), ()) := by
  obtain ⟨hc1, hc2, hc3, hc4⟩ := ht.con hv.plain hk
  have hs := ur4 htr
  have := vL9 (show l.length ≤ big by have := hv.len; unfold big; omega) hv.plain hv.light t.Kind t.Value t.Name t.Parts hc2 (fun a ha => by have := uN5 ha; omega) (hc3 hb)
  rw [us6] at this
  exact this
theorem vY9 {l : List ua2} (hv : uj3 l) {t : ua3} (hk : t.Kind = 1) (hb : t.Name ≠ sBit) (ht : Ty l t) (htr : tree t = true) {vs : List data_variant} (h : All2 (VR (RW l)) (ub1 l t) vs) (hn : ndsV vs ≤ 200) : run_z101 (.start l t.Kind t.Value t.Name t.Parts) = some (((rooms vs : Int), ()), ()) := by
  rw [run_z101, u47 hv hk hb ht htr]
  simp only [ua0]
  obtain ⟨⟨m0, m1⟩, m2⟩ := uj2 hv ht htr hk
  have hlen := h.len
  have loop : ∀ {i}, i ≤ (ub1 l t).length → ∀ s : Nat, run_z101 (.p116 l (ub1 l t) (s : Int) (i : Int)) = some ((((max s (rooms (vs.drop i)) : Nat) : Int), ()), ()) := by
    refine ub0 (ub1 l t) (P := fun i => ∀ s : Nat, run_z101 (.p116 l (ub1 l t) (s : Int) (i : Int)) = some ((((max s (rooms (vs.drop i)) : Nat) : Int), ()), ())) ?_ ?_
    · intro s
      rw [run_z101, hlen, List.drop_length, u01]
      simp only [lt_f, Bool.false_eq_true, if_false, Nat.max_zero]
    · intro i hi ih s
      have hi2 : i < vs.length := by omega
      obtain ⟨ps, hx, hq⟩ := h.get i hi hi2
      have hm := vb3 (List.getElem_mem hi2)
      rw [hx, uw8] at hm
      rw [run_z101]
      simp only [lt_t hi, if_true, ua7 hi, ua0, ve4 _ (m2 _ (List.getElem_mem hi)).1 hq (by omega)]
      rw [ua8 hi2, hx, uo5, uo4, ua9 hi (by omega)]
      rw [show (if (roomP ps : Int) > (s : Int) then (roomP ps : Int) else (s : Int)) = ((max s (roomP ps) : Nat) : Int) by
        by_cases hh : (roomP ps : Int) > (s : Int)
        · rw [if_pos hh]; omega
        · rw [if_neg hh]; omega]
      rw [ih, Nat.max_assoc]
  have := loop (Nat.zero_le _) 0
  rw [List.drop_zero, Nat.zero_max] at this
  exact this
theorem All2.mono {α β : Type} {R R' : α → β → Prop} (hr : ∀ a b, R a b → R' a b) {l : List α} {m : List β} (h : All2 R l m) : All2 R' l m := by
  induction h with
  | nil => exact .nil
  | cons h t ih => exact .cons (hr _ _ h) ih
theorem VR.mono {R R' : ua3 → ua5 → Prop} (hr : ∀ t x, R t x → R' t x) {c : ua1} {v : data_variant} (h : VR R c v) : VR R' c v := by
  obtain ⟨ps, e, h⟩ := h
  exact ⟨ps, e, h.mono fun f p ⟨x, e, hx⟩ => ⟨x, e, hr _ _ hx⟩⟩
theorem rwid {l : List ua2} (hv : uj3 l) : ∀ n t x, SR l n t x → RW l t x
 | 0, t, x, h => h.elim
 | n + 1, t, x, h => fun hn => by
   have hsok := sok hv h
   refine ⟨hsok, ?_⟩
   rw [run_z100, ul1]
   rcases h with ⟨hk, hb, p, hp, h1, h2, rfl⟩ | ⟨hk, hb, ht, htr, vs, rfl, hr⟩
   · rw [decide_eq_true (show t.Kind = 1 ∧ t.Name = sBit from ⟨hk, hb⟩), hp, uw3]
     simp only [ua0, if_true, show idx [p] (0 : Int) = some p from rfl]
     rw [Int.toNat_of_nonneg (by omega)]
   · rw [decide_eq_false (fun h => hb h.2)]
     rw [uQ3] at hn
     obtain ⟨⟨m0, m1⟩, m2⟩ := uj2 hv ht htr hk
     have hr' : All2 (VR (RW l)) (ub1 l t) vs := hr.mono fun c v h => h.mono fun t x h => rwid hv n t x h
     have hlen := hr.len
     simp only [ua0, Bool.false_eq_true, if_false, u47 hv hk hb ht htr, rtag _ m1, vY9 hv hk hb ht htr hr' (by omega)]
     rw [ur6, hlen]
     have := vN2 hsok (by rw [uQ3]; omega)
     rw [ur6] at this
     rw [← Int.natCast_add, wrap_i64 (by omega) (by omega)]
def vy2 (l : List ua2) (t : ua3) : Int := if ur5 l [] t = 0 then (if (exT l 40 t 0).1 = 0 then (if 1 ≤ wid (exT l 40 t 0).2.2 ∧ wid (exT l 40 t 0).2.2 ≤ 16 then 0 else 25) else (exT l 40 t 0).1) else ur5 l [] t
def ut4 (l : List ua2) (t : ua3) : Int := if (uO8 l).2 = 0 then vy2 l t else (uO8 l).2
structure uW4 (l : List ua2) (t : ua3) (x : ua5) : Prop where
  valid : uj3 l
  ty : Ty l t
  tree : tree t = true
  sr : SR l 40 t x
  nds : nds x ≤ 200
  w1 : 1 ≤ wid x
  w16 : wid x ≤ 16
theorem un5.light {d : ua2} (h : un5 d) : uq1 d := ⟨h.plen, h.clen, fun c hc => ⟨(h.cs c hc).len, fun f hf => ((h.cs c hc).fs f hf).tree⟩⟩
theorem uq3 {l : List ua2} (hd : ∀ d ∈ l, uq1 d) {t : ua3} (h : ut4 l t = 0) : uW4 l t (exT l 40 t 0).2.2 := by
  unfold ut4 at h
  by_cases h0 : (uO8 l).2 = 0
  · rw [if_pos h0] at h
    have hv := vf5 hd h0
    unfold vy2 at h
    by_cases h1 : ur5 l [] t = 0
    · rw [if_pos h1] at h
      obtain ⟨htr, hn⟩ := uF4 h1
      have hs := ur4 htr
      have hty : Ty l t := ⟨by omega, hn⟩
      by_cases h2 : (exT l 40 t 0).1 = 0
      · rw [if_pos h2] at h
        obtain ⟨a1, a2, a3⟩ := vv5 hv 40 t 0 hty (by omega) h2
        by_cases h3 : 1 ≤ wid (exT l 40 t 0).2.2 ∧ wid (exT l 40 t 0).2.2 ≤ 16
        · exact ⟨hv, hty, htr, a1, by omega, h3.1, h3.2⟩
        · rw [if_neg h3] at h; cases h
      · rw [if_neg h2] at h; exact absurd h h2
    · rw [if_neg h1] at h; exact absurd h h1
  · rw [if_neg h0] at h; exact absurd h h0
theorem we6 {l : List ua2} (hl : l.length ≤ 24) (hd : ∀ d ∈ l, un5 d) {t : ua3} (ht : lenOk t) : ∃ o, uA3 (.start l t.Kind t.Value t.Name t.Parts) = some ((o, ((l, ((), ())), (ut4 l t, ()))), ()) ∧ (ut4 l t = 0 → o = some (exT l 40 t 0).2.2) := by
  rw [uA3, wo5 l hl hd]
  simp only [ua0]
  unfold ut4
  by_cases h0 : (uO8 l).2 = 0
  · have hv := vf5 (fun d h => (hd d h).light) h0
    rw [if_neg (by simpa using h0), if_pos h0, v42 (by unfold big; omega) (by simp) t ht]
    simp only [ua0]
    unfold vy2
    by_cases h1 : ur5 l [] t = 0
    · rw [h1, if_neg (by decide), if_pos rfl]
      obtain ⟨htr, hn⟩ := uF4 h1
      have hs := ur4 htr
      have hty : Ty l t := ⟨by omega, hn⟩
      obtain ⟨_, o, c'', e1, e2⟩ := wo7 hv 40 (by omega) t 0 hty (by omega)
      rw [show ((41 - 40 : Nat) : Int) = 1 from rfl, show ((0 : Nat) : Int) = 0 from rfl] at e1
      rw [e1]
      simp only [ua0]
      by_cases h2 : (exT l 40 t 0).1 = 0
      · obtain ⟨a1, a2, a3⟩ := vv5 hv 40 t 0 hty (by omega) h2
        rw [h2, if_pos (by decide), if_pos rfl, (e2 h2).1, (pwid _ (sok hv a1) (by omega)).1]
        simp only [ua0, uH6]
        by_cases h3 : 1 ≤ wid (exT l 40 t 0).2.2 ∧ wid (exT l 40 t 0).2.2 ≤ 16
        · rw [decide_eq_true (by omega), if_neg (by simp), if_pos h3]
          exact ⟨_, rfl, fun _ => rfl⟩
        · rw [decide_eq_false (by omega), if_pos (by simp), if_neg h3]
          exact ⟨_, rfl, fun h => (by cases h)⟩
      · rw [if_neg (by simpa using h2), if_neg h2]
        exact ⟨_, rfl, fun h => absurd h h2⟩
    · rw [if_pos (by simpa using h1), if_neg h1]
      exact ⟨_, rfl, fun h => absurd h h1⟩
  · rw [if_pos (by simpa using h0), if_neg h0]
    exact ⟨_, rfl, fun h => absurd h h0⟩
theorem wy0 {l : List ua2} (hl : l.length ≤ 24) (hd : ∀ d ∈ l, un5 d) {t : ua3} (ht : lenOk t) : uV4 (.start l t.Kind t.Value t.Name t.Parts) = some ((ut4 l t, ()), ()) := by
  rw [uV4, vs5, wp7 l hl hd]
  simp only [ua0]
  unfold ut4
  by_cases h0 : (uO8 l).2 = 0
  · have hv := vf5 (fun d h => (hd d h).light) h0
    rw [if_neg (by simpa using h0), if_pos h0, vd9, v47 (by unfold big; omega) (by simp) hv.plain t ht]
    simp only [ua0]
    unfold vy2
    by_cases h1 : ur5 l [] t = 0
    · rw [h1, if_neg (by decide), if_pos rfl]
      obtain ⟨htr, hn⟩ := uF4 h1
      have hs := ur4 htr
      have hty : Ty l t := ⟨by omega, hn⟩
      obtain ⟨c'', e1, e2⟩ := wq0 hv 40 (by omega) t 0 hty (by omega)
      rw [show ((40 - 40 : Nat) : Int) = 0 from rfl] at e1
      rw [e1]
      simp only [ua0]
      by_cases h2 : (exT l 40 t 0).1 = 0
      · obtain ⟨a1, a2, a3⟩ := vv5 hv 40 t 0 hty (by omega) h2
        rw [h2, if_neg (by decide), if_pos rfl, (rwid hv 40 t _ a1 (by omega)).2]
        simp only [ua0, vx4]
        by_cases h3 : 1 ≤ wid (exT l 40 t 0).2.2 ∧ wid (exT l 40 t 0).2.2 ≤ 16
        · rw [decide_eq_true (by omega), if_neg (by simp), if_pos h3]
          simp only [ua0]
        · rw [decide_eq_false (by omega), if_pos (by simp), if_neg h3]
          simp only [ua0]
      · rw [if_pos (by simpa using h2), if_neg h2]
        simp only [ua0]
    · rw [if_pos (by simpa using h1), if_neg h1]
      simp only [ua0]
  · rw [if_pos (by simpa using h0), if_neg h0]
end Go.Proofs.YtaennkkcnhfglaaGreatDoor.Ev.F
namespace Go.Proofs.YtaennkkcnhfglaaGreatDoor.Ev.F
open Go.Proofs.YtaennkkcnhfglaaGreatDoor.Ev Go.Proofs
def DHyp (a0 : List ua2) : Prop := (a0.length ≤ maxLen ∧ ∀ x ∈ a0, (x.Name.size ≤ maxLen) ∧ (x.Params.length ≤ maxLen ∧ ∀ y ∈ x.Params, y.size ≤ maxLen) ∧ (x.Constructors.length ≤ maxLen ∧ ∀ y ∈ x.Constructors, (y.Name.size ≤ maxLen) ∧ (y.Fields.length ≤ maxLen ∧ ∀ x ∈ y.Fields, (x.Name.size ≤ maxLen) ∧ (ue9 x.Type_) ∧ True) ∧ True) ∧ True)
theorem vI0 {l : List ua2} (h : DHyp l) (hl : ∀ d ∈ l, uq1 d) : ∀ d ∈ l, un5 d := by
  intro d hd
  obtain ⟨h1, h2⟩ := h
  obtain ⟨n1, n2, n3, _⟩ := h2 d hd
  have hld := hl d hd
  refine ⟨n1, hld.plen, n2.2, hld.clen, fun c hc => ?_⟩
  obtain ⟨c1, c2, _⟩ := n3.2 c hc
  obtain ⟨m1, m2⟩ := hld.cs c hc
  exact ⟨c1, m1, fun f hf => ⟨(c2.2 f hf).1, m2 f hf⟩⟩
theorem vX5 {t : ua3} (h : ue9 t) : lenOk t := by
  revert h
  refine um2 (P := fun t => ue9 t → lenOk t) (fun k v s ts ih h => ?_) t
  obtain ⟨_, h0, h1, h2, h3, h4⟩ := h
  exact .mk k v s ts h3 fun p hp => ih p hp (h4 p hp)
theorem wf1 (vs : List data_variant) (s : ByteArray) (hl : vs.length ≤ big) (o : Option (List data_variant)) (ho : o.getD [] = vs) : up3 (.start o s) = some ((ix (fun v => decide (v.name = s)) vs, ()), ((s, ()), ())) := by
  rw [up3, ho]
  have : ∀ {i}, i ≤ vs.length → up3 (.p52 o (List.length vs : Int) (i : Int) s) = some ((ixAt (fun v => decide (v.name = s)) i (vs.drop i), ()), ((s, ()), ())) := by
    refine ub0 vs (P := fun i => up3 (.p52 o (List.length vs : Int) (i : Int) s) = some ((ixAt (fun v => decide (v.name = s)) i (vs.drop i), ()), ((s, ()), ()))) ?_ ?_
    · rw [up3]; simp [ixAt]
    · intro i hi ih
      rw [up3]
      simp only [lt_t hi, if_true, ho, ua7 hi, ua0, ui0, u17]
      rw [ua9 hi hl, ih, ua8 hi]
      simp only [ixAt]
      by_cases h0 : vs[i].name = s <;> simp [h0]
  exact this (Nat.zero_le _)
theorem vL2 (x : ua5) (s : ByteArray) (hl : (x.constructors.getD []).length ≤ big) : uI4 (.start (some x) s) = some ((ix (fun v => decide (v.name = s)) (x.constructors.getD []), ()), ()) := by
  rw [uI4]
  simp only [ua0, wf1 _ s hl _ rfl]
end Go.Proofs.YtaennkkcnhfglaaGreatDoor.Ev.F
namespace Go.Proofs.YtaennkkcnhfglaaGreatDoor.Ev.F
open Go.Proofs.YtaennkkcnhfglaaGreatDoor.Ev Go.Proofs
theorem wf8 (l : List ua1) (s : ByteArray) (hl : l.length ≤ big) : uk9 (.start l s) = some ((ix (fun c => decide (c.Name = s)) l, ()), ()) := by
  rw [uk9]
  have : ∀ {i}, i ≤ l.length → uk9 (.p52 l s (i : Int)) = some ((ixAt (fun c => decide (c.Name = s)) i (l.drop i), ()), ()) := by
    refine ub0 l (P := fun i => uk9 (.p52 l s (i : Int)) = some ((ixAt (fun c => decide (c.Name = s)) i (l.drop i), ()), ())) ?_ ?_
    · rw [uk9]; simp [ixAt]
    · intro i hi ih
      rw [uk9]
      simp only [lt_t hi, if_true, ua7 hi, ua0, ui0]
      rw [ua9 hi hl, ih, ua8 hi]
      simp only [ixAt]
      by_cases h0 : l[i].Name = s <;> simp [h0]
  exact this (Nat.zero_le _)
end Go.Proofs.YtaennkkcnhfglaaGreatDoor.Ev.F
namespace Go.Proofs.YtaennkkcnhfglaaGreatDoor.Ev.F
open Go.Proofs.YtaennkkcnhfglaaGreatDoor.Ev Go.Proofs
def Sm (x : ua5) : Prop := nds x ≤ 200 ∧ wid x ≤ 16
theorem vj9 {ps : List (Option ua5)} {x : ua5} (h : some x ∈ ps) : wid x ≤ roomP ps := by
  induction ps with
  | nil => cases h
  | cons p r ih =>
    rcases List.mem_cons.1 h with rfl | h
    · rw [uc4]; omega
    · have := ih h
      cases p with
      | none => rw [roomP]; exact this
      | some y => rw [uc4]; omega
theorem vM6 {vs : List data_variant} {v : data_variant} (h : v ∈ vs) : roomV v ≤ rooms vs := by
  induction vs with
  | nil => cases h
  | cons p r ih =>
    rw [uo5]
    rcases List.mem_cons.1 h with rfl | h
    · exact Nat.le_max_left _ _
    · exact Nat.le_trans (ih h) (Nat.le_max_right _ _)
theorem vk8 {b : Int} {vs : List data_variant} (h : Sm ⟨b, some vs⟩) : ndsV vs ≤ 199 ∧ tagN vs.length + rooms vs ≤ 16 := by
  obtain ⟨h1, h2⟩ := h
  rw [uQ3] at h1
  rw [ur6] at h2
  exact ⟨by omega, h2⟩
theorem uh1 {vs : List data_variant} (h1 : ndsV vs ≤ 199) (h2 : tagN vs.length + rooms vs ≤ 16) {n : ByteArray} {fs : List ua6} {ps : List (Option ua5)} (hv : ⟨n, fs, some ps⟩ ∈ vs) : ndsP ps ≤ 199 ∧ roomP ps ≤ rooms vs ∧ ∀ x, some x ∈ ps → Sm x := by
  have h3 := vb3 hv
  have h4 := vM6 hv
  rw [uw8] at h3
  rw [uo4] at h4
  refine ⟨by omega, h4, fun x hx => ?_⟩
  have h5 := vb4 hx
  have h6 := vj9 hx
  exact ⟨by omega, by omega⟩
theorem uw9 {Q : ua5 → Prop} (hb : ∀ b : Int, 1 ≤ b → b ≤ 16 → Q ⟨b, none⟩)
    (hc : ∀ vs : List data_variant, 0 < vs.length → vs.length ≤ 16 → ndsV vs ≤ 199 → tagN vs.length + rooms vs ≤ 16 → AllV (fun x => SOk x ∧ Sm x ∧ Q x) vs → Q ⟨0, some vs⟩) : ∀ x, SOk x → Sm x → Q x := by
  refine u25 (Q := fun x => Sm x → Q x) (fun b h1 h2 _ => hb b h1 h2) (fun vs h0 h1 h hs => ?_)
  obtain ⟨s1, s2⟩ := vk8 hs
  refine hc vs h0 h1 s1 s2 fun v hv => ?_
  obtain ⟨n, fs, ps, rfl, l1, l2, hp⟩ := h v hv
  obtain ⟨_, _, k3⟩ := uh1 s1 s2 hv
  refine ⟨n, fs, ps, rfl, l1, l2, fun p hpm => ?_⟩
  obtain ⟨x, rfl, hx1, hx2⟩ := hp p hpm
  exact ⟨x, rfl, hx1, k3 x hpm, hx2 (k3 x hpm)⟩
structure ConC (l : List ua2) (t : ua3) (vs : List data_variant) : Prop where
  kind : t.Kind = 1
  name : t.Name ≠ sBit
  ty : Ty l t
  tree : tree t = true
  pos : 0 < vs.length
  len : vs.length ≤ 16
  nds : ndsV vs ≤ 199
  wid : tagN vs.length + rooms vs ≤ 16
  fs : ∀ c ∈ ub1 l t, c.Fields.length ≤ 8
theorem All2.withMem {α β : Type} {R : α → β → Prop} {l : List α} {m : List β} (h : All2 R l m) : All2 (fun a b => (a ∈ l ∧ b ∈ m) ∧ R a b) l m := by
  induction h with
  | nil => exact .nil
  | cons h t ih => exact .cons ⟨⟨List.mem_cons_self .., List.mem_cons_self ..⟩, h⟩ (ih.mono fun a b ⟨⟨h1, h2⟩, h3⟩ => ⟨⟨List.mem_cons_of_mem _ h1, List.mem_cons_of_mem _ h2⟩, h3⟩)
theorem uQ8 {l : List ua2} (hv : uj3 l) {Q : ua3 → ua5 → Prop} (hb : ∀ t p, t.Kind = 1 → t.Name = sBit → t.Parts = [p] → 1 ≤ p.Value → p.Value ≤ 16 → Q t ⟨p.Value, none⟩)
    (hc : ∀ t vs, ConC l t vs → All2 (VR (fun t x => SOk x ∧ Sm x ∧ Q t x)) (ub1 l t) vs → Q t ⟨0, some vs⟩) : ∀ n t x, SR l n t x → Sm x → Q t x
 | 0, t, x, h, _ => h.elim
 | n + 1, t, x, h, hs => by
   rcases h with ⟨hk, hb', p, hp, h1, h2, rfl⟩ | ⟨hk, hb', ht, htr, vs, rfl, hr⟩
   · exact hb t p hk hb' hp h1 h2
   · obtain ⟨⟨m0, m1⟩, m2⟩ := uj2 hv ht htr hk
     have hlen := hr.len
     obtain ⟨s1, s2⟩ := vk8 hs
     refine hc t vs ⟨hk, hb', ht, htr, by omega, by omega, s1, s2, fun c hc => (m2 c hc).1⟩ (hr.withMem.mono fun c v h => ?_)
     obtain ⟨⟨hcm, hvm⟩, ps, rfl, hps⟩ := h
     obtain ⟨_, _, k3⟩ := uh1 s1 s2 hvm
     refine ⟨ps, rfl, hps.withMem.mono fun f p h => ?_⟩
     obtain ⟨⟨hf, hpm⟩, x, rfl, hx⟩ := h
     exact ⟨x, rfl, sok hv hx, k3 x hpm, uQ8 hv hb hc n _ _ hx (k3 x hpm)⟩
mutual
def cnt : ua5 → Nat
 | ⟨b, none⟩ => 2 ^ b.toNat
 | ⟨_, some vs⟩ => cntVs vs
def cntVs : List data_variant → Nat
 | [] => 0
 | v :: r => cntV v + cntVs r
def cntV : data_variant → Nat
 | ⟨_, _, none⟩ => 1
 | ⟨_, _, some ps⟩ => cntP ps
def cntP : List (Option ua5) → Nat
 | [] => 1
 | none :: r => cntP r
 | some x :: r => cnt x * cntP r
end
theorem uO9 (b : Int) : cnt ⟨b, none⟩ = 2 ^ b.toNat := by rw [cnt]
theorem uq7 (b : Int) (vs : List data_variant) : cnt ⟨b, some vs⟩ = cntVs vs := by rw [cnt]
theorem ul7 : cntVs [] = 0 := by rw [cntVs]
theorem ue4 (v : data_variant) (r : List data_variant) : cntVs (v :: r) = cntV v + cntVs r := by rw [cntVs]
theorem ud4 (n : ByteArray) (fs : List ua6) (ps : List (Option ua5)) : cntV ⟨n, fs, some ps⟩ = cntP ps := by rw [cntV]
theorem uk7 : cntP [] = 1 := by rw [cntP]
theorem ug5 (x : ua5) (r : List (Option ua5)) : cntP (some x :: r) = cnt x * cntP r := by rw [cntP]
theorem uN3 (n : Nat) (h : n ≤ 16) : n ≤ 2 ^ tagN n := by
  unfold tagN
  split
  · omega
  · split
    · omega
    · split
      · omega
      · split <;> omega
def CB (x : ua5) : Prop := 1 ≤ cnt x ∧ cnt x ≤ 2 ^ wid x
theorem uf3 {ps : List (Option ua5)} (h : AllP CB ps) : 1 ≤ cntP ps ∧ cntP ps ≤ 2 ^ roomP ps := by
  induction ps with
  | nil => rw [uk7, uj1]; decide
  | cons p r ih =>
    obtain ⟨x, rfl, h1, h2⟩ := h p (List.mem_cons_self ..)
    obtain ⟨k1, k2⟩ := ih h.tail
    rw [ug5, uc4, Nat.pow_add]
    exact ⟨Nat.mul_le_mul h1 k1, Nat.mul_le_mul h2 k2⟩
theorem uk2 {vs : List data_variant} (h : AllV CB vs) : vs.length ≤ cntVs vs ∧ cntVs vs ≤ vs.length * 2 ^ rooms vs := by
  induction vs with
  | nil => rw [ul7]; simp
  | cons v r ih =>
    obtain ⟨n, fs, ps, rfl, _, _, hp⟩ := h v (List.mem_cons_self ..)
    obtain ⟨k1, k2⟩ := ih h.tail
    obtain ⟨p1, p2⟩ := uf3 hp
    rw [ue4, ud4, uo5, uo4, List.length_cons, Nat.add_mul]
    have m1 : 2 ^ roomP ps ≤ 2 ^ max (roomP ps) (rooms r) := Nat.pow_le_pow_right (by decide) (Nat.le_max_left _ _)
    have m2 : 2 ^ rooms r ≤ 2 ^ max (roomP ps) (rooms r) := Nat.pow_le_pow_right (by decide) (Nat.le_max_right _ _)
    have m3 : r.length * 2 ^ rooms r ≤ r.length * 2 ^ max (roomP ps) (rooms r) := Nat.mul_le_mul_left _ m2
    omega
theorem uc0 : ∀ x, SOk x → CB x := by
  refine u25 (fun b h1 h2 => ?_) (fun vs h0 h1 h => ?_)
  · unfold CB
    rw [uO9, uw3]
    exact ⟨Nat.one_le_two_pow, Nat.le_refl _⟩
  · unfold CB
    obtain ⟨k1, k2⟩ := uk2 (h.mono fun x hx => hx.2)
    rw [uq7, ur6, Nat.pow_add]
    have := uN3 vs.length h1
    exact ⟨by omega, Nat.le_trans k2 (Nat.mul_le_mul_right _ this)⟩
theorem uc1 {n : Nat} (h : n ≤ 16) : 2 ^ n ≤ 65536 := Nat.le_trans (Nat.pow_le_pow_right (by decide) h) (by decide)
def PC (x : ua5) : Prop := run_z61 (.start (some x)) = some (((cnt x : Int), ()), ())
theorem we1 (n : ByteArray) (fs : List ua6) {ps : List (Option ua5)} (h : AllP (fun x => SOk x ∧ Sm x ∧ PC x) ps) (hl : ps.length ≤ 8) (hr : roomP ps ≤ 16) : ul6 (.start n fs (some ps)) = some (((cntP ps : Int), ()), ()) := by
  rw [ul6]
  simp only [Option.getD_some]
  have loop : ∀ {i}, i ≤ ps.length → ∀ s : Nat, s * cntP (ps.drop i) ≤ 65536 → ul6 (.p116 (s : Int) (some ps) (List.length ps : Int) (i : Int)) = some ((((s * cntP (ps.drop i) : Nat) : Int), ()), ()) := by
    refine ub0 ps (P := fun i => ∀ s : Nat, s * cntP (ps.drop i) ≤ 65536 → ul6 (.p116 (s : Int) (some ps) (List.length ps : Int) (i : Int)) = some ((((s * cntP (ps.drop i) : Nat) : Int), ()), ())) ?_ ?_
    · intro s hs
      rw [ul6, List.drop_length, uk7]
      simp only [lt_f, Bool.false_eq_true, if_false, Nat.mul_one]
    · intro i hi ih s hs
      obtain ⟨x, hx, hq1, hq2, hq3⟩ := h ps[i] (List.getElem_mem hi)
      rw [ul6]
      simp only [lt_t hi, if_true, Option.getD_some, ua7 hi, ua0, hx, show run_z61 (.start (some x)) = _ from hq3]
      rw [ua8 hi, hx, ug5] at hs ⊢
      have hrest : AllP CB (ps.drop (i + 1)) := fun p hp => by
        obtain ⟨y, e, hy, _⟩ := h p (List.mem_of_mem_drop hp)
        exact ⟨y, e, uc0 y hy⟩
      have h1 := (uf3 hrest).1
      rw [← Nat.mul_assoc] at hs ⊢
      have h2 : s * cnt x * 1 ≤ s * cnt x * cntP (ps.drop (i + 1)) := Nat.mul_le_mul_left _ h1
      rw [ua9 hi (by omega), ← Int.natCast_mul, wrap_i64 (by omega) (by omega), ih (s * cnt x) hs]
  have hb := (uf3 (h.mono fun x hx => uc0 x hx.1)).2
  have hp := uc1 hr
  have := loop (Nat.zero_le _) 1 (by rw [List.drop_zero]; omega)
  rw [List.drop_zero, Nat.one_mul] at this
  exact this
theorem vj1 : ∀ x, SOk x → Sm x → PC x := by
  refine uw9 (fun b h1 h2 => ?_) (fun vs h0 h1 hn hw h => ?_)
  · unfold PC
    rw [run_z61, uy7]
    simp only [ua0, if_true]
    rw [decide_eq_true (by omega), if_pos rfl, ve9 (by omega), uO9]
    unfold pw
    simp
  · unfold PC
    rw [run_z61, uy8 _ _ h0]
    simp only [ua0, Bool.false_eq_true, if_false, Option.getD_some]
    have hCB := h.mono fun x hx => uc0 x hx.1
    have loop : ∀ {i}, i ≤ vs.length → ∀ s : Nat, s + cntVs (vs.drop i) ≤ 10000000 → run_z61 (.p244 (s : Int) (some vs) (List.length vs : Int) (i : Int)) = some ((((s + cntVs (vs.drop i) : Nat) : Int), ()), ()) := by
      refine ub0 vs (P := fun i => ∀ s : Nat, s + cntVs (vs.drop i) ≤ 10000000 → run_z61 (.p244 (s : Int) (some vs) (List.length vs : Int) (i : Int)) = some ((((s + cntVs (vs.drop i) : Nat) : Int), ()), ())) ?_ ?_
      · intro s hs
        rw [run_z61, List.drop_length, ul7]
        simp only [lt_f, Bool.false_eq_true, if_false, Nat.add_zero]
      · intro i hi ih s hs
        obtain ⟨n, fs, ps, hx, _, hpl, hq⟩ := h vs[i] (List.getElem_mem hi)
        have hm := hx ▸ List.getElem_mem hi
        obtain ⟨_, k2, _⟩ := uh1 hn hw hm
        rw [run_z61]
        simp only [lt_t hi, if_true, Option.getD_some, ua7 hi, ua0, hx]
        rw [we1 n fs hq hpl (by omega)]
        simp only [ua0]
        rw [ua8 hi, hx, ue4, ud4] at hs ⊢
        rw [ua9 hi (by omega), ← Int.natCast_add, wrap_i64 (by omega) (by omega), ih (s + cntP ps) (by omega), Nat.add_assoc]
    have hb := (uk2 hCB).2
    have hp := uc1 (show rooms vs ≤ 16 by omega)
    have : vs.length * 2 ^ rooms vs ≤ 16 * 65536 := Nat.mul_le_mul h1 hp
    have := loop (Nat.zero_le _) 0 (by rw [List.drop_zero]; omega)
    rw [List.drop_zero, Nat.zero_add] at this
    rw [uq7]
    exact this
end Go.Proofs.YtaennkkcnhfglaaGreatDoor.Ev.F
namespace Go.Proofs.YtaennkkcnhfglaaGreatDoor.Ev.F
open Go.Proofs.YtaennkkcnhfglaaGreatDoor.Ev Go.Proofs
def RC (l : List ua2) (t : ua3) (x : ua5) : Prop := ud9 (.start l t.Kind t.Value t.Name t.Parts) = some (((cnt x : Int), ()), ())
theorem uU8 {l : List ua2} (c : ua1) (hl : c.Fields.length ≤ 8) {ps : List (Option ua5)} (h : All2 (FR (fun t x => SOk x ∧ Sm x ∧ RC l t x)) c.Fields ps) (hr : roomP ps ≤ 16) : run_z111 (.start l c.Name c.Fields) = some (((cntP ps : Int), ()), ()) := by
  rw [run_z111]
  have hlen := h.len
  have hP : AllP CB ps := AllP.of (fun t x hx => uc0 x hx.1) h
  have loop : ∀ {i}, i ≤ c.Fields.length → ∀ s : Nat, s * cntP (ps.drop i) ≤ 65536 → run_z111 (.p116 l (s : Int) (i : Int) c.Name c.Fields) = some ((((s * cntP (ps.drop i) : Nat) : Int), ()), ()) := by
    refine ub0 c.Fields (P := fun i => ∀ s : Nat, s * cntP (ps.drop i) ≤ 65536 → run_z111 (.p116 l (s : Int) (i : Int) c.Name c.Fields) = some ((((s * cntP (ps.drop i) : Nat) : Int), ()), ())) ?_ ?_
    · intro s hs
      rw [run_z111, hlen, List.drop_length, uk7]
      simp only [lt_f, Bool.false_eq_true, if_false, Nat.mul_one]
    · intro i hi ih s hs
      have hi2 : i < ps.length := by omega
      obtain ⟨x, hx, hq1, hq2, hq3⟩ := h.get i hi hi2
      rw [run_z111]
      simp only [lt_t hi, if_true, ua7 hi, ua0, show ud9 _ = _ from hq3]
      rw [ua8 hi2, hx, ug5] at hs ⊢
      have hrest : AllP CB (ps.drop (i + 1)) := fun p hp => hP p (List.mem_of_mem_drop hp)
      have h1 := (uf3 hrest).1
      rw [← Nat.mul_assoc] at hs ⊢
      have h2 : s * cnt x * 1 ≤ s * cnt x * cntP (ps.drop (i + 1)) := Nat.mul_le_mul_left _ h1
      rw [ua9 hi (by omega), ← Int.natCast_mul, wrap_i64 (by omega) (by omega), ih (s * cnt x) hs]
  have hb := (uf3 hP).2
  have hp := uc1 hr
  have := loop (Nat.zero_le _) 1 (by rw [List.drop_zero]; omega)
  rw [List.drop_zero, Nat.one_mul] at this
  exact this
theorem u76 {l : List ua2} (hv : uj3 l) (t : ua3) (vs : List data_variant) (hc : ConC l t vs) (h : All2 (VR (fun t x => SOk x ∧ Sm x ∧ RC l t x)) (ub1 l t) vs) : RC l t ⟨0, some vs⟩ := by
  unfold RC
  rw [ud9, ul1, decide_eq_false (fun h => hc.name h.2)]
  simp only [ua0, Bool.false_eq_true, if_false, u47 hv hc.kind hc.name hc.ty hc.tree]
  have hlen := h.len
  have hCB : AllV CB vs := AllV.of (fun t x hx => uc0 x hx.1) hc.fs h
  have loop : ∀ {i}, i ≤ (ub1 l t).length → ∀ s : Nat, s + cntVs (vs.drop i) ≤ 10000000 → ud9 (.p244 l (ub1 l t) (s : Int) (i : Int)) = some ((((s + cntVs (vs.drop i) : Nat) : Int), ()), ()) := by
    refine ub0 (ub1 l t) (P := fun i => ∀ s : Nat, s + cntVs (vs.drop i) ≤ 10000000 → ud9 (.p244 l (ub1 l t) (s : Int) (i : Int)) = some ((((s + cntVs (vs.drop i) : Nat) : Int), ()), ())) ?_ ?_
    · intro s hs
      rw [ud9, hlen, List.drop_length, ul7]
      simp only [lt_f, Bool.false_eq_true, if_false, Nat.add_zero]
    · intro i hi ih s hs
      have hi2 : i < vs.length := by omega
      obtain ⟨ps, hx, hq⟩ := h.get i hi hi2
      have hm := hx ▸ List.getElem_mem hi2
      obtain ⟨_, k2, _⟩ := uh1 hc.nds hc.wid hm
      have hw := hc.wid
      rw [ud9]
      simp only [lt_t hi, if_true, ua7 hi, ua0, uU8 _ (hc.fs _ (List.getElem_mem hi)) hq (show roomP ps ≤ 16 by omega)]
      rw [ua8 hi2, hx, ue4, ud4] at hs ⊢
      have hcl := hc.len
      rw [ua9 hi (by omega), ← Int.natCast_add, wrap_i64 (by omega) (by omega), ih (s + cntP ps) (by omega), Nat.add_assoc]
  have hb := (uk2 hCB).2
  have hw := hc.wid
  have hp := uc1 (show rooms vs ≤ 16 by omega)
  have : vs.length * 2 ^ rooms vs ≤ 16 * 65536 := Nat.mul_le_mul hc.len hp
  have := loop (Nat.zero_le _) 0 (by rw [List.drop_zero]; omega)
  rw [List.drop_zero, Nat.zero_add] at this
  rw [uq7]
  exact this
theorem vM1 {l : List ua2} (hv : uj3 l) : ∀ n t x, SR l n t x → Sm x → RC l t x := by
  refine uQ8 hv (fun t p hk hb hp h1 h2 => ?_) (fun t vs hc h => u76 hv t vs hc h)
  · unfold RC
    rw [ud9, ul1, decide_eq_true (show t.Kind = 1 ∧ t.Name = sBit from ⟨hk, hb⟩), hp]
    simp only [ua0, if_true, show idx [p] (0 : Int) = some p from rfl]
    rw [show p.Value = ((p.Value.toNat : Nat) : Int) by omega, uC5 _ (by omega)]
    simp only [ua0, uO9, Int.toNat_natCast]
end Go.Proofs.YtaennkkcnhfglaaGreatDoor.Ev.F
namespace Go.Proofs.YtaennkkcnhfglaaGreatDoor.Ev.F
open Go.Proofs.YtaennkkcnhfglaaGreatDoor.Ev Go.Proofs
theorem uW4.cases {l : List ua2} {t : ua3} {x : ua5} (h : uW4 l t x) : (t.Kind = 1 ∧ t.Name = sBit ∧ ∃ p, t.Parts = [p] ∧ 1 ≤ p.Value ∧ p.Value ≤ 16 ∧ x = ⟨p.Value, none⟩) ∨ ∃ vs, x = ⟨0, some vs⟩ ∧ ConC l t vs ∧ All2 (VR (SR l 39)) (ub1 l t) vs := by
  rcases h.sr with hb | ⟨hk, hb, hty, htr, vs, e, hr⟩
  · exact .inl hb
  · refine .inr ⟨vs, e, ?_, hr⟩
    obtain ⟨⟨m0, m1⟩, m2⟩ := uj2 h.valid hty htr hk
    have hlen := hr.len
    have hs : Sm ⟨0, some vs⟩ := by rw [← e]; exact ⟨h.nds, h.w16⟩
    obtain ⟨s1, s2⟩ := vk8 hs
    exact ⟨hk, hb, hty, htr, by omega, by omega, s1, s2, fun c hc => (m2 c hc).1⟩
end Go.Proofs.YtaennkkcnhfglaaGreatDoor.Ev.F
namespace Go.Proofs.YtaennkkcnhfglaaGreatDoor.Ev.F
open Go.Proofs.YtaennkkcnhfglaaGreatDoor.Ev
abbrev DV : Type := ua4
abbrev uf0 : ByteArray := ⟨#[]⟩
mutual
def atV : ua5 → Nat → DV
 | ⟨_, none⟩, i => ⟨uf0, (i : Int), []⟩
 | ⟨_, some vs⟩, i => atVs vs i
def atVs : List data_variant → Nat → DV
 | [], _ => ⟨uf0, 0, []⟩
 | v :: r, i => if i < cntV v then atW v i else atVs r (i - cntV v)
def atW : data_variant → Nat → DV
 | ⟨n, _, none⟩, _ => ⟨n, 0, []⟩
 | ⟨n, _, some ps⟩, i => ⟨n, 0, atP ps i⟩
def atP : List (Option ua5) → Nat → List DV
 | [], _ => []
 | none :: r, i => atP r i
 | some x :: r, i => atV x (i / cntP r) :: atP r (i % cntP r)
end
mutual
def bef : ua5 → DV → Nat
 | ⟨_, none⟩, v => v.Number.toNat
 | ⟨_, some vs⟩, v => befVs vs v
def befVs : List data_variant → DV → Nat
 | [], _ => 0
 | c :: r, v => if c.name = v.Name then befW c v else cntV c + befVs r v
def befW : data_variant → DV → Nat
 | ⟨_, _, none⟩, _ => 0
 | ⟨_, _, some ps⟩, v => befP ps v.Parts
def befP : List (Option ua5) → List DV → Nat
 | [], _ => 0
 | none :: r, l => befP r l
 | some x :: r, [] => 0
 | some x :: r, v :: l => bef x v * cntP r + befP r l
end
mutual
def valE : ua5 → DV → Int
 | ⟨b, none⟩, v => uh4 [if v.Name = uf0 ∧ v.Parts.length = 0 then 0 else 3, if 0 ≤ v.Number ∧ v.Number ≤ pw b - 1 then 0 else 2]
 | ⟨_, some vs⟩, v => valVs vs v
def valVs : List data_variant → DV → Int
 | [], _ => 6
 | c :: r, v => if c.name = v.Name then valW c v else valVs r v
def valW : data_variant → DV → Int
 | ⟨_, _, none⟩, _ => 6
 | ⟨_, _, some ps⟩, v => uh4 [if v.Number = 0 then 0 else 3, if v.Parts.length = ps.length then 0 else 10, valP ps v.Parts]
def valP : List (Option ua5) → List DV → Int
 | [], _ => 0
 | none :: r, l => valP r l
 | some x :: r, [] => 0
 | some x :: r, v :: l => if valE x v = 0 then valP r l else valE x v
end
mutual
def pk_ : ua5 → DV → Nat
 | ⟨_, none⟩, v => v.Number.toNat
 | ⟨_, some vs⟩, v => (pkT vs v).1 * 2 ^ rooms vs + (pkT vs v).2
def pkT : List data_variant → DV → Nat × Nat
 | [], _ => (0, 0)
 | c :: r, v => if c.name = v.Name then (0, pkW c v) else ((pkT r v).1 + 1, (pkT r v).2)
def pkW : data_variant → DV → Nat
 | ⟨_, _, none⟩, _ => 0
 | ⟨_, _, some ps⟩, v => pkP ps v.Parts
def pkP : List (Option ua5) → List DV → Nat
 | [], _ => 0
 | none :: r, l => pkP r l
 | some x :: r, [] => 0
 | some x :: r, v :: l => pk_ x v * 2 ^ roomP r + pkP r l
end
mutual
def upk : ua5 → Nat → Option DV
 | ⟨_, none⟩, n => some ⟨uf0, (n : Int), []⟩
 | ⟨_, some vs⟩, n => upkVs vs (n / 2 ^ rooms vs) (n % 2 ^ rooms vs)
def upkVs : List data_variant → Nat → Nat → Option DV
 | [], _, _ => none
 | v :: r, 0, f => upkW v f
 | v :: r, k + 1, f => upkVs r k f
def upkW : data_variant → Nat → Option DV
 | ⟨_, _, none⟩, _ => none
 | ⟨n, _, some ps⟩, f => if f < 2 ^ roomP ps then (upkP ps f).map fun l => ⟨n, 0, l⟩ else none
def upkP : List (Option ua5) → Nat → Option (List DV)
 | [], _ => some []
 | none :: r, f => upkP r f
 | some x :: r, f => match upk x (f / 2 ^ roomP r % 2 ^ wid x), upkP r f with
   | some a, some l => some (a :: l)
   | _, _ => none
end
theorem uO6 (b : Int) (i : Nat) : atV ⟨b, none⟩ i = ⟨uf0, (i : Int), []⟩ := by rw [atV]
theorem uB2 (b : Int) (vs : List data_variant) (i : Nat) : atV ⟨b, some vs⟩ i = atVs vs i := by rw [atV]
theorem ut3 (v : data_variant) (r : List data_variant) (i : Nat) : atVs (v :: r) i = if i < cntV v then atW v i else atVs r (i - cntV v) := by rw [atVs]
theorem ur8 (n : ByteArray) (fs : List ua6) (ps : List (Option ua5)) (i : Nat) : atW ⟨n, fs, some ps⟩ i = ⟨n, 0, atP ps i⟩ := by rw [atW]
theorem uO5 (i : Nat) : atP [] i = [] := by rw [atP]
theorem ux7 (x : ua5) (r : List (Option ua5)) (i : Nat) : atP (some x :: r) i = atV x (i / cntP r) :: atP r (i % cntP r) := by rw [atP]
theorem u99 (b : Int) (v : DV) : bef ⟨b, none⟩ v = v.Number.toNat := by rw [bef]
theorem uX1 (b : Int) (vs : List data_variant) (v : DV) : bef ⟨b, some vs⟩ v = befVs vs v := by rw [bef]
theorem us7 (c : data_variant) (r : List data_variant) (v : DV) : befVs (c :: r) v = if c.name = v.Name then befW c v else cntV c + befVs r v := by rw [befVs]
theorem uJ6 (n : ByteArray) (fs : List ua6) (ps : List (Option ua5)) (v : DV) : befW ⟨n, fs, some ps⟩ v = befP ps v.Parts := by rw [befW]
theorem uT8 (l : List DV) : befP [] l = 0 := by rw [befP]
theorem uJ5 (x : ua5) (r : List (Option ua5)) (v : DV) (l : List DV) : befP (some x :: r) (v :: l) = bef x v * cntP r + befP r l := by rw [befP]
theorem uO0 (b : Int) (v : DV) : valE ⟨b, none⟩ v = uh4 [if v.Name = uf0 ∧ v.Parts.length = 0 then 0 else 3, if 0 ≤ v.Number ∧ v.Number ≤ pw b - 1 then 0 else 2] := by rw [valE]
theorem ui8 (b : Int) (vs : List data_variant) (v : DV) : valE ⟨b, some vs⟩ v = valVs vs v := by rw [valE]
theorem uD3 (v : DV) : valVs [] v = 6 := by rw [valVs]
theorem ui2 (c : data_variant) (r : List data_variant) (v : DV) : valVs (c :: r) v = if c.name = v.Name then valW c v else valVs r v := by rw [valVs]
theorem uD4 (n : ByteArray) (fs : List ua6) (ps : List (Option ua5)) (v : DV) : valW ⟨n, fs, some ps⟩ v = uh4 [if v.Number = 0 then 0 else 3, if v.Parts.length = ps.length then 0 else 10, valP ps v.Parts] := by rw [valW]
theorem uV8 (l : List DV) : valP [] l = 0 := by rw [valP]
theorem uD2 (x : ua5) (r : List (Option ua5)) (v : DV) (l : List DV) : valP (some x :: r) (v :: l) = if valE x v = 0 then valP r l else valE x v := by rw [valP]
theorem u73 (b : Int) (v : DV) : pk_ ⟨b, none⟩ v = v.Number.toNat := by rw [pk_]
theorem uS8 (b : Int) (vs : List data_variant) (v : DV) : pk_ ⟨b, some vs⟩ v = (pkT vs v).1 * 2 ^ rooms vs + (pkT vs v).2 := by rw [pk_]
theorem up7 (c : data_variant) (r : List data_variant) (v : DV) : pkT (c :: r) v = if c.name = v.Name then (0, pkW c v) else ((pkT r v).1 + 1, (pkT r v).2) := by rw [pkT]
theorem uE4 (n : ByteArray) (fs : List ua6) (ps : List (Option ua5)) (v : DV) : pkW ⟨n, fs, some ps⟩ v = pkP ps v.Parts := by rw [pkW]
theorem uZ8 (l : List DV) : pkP [] l = 0 := by rw [pkP]
theorem uE3 (x : ua5) (r : List (Option ua5)) (v : DV) (l : List DV) : pkP (some x :: r) (v :: l) = pk_ x v * 2 ^ roomP r + pkP r l := by rw [pkP]
theorem uR8 (b : Int) (n : Nat) : upk ⟨b, none⟩ n = some ⟨uf0, (n : Int), []⟩ := by rw [upk]
theorem uu6 (b : Int) (vs : List data_variant) (n : Nat) : upk ⟨b, some vs⟩ n = upkVs vs (n / 2 ^ rooms vs) (n % 2 ^ rooms vs) := by rw [upk]
theorem uN9 (k f : Nat) : upkVs [] k f = none := by rw [upkVs]
theorem ux3 (v : data_variant) (r : List data_variant) (f : Nat) : upkVs (v :: r) 0 f = upkW v f := by rw [upkVs]
theorem ux2 (v : data_variant) (r : List data_variant) (k f : Nat) : upkVs (v :: r) (k + 1) f = upkVs r k f := by rw [upkVs]
theorem uu5 (n : ByteArray) (fs : List ua6) (ps : List (Option ua5)) (f : Nat) : upkW ⟨n, fs, some ps⟩ f = if f < 2 ^ roomP ps then (upkP ps f).map fun l => ⟨n, 0, l⟩ else none := by rw [upkW]
theorem uq0 (f : Nat) : upkP [] f = some [] := by rw [upkP]
theorem uo1 (x : ua5) (r : List (Option ua5)) (f : Nat) : upkP (some x :: r) f = match upk x (f / 2 ^ roomP r % 2 ^ wid x), upkP r f with | some a, some l => some (a :: l) | _, _ => none := by rw [upkP]
theorem ue5 (n : Nat) : 0 < 2 ^ n := Nat.pow_pos (by decide)
def uniq : List data_variant → Prop
 | [] => True
 | c :: r => (∀ d ∈ r, c.name ≠ d.name) ∧ uniq r
theorem vO0 {Q : ua5 → Prop} : ∀ {vs : List data_variant}, (∀ (i j : Nat) (c d : data_variant), vs[i]? = some c → vs[j]? = some d → c.name = d.name → i = j) → uniq vs
 | [], _ => trivial
 | c :: r, h => ⟨fun d hd e => by
   obtain ⟨j, hj⟩ := List.getElem?_of_mem hd
   have := h 0 (j + 1) c d rfl hj e
   omega, vO0 (Q := Q) fun i j c d hi hj e => by have := h (i + 1) (j + 1) c d hi hj e; omega⟩
theorem vW4 {l : List ua2} (hv : uj3 l) {t : ua3} {vs : List data_variant} {R : ua3 → ua5 → Prop} (hr : All2 (VR R) (ub1 l t) vs) : uniq vs := by
  refine vO0 (Q := fun _ => True) fun i j c d hi hj e => ?_
  obtain ⟨hi', rfl⟩ := List.getElem?_eq_some_iff.1 hi
  obtain ⟨hj', rfl⟩ := List.getElem?_eq_some_iff.1 hj
  have hlen := hr.len
  obtain ⟨_, e1, _⟩ := hr.get i (by omega) hi'
  obtain ⟨_, e2, _⟩ := hr.get j (by omega) hj'
  rw [e1, e2] at e
  simp only at e
  have h1 : (ub1 l t)[i]? = some (ub1 l t)[i] := List.getElem?_eq_getElem (by omega)
  have h2 : (ub1 l t)[j]? = some (ub1 l t)[j] := List.getElem?_eq_getElem (by omega)
  generalize (ub1 l t)[i] = ci at h1 e
  generalize (ub1 l t)[j] = cj at h2 e
  unfold ub1 at h1 h2
  cases hd : dat l t.Name with
  | none =>
    rw [hd] at h1 h2
    simp only at h1 h2
    have hne : uu1 ≠ uI7 := by decide
    match i, j, h1, h2 with
    | 0, 0, _, _ => rfl
    | 1, 1, _, _ => rfl
    | 0, 1, h1, h2 => simp at h1 h2; subst h1 h2; exact absurd e hne
    | 1, 0, h1, h2 => simp at h1 h2; subst h1 h2; exact absurd e.symm hne
    | i + 2, _, h1, _ => simp at h1
    | _, j + 2, _, h2 => simp at h2
  | some d =>
    rw [hd] at h1 h2
    simp only [List.getElem?_map, Option.map_eq_some_iff] at h1 h2
    obtain ⟨c1, g1, rfl⟩ := h1
    obtain ⟨c2, g2, rfl⟩ := h2
    exact hv.known d (va4 hd).1 i j c1 c2 g1 g2 e
theorem u84 {l : List ua2} (hv : uj3 l) {Q : ua5 → Prop} (hb : ∀ b : Int, 1 ≤ b → b ≤ 16 → Q ⟨b, none⟩)
    (hc : ∀ vs : List data_variant, 0 < vs.length → vs.length ≤ 16 → ndsV vs ≤ 199 → tagN vs.length + rooms vs ≤ 16 → uniq vs → AllV (fun x => SOk x ∧ Sm x ∧ Q x) vs → Q ⟨0, some vs⟩) : ∀ n t x, SR l n t x → Sm x → Q x :=
  uQ8 hv (Q := fun _ x => Q x) (fun t p _ _ _ h1 h2 => hb _ h1 h2) (fun t vs c h => hc vs c.pos c.len c.nds c.wid (vW4 hv h) (AllV.of (R := fun t x => SOk x ∧ Sm x ∧ Q x) (fun t x hx => hx) c.fs h))
end Go.Proofs.YtaennkkcnhfglaaGreatDoor.Ev.F
namespace Go.Proofs.YtaennkkcnhfglaaGreatDoor.Ev.F
open Go.Proofs.YtaennkkcnhfglaaGreatDoor.Ev Go.Proofs
theorem uU7 {b : Int} (h : 0 ≤ b) : pw b = ((2 ^ b.toNat : Nat) : Int) := by unfold pw; simp
theorem uN8 : ∀ (ps : List (Option ua5)), AllP (fun _ => True) ps → ∀ f, upkP ps f = upkP ps (f % 2 ^ roomP ps)
 | [], _, f => by rw [uq0, uq0]
 | p :: r, h, f => by
   obtain ⟨x, rfl, _⟩ := h p (List.mem_cons_self ..)
   rw [uo1, uo1, uc4]
   have e1 : f % 2 ^ (wid x + roomP r) / 2 ^ roomP r % 2 ^ wid x = f / 2 ^ roomP r % 2 ^ wid x := by
     rw [Nat.add_comm, Nat.pow_add, Nat.mod_mul_right_div_self, Nat.mod_mod]
   have e2 : upkP r (f % 2 ^ (wid x + roomP r)) = upkP r f := by
     rw [uN8 r h.tail, uN8 r h.tail f, Nat.mod_mod_of_dvd _ (Nat.pow_dvd_pow 2 (by omega))]
   rw [e1, e2]
def T3 (x : ua5) : Prop := ∀ v, valE x v = 0 → pk_ x v < 2 ^ wid x ∧ upk x (pk_ x v) = some v
theorem vf4 {x : ua5} {r : List (Option ua5)} {l : List DV} (h : l.length = (some x :: r).length) : ∃ v m, l = v :: m ∧ m.length = r.length := by
  cases l with
  | nil => simp at h
  | cons v m => exact ⟨v, m, rfl, by simpa using h⟩
theorem uu7 {x : ua5} {r : List (Option ua5)} {v : DV} {m : List DV} (h : valP (some x :: r) (v :: m) = 0) : valE x v = 0 ∧ valP r m = 0 := by
  rw [uD2] at h
  by_cases h0 : valE x v = 0
  · rw [if_pos h0] at h; exact ⟨h0, h⟩
  · rw [if_neg h0] at h; exact absurd h h0
theorem uu8 {n : ByteArray} {fs : List ua6} {ps : List (Option ua5)} {v : DV} (h : valW ⟨n, fs, some ps⟩ v = 0) : v.Number = 0 ∧ v.Parts.length = ps.length ∧ valP ps v.Parts = 0 := by
  rw [uD4] at h
  obtain ⟨h1, h⟩ := uc8 h
  obtain ⟨h2, h⟩ := uc8 h
  obtain ⟨h3, _⟩ := uc8 h
  refine ⟨?_, ?_, h3⟩
  · by_cases e : v.Number = 0
    · exact e
    · rw [if_neg e] at h1; cases h1
  · by_cases e : v.Parts.length = ps.length
    · exact e
    · rw [if_neg e] at h2; cases h2
theorem t3P : ∀ (ps : List (Option ua5)), AllP (fun x => SOk x ∧ Sm x ∧ T3 x) ps → ∀ l, l.length = ps.length → valP ps l = 0 → pkP ps l < 2 ^ roomP ps ∧ upkP ps (pkP ps l) = some l
 | [], _, l, hl, _ => by
   have : l = [] := List.length_eq_zero_iff.1 (by simpa using hl)
   subst this
   rw [uZ8, uj1, uq0]
   exact ⟨by decide, rfl⟩
 | p :: r, h, l, hl, hz => by
   obtain ⟨x, rfl, hs, hm, hx⟩ := h p (List.mem_cons_self ..)
   obtain ⟨v, m, rfl, hml⟩ := vf4 hl
   obtain ⟨z1, z2⟩ := uu7 hz
   obtain ⟨a1, a2⟩ := hx v z1
   obtain ⟨b1, b2⟩ := t3P r h.tail m hml z2
   rw [uE3, uc4, uo1]
   have hp := ue5 (roomP r)
   have e1 : (pk_ x v * 2 ^ roomP r + pkP r m) / 2 ^ roomP r = pk_ x v := by
     rw [Nat.add_comm, Nat.add_mul_div_right _ _ hp, Nat.div_eq_of_lt b1, Nat.zero_add]
   have e2 : (pk_ x v * 2 ^ roomP r + pkP r m) % 2 ^ roomP r = pkP r m := by
     rw [Nat.add_comm, Nat.add_mul_mod_self_right, Nat.mod_eq_of_lt b1]
   refine ⟨?_, ?_⟩
   · rw [Nat.pow_add]
     have : (pk_ x v + 1) * 2 ^ roomP r ≤ 2 ^ wid x * 2 ^ roomP r := Nat.mul_le_mul_right _ a1
     rw [Nat.add_mul] at this
     omega
   · rw [e1, Nat.mod_eq_of_lt a1, a2, uN8 r (h.tail.mono fun _ _ => trivial), e2, b2]
theorem vl2 (v : DV) {n : ByteArray} {k : Int} {l : List DV} (h1 : v.Name = n) (h2 : v.Number = k) (h3 : v.Parts = l) : (⟨n, k, l⟩ : DV) = v := by subst h1 h2 h3; cases v; rfl
theorem t3Vs : ∀ (vs : List data_variant) (R : Nat), rooms vs ≤ R → AllV (fun x => SOk x ∧ Sm x ∧ T3 x) vs → ∀ v, valVs vs v = 0 → (pkT vs v).1 < vs.length ∧ (pkT vs v).2 < 2 ^ R ∧ upkVs vs (pkT vs v).1 (pkT vs v).2 = some v
 | [], R, _, _, v, hz => by rw [uD3] at hz; cases hz
 | c :: r, R, hR, h, v, hz => by
   rw [uo5] at hR
   rw [ui2] at hz
   rw [up7]
   by_cases hn : c.name = v.Name
   · rw [if_pos hn] at hz
     obtain ⟨n, fs, ps, rfl, _, _, hp⟩ := h c (List.mem_cons_self ..)
     obtain ⟨z1, z2, z3⟩ := uu8 hz
     obtain ⟨a1, a2⟩ := t3P ps hp v.Parts z2 z3
     rw [uo4] at hR
     have := Nat.pow_le_pow_right (show 0 < 2 by decide) (show roomP ps ≤ R from Nat.le_trans (Nat.le_max_left _ _) hR)
     rw [if_pos hn, uE4]
     simp only
     rw [ux3, uu5, if_pos a1, a2]
     exact ⟨by simp, by omega, by rw [Option.map_some]; congr 1; exact vl2 v hn.symm z1 rfl⟩
   · rw [if_neg hn] at hz
     obtain ⟨a1, a2, a3⟩ := t3Vs r R (Nat.le_trans (Nat.le_max_right _ _) hR) h.tail v hz
     rw [if_neg hn]
     simp only
     rw [ux2]
     exact ⟨by simpa using a1, a2, a3⟩
theorem ui7 {b : Int} {v : DV} (h : valE ⟨b, none⟩ v = 0) : v.Name = uf0 ∧ v.Parts = [] ∧ 0 ≤ v.Number ∧ v.Number ≤ pw b - 1 := by
  rw [uO0] at h
  obtain ⟨h1, h⟩ := uc8 h
  obtain ⟨h2, _⟩ := uc8 h
  by_cases e1 : v.Name = uf0 ∧ v.Parts.length = 0
  · by_cases e2 : 0 ≤ v.Number ∧ v.Number ≤ pw b - 1
    · exact ⟨e1.1, List.length_eq_zero_iff.1 e1.2, e2.1, e2.2⟩
    · rw [if_neg e2] at h2; cases h2
  · rw [if_neg e1] at h1; cases h1
theorem t3 {l : List ua2} (hv : uj3 l) : ∀ n t x, SR l n t x → Sm x → T3 x := by
  refine u84 hv (fun b h1 h2 v hz => ?_) (fun vs _ hl _ _ hu h v hz => ?_)
  · obtain ⟨z1, z2, z3, z4⟩ := ui7 hz
    rw [uU7 (by omega)] at z4
    rw [u73, uw3, uR8]
    exact ⟨by omega, by congr 1; exact vl2 v z1 (by omega) z2⟩
  · rw [ui8] at hz
    obtain ⟨a1, a2, a3⟩ := t3Vs vs (rooms vs) (Nat.le_refl _) h v hz
    have hp := ue5 (rooms vs)
    have ht := uN3 vs.length hl
    have e1 : ((pkT vs v).1 * 2 ^ rooms vs + (pkT vs v).2) / 2 ^ rooms vs = (pkT vs v).1 := by
      rw [Nat.add_comm, Nat.add_mul_div_right _ _ hp, Nat.div_eq_of_lt a2, Nat.zero_add]
    have e2 : ((pkT vs v).1 * 2 ^ rooms vs + (pkT vs v).2) % 2 ^ rooms vs = (pkT vs v).2 := by
      rw [Nat.add_comm, Nat.add_mul_mod_self_right, Nat.mod_eq_of_lt a2]
    rw [uS8, uu6, ur6, Nat.pow_add, e1, e2]
    refine ⟨?_, a3⟩
    have : ((pkT vs v).1 + 1) * 2 ^ rooms vs ≤ 2 ^ tagN vs.length * 2 ^ rooms vs := Nat.mul_le_mul_right _ (by omega)
    rw [Nat.add_mul] at this
    omega
def T4 (x : ua5) : Prop := ∀ n v, n < 2 ^ wid x → upk x n = some v → valE x v = 0 ∧ pk_ x v = n
theorem t4P : ∀ (ps : List (Option ua5)), AllP (fun x => SOk x ∧ Sm x ∧ T4 x) ps → ∀ f l, f < 2 ^ roomP ps → upkP ps f = some l → l.length = ps.length ∧ valP ps l = 0 ∧ pkP ps l = f
 | [], _, f, l, hf, hu => by
   rw [uq0] at hu
   obtain rfl := Option.some.inj hu
   rw [uj1] at hf
   rw [uV8, uZ8]
   exact ⟨rfl, rfl, by simp at hf; omega⟩
 | p :: r, h, f, l, hf, hu => by
   obtain ⟨x, rfl, hs, hm, hx⟩ := h p (List.mem_cons_self ..)
   rw [uo1] at hu
   rw [uc4, Nat.pow_add] at hf
   have hp := ue5 (roomP r)
   have h1 : f / 2 ^ roomP r < 2 ^ wid x := (Nat.div_lt_iff_lt_mul hp).2 hf
   rw [Nat.mod_eq_of_lt h1] at hu
   split at hu
   · rename_i a m ha hm2
     obtain rfl := Option.some.inj hu
     obtain ⟨a1, a2⟩ := hx _ a h1 ha
     rw [uN8 r (h.tail.mono fun _ _ => trivial)] at hm2
     obtain ⟨b1, b2, b3⟩ := t4P r h.tail _ m (Nat.mod_lt _ hp) hm2
     rw [uD2, uE3, a1, a2, if_pos rfl, b3, List.length_cons, List.length_cons, b1]
     exact ⟨rfl, b2, by rw [Nat.mul_comm]; exact Nat.div_add_mod f _⟩
   · cases hu
theorem u89 : ∀ (vs : List data_variant) (k f : Nat) (v : DV), AllV (fun _ => True) vs → upkVs vs k f = some v → ∃ d ∈ vs, v.Name = d.name
 | [], k, f, v, _, hu => by rw [uN9] at hu; cases hu
 | c :: r, 0, f, v, h, hu => by
   obtain ⟨n, fs, ps, rfl, _⟩ := h c (List.mem_cons_self ..)
   rw [ux3, uu5] at hu
   by_cases hf : f < 2 ^ roomP ps
   · rw [if_pos hf] at hu
     obtain ⟨l, _, rfl⟩ := Option.map_eq_some_iff.1 hu
     exact ⟨_, List.mem_cons_self .., rfl⟩
   · rw [if_neg hf] at hu; cases hu
 | c :: r, k + 1, f, v, h, hu => by
   rw [ux2] at hu
   obtain ⟨d, hd, e⟩ := u89 r k f v h.tail hu
   exact ⟨d, List.mem_cons_of_mem _ hd, e⟩
theorem t4Vs : ∀ (vs : List data_variant), uniq vs → AllV (fun x => SOk x ∧ Sm x ∧ T4 x) vs → ∀ k f v, upkVs vs k f = some v → valVs vs v = 0 ∧ pkT vs v = (k, f)
 | [], _, _, k, f, v, hu => by rw [uN9] at hu; cases hu
 | c :: r, hq, h, 0, f, v, hu => by
   obtain ⟨n, fs, ps, rfl, _, _, hp⟩ := h c (List.mem_cons_self ..)
   rw [ux3, uu5] at hu
   by_cases hf : f < 2 ^ roomP ps
   · rw [if_pos hf] at hu
     obtain ⟨l, hl, rfl⟩ := Option.map_eq_some_iff.1 hu
     obtain ⟨b1, b2, b3⟩ := t4P ps hp f l hf hl
     rw [ui2, up7, if_pos rfl, if_pos rfl, uD4, uE4]
     simp only [b1, b2, b3, if_true]
     exact ⟨rfl, trivial⟩
   · rw [if_neg hf] at hu; cases hu
 | c :: r, hq, h, k + 1, f, v, hu => by
   rw [ux2] at hu
   obtain ⟨d, hd, e⟩ := u89 r k f v (h.tail.mono fun _ _ => trivial) hu
   have hn : ¬ c.name = v.Name := by rw [e]; exact hq.1 d hd
   obtain ⟨a1, a2⟩ := t4Vs r hq.2 h.tail k f v hu
   rw [ui2, up7, if_neg hn, if_neg hn, a2]
   exact ⟨a1, rfl⟩
theorem t4 {l : List ua2} (hv : uj3 l) : ∀ n t x, SR l n t x → Sm x → T4 x := by
  refine u84 hv (fun b h1 h2 n v hn hu => ?_) (fun vs _ hl _ _ hq h n v hn hu => ?_)
  · rw [uR8] at hu
    obtain rfl := Option.some.inj hu
    rw [uw3] at hn
    rw [uO0, u73, uU7 (by omega)]
    simp only [List.length_nil, and_self, if_true]
    rw [if_pos (by omega)]
    exact ⟨rfl, by simp⟩
  · rw [uu6] at hu
    obtain ⟨a1, a2⟩ := t4Vs vs hq h _ _ v hu
    rw [ui8, uS8, a2]
    exact ⟨a1, by rw [Nat.mul_comm]; exact Nat.div_add_mod n _⟩
end Go.Proofs.YtaennkkcnhfglaaGreatDoor.Ev.F
namespace Go.Proofs.YtaennkkcnhfglaaGreatDoor.Ev.F
open Go.Proofs.YtaennkkcnhfglaaGreatDoor.Ev Go.Proofs
def T1 (x : ua5) : Prop := ∀ i, i < cnt x → valE x (atV x i) = 0 ∧ bef x (atV x i) = i
theorem t1P : ∀ (ps : List (Option ua5)), AllP (fun x => SOk x ∧ Sm x ∧ T1 x) ps → ∀ i, i < cntP ps → valP ps (atP ps i) = 0 ∧ (atP ps i).length = ps.length ∧ befP ps (atP ps i) = i
 | [], _, i, hi => by
   rw [uk7] at hi
   rw [uO5, uV8, uT8]
   exact ⟨rfl, rfl, by omega⟩
 | p :: r, h, i, hi => by
   obtain ⟨x, rfl, hs, hm, hx⟩ := h p (List.mem_cons_self ..)
   have hr1 := (uf3 (h.tail.mono fun x hx => uc0 x hx.1)).1
   rw [ug5] at hi
   have h1 : i / cntP r < cnt x := (Nat.div_lt_iff_lt_mul (by omega)).2 hi
   have h2 : i % cntP r < cntP r := Nat.mod_lt _ (by omega)
   obtain ⟨a1, a2⟩ := hx _ h1
   obtain ⟨b1, b2, b3⟩ := t1P r h.tail _ h2
   rw [ux7, uD2, uJ5, a1, a2, if_pos rfl, b3, List.length_cons, List.length_cons, b2]
   exact ⟨b1, rfl, by rw [Nat.mul_comm]; exact Nat.div_add_mod i (cntP r)⟩
theorem t1W {n : ByteArray} {fs : List ua6} {ps : List (Option ua5)} (h : AllP (fun x => SOk x ∧ Sm x ∧ T1 x) ps) {i : Nat} (hi : i < cntP ps) : valW ⟨n, fs, some ps⟩ (atW ⟨n, fs, some ps⟩ i) = 0 ∧ befW ⟨n, fs, some ps⟩ (atW ⟨n, fs, some ps⟩ i) = i := by
  obtain ⟨b1, b2, b3⟩ := t1P ps h i hi
  rw [ur8, uD4, uJ6]
  simp only [b1, b2, b3, if_true]
  exact ⟨rfl, trivial⟩
theorem uX0 : ∀ (vs : List data_variant) (i : Nat), AllV (fun _ => True) vs → i < cntVs vs → ∃ d ∈ vs, (atVs vs i).Name = d.name
 | [], i, _, hi => by rw [ul7] at hi; omega
 | c :: r, i, h, hi => by
   rw [ut3]
   rw [ue4] at hi
   by_cases hc : i < cntV c
   · rw [if_pos hc]
     obtain ⟨n, fs, ps, rfl, _⟩ := h c (List.mem_cons_self ..)
     exact ⟨_, List.mem_cons_self .., by rw [ur8]⟩
   · rw [if_neg hc]
     obtain ⟨d, hd, e⟩ := uX0 r (i - cntV c) h.tail (by omega)
     exact ⟨d, List.mem_cons_of_mem _ hd, e⟩
theorem t1Vs : ∀ (vs : List data_variant), uniq vs → AllV (fun x => SOk x ∧ Sm x ∧ T1 x) vs → ∀ i, i < cntVs vs → valVs vs (atVs vs i) = 0 ∧ befVs vs (atVs vs i) = i
 | [], _, _, i, hi => by rw [ul7] at hi; omega
 | c :: r, hu, h, i, hi => by
   rw [ue4] at hi
   rw [ut3]
   by_cases hc : i < cntV c
   · rw [if_pos hc]
     obtain ⟨n, fs, ps, rfl, _, _, hp⟩ := h c (List.mem_cons_self ..)
     rw [ud4] at hc
     have hn : (⟨n, fs, some ps⟩ : data_variant).name = (atW ⟨n, fs, some ps⟩ i).Name := by rw [ur8]
     rw [ui2, us7, if_pos hn, if_pos hn]
     exact t1W hp hc
   · rw [if_neg hc]
     obtain ⟨d, hd, e⟩ := uX0 r (i - cntV c) (h.tail.mono fun _ _ => trivial) (by omega)
     have hn : ¬ c.name = (atVs r (i - cntV c)).Name := by rw [e]; exact hu.1 d hd
     obtain ⟨a1, a2⟩ := t1Vs r hu.2 h.tail (i - cntV c) (by omega)
     rw [ui2, us7, if_neg hn, if_neg hn]
     exact ⟨a1, by omega⟩
theorem t1 {l : List ua2} (hv : uj3 l) : ∀ n t x, SR l n t x → Sm x → T1 x := by
  refine u84 hv (fun b h1 h2 i hi => ?_) (fun vs _ _ _ _ hu h i hi => ?_)
  · rw [uO9] at hi
    rw [uO6, uO0, u99, uU7 (by omega)]
    simp only [List.length_nil, and_self, if_true]
    rw [if_pos (by omega)]
    exact ⟨rfl, by simp⟩
  · rw [uq7] at hi
    rw [uB2, ui8, uX1]
    exact t1Vs vs hu h i hi
def T5 (x : ua5) : Prop := T1 x ∧ T3 x ∧ ∀ i j, i < j → j < cnt x → pk_ x (atV x i) < pk_ x (atV x j)
theorem t5P : ∀ (ps : List (Option ua5)), AllP (fun x => SOk x ∧ Sm x ∧ T5 x) ps → ∀ i j, i < j → j < cntP ps → pkP ps (atP ps i) < pkP ps (atP ps j)
 | [], _, i, j, hij, hj => by rw [uk7] at hj; omega
 | p :: r, h, i, j, hij, hj => by
   obtain ⟨x, rfl, hs, hm, h1, h3, h5⟩ := h p (List.mem_cons_self ..)
   have hr1 := (uf3 (h.tail.mono fun x hx => uc0 x hx.1)).1
   rw [ug5] at hj
   rw [ux7, ux7, uE3, uE3]
   have hjx : j / cntP r < cnt x := (Nat.div_lt_iff_lt_mul (by omega)).2 hj
   have hle : i / cntP r ≤ j / cntP r := Nat.div_le_div_right (Nat.le_of_lt hij)
   have hbi : pkP r (atP r (i % cntP r)) < 2 ^ roomP r := by
     obtain ⟨b1, b2, _⟩ := t1P r (h.tail.mono fun x hx => ⟨hx.1, hx.2.1, hx.2.2.1⟩) (i % cntP r) (Nat.mod_lt _ (by omega))
     exact (t3P r (h.tail.mono fun x hx => ⟨hx.1, hx.2.1, hx.2.2.2.1⟩) _ b2 b1).1
   by_cases he : i / cntP r = j / cntP r
   · have hlt : i % cntP r < j % cntP r := by
       have e1 := Nat.div_add_mod i (cntP r)
       have e2 := Nat.div_add_mod j (cntP r)
       rw [he] at e1
       omega
     have := t5P r h.tail _ _ hlt (Nat.mod_lt _ (by omega))
     rw [he]
     omega
   · have := h5 (i / cntP r) (j / cntP r) (by omega) hjx
     have h6 : (pk_ x (atV x (i / cntP r)) + 1) * 2 ^ roomP r ≤ pk_ x (atV x (j / cntP r)) * 2 ^ roomP r := Nat.mul_le_mul_right _ this
     rw [Nat.add_mul] at h6
     omega
theorem t5Vs : ∀ (vs : List data_variant), uniq vs → AllV (fun x => SOk x ∧ Sm x ∧ T5 x) vs → ∀ i j, i < j → j < cntVs vs → (pkT vs (atVs vs i)).1 < (pkT vs (atVs vs j)).1 ∨ (pkT vs (atVs vs i)).1 = (pkT vs (atVs vs j)).1 ∧ (pkT vs (atVs vs i)).2 < (pkT vs (atVs vs j)).2
 | [], _, _, i, j, _, hj => by rw [ul7] at hj; omega
 | c :: r, hq, h, i, j, hij, hj => by
   rw [ue4] at hj
   have name : ∀ k, ¬ k < cntV c → k < cntV c + cntVs r → ¬ c.name = (atVs r (k - cntV c)).Name := fun k h1 h2 => by
     obtain ⟨d, hd, e⟩ := uX0 r (k - cntV c) (h.tail.mono fun _ _ => trivial) (by omega)
     rw [e]; exact hq.1 d hd
   have own : ∀ k, k < cntV c → c.name = (atW c k).Name := fun k _ => by
     obtain ⟨n, fs, ps, rfl, _⟩ := h c (List.mem_cons_self ..)
     rw [ur8]
   rw [ut3, ut3]
   by_cases hi : i < cntV c
   · rw [if_pos hi, up7, if_pos (own i hi)]
     by_cases hjc : j < cntV c
     · rw [if_pos hjc, up7, if_pos (own j hjc)]
       right
       obtain ⟨n, fs, ps, rfl, _, _, hp⟩ := h c (List.mem_cons_self ..)
       rw [ud4] at hjc
       rw [ur8, ur8, uE4, uE4]
       exact ⟨rfl, t5P ps hp i j hij hjc⟩
     · rw [if_neg hjc, up7, if_neg (name j hjc hj)]
       left
       simp
   · have hjc : ¬ j < cntV c := by omega
     rw [if_neg hi, if_neg hjc, up7, up7, if_neg (name i hi (by omega)), if_neg (name j hjc hj)]
     rcases t5Vs r hq.2 h.tail (i - cntV c) (j - cntV c) (by omega) (by omega) with h1 | ⟨h1, h2⟩
     · left; simp only; omega
     · right; simp only; exact ⟨by omega, h2⟩
theorem t5 {l : List ua2} (hv : uj3 l) (n : Nat) (t : ua3) (x : ua5) (hr : SR l n t x) (hs : Sm x) : T5 x := by
  refine u84 hv (Q := T5) (fun b h1 h2 => ?_) (fun vs h0 hl h1 h2 hq h => ?_) n t x hr hs
  · have hb : BitR ⟨1, 0, sBit, [⟨2, b, uf0, []⟩]⟩ ⟨b, none⟩ := ⟨rfl, rfl, _, rfl, h1, h2, rfl⟩
    have hsm : Sm ⟨b, none⟩ := ⟨by rw [uH2]; omega, by rw [uw3]; omega⟩
    refine ⟨t1 hv 1 _ _ (.inl hb) hsm, t3 hv 1 _ _ (.inl hb) hsm, fun i j hij hj => ?_⟩
    rw [uO6, uO6, u73, u73]
    simp only [Int.toNat_natCast]
    exact hij
  · have hT1 : T1 ⟨0, some vs⟩ := fun i hi => by
      rw [uq7] at hi
      rw [uB2, ui8, uX1]
      exact t1Vs vs hq (h.mono fun x hx => ⟨hx.1, hx.2.1, hx.2.2.1⟩) i hi
    have h3 : AllV (fun x => SOk x ∧ Sm x ∧ T3 x) vs := h.mono fun x hx => ⟨hx.1, hx.2.1, hx.2.2.2.1⟩
    have hT3 : T3 ⟨0, some vs⟩ := fun v hz => by
      rw [ui8] at hz
      obtain ⟨a1, a2, a3⟩ := t3Vs vs (rooms vs) (Nat.le_refl _) h3 v hz
      have hp := ue5 (rooms vs)
      have ht := uN3 vs.length hl
      have e1 : ((pkT vs v).1 * 2 ^ rooms vs + (pkT vs v).2) / 2 ^ rooms vs = (pkT vs v).1 := by
        rw [Nat.add_comm, Nat.add_mul_div_right _ _ hp, Nat.div_eq_of_lt a2, Nat.zero_add]
      have e2 : ((pkT vs v).1 * 2 ^ rooms vs + (pkT vs v).2) % 2 ^ rooms vs = (pkT vs v).2 := by
        rw [Nat.add_comm, Nat.add_mul_mod_self_right, Nat.mod_eq_of_lt a2]
      rw [uS8, uu6, ur6, Nat.pow_add, e1, e2]
      refine ⟨?_, a3⟩
      have : ((pkT vs v).1 + 1) * 2 ^ rooms vs ≤ 2 ^ tagN vs.length * 2 ^ rooms vs := Nat.mul_le_mul_right _ (by omega)
      rw [Nat.add_mul] at this
      omega
    refine ⟨hT1, hT3, fun i j hij hj => ?_⟩
    rw [uq7] at hj
    rw [uB2, uB2, uS8, uS8]
    have hz := (hT1 i (by rw [uq7]; omega)).1
    rw [uB2, ui8] at hz
    have hb := (t3Vs vs (rooms vs) (Nat.le_refl _) h3 _ hz).2.1
    rcases t5Vs vs hq h i j hij hj with h6 | ⟨h6, h7⟩
    · have : ((pkT vs (atVs vs i)).1 + 1) * 2 ^ rooms vs ≤ (pkT vs (atVs vs j)).1 * 2 ^ rooms vs := Nat.mul_le_mul_right _ h6
      rw [Nat.add_mul] at this
      omega
    · rw [h6]; omega
end Go.Proofs.YtaennkkcnhfglaaGreatDoor.Ev.F
namespace Go.Proofs.YtaennkkcnhfglaaGreatDoor.Ev.F
open Go.Proofs.YtaennkkcnhfglaaGreatDoor.Ev
def cTo (p : Nat → Bool) : Nat → Nat
 | 0 => 0
 | n + 1 => cTo p n + if p n = true then 1 else 0
theorem uJ8 {p q : Nat → Bool} : ∀ {n : Nat}, (∀ i, i < n → p i = q i) → cTo p n = cTo q n
 | 0, _ => rfl
 | n + 1, h => by unfold cTo; rw [uJ8 fun i hi => h i (by omega), h n (by omega)]
theorem uJ9 {p : Nat → Bool} : ∀ {n : Nat}, (∀ i, i < n → p i = false) → cTo p n = 0
 | 0, _ => rfl
 | n + 1, h => by unfold cTo; rw [uJ9 fun i hi => h i (by omega), h n (by omega)]; rfl
theorem va3 {p : Nat → Bool} : ∀ {n : Nat}, (∀ i, i < n → p i = true) → cTo p n = n
 | 0, _ => rfl
 | n + 1, h => by unfold cTo; rw [va3 fun i hi => h i (by omega), h n (by omega)]; rfl
theorem va2 (p : Nat → Bool) (m : Nat) : ∀ n, cTo p (m + n) = cTo p m + cTo (fun i => p (m + i)) n
 | 0 => by simp [cTo]
 | n + 1 => by
   rw [← Nat.add_assoc]
   show cTo p (m + n) + _ = _
   rw [va2 p m n]
   show cTo p m + cTo (fun i => p (m + i)) n + (if p (m + n) = true then 1 else 0) = cTo p m + (cTo (fun i => p (m + i)) n + (if p (m + n) = true then 1 else 0))
   omega
theorem vG9 (p : Nat → Bool) {m n : Nat} (h : m ≤ n) : cTo (fun i => decide (i < m) && p i) n = cTo p m := by
  obtain ⟨k, rfl⟩ := Nat.exists_eq_add_of_le h
  rw [va2, uJ8 (q := p) fun i hi => by simp [hi], uJ9 (p := fun i => decide (m + i < m) && p (m + i)) fun i hi => by rw [decide_eq_false (by omega), Bool.false_and], Nat.add_zero]
theorem vv1 {p A B : Nat → Bool} (b : Nat) : ∀ {a : Nat}, (∀ t i, t < a → i < b → p (t * b + i) = (A t && B i)) → cTo p (a * b) = cTo A a * cTo B b
 | 0, _ => by simp [cTo]
 | a + 1, h => by
   rw [Nat.add_mul, Nat.one_mul, va2, vv1 b fun t i ht hi => h t i (by omega) hi]
   show _ = (cTo A a + _) * _
   rw [Nat.add_mul]
   congr 1
   cases hA : A a with
   | true => rw [uJ8 (q := B) fun i hi => by rw [h a i (by omega) hi, hA, Bool.true_and]]; simp
   | false => rw [uJ9 fun i hi => by rw [h a i (by omega) hi, hA, Bool.false_and]]; simp
def T6 (x : ua5) : Prop := cTo (fun n => (upk x n).isSome) (2 ^ wid x) = cnt x
theorem t6P : ∀ (ps : List (Option ua5)), AllP (fun x => SOk x ∧ Sm x ∧ T6 x) ps → cTo (fun n => (upkP ps n).isSome) (2 ^ roomP ps) = cntP ps
 | [], _ => by
   rw [uj1, uk7]
   exact va3 (n := 1) fun i hi => by rw [uq0]; rfl
 | p :: r, h => by
   obtain ⟨x, rfl, hs, hm, hx⟩ := h p (List.mem_cons_self ..)
   rw [uc4, ug5, Nat.pow_add]
   rw [vv1 (A := fun n => (upk x n).isSome) (B := fun n => (upkP r n).isSome) (2 ^ roomP r), show cTo (fun n => (upk x n).isSome) (2 ^ wid x) = cnt x from hx, t6P r h.tail]
   intro t i ht hi
   have hp := ue5 (roomP r)
   have e1 : (t * 2 ^ roomP r + i) / 2 ^ roomP r = t := by
     rw [Nat.add_comm, Nat.add_mul_div_right _ _ hp, Nat.div_eq_of_lt hi, Nat.zero_add]
   have e2 : (t * 2 ^ roomP r + i) % 2 ^ roomP r = i := by
     rw [Nat.add_comm, Nat.add_mul_mod_self_right, Nat.mod_eq_of_lt hi]
   rw [uo1, e1, Nat.mod_eq_of_lt ht, uN8 r (h.tail.mono fun _ _ => trivial), e2]
   cases upk x t <;> cases upkP r i <;> rfl
theorem t6Vs : ∀ (vs : List data_variant) (R : Nat), rooms vs ≤ R → AllV (fun x => SOk x ∧ Sm x ∧ T6 x) vs → ∀ N, vs.length ≤ N → ∀ p : Nat → Bool, (∀ t i, t < N → i < 2 ^ R → p (t * 2 ^ R + i) = (upkVs vs t i).isSome) → cTo p (N * 2 ^ R) = cntVs vs
 | [], R, _, _, N, _, p, hp => by
   rw [ul7]
   refine uJ9 fun i hi => ?_
   have h2 := ue5 R
   have := hp (i / 2 ^ R) (i % 2 ^ R) ((Nat.div_lt_iff_lt_mul h2).2 hi) (Nat.mod_lt _ h2)
   rw [Nat.mul_comm, Nat.div_add_mod, uN9] at this
   exact this
 | c :: r, R, hR, h, 0, hN, p, hp => by simp at hN
 | c :: r, R, hR, h, N + 1, hN, p, hp => by
   rw [uo5] at hR
   obtain ⟨n, fs, ps, rfl, _, _, hps⟩ := h c (List.mem_cons_self ..)
   rw [uo4] at hR
   rw [Nat.add_mul, Nat.one_mul, Nat.add_comm, va2, ue4, ud4]
   have hle : 2 ^ roomP ps ≤ 2 ^ R := Nat.pow_le_pow_right (by decide) (Nat.le_trans (Nat.le_max_left _ _) hR)
   congr 1
   · rw [← t6P ps hps, ← vG9 _ hle]
     refine uJ8 fun i hi => ?_
     have := hp 0 i (by omega) hi
     rw [Nat.zero_mul, Nat.zero_add] at this
     rw [this, ux3, uu5]
     by_cases hf : i < 2 ^ roomP ps
     · rw [if_pos hf, decide_eq_true hf, Bool.true_and]
       cases upkP ps i <;> rfl
     · rw [if_neg hf, decide_eq_false hf, Bool.false_and]; rfl
   · refine t6Vs r R (Nat.le_trans (Nat.le_max_right _ _) hR) h.tail N (by simpa using hN) _ fun t i ht hi => ?_
     have := hp (t + 1) i (by omega) hi
     rw [ux2] at this
     rw [← this, Nat.add_mul, Nat.one_mul]
     congr 1
     omega
theorem t6 {l : List ua2} (hv : uj3 l) : ∀ n t x, SR l n t x → Sm x → T6 x := by
  refine u84 hv (fun b h1 h2 => ?_) (fun vs _ hl _ _ hq h => ?_)
  · unfold T6
    rw [uw3, uO9]
    exact va3 fun i hi => by rw [uR8]; rfl
  · unfold T6
    rw [ur6, uq7, Nat.pow_add]
    refine t6Vs vs (rooms vs) (Nat.le_refl _) h _ (uN3 vs.length hl) _ fun t i ht hi => ?_
    have hp := ue5 (rooms vs)
    have e1 : (t * 2 ^ rooms vs + i) / 2 ^ rooms vs = t := by
      rw [Nat.add_comm, Nat.add_mul_div_right _ _ hp, Nat.div_eq_of_lt hi, Nat.zero_add]
    have e2 : (t * 2 ^ rooms vs + i) % 2 ^ rooms vs = i := by
      rw [Nat.add_comm, Nat.add_mul_mod_self_right, Nat.mod_eq_of_lt hi]
    rw [uu6, e1, e2]
mutual
def vsz : DV → Nat
 | ⟨_, _, ps⟩ => 1 + vszs ps
def vszs : List DV → Nat
 | [] => 0
 | p :: l => vsz p + vszs l
end
mutual
def vdp : DV → Nat
 | ⟨_, _, ps⟩ => 1 + vdps ps
def vdps : List DV → Nat
 | [] => 0
 | p :: l => max (vdp p) (vdps l)
end
theorem uF5 : vszs [] = 0 := by rw [vszs]
theorem uV9 : vdps [] = 0 := by rw [vdps]
theorem uD5 (p : DV) (l : List DV) : vszs (p :: l) = vsz p + vszs l := by rw [vszs]
theorem u36 (p : DV) (l : List DV) : vdps (p :: l) = max (vdp p) (vdps l) := by rw [vdps]
theorem uO2 (v : DV) : vsz v = 1 + vszs v.Parts := by cases v; rw [vsz]
theorem vy4 (v : DV) : vdp v = 1 + vdps v.Parts := by cases v; rw [vdp]
theorem wh0 (t : DV) : 1 ≤ vsz t := by rw [uO2]; omega
theorem uW0 (l : List DV) : l.length ≤ vszs l := by
  induction l with
  | nil => simp [uF5]
  | cons a l ih => have := wh0 a; rw [uD5, List.length_cons]; omega
theorem vf6 {l : List DV} {t : DV} (h : t ∈ l) : vsz t ≤ vszs l := by
  induction l with
  | nil => cases h
  | cons a l ih =>
    rw [uD5]
    rcases List.mem_cons.1 h with rfl | h
    · omega
    · have := ih h; omega
theorem uO1 {P : DV → Prop} (h : ∀ n k ps, (∀ p ∈ ps, P p) → P ⟨n, k, ps⟩) (v : DV) : P v := by
  generalize hn : vsz v = n
  induction n using Nat.strongRecOn generalizing v with
  | ind n ih =>
    obtain ⟨s, k, ps⟩ := v
    exact h s k ps fun p hp => ih (vsz p) (by have := vf6 hp; rw [uO2] at hn; simp only at hn; omega) p rfl
def uT7 (v : DV) : Bool := decide (vsz v ≤ 200 ∧ vdp v ≤ 40)
def T7 (n : Nat) (x : ua5) : Prop := ∀ v, valE x v = 0 → vsz v ≤ nds x ∧ vdp v ≤ n
theorem t7P {n : Nat} : ∀ (ps : List (Option ua5)), AllP (T7 n) ps → ∀ l, l.length = ps.length → valP ps l = 0 → vszs l ≤ ndsP ps ∧ vdps l ≤ n
 | [], _, l, hl, _ => by
   have : l = [] := List.length_eq_zero_iff.1 (by simpa using hl)
   subst this
   rw [uF5, uV9]
   exact ⟨Nat.zero_le _, Nat.zero_le _⟩
 | p :: r, h, l, hl, hz => by
   obtain ⟨x, rfl, hx⟩ := h p (List.mem_cons_self ..)
   obtain ⟨v, m, rfl, hml⟩ := vf4 hl
   obtain ⟨z1, z2⟩ := uu7 hz
   obtain ⟨a1, a2⟩ := hx v z1
   obtain ⟨b1, b2⟩ := t7P r h.tail m hml z2
   rw [uD5, u36, uB8]
   exact ⟨by omega, Nat.max_le.2 ⟨a2, b2⟩⟩
theorem t7Vs {n : Nat} : ∀ (vs : List data_variant), AllV (T7 n) vs → ∀ v, valVs vs v = 0 → vsz v ≤ 1 + ndsV vs ∧ vdp v ≤ n + 1
 | [], _, v, hz => by rw [uD3] at hz; cases hz
 | c :: r, h, v, hz => by
   rw [ui2] at hz
   by_cases hn : c.name = v.Name
   · rw [if_pos hn] at hz
     obtain ⟨nm, fs, ps, rfl, _, _, hp⟩ := h c (List.mem_cons_self ..)
     obtain ⟨_, z2, z3⟩ := uu8 hz
     obtain ⟨a1, a2⟩ := t7P ps hp v.Parts z2 z3
     rw [uO2, vy4, uB9, uw8]
     exact ⟨by omega, by omega⟩
   · rw [if_neg hn] at hz
     obtain ⟨a1, a2⟩ := t7Vs r h.tail v hz
     rw [uB9]
     exact ⟨by omega, a2⟩
theorem t7 : ∀ n x, SOkN n x → T7 n x
 | 0, x, h => h.elim
 | n + 1, x, h => by
   intro v hz
   rcases h with ⟨b, _, _, rfl⟩ | ⟨vs, _, _, hV, rfl⟩
   · obtain ⟨_, z2, _⟩ := ui7 hz
     rw [uO2, vy4, z2, uF5, uV9, uH2]
     exact ⟨by omega, by omega⟩
   · rw [ui8] at hz
     rw [uQ3]
     exact t7Vs vs (hV.mono fun x hx => t7 n x hx) v hz
theorem uS7 {l : List ua2} {t : ua3} {x : ua5} (h : uW4 l t x) {v : DV} (hz : valE x v = 0) : uT7 v = true := by
  obtain ⟨a1, a2⟩ := t7 40 x (sokN h.valid 40 t x h.sr) v hz
  have := h.nds
  exact decide_eq_true ⟨by omega, a2⟩
end Go.Proofs.YtaennkkcnhfglaaGreatDoor.Ev.F
namespace Go.Proofs.YtaennkkcnhfglaaGreatDoor.Ev.F
open Go.Proofs.YtaennkkcnhfglaaGreatDoor.Ev
theorem wo3 {a b : Nat} (ha : a < 2 ^ 62) (hb : b < 2 ^ 62) : bits .or .i64 (a : Int) (b : Int) = ((a ||| b : Nat) : Int) := by
  rw [va1]
  unfold va0
  show IntKind.wrap .i64 (((BitVec.ofInt 64 (a : Int) ||| BitVec.ofInt 64 (b : Int)).toNat : Nat) : Int) = _
  rw [BitVec.toNat_or, BitVec.ofInt_natCast, BitVec.ofInt_natCast, BitVec.toNat_ofNat, BitVec.toNat_ofNat, Nat.mod_eq_of_lt (by omega), Nat.mod_eq_of_lt (by omega)]
  have := Nat.or_lt_two_pow ha hb
  exact wrap_i64 (by omega) (by omega)
theorem uC4 (k : Nat) : pw (k : Int) = ((2 ^ k : Nat) : Int) := by simp [pw]
theorem v35 {V k b : Nat} (hV : V < 65536) (hk : k ≤ 16) (hb : b < 2 ^ k) : bits .or .i64 (shl .i64 (V : Int) (k : Int)) (b : Int) = ((V * 2 ^ k + b : Nat) : Int) := by
  have hk2 := uc1 hk
  have hm : V * 2 ^ k ≤ 65536 * 65536 := Nat.mul_le_mul (by omega) hk2
  have e : (V : Int) * pw (k : Int) = ((V * 2 ^ k : Nat) : Int) := by rw [uC4, Int.natCast_mul]
  rw [v49 (by omega) (by rw [e]; omega) (by rw [e]; omega), e, wo3 (by omega) (by omega)]
  rw [← Nat.shiftLeft_eq, ← Nat.shiftLeft_add_eq_or_of_lt hb]
theorem vs6 (n k : Nat) (hk : k ≤ 16) : shr .i64 (n : Int) (k : Int) = ((n / 2 ^ k : Nat) : Int) := by
  rw [wr0 (by omega), uC4, Int.natCast_ediv]
theorem vw1 (n k : Nat) (hk : k ≤ 16) (hn : n ≤ 10000000) : bits .and .i64 (n : Int) (IntKind.wrap .i64 (shl .i64 1 (k : Int) - 1)) = ((n % 2 ^ k : Nat) : Int) := by
  have hk2 := uc1 hk
  have hp := ue5 k
  rw [ve9 (by omega), uC4, wrap_i64 (by omega) (by omega), ← uC4, vT9 (by omega) (by omega) (by omega) (by omega), uC4, Int.natCast_emod]
theorem vx6 (k : Nat) (hk : k ≤ 16) : IntKind.wrap .i64 (shl .i64 1 (k : Int) - 1) = ((2 ^ k : Nat) : Int) - 1 := by
  have hk2 := uc1 hk
  have hp := ue5 k
  rw [ve9 (by omega), uC4, wrap_i64 (by omega) (by omega)]
inductive uG1 : DV → Prop
 | mk (n : ByteArray) (k : Int) (ps : List DV) (h : ps.length ≤ big) (hs : ∀ p ∈ ps, uG1 p) : uG1 ⟨n, k, ps⟩
def vt6 (t : DV) : Prop := ∀ d n : Nat, 1 ≤ d → d ≤ 41 → n ≤ 200 → ∃ r, ul5 (.start t.Name t.Number t.Parts (d : Int) (n : Int)) = some r ∧ r.1.1 = decide (n + vsz t ≤ 200 ∧ d + vdp t ≤ 41) ∧ (r.1.1 = true → r.2.1.1 = ((n + vsz t : Nat) : Int))
theorem vj5 (ps : List DV) (hps : ∀ p ∈ ps, vt6 p) (hl : ps.length ≤ big) (d : Nat) (h1 : 1 ≤ d) (h2 : d ≤ 40) : ∀ {i}, i ≤ ps.length → ∀ n : Nat, n ≤ 200 → ∃ r, ul5 (.p244 (d : Int) ps (List.length ps : Int) (i : Int) (n : Int)) = some r ∧ r.1.1 = decide (n + vszs (ps.drop i) ≤ 200 ∧ d + vdps (ps.drop i) ≤ 40) ∧ (r.1.1 = true → r.2.1.1 = ((n + vszs (ps.drop i) : Nat) : Int)) := by
  refine ub0 ps (P := fun i => ∀ n : Nat, n ≤ 200 → ∃ r, ul5 (.p244 (d : Int) ps (List.length ps : Int) (i : Int) (n : Int)) = some r ∧ r.1.1 = decide (n + vszs (ps.drop i) ≤ 200 ∧ d + vdps (ps.drop i) ≤ 40) ∧ (r.1.1 = true → r.2.1.1 = ((n + vszs (ps.drop i) : Nat) : Int))) ?_ ?_
  · intro n hn
    rw [ul5]
    refine ⟨_, by simp only [lt_f, Bool.false_eq_true, if_false]; rfl, ?_, ?_⟩
    · rw [List.drop_length, uF5, uV9]; simp; omega
    · rw [List.drop_length, uF5]; simp
  · intro i hi ih n hn
    rw [ul5]
    simp only [lt_t hi, if_true, ua7 hi, ua0]
    obtain ⟨r, e1, e2, e3⟩ := hps ps[i] (List.getElem_mem hi) (d + 1) n (by omega) (by omega) hn
    rw [uj9 (by omega), e1]
    simp only [ua0]
    rw [ua8 hi, uD5, u36]
    cases hb : r.1.1 with
    | false =>
      rw [hb] at e2
      refine ⟨_, by simp only [Bool.not_false, if_true]; rfl, ?_, ?_⟩
      · simp only
        have := of_decide_eq_false e2.symm
        symm
        refine decide_eq_false ?_
        have := Nat.le_max_left (vdp ps[i]) (vdps (ps.drop (i + 1)))
        omega
      · intro h; cases h
    | true =>
      rw [hb] at e2
      have h3 := of_decide_eq_true e2.symm
      obtain ⟨r', f1, f2, f3⟩ := ih (n + vsz ps[i]) h3.1
      refine ⟨r', ?_, ?_, ?_⟩
      · simp only [Bool.not_true, Bool.false_eq_true, if_false]
        rw [e3 hb, ua9 hi hl]
        exact f1
      · rw [f2]
        refine decide_eq_decide.2 ?_
        have := Nat.le_max_left (vdp ps[i]) (vdps (ps.drop (i + 1)))
        have := Nat.le_max_right (vdp ps[i]) (vdps (ps.drop (i + 1)))
        have : max (vdp ps[i]) (vdps (ps.drop (i + 1))) = vdp ps[i] ∨ max (vdp ps[i]) (vdps (ps.drop (i + 1))) = vdps (ps.drop (i + 1)) := by omega
        omega
      · intro h
        rw [f3 h]
        congr 1
        omega
theorem vY4 : ∀ t, uG1 t → vt6 t := by
  refine uO1 fun s k ps ih hok => ?_
  obtain ⟨_, _, _, hl, hs⟩ := hok
  intro d n h1 h2 hn
  have hsz : vsz ⟨s, k, ps⟩ = 1 + vszs ps := uO2 _
  have hdp : vdp ⟨s, k, ps⟩ = 1 + vdps ps := vy4 _
  rw [ul5, hsz, hdp]
  simp only
  rw [uj9 (by omega)]
  by_cases hc : n + 1 > 200
  · refine ⟨_, by rw [if_pos (by simp; omega)], ?_, ?_⟩
    · simp only
      symm
      exact decide_eq_false (by omega)
    · intro h; cases h
  · rw [if_neg (by simp; omega)]
    by_cases hd : d > 40
    · refine ⟨_, by rw [if_pos (by simp; omega)], ?_, ?_⟩
      · simp only
        symm
        exact decide_eq_false (by omega)
      · intro h; cases h
    · rw [if_neg (by simp; omega)]
      rw [ul5]
      simp only [u16, ua0]
      obtain ⟨r, e1, e2, e3⟩ := vj5 ps (fun p hp => ih p hp (hs p hp)) hl d h1 (by omega) (Nat.zero_le _) (n + 1) (by omega)
      refine ⟨r, e1, ?_, ?_⟩
      · rw [e2, List.drop_zero]
        exact decide_eq_decide.2 (by omega)
      · intro h
        rw [e3 h, List.drop_zero]
        congr 1
        omega
theorem wf2 (t : DV) (h : uG1 t) : uI3 (.start t.Name t.Number t.Parts) = some ((if uT7 t = true then 0 else 8, ()), ()) := by
  rw [uI3]
  obtain ⟨r, e1, e2, _⟩ := vY4 t h 1 0 (by omega) (by omega) (by omega)
  rw [show ((1 : Int)) = ((1 : Nat) : Int) from rfl, show ((0 : Int)) = ((0 : Nat) : Int) from rfl, e1]
  simp only [ua0, uy9]
  rw [e2]
  have : decide (0 + vsz t ≤ 200 ∧ 1 + vdp t ≤ 41) = uT7 t := decide_eq_decide.2 (by omega)
  rw [this]
  rfl
theorem vZ0 : ∀ (t : DV) (d n : Nat), 1 ≤ d → d ≤ 41 → n ≤ 200 → ug8 (.start t.Name t.Number t.Parts (d : Int) (n : Int)) = some (((if n + vsz t ≤ 200 ∧ d + vdp t ≤ 41 then ((n + vsz t : Nat) : Int) else 201), ()), ()) := by
  refine uO1 fun s k ps ih d n h1 h2 hn => ?_
  have hts : vsz ⟨s, k, ps⟩ = 1 + vszs ps := uO2 _
  have htd : vdp ⟨s, k, ps⟩ = 1 + vdps ps := vy4 _
  rw [ug8, hts, htd]
  simp only
  by_cases hd : d > 40
  · rw [if_pos (by simp; omega), if_neg (by omega)]
  · rw [if_neg (by simp; omega), uj9 (by omega)]
    by_cases hc : n + 1 > 200
    · rw [if_pos (by simp; omega), if_neg (by omega)]
    · rw [if_neg (by simp; omega)]
      by_cases hp : ps.length > 200
      · rw [if_pos (by simp; omega), if_neg (by have := uW0 ps; omega)]
      · rw [if_neg (by simp; omega), ug8]
        have loop : ∀ {i}, i ≤ ps.length → ∀ m : Nat, m ≤ 200 → ug8 (.p244 (d : Int) (m : Int) (i : Int) s k ps) = some (((if m + vszs (ps.drop i) ≤ 200 ∧ d + vdps (ps.drop i) ≤ 40 then ((m + vszs (ps.drop i) : Nat) : Int) else 201), ()), ()) := by
          refine ub0 ps (P := fun i => ∀ m : Nat, m ≤ 200 → ug8 (.p244 (d : Int) (m : Int) (i : Int) s k ps) = some (((if m + vszs (ps.drop i) ≤ 200 ∧ d + vdps (ps.drop i) ≤ 40 then ((m + vszs (ps.drop i) : Nat) : Int) else 201), ()), ())) ?_ ?_
          · intro m hm
            rw [ug8]
            simp only [lt_f, Bool.false_eq_true, if_false]
            rw [List.drop_length, uF5, uV9]
            rw [if_pos (by omega)]
            rfl
          · intro i hi ihl m hm
            rw [ug8]
            simp only [lt_t hi, if_true, show decide ((m : Int) ≤ 200) = true by simp; omega]
            rw [ug8]
            simp only [ua7 hi, ua0]
            rw [uj9 (by omega), ih ps[i] (List.getElem_mem hi) (d + 1) m (by omega) (by omega) hm]
            simp only [ua0]
            rw [ua9 hi (by omega), ua8 hi, uD5, u36]
            have m1 := Nat.le_max_left (vdp ps[i]) (vdps (ps.drop (i + 1)))
            have m2 := Nat.le_max_right (vdp ps[i]) (vdps (ps.drop (i + 1)))
            have m3 : max (vdp ps[i]) (vdps (ps.drop (i + 1))) = vdp ps[i] ∨ max (vdp ps[i]) (vdps (ps.drop (i + 1))) = vdps (ps.drop (i + 1)) := by omega
            by_cases hx : m + vsz ps[i] ≤ 200 ∧ d + 1 + vdp ps[i] ≤ 41
            · rw [if_pos hx, ihl _ hx.1]
              by_cases hy : m + vsz ps[i] + vszs (ps.drop (i + 1)) ≤ 200 ∧ d + vdps (ps.drop (i + 1)) ≤ 40
              · rw [if_pos hy, if_pos (by omega)]
                congr 4
                omega
              · rw [if_neg hy, if_neg (by omega)]
            · rw [if_neg hx]
              have hq : decide ((201 : Int) ≤ 200) = false := by decide
              rw [if_neg (by omega)]
              rw [ug8]
              by_cases hz : i + 1 < ps.length
              · simp only [lt_t hz, if_true, hq, Bool.false_eq_true, if_false]
              · have : i + 1 = ps.length := by omega
                rw [this]
                simp only [lt_f, Bool.false_eq_true, if_false]
        have := loop (Nat.zero_le _) (n + 1) (by omega)
        rw [List.drop_zero] at this
        rw [show ((0 : Int)) = ((0 : Nat) : Int) from rfl, this]
        by_cases hy : n + 1 + vszs ps ≤ 200 ∧ d + vdps ps ≤ 40
        · rw [if_pos hy, if_pos (by omega)]
          congr 4
          omega
        · rw [if_neg hy, if_neg (by omega)]
theorem wq6 (t : DV) : uV5 (.start t.Name t.Number t.Parts) = some ((uT7 t, ()), ()) := by
  rw [uV5, show ((1 : Int)) = ((1 : Nat) : Int) from rfl, show ((0 : Int)) = ((0 : Nat) : Int) from rfl, vZ0 t 1 0 (by omega) (by omega) (by omega)]
  simp only [ua0]
  unfold uT7
  by_cases h : vsz t ≤ 200 ∧ vdp t ≤ 40
  · rw [if_pos (by omega)]
    simp only [Nat.zero_add]
    rw [show decide (((vsz t : Nat) : Int) ≤ 200) = true by simp; omega, decide_eq_true h]
  · rw [if_neg (by omega), decide_eq_false h]
    rfl
theorem ut1 (v : DV) : (⟨v.Name, v.Number, v.Parts⟩ : DV) = v := by cases v; rfl
end Go.Proofs.YtaennkkcnhfglaaGreatDoor.Ev.F
namespace Go.Proofs.YtaennkkcnhfglaaGreatDoor.Ev.F
open Go.Proofs.YtaennkkcnhfglaaGreatDoor.Ev
theorem uY2 : ∀ (vs : List data_variant) (j : Nat) (c : data_variant) (v : DV), vs[j]? = some c → c.name = v.Name → (∀ k b, k < j → vs[k]? = some b → b.name ≠ v.Name) → valVs vs v = valW c v ∧ pkT vs v = (j, pkW c v)
 | [], j, c, v, h, _, _ => by simp at h
 | d :: r, 0, c, v, h, hn, _ => by
   obtain rfl : d = c := by simpa using h
   rw [ui2, up7, if_pos hn, if_pos hn]
   exact ⟨rfl, rfl⟩
 | d :: r, j + 1, c, v, h, hn, hk => by
   have h0 := hk 0 d (by omega) rfl
   obtain ⟨a1, a2⟩ := uY2 r j c v (by simpa using h) hn (fun k b hkj hb => hk (k + 1) b (by omega) (by simpa using hb))
   rw [ui2, up7, if_neg h0, if_neg h0, a1, a2]
   exact ⟨rfl, rfl⟩
theorem vK6 : ∀ (vs : List data_variant) (v : DV), (∀ c ∈ vs, c.name ≠ v.Name) → valVs vs v = 6
 | [], v, _ => uD3 v
 | d :: r, v, h => by
   rw [ui2, if_neg (h d (List.mem_cons_self ..))]
   exact vK6 r v fun c hc => h c (List.mem_cons_of_mem _ hc)
theorem uX7 (vs : List data_variant) (v : DV) : (ix (fun c => decide (c.name = v.Name)) vs = -1 ∧ valVs vs v = 6) ∨ ∃ (j : Nat) (c : data_variant), ix (fun c => decide (c.name = v.Name)) vs = (j : Int) ∧ vs[j]? = some c ∧ c.name = v.Name ∧ valVs vs v = valW c v ∧ pkT vs v = (j, pkW c v) := by
  rcases uP9 (fun c : data_variant => decide (c.name = v.Name)) vs with ⟨e1, e2⟩ | ⟨j, c, e1, e2, e3, e4⟩
  · exact .inl ⟨e1, vK6 vs v fun c hc => of_decide_eq_false (e2 c hc)⟩
  · have hn := of_decide_eq_true e3
    obtain ⟨a1, a2⟩ := uY2 vs j c v e2 hn fun k b hk hb => of_decide_eq_false (e4 k b hk hb)
    exact .inr ⟨j, c, e1, e2, hn, a1, a2⟩
theorem wd1 {p : Prop} [Decidable p] {a b : Int} : (if decide p = true then a else b) = if p then a else b := by by_cases h : p <;> simp [h]
def PVal (x : ua5) : Prop := ∀ v, vsz v ≤ 200 → run_z53 (.start (some x) v.Name v.Number v.Parts) = some ((valE x v, ()), ())
theorem wx8 (n : ByteArray) (fs : List ua6) {ps : List (Option ua5)} (h : AllP (fun x => SOk x ∧ Sm x ∧ PVal x) ps) (l : List DV) (hl : l.length = ps.length) (hs : vszs l ≤ 200) : ∃ j : Int, run_z54 (.start l n fs (some ps)) = some ((j, (valP ps l, ())), ((n, (fs, (some ps, ()))), ())) := by
  rw [run_z54]
  have hll := uW0 l
  have loop : ∀ {i}, i ≤ l.length → ∃ j : Int, run_z54 (.p52 l (List.length l : Int) (i : Int) n fs (some ps)) = some ((j, (valP (ps.drop i) (l.drop i), ())), ((n, (fs, (some ps, ()))), ())) := by
    refine ub0 l (P := fun i => ∃ j : Int, run_z54 (.p52 l (List.length l : Int) (i : Int) n fs (some ps)) = some ((j, (valP (ps.drop i) (l.drop i), ())), ((n, (fs, (some ps, ()))), ()))) ?_ ?_
    · rw [run_z54]
      simp only [lt_f, Bool.false_eq_true, if_false]
      rw [hl, List.drop_length, uV8]
      exact ⟨0, rfl⟩
    · intro i hi ⟨j, hj⟩
      have hi2 : i < ps.length := by omega
      obtain ⟨x, hx, _, _, hq⟩ := h ps[i] (List.getElem_mem hi2)
      have hm := vf6 (List.getElem_mem hi)
      rw [run_z54]
      simp only [lt_t hi, if_true, ua7 hi, ua0]
      rw [uR4]
      simp only [Option.getD_some, ua7 hi2, ua0, hx, hq l[i] (by omega)]
      rw [ua8 hi2, ua8 hi, hx, uD2]
      by_cases h0 : valE x l[i] = 0
      · rw [h0, if_neg (by simp), if_pos rfl, ua9 hi (by omega)]
        exact ⟨j, hj⟩
      · rw [if_pos (by simpa using h0), if_neg h0]
        exact ⟨_, rfl⟩
  obtain ⟨j, hj⟩ := loop (Nat.zero_le _)
  rw [List.drop_zero, List.drop_zero] at hj
  exact ⟨j, hj⟩
theorem pval : ∀ x, SOk x → Sm x → PVal x := by
  refine uw9 (fun b h1 h2 v hv => ?_) (fun vs h0 h1 hn hw h v hv => ?_)
  · rw [run_z53, uy7, uO0]
    obtain ⟨k, rfl⟩ := Int.eq_ofNat_of_zero_le (show 0 ≤ b by omega)
    have hk : k ≤ 16 := by omega
    simp only [ua0, if_true, ui0, decide_eq_true (show (0 : Int) ≤ (k : Int) by omega), vx6 k hk, uH6, uy9, uC4]
    have e1 : ((List.length v.Parts : Int) == 0) = decide (v.Parts.length = 0) := by
      rw [Bool.eq_iff_iff]; simp
    have e2 : (if decide (0 ≤ v.Number ∧ v.Number ≤ ((2 ^ k : Nat) : Int) - 1) = true then (0 : Int) else 2) = if 0 ≤ v.Number ∧ v.Number ≤ ((2 ^ k : Nat) : Int) - 1 then 0 else 2 := wd1
    by_cases hnm : v.Name = uf0
    · rw [if_pos (by simpa using hnm), uL2 _ (by simp [big]), e1, e2]
      have e3 : (if decide (v.Parts.length = 0) = true then (0 : Int) else 3) = if v.Name = uf0 ∧ v.Parts.length = 0 then 0 else 3 := by
        by_cases hp : v.Parts.length = 0 <;> simp [hp, hnm]
      rw [e3]
      simp only [ua0]
    · rw [if_neg (by simpa using hnm), uL2 _ (by simp [big])]
      have e3 : (if v.Name = uf0 ∧ v.Parts.length = 0 then (0 : Int) else 3) = 3 := if_neg fun hh => hnm hh.1
      rw [e3]
      rfl
  · rw [run_z53, uy8 _ _ h0, ui8]
    simp only [ua0, Bool.false_eq_true, if_false]
    rw [vL2 _ v.Name (by simp only [Option.getD_some]; unfold big; omega)]
    simp only [ua0, Option.getD_some]
    rcases uX7 vs v with ⟨e1, e2⟩ | ⟨j, c, e1, e2, e3, e4, e5⟩
    · rw [e1, e2, if_pos (by decide)]
    · rw [e1, e4, if_neg (by simp), uP7, e2]
      obtain ⟨n, fs, ps, rfl, q1, q2, hp⟩ := h c (List.mem_of_getElem? e2)
      simp only [ua0, uy9, Option.getD_some]
      rw [uL2 _ (by simp [big]), uD4]
      simp only [ua0]
      have f1 : (if (v.Number == (0 : Int)) = true then (0 : Int) else 3) = if v.Number = 0 then 0 else 3 := by by_cases hh : v.Number = 0 <;> simp [hh]
      have f2 : (if ((List.length v.Parts : Int) == (List.length ps : Int)) = true then (0 : Int) else 10) = if v.Parts.length = ps.length then 0 else 10 := by
        by_cases hh : v.Parts.length = ps.length
        · rw [if_pos (by simp [hh]), if_pos hh]
        · rw [if_neg (by simp; omega), if_neg hh]
      rw [f1, f2]
      simp only [uh4]
      by_cases g1 : v.Number = 0
      · by_cases g2 : v.Parts.length = ps.length
        · have hvs : vszs v.Parts ≤ 200 := by rw [uO2] at hv; omega
          obtain ⟨j2, e6⟩ := wx8 n fs hp v.Parts g2 hvs
          simp only [if_pos g1, if_pos g2, if_true, bne_self_eq_false, Bool.false_eq_true, if_false, e6, ua0]
          by_cases g3 : valP ps v.Parts = 0
          · rw [if_pos g3, g3]
          · rw [if_neg g3]
        · simp only [if_pos g1, if_neg g2, if_true]
          rfl
      · simp only [if_neg g1]
        rfl
def PPk (x : ua5) : Prop := T3 x ∧ ∀ v, valE x v = 0 → um7 (.start (some x) v.Name v.Number v.Parts) = some (((pk_ x v : Int), ()), ())
theorem ppk {l : List ua2} (hv : uj3 l) : ∀ n t x, SR l n t x → Sm x → PPk x := by
  refine u84 hv (fun b h1 h2 => ?_) (fun vs h0 h1 hn hw hq h => ?_)
  · have hb : BitR ⟨1, 0, sBit, [⟨2, b, uf0, []⟩]⟩ ⟨b, none⟩ := ⟨rfl, rfl, _, rfl, h1, h2, rfl⟩
    refine ⟨t3 hv 1 _ _ (.inl hb) ⟨by rw [uH2]; omega, by rw [uw3]; omega⟩, fun v hz => ?_⟩
    obtain ⟨_, _, z3, _⟩ := ui7 hz
    rw [um7, uy7, u73]
    simp only [ua0, if_true]
    rw [Int.toNat_of_nonneg z3]
  · have h3 : AllV (fun x => SOk x ∧ Sm x ∧ T3 x) vs := h.mono fun x hx => ⟨hx.1, hx.2.1, hx.2.2.1⟩
    have hT3 : T3 ⟨0, some vs⟩ := fun v hz => by
      rw [ui8] at hz
      obtain ⟨a1, a2, a3⟩ := t3Vs vs (rooms vs) (Nat.le_refl _) h3 v hz
      have hp := ue5 (rooms vs)
      have ht := uN3 vs.length h1
      have e1 : ((pkT vs v).1 * 2 ^ rooms vs + (pkT vs v).2) / 2 ^ rooms vs = (pkT vs v).1 := by
        rw [Nat.add_comm, Nat.add_mul_div_right _ _ hp, Nat.div_eq_of_lt a2, Nat.zero_add]
      have e2 : ((pkT vs v).1 * 2 ^ rooms vs + (pkT vs v).2) % 2 ^ rooms vs = (pkT vs v).2 := by
        rw [Nat.add_comm, Nat.add_mul_mod_self_right, Nat.mod_eq_of_lt a2]
      rw [uS8, uu6, ur6, Nat.pow_add, e1, e2]
      refine ⟨?_, a3⟩
      have : ((pkT vs v).1 + 1) * 2 ^ rooms vs ≤ 2 ^ tagN vs.length * 2 ^ rooms vs := Nat.mul_le_mul_right _ (by omega)
      rw [Nat.add_mul] at this
      omega
    refine ⟨hT3, fun v hz => ?_⟩
    have hz' := hz
    rw [ui8] at hz
    obtain ⟨b1, b2, _⟩ := t3Vs vs (rooms vs) (Nat.le_refl _) h3 v hz
    rw [um7, uy8 _ _ h0]
    simp only [ua0, Bool.false_eq_true, if_false]
    rw [vL2 _ v.Name (by simp only [Option.getD_some]; unfold big; omega)]
    simp only [ua0, Option.getD_some]
    rcases uX7 vs v with ⟨e1, e2⟩ | ⟨j, c, e1, e2, e3, e4, e5⟩
    · rw [e2] at hz; cases hz
    · rw [e1, uP7, e2]
      have hcm := List.mem_of_getElem? e2
      obtain ⟨n, fs, ps, rfl, q1, q2, hp⟩ := h c hcm
      rw [e4] at hz
      obtain ⟨z1, z2, z3⟩ := uu8 hz
      obtain ⟨k1, k2, k3⟩ := uh1 hn hw hcm
      have hPW : AllV PW vs := h.mono fun x hx => pwid x hx.1
      simp only [ua0, Option.getD_some]
      rw [uS8, e5] 
      rw [e5] at b1 b2
      simp only at b1 b2 ⊢
      rw [uE4] at b2 ⊢
      have loop : ∀ {i}, i ≤ ps.length → ∀ a : Nat, (valP (ps.drop i) (v.Parts.drop i) = 0) → a * 2 ^ roomP (ps.drop i) + pkP (ps.drop i) (v.Parts.drop i) < 65536 → um7 (.p500 (some ⟨0, some vs⟩) (j : Int) (a : Int) (some ps) (List.length ps : Int) (i : Int) v.Name v.Number v.Parts) = some ((((j * 2 ^ rooms vs + (a * 2 ^ roomP (ps.drop i) + pkP (ps.drop i) (v.Parts.drop i)) : Nat) : Int), ()), ()) ∨ ¬ (a * 2 ^ roomP (ps.drop i) + pkP (ps.drop i) (v.Parts.drop i) < 2 ^ rooms vs) := by
        refine ub0 ps (P := fun i => ∀ a : Nat, (valP (ps.drop i) (v.Parts.drop i) = 0) → a * 2 ^ roomP (ps.drop i) + pkP (ps.drop i) (v.Parts.drop i) < 65536 → um7 (.p500 (some ⟨0, some vs⟩) (j : Int) (a : Int) (some ps) (List.length ps : Int) (i : Int) v.Name v.Number v.Parts) = some ((((j * 2 ^ rooms vs + (a * 2 ^ roomP (ps.drop i) + pkP (ps.drop i) (v.Parts.drop i)) : Nat) : Int), ()), ()) ∨ ¬ (a * 2 ^ roomP (ps.drop i) + pkP (ps.drop i) (v.Parts.drop i) < 2 ^ rooms vs)) ?_ ?_
        · intro a _ ha
          by_cases hlt : a * 2 ^ roomP (ps.drop ps.length) + pkP (ps.drop ps.length) (v.Parts.drop ps.length) < 2 ^ rooms vs
          · left
            rw [List.drop_length, uj1, uZ8, Nat.pow_zero, Nat.mul_one, Nat.add_zero] at hlt ha ⊢
            rw [um7]
            simp only [lt_f, Bool.false_eq_true, if_false]
            rw [we8 0 hPW h1 (by omega)]
            simp only [ua0]
            rw [if_pos (by simp), v35 (by omega) (by omega) hlt]
          · exact .inr hlt
        · intro i hi ih a hz4 ha
          have hil : i < v.Parts.length := by omega
          obtain ⟨x, hx, hq1, hq2, hq3, hq4⟩ := hp ps[i] (List.getElem_mem hi)
          rw [ua8 hi, ua8 hil, hx] at hz4 ha ⊢
          obtain ⟨y1, y2⟩ := uu7 hz4
          rw [uc4, uE3, Nat.pow_add] at ha ⊢
          have hpx := (hq3 _ y1).1
          have hwx := hq2.2
          have hpr := ue5 (roomP (ps.drop (i + 1)))
          have hpwx := ue5 (wid x)
          have hsum : a * (2 ^ wid x * 2 ^ roomP (ps.drop (i + 1))) + (pk_ x v.Parts[i] * 2 ^ roomP (ps.drop (i + 1)) + pkP (ps.drop (i + 1)) (v.Parts.drop (i + 1))) = (a * 2 ^ wid x + pk_ x v.Parts[i]) * 2 ^ roomP (ps.drop (i + 1)) + pkP (ps.drop (i + 1)) (v.Parts.drop (i + 1)) := by
            rw [Nat.add_mul, Nat.mul_assoc, Nat.add_assoc]
          rw [hsum] at ha ⊢
          have ha2 : a < 65536 := by
            have u1 : a * 1 ≤ a * 2 ^ wid x := Nat.mul_le_mul_left _ hpwx
            have u2 : (a * 2 ^ wid x + pk_ x v.Parts[i]) * 1 ≤ (a * 2 ^ wid x + pk_ x v.Parts[i]) * 2 ^ roomP (ps.drop (i + 1)) := Nat.mul_le_mul_left _ hpr
            omega
          rcases ih (a * 2 ^ wid x + pk_ x v.Parts[i]) y2 ha with h5 | h5
          · left
            rw [um7]
            simp only [lt_t hi, if_true, Option.getD_some, ua7 hi, ua0, hx, (pwid x hq1 hq2.1).1, decide_eq_true (show (0 : Int) ≤ (wid x : Int) by omega), ua7 hil, hq4 _ y1]
            rw [v35 ha2 hwx hpx, ua9 hi (by omega)]
            exact h5
          · exact .inr h5
      have h5 := uc1 (show rooms vs ≤ 16 by omega)
      have := loop (Nat.zero_le _) 0 (by rw [List.drop_zero, List.drop_zero]; exact z3) (by rw [List.drop_zero, List.drop_zero]; omega)
      rw [List.drop_zero, List.drop_zero, Nat.zero_mul, Nat.zero_add] at this
      rcases this with h6 | h6
      · exact h6
      · exact absurd b2 h6
end Go.Proofs.YtaennkkcnhfglaaGreatDoor.Ev.F
namespace Go.Proofs.YtaennkkcnhfglaaGreatDoor.Ev.F
open Go.Proofs.YtaennkkcnhfglaaGreatDoor.Ev
def PU (x : ua5) : Prop := ∀ n : Nat, n < 2 ^ wid x → ∃ r, um8 (.start (some x) (n : Int)) = some r ∧ r.1.2.1 = (upk x n).isSome ∧ ∀ v, upk x n = some v → r.1.1 = (v.Name, (v.Number, (v.Parts, ())))
theorem uu4 : ∀ (vs : List data_variant) (k f : Nat), upkVs vs k f = match vs[k]? with | some c => upkW c f | none => none
 | [], k, f => by rw [uN9]; rfl
 | v :: r, 0, f => by rw [ux3]; rfl
 | v :: r, k + 1, f => by rw [ux2, uu4 r k f]; rfl
theorem pupk : ∀ x, SOk x → Sm x → PU x := by
  refine uw9 (fun b h1 h2 n hn => ?_) (fun vs h0 h1 hnd hw h n hn => ?_)
  · rw [um8, uy7, uR8]
    simp only [ua0, if_true]
    exact ⟨_, rfl, rfl, fun v hv => by obtain rfl := Option.some.inj hv; rfl⟩
  · have hPW : AllV PW vs := h.mono fun x hx => pwid x hx.1
    have h16 : rooms vs ≤ 16 := by omega
    have hsz : n < 65536 := by
      rw [ur6] at hn
      have := uc1 hw
      omega
    rw [um8, uy8 _ _ h0]
    simp only [ua0, Bool.false_eq_true, if_false, we8 0 hPW h1 (show ndsV vs ≤ 200 by omega), decide_eq_true (show (0 : Int) ≤ (rooms vs : Int) by omega), if_true, Option.getD_some, vs6 n _ h16, vw1 n _ h16 (by omega)]
    by_cases ht : vs.length ≤ n / 2 ^ rooms vs
    · have hU : upk ⟨0, some vs⟩ n = none := by rw [uu6, uu4, List.getElem?_eq_none (by omega)]
      rw [decide_eq_true (by omega), if_pos rfl, hU]
      exact ⟨_, rfl, rfl, fun v hv => (by cases hv)⟩
    · rw [decide_eq_false (by omega), if_neg (by simp)]
      have hlt : n / 2 ^ rooms vs < vs.length := by omega
      rw [ua7 hlt]
      obtain ⟨nm, fs, ps, hx, q1, q2, hp⟩ := h _ (List.getElem_mem hlt)
      have hcm := hx ▸ List.getElem_mem hlt
      obtain ⟨k1, k2, k3⟩ := uh1 hnd hw hcm
      have hPP : AllP PW ps := hp.mono fun x hx => pwid x hx.1
      have hU : upk ⟨0, some vs⟩ n = upkW ⟨nm, fs, some ps⟩ (n % 2 ^ rooms vs) := by rw [uu6, uu4, List.getElem?_eq_getElem hlt, hx]
      rw [hU]
      generalize hF : n % 2 ^ rooms vs = F
      have hFlt : F < 65536 := by rw [← hF]; exact Nat.lt_of_le_of_lt (Nat.mod_le _ _) hsz
      rw [hx, uu5]
      simp only [ua0, Option.getD_some, v40 nm fs hPP q2 (show ndsP ps ≤ 200 by omega), decide_eq_true (show (0 : Int) ≤ (roomP ps : Int) by omega), if_true, vs6 F _ (show roomP ps ≤ 16 by omega)]
      have hpp := ue5 (roomP ps)
      by_cases hf : F < 2 ^ roomP ps
      · rw [Nat.div_eq_of_lt hf, if_pos hf, if_neg (by simp)]
        have loop : ∀ {i}, i ≤ ps.length → ∀ acc : List DV, acc.length = i → ∃ r, um8 (.p8180 (F : Int) (roomP (ps.drop i) : Int) (some ps) (List.length ps : Int) (i : Int) nm 0 acc) = some r ∧ r.1.2.1 = (upkP (ps.drop i) F).isSome ∧ ∀ l, upkP (ps.drop i) F = some l → r.1.1 = (nm, (0, (acc ++ l, ()))) := by
          refine ub0 ps (P := fun i => ∀ acc : List DV, acc.length = i → ∃ r, um8 (.p8180 (F : Int) (roomP (ps.drop i) : Int) (some ps) (List.length ps : Int) (i : Int) nm 0 acc) = some r ∧ r.1.2.1 = (upkP (ps.drop i) F).isSome ∧ ∀ l, upkP (ps.drop i) F = some l → r.1.1 = (nm, (0, (acc ++ l, ())))) ?_ ?_
          · intro acc _
            rw [um8, List.drop_length, uq0]
            simp only [lt_f, Bool.false_eq_true, if_false]
            exact ⟨_, rfl, rfl, fun l hl => by obtain rfl := Option.some.inj hl; rw [List.append_nil]⟩
          · intro i hi ih acc hacc
            obtain ⟨x, hxi, hq1, hq2, hq3⟩ := hp ps[i] (List.getElem_mem hi)
            have hwx := hq2.2
            have hr := vj9 (hxi ▸ List.getElem_mem hi)
            have hdrop : roomP (ps.drop i) = wid x + roomP (ps.drop (i + 1)) := by rw [ua8 hi, hxi, uc4]
            have hrb : roomP (ps.drop (i + 1)) ≤ 16 := by
              have : ∀ (q : List (Option ua5)) (k : Nat), roomP (q.drop k) ≤ roomP q := by
                intro q
                induction q with
                | nil => intro k; rw [List.drop_nil]; exact Nat.le_refl _
                | cons p r ihq =>
                  intro k
                  cases k with
                  | zero => exact Nat.le_refl _
                  | succ k =>
                    have := ihq k
                    simp only [List.drop_succ_cons]
                    cases p with
                    | none => rw [roomP]; exact this
                    | some y => rw [uc4]; omega
              have := this ps (i + 1)
              omega
            have hdl : F / 2 ^ roomP (ps.drop (i + 1)) ≤ 10000000 := Nat.le_trans (Nat.div_le_self _ _) (by omega)
            have hml : F / 2 ^ roomP (ps.drop (i + 1)) % 2 ^ wid x < 2 ^ wid x := Nat.mod_lt _ (ue5 _)
            obtain ⟨r1, g1, g2, g3⟩ := hq3 _ hml
            rw [um8]
            simp only [lt_t hi, if_true, Option.getD_some, ua7 hi, ua0, hxi, (pwid x hq1 hq2.1).1]
            rw [hdrop, wrap_i64 (by omega) (by omega), show ((wid x + roomP (ps.drop (i + 1)) : Nat) : Int) - (wid x : Int) = (roomP (ps.drop (i + 1)) : Int) by omega]
            rw [if_pos (by simp), if_pos (by simp), vs6 F _ hrb, vw1 _ _ hwx hdl, g1]
            simp only [ua0]
            rw [ua8 hi, hxi, uo1]
            cases hu : upk x (F / 2 ^ roomP (ps.drop (i + 1)) % 2 ^ wid x) with
            | none =>
              rw [hu] at g2
              rw [g2]
              exact ⟨_, rfl, rfl, fun l hl => (by cases hl)⟩
            | some a =>
              rw [hu] at g2
              rw [g2, g3 a hu]
              simp only [Option.isSome_some, Bool.not_true, Bool.false_eq_true, if_false, ut1]
              obtain ⟨r2, f1, f2, f3⟩ := ih (acc ++ [a]) (by rw [List.length_append, hacc]; rfl)
              rw [if_pos (uh5 (by simp only [List.length_cons, List.length_nil]; omega)), ua9 hi (by omega)]
              refine ⟨r2, f1, ?_, fun l hl => ?_⟩
              · rw [f2]
                cases upkP (ps.drop (i + 1)) F <;> rfl
              · cases hv : upkP (ps.drop (i + 1)) F with
                | none => rw [hv] at hl; cases hl
                | some m =>
                  rw [hv] at hl
                  obtain rfl := Option.some.inj hl
                  rw [f3 m hv, List.append_assoc]
                  rfl
        obtain ⟨r, e1, e2, e3⟩ := loop (Nat.zero_le _) [] rfl
        rw [List.drop_zero] at e1 e2 e3
        refine ⟨r, e1, ?_, fun v hv => ?_⟩
        · rw [e2]
          cases upkP ps F <;> rfl
        · obtain ⟨l, hl, rfl⟩ := Option.map_eq_some_iff.1 hv
          rw [e3 l hl]
          rfl
      · have : F / 2 ^ roomP ps ≠ 0 := fun e => hf ((Nat.div_eq_zero_iff).1 e |>.resolve_left (by omega))
        rw [if_neg hf, if_pos (bne_iff_ne.2 (show ((F / 2 ^ roomP ps : Nat) : Int) ≠ 0 by omega))]
        exact ⟨_, rfl, rfl, fun v hv => (by cases hv)⟩
def vErr (l : List ua2) (t : ua3) (v : DV) : Int := if ut4 l t = 0 then (if uT7 v = true then valE (exT l 40 t 0).2.2 v else 8) else ut4 l t
theorem vL0 {l : List ua2} (hl : l.length ≤ 24) (hd : ∀ d ∈ l, un5 d) {t : ua3} (ht : lenOk t) {v : DV} (hv : uG1 v) : ∃ o, un9 (.start l t.Kind t.Value t.Name t.Parts v.Name v.Number v.Parts) = some ((o, (vErr l t v, ())), ()) ∧ (vErr l t v = 0 → o = some (exT l 40 t 0).2.2) := by
  obtain ⟨o, ho, ho2⟩ := we6 hl hd ht
  rw [un9, ho]
  simp only [ua0]
  unfold vErr
  by_cases h0 : ut4 l t = 0
  · have hop := uq3 (fun d h => (hd d h).light) h0
    rw [h0, if_pos (by rfl), if_pos rfl, wf2 v hv, ho2 h0]
    simp only [ua0]
    cases hvt : uT7 v with
    | false =>
      rw [un9]
      exact ⟨_, rfl, fun h => (by cases h)⟩
    | true =>
      rw [un9, if_pos rfl, if_pos (by rfl), pval _ (sok hop.valid hop.sr) ⟨hop.nds, hop.w16⟩ v (of_decide_eq_true hvt).1]
      simp only [ua0]
      exact ⟨_, rfl, fun _ => rfl⟩
  · rw [if_neg (by simpa using h0), if_neg h0, un9, if_neg (by simpa using h0)]
    exact ⟨_, rfl, fun h => absurd h h0⟩
theorem u35 {l : List ua2} {t : ua3} {v : DV} (h : vErr l t v = 0) : ut4 l t = 0 ∧ uT7 v = true ∧ valE (exT l 40 t 0).2.2 v = 0 := by
  unfold vErr at h
  by_cases h0 : ut4 l t = 0
  · rw [if_pos h0] at h
    cases hv : uT7 v with
    | false => rw [hv] at h; simp at h
    | true => rw [hv, if_pos rfl] at h; exact ⟨h0, rfl, h⟩
  · rw [if_neg h0] at h; exact absurd h h0
theorem wx1 {l : List ua2} (hl : l.length ≤ 24) (hd : ∀ d ∈ l, un5 d) {t : ua3} (ht : lenOk t) {v : DV} (hv : uG1 v) : uI5 (.start l t.Kind t.Value t.Name t.Parts v.Name v.Number v.Parts) = some ((if vErr l t v = 0 then ((pk_ (exT l 40 t 0).2.2 v : Int), ((0 : Int), ())) else (0, (vErr l t v, ()))), ()) := by
  obtain ⟨o, ho, ho2⟩ := vL0 hl hd ht hv
  rw [uI5, ho]
  simp only [ua0]
  by_cases h0 : vErr l t v = 0
  · obtain ⟨z1, z2, z3⟩ := u35 h0
    have hop := uq3 (fun d h => (hd d h).light) z1
    rw [if_neg (by simpa using h0), if_pos h0, ho2 h0, (ppk hop.valid 40 t _ hop.sr ⟨hop.nds, hop.w16⟩).2 v z3]
    simp only [ua0]
  · rw [if_pos (by simpa using h0), if_neg h0]
theorem vK7 {l : List ua2} (hl : l.length ≤ 24) (hd : ∀ d ∈ l, un5 d) {t : ua3} (ht : lenOk t) (n : Int) : uC8 (.start l t.Kind t.Value t.Name t.Parts n) = some ((if ut4 l t = 0 then (if 0 ≤ n ∧ n < pw (wid (exT l 40 t 0).2.2 : Int) then (match upk (exT l 40 t 0).2.2 n.toNat with | some v => ((v.Name, (v.Number, (v.Parts, ()))), ((0 : Int), ())) | none => ((uf0, ((0 : Int), ([], ()))), ((3 : Int), ()))) else ((uf0, ((0 : Int), ([], ()))), ((2 : Int), ()))) else ((uf0, ((0 : Int), ([], ()))), (ut4 l t, ()))), ()) := by
  obtain ⟨o, ho, ho2⟩ := we6 hl hd ht
  rw [uC8, ho]
  simp only [ua0]
  rw [uL2 _ (by simp [big])]
  simp only [ua0, uh4]
  by_cases h0 : ut4 l t = 0
  · have hop := uq3 (fun d h => (hd d h).light) h0
    have h16 := hop.w16
    have hso := sok hop.valid hop.sr
    simp only [if_pos h0, bne_self_eq_false, Bool.false_eq_true, if_false, ho2 h0, (pwid _ hso hop.nds).1, ua0, decide_eq_true (show (0 : Int) ≤ (wid (exT l 40 t 0).2.2 : Int) by omega), if_true, vx6 _ h16, uH6, uC4]
    by_cases hb : 0 ≤ n ∧ n < ((2 ^ wid (exT l 40 t 0).2.2 : Nat) : Int)
    · rw [decide_eq_true (show 0 ≤ n ∧ n ≤ ((2 ^ wid (exT l 40 t 0).2.2 : Nat) : Int) - 1 by omega)]
      obtain ⟨r, e1, e2, e3⟩ := pupk _ hso ⟨hop.nds, h16⟩ n.toNat (by omega)
      rw [Int.toNat_of_nonneg hb.1] at e1
      simp only [Bool.not_true, Bool.false_eq_true, if_false, e1, ua0, if_pos hb]
      cases hu : upk (exT l 40 t 0).2.2 n.toNat with
      | none => rw [e2, hu]; rfl
      | some v => rw [e2, hu, e3 v hu]; rfl
    · rw [decide_eq_false (show ¬ (0 ≤ n ∧ n ≤ ((2 ^ wid (exT l 40 t 0).2.2 : Nat) : Int) - 1) by omega)]
      simp only [Bool.not_false, if_true, if_neg hb]
  · simp only [if_neg h0]
    rw [if_pos (by simpa using h0)]
end Go.Proofs.YtaennkkcnhfglaaGreatDoor.Ev.F
namespace Go.Proofs.YtaennkkcnhfglaaGreatDoor.Ev.F
open Go.Proofs.YtaennkkcnhfglaaGreatDoor.Ev
def T2 (x : ua5) : Prop := ∀ v, valE x v = 0 → bef x v < cnt x
theorem t2P : ∀ (ps : List (Option ua5)), AllP (fun x => SOk x ∧ Sm x ∧ T2 x) ps → ∀ l, l.length = ps.length → valP ps l = 0 → befP ps l < cntP ps
 | [], _, l, hl, _ => by rw [uT8, uk7]; omega
 | p :: r, h, l, hl, hz => by
   obtain ⟨x, rfl, hs, hm, hx⟩ := h p (List.mem_cons_self ..)
   obtain ⟨v, m, rfl, hml⟩ := vf4 hl
   obtain ⟨z1, z2⟩ := uu7 hz
   have a1 := hx v z1
   have b1 := t2P r h.tail m hml z2
   rw [uJ5, ug5]
   have : (bef x v + 1) * cntP r ≤ cnt x * cntP r := Nat.mul_le_mul_right _ a1
   rw [Nat.add_mul] at this
   omega
theorem t2Vs : ∀ (vs : List data_variant), AllV (fun x => SOk x ∧ Sm x ∧ T2 x) vs → ∀ v, valVs vs v = 0 → befVs vs v < cntVs vs
 | [], _, v, hz => by rw [uD3] at hz; cases hz
 | c :: r, h, v, hz => by
   rw [ui2] at hz
   rw [us7, ue4]
   by_cases hn : c.name = v.Name
   · rw [if_pos hn] at hz
     obtain ⟨n, fs, ps, rfl, _, _, hp⟩ := h c (List.mem_cons_self ..)
     obtain ⟨_, z2, z3⟩ := uu8 hz
     have := t2P ps hp v.Parts z2 z3
     rw [if_pos hn, uJ6, ud4]
     omega
   · rw [if_neg hn] at hz
     have := t2Vs r h.tail v hz
     rw [if_neg hn]
     omega
theorem t2 : ∀ x, SOk x → Sm x → T2 x := by
  refine uw9 (fun b h1 h2 v hz => ?_) (fun vs _ _ _ _ h v hz => ?_)
  · obtain ⟨_, _, z3, z4⟩ := ui7 hz
    rw [uU7 (by omega)] at z4
    rw [u99, uO9]
    omega
  · rw [ui8] at hz
    rw [uX1, uq7]
    exact t2Vs vs h v hz
def PB (x : ua5) : Prop := ∀ v, valE x v = 0 → uj6 (.start (some x) v.Name v.Number v.Parts) = some (((bef x v : Int), ()), ())
theorem wx2 {vs : List data_variant} {ps : List (Option ua5)} (h : AllP (fun x => SOk x ∧ Sm x ∧ PB x) ps) (q2 : ps.length ≤ 8) (v : DV) (hl : v.Parts.length = ps.length) (s : Nat) : ∀ {i}, i ≤ ps.length → ∀ a : Nat, valP (ps.drop i) (v.Parts.drop i) = 0 → s + (a + 1) * cntP (ps.drop i) ≤ 10000000 → uj6 (.p501364 (s : Int) (a : Int) (some ps) (List.length ps : Int) (i : Int) v.Name v.Number v.Parts) = some ((((s + (a * cntP (ps.drop i) + befP (ps.drop i) (v.Parts.drop i)) : Nat) : Int), ()), ()) := by
  refine ub0 ps (P := fun i => ∀ a : Nat, valP (ps.drop i) (v.Parts.drop i) = 0 → s + (a + 1) * cntP (ps.drop i) ≤ 10000000 → uj6 (.p501364 (s : Int) (a : Int) (some ps) (List.length ps : Int) (i : Int) v.Name v.Number v.Parts) = some ((((s + (a * cntP (ps.drop i) + befP (ps.drop i) (v.Parts.drop i)) : Nat) : Int), ()), ())) ?_ ?_
  · intro a _ ha
    rw [List.drop_length, uk7, uT8, Nat.mul_one] at *
    rw [uj6]
    simp only [lt_f, Bool.false_eq_true, if_false]
    rw [wrap_i64 (by omega) (by omega)]
    rfl
  · intro i hi ih a hz ha
    have hil : i < v.Parts.length := by omega
    obtain ⟨x, hx, hq1, hq2, hq3⟩ := h ps[i] (List.getElem_mem hi)
    rw [ua8 hi, ua8 hil, hx] at hz ⊢
    rw [ua8 hi, hx] at ha
    obtain ⟨y1, y2⟩ := uu7 hz
    rw [ug5] at ha ⊢
    rw [uJ5]
    have hb := t2 x hq1 hq2 _ y1
    have hc := uc0 x hq1
    have hrest : AllP CB (ps.drop (i + 1)) := fun p hp => by
      obtain ⟨y, e, hy, _⟩ := h p (List.mem_of_mem_drop hp)
      exact ⟨y, e, uc0 y hy⟩
    have hr1 := (uf3 hrest).1
    have hsum : a * (cnt x * cntP (ps.drop (i + 1))) + (bef x v.Parts[i] * cntP (ps.drop (i + 1)) + befP (ps.drop (i + 1)) (v.Parts.drop (i + 1))) = (a * cnt x + bef x v.Parts[i]) * cntP (ps.drop (i + 1)) + befP (ps.drop (i + 1)) (v.Parts.drop (i + 1)) := by
      rw [Nat.add_mul, Nat.mul_assoc, Nat.add_assoc]
    have hle : (a * cnt x + bef x v.Parts[i] + 1) * cntP (ps.drop (i + 1)) ≤ (a + 1) * (cnt x * cntP (ps.drop (i + 1))) := by
      rw [← Nat.mul_assoc]
      refine Nat.mul_le_mul_right _ ?_
      rw [Nat.add_mul]
      omega
    have hsm : (a * cnt x + bef x v.Parts[i] + 1) * 1 ≤ (a * cnt x + bef x v.Parts[i] + 1) * cntP (ps.drop (i + 1)) := Nat.mul_le_mul_left _ hr1
    rw [uj6]
    simp only [lt_t hi, if_true, Option.getD_some, ua7 hi, ua0, hx, show run_z61 _ = _ from vj1 x hq1 hq2, ua7 hil, hq3 _ y1]
    rw [← Int.natCast_mul, wrap_i64 (x := ((a * cnt x : Nat) : Int)) (by omega) (by omega), ← Int.natCast_add, wrap_i64 (by omega) (by omega), ua9 hi (by omega), ih (a * cnt x + bef x v.Parts[i]) y2 (by omega), hsum]
theorem pbef : ∀ x, SOk x → Sm x → PB x := by
  refine uw9 (fun b h1 h2 v hz => ?_) (fun vs h0 h1 hn hw h v hz => ?_)
  · obtain ⟨_, _, z3, _⟩ := ui7 hz
    rw [uj6, uy7, u99]
    simp only [ua0, if_true]
    rw [Int.toNat_of_nonneg z3]
  · rw [uj6, uy8 _ _ h0, uX1]
    simp only [ua0, Bool.false_eq_true, if_false, Option.getD_some]
    rw [ui8] at hz
    have hCB := h.mono fun x hx => uc0 x hx.1
    have loop : ∀ {i}, i ≤ vs.length → ∀ s : Nat, valVs (vs.drop i) v = 0 → s + cntVs (vs.drop i) ≤ 5000000 → uj6 (.p244 (s : Int) (some vs) (List.length vs : Int) (i : Int) v.Name v.Number v.Parts) = some ((((s + befVs (vs.drop i) v : Nat) : Int), ()), ()) := by
      refine ub0 vs (P := fun i => ∀ s : Nat, valVs (vs.drop i) v = 0 → s + cntVs (vs.drop i) ≤ 5000000 → uj6 (.p244 (s : Int) (some vs) (List.length vs : Int) (i : Int) v.Name v.Number v.Parts) = some ((((s + befVs (vs.drop i) v : Nat) : Int), ()), ())) ?_ ?_
      · intro s hz2
        rw [List.drop_length, uD3] at hz2
        cases hz2
      · intro i hi ih s hz2 hs
        obtain ⟨n, fs, ps, hx, q1, q2, hp⟩ := h vs[i] (List.getElem_mem hi)
        have hcm := hx ▸ List.getElem_mem hi
        obtain ⟨k1, k2, k3⟩ := uh1 hn hw hcm
        rw [ua8 hi, hx] at hz2 hs ⊢
        rw [ui2] at hz2
        rw [us7]
        rw [ue4, ud4] at hs
        rw [uj6]
        simp only [lt_t hi, if_true, Option.getD_some, ua7 hi, ua0, hx, ui0]
        by_cases hnm : n = v.Name
        · rw [if_pos hnm] at hz2 ⊢
          obtain ⟨_, z2, z3⟩ := uu8 hz2
          rw [decide_eq_true hnm, if_neg (by simp)]
          have := wx2 (vs := vs) hp q2 v z2 s (Nat.zero_le _) 0 (by rw [List.drop_zero, List.drop_zero]; exact z3) (by rw [List.drop_zero]; omega)
          rw [List.drop_zero, List.drop_zero, Nat.zero_mul, Nat.zero_add] at this
          rw [uJ6]
          exact this
        · rw [if_neg hnm] at hz2 ⊢
          rw [decide_eq_false hnm, if_pos (by simp), we1 n fs (hp.mono fun x hx => ⟨hx.1, hx.2.1, vj1 x hx.1 hx.2.1⟩) q2 (by omega)]
          simp only [ua0]
          rw [ud4, ← Int.natCast_add, wrap_i64 (by omega) (by omega), ua9 hi (by omega), ih (s + cntP ps) hz2 (by omega), Nat.add_assoc]
    have hb := (uk2 hCB).2
    have hp := uc1 (show rooms vs ≤ 16 by omega)
    have : vs.length * 2 ^ rooms vs ≤ 16 * 65536 := Nat.mul_le_mul h1 hp
    have := loop (Nat.zero_le _) 0 (by rw [List.drop_zero]; exact hz) (by rw [List.drop_zero]; omega)
    rw [List.drop_zero, Nat.zero_add] at this
    exact this
theorem uL5 : ∀ (q : List (Option ua5)) (k : Nat), roomP (q.drop k) ≤ roomP q
 | [], k => by rw [List.drop_nil]; exact Nat.le_refl _
 | p :: r, 0 => Nat.le_refl _
 | p :: r, k + 1 => by
   have := uL5 r k
   rw [List.drop_succ_cons]
   cases p with
   | none => rw [roomP]; exact this
   | some y => rw [uc4]; omega
theorem uv8 (a b : Nat) : Int.tdiv (a : Int) (b : Int) = ((a / b : Nat) : Int) := rfl
theorem uA7 (a b : Nat) : Int.tmod (a : Int) (b : Int) = ((a % b : Nat) : Int) := rfl
def PA (x : ua5) : Prop := ∀ i, i < cnt x → uh9 (.start (some x) (i : Int)) = some ((((atV x i).Name, ((atV x i).Number, ((atV x i).Parts, ()))), ()), ())
theorem pat : ∀ x, SOk x → Sm x → PA x := by
  refine uw9 (fun b h1 h2 i hi => ?_) (fun vs h0 h1 hn hw h i hi => ?_)
  · rw [uh9, uy7, uO6]
    simp only [ua0, if_true]
  · rw [uh9, uy8 _ _ h0, uB2]
    simp only [ua0, Bool.false_eq_true, if_false, Option.getD_some]
    rw [uq7] at hi
    have hCB := h.mono fun x hx => uc0 x hx.1
    have hb := (uk2 hCB).2
    have hp16 := uc1 (show rooms vs ≤ 16 by omega)
    have hbig : vs.length * 2 ^ rooms vs ≤ 16 * 65536 := Nat.mul_le_mul h1 hp16
    have loop : ∀ {k}, k ≤ vs.length → ∀ j : Nat, j < cntVs (vs.drop k) → j ≤ 5000000 → uh9 (.p116 (j : Int) (some vs) (List.length vs : Int) (k : Int) (⟨#[]⟩ : ByteArray) 0) = some ((((atVs (vs.drop k) j).Name, ((atVs (vs.drop k) j).Number, ((atVs (vs.drop k) j).Parts, ()))), ()), ()) := by
      refine ub0 vs (P := fun k => ∀ j : Nat, j < cntVs (vs.drop k) → j ≤ 5000000 → uh9 (.p116 (j : Int) (some vs) (List.length vs : Int) (k : Int) (⟨#[]⟩ : ByteArray) 0) = some ((((atVs (vs.drop k) j).Name, ((atVs (vs.drop k) j).Number, ((atVs (vs.drop k) j).Parts, ()))), ()), ())) ?_ ?_
      · intro j hj
        rw [List.drop_length, ul7] at hj
        omega
      · intro k hk ih j hj hj5
        obtain ⟨n, fs, ps, hx, q1, q2, hp⟩ := h vs[k] (List.getElem_mem hk)
        have hcm := hx ▸ List.getElem_mem hk
        obtain ⟨k1, k2, k3⟩ := uh1 hn hw hcm
        have hpc := (uf3 (hp.mono fun x hx => uc0 x hx.1))
        have hp2 := uc1 (show roomP ps ≤ 16 by omega)
        rw [ua8 hk, hx] at hj ⊢
        rw [ue4, ud4] at hj
        rw [ut3, ud4]
        rw [uh9]
        simp only [lt_t hk, if_true, Option.getD_some, ua7 hk, ua0, hx]
        rw [we1 n fs (hp.mono fun x hx => ⟨hx.1, hx.2.1, vj1 x hx.1 hx.2.1⟩) q2 (by omega)]
        simp only [ua0]
        by_cases hlt : j < cntP ps
        · rw [decide_eq_false (by omega), if_neg (by simp), if_pos hlt, ur8]
          have inner : ∀ {m}, m ≤ ps.length → ∀ (j : Nat) (acc : List DV), j < cntP (ps.drop m) → acc.length = m → uh9 (.p478452 (j : Int) (cntP (ps.drop m) : Int) (some ps) (List.length ps : Int) (m : Int) (⟨#[]⟩ : ByteArray) 0 n 0 acc) = some (((n, (0, (acc ++ atP (ps.drop m) j, ()))), ()), ()) := by
            refine ub0 ps (P := fun m => ∀ (j : Nat) (acc : List DV), j < cntP (ps.drop m) → acc.length = m → uh9 (.p478452 (j : Int) (cntP (ps.drop m) : Int) (some ps) (List.length ps : Int) (m : Int) (⟨#[]⟩ : ByteArray) 0 n 0 acc) = some (((n, (0, (acc ++ atP (ps.drop m) j, ()))), ()), ())) ?_ ?_
            · intro j acc _ _
              rw [uh9]
              simp only [lt_f, Bool.false_eq_true, if_false]
              rw [List.drop_length, uO5, List.append_nil]
            · intro m hm ihm j acc hj hacc
              obtain ⟨x, hxm, hq1, hq2, hq3⟩ := hp ps[m] (List.getElem_mem hm)
              have hrest : AllP CB (ps.drop (m + 1)) := fun p hp' => by
                obtain ⟨y, e, hy, _⟩ := hp p (List.mem_of_mem_drop hp')
                exact ⟨y, e, uc0 y hy⟩
              have hr := uf3 hrest
              have hc := uc0 x hq1
              have hcx := uc1 hq2.2
              have hrr : roomP (ps.drop (m + 1)) ≤ 16 := by
                have := uL5 ps (m + 1)
                omega
              have hpr := uc1 hrr
              have hdrop : cntP (ps.drop m) = cnt x * cntP (ps.drop (m + 1)) := by rw [ua8 hm, hxm, ug5]
              have hdiv : cntP (ps.drop m) / cnt x = cntP (ps.drop (m + 1)) := by rw [hdrop, Nat.mul_div_cancel_left _ (by have := hc.1; omega)]
              rw [hdrop] at hj
              have hj1 : j / cntP (ps.drop (m + 1)) < cnt x := (Nat.div_lt_iff_lt_mul (by omega)).2 hj
              have hne : ((cnt x : Int) == 0) = false := by have := hc.1; simp; omega
              have hne2 : ((cntP (ps.drop (m + 1)) : Int) == 0) = false := by have := hr.1; simp; omega
              have hj3 : j / cntP (ps.drop (m + 1)) ≤ 65536 := by have := hc.2; omega
              rw [uh9]
              simp only [lt_t hm, if_true, Option.getD_some, ua7 hm, ua0, hxm, show run_z61 _ = _ from vj1 x hq1 hq2, hne, Bool.not_false, uv8, hdiv]
              rw [wrap_i64 (x := ((cntP (ps.drop (m + 1)) : Nat) : Int)) (by omega) (by omega), hne2]
              simp only [Bool.not_false, if_true, uv8, uA7]
              have hwq : IntKind.wrap .i64 ((j / cntP (ps.drop (m + 1)) : Nat) : Int) = ((j / cntP (ps.drop (m + 1)) : Nat) : Int) := by
                generalize j / cntP (ps.drop (m + 1)) = q at hj3 ⊢
                exact wrap_i64 (by omega) (by omega)
              rw [hwq, hq3 _ hj1]
              simp only [ua0, ut1]
              rw [if_pos (uh5 (by simp only [List.length_cons, List.length_nil]; omega)), ua9 hm (by omega), ihm (j % cntP (ps.drop (m + 1))) _ (Nat.mod_lt _ (by omega)) (by rw [List.length_append, hacc]; rfl)]
              rw [ua8 hm, hxm, ux7, List.append_assoc]
              rfl
          have := inner (Nat.zero_le _) j [] (by rw [List.drop_zero]; exact hlt) rfl
          rw [List.drop_zero] at this
          exact this
        · rw [decide_eq_true (by omega), if_pos rfl, if_neg hlt, wrap_i64 (by omega) (by omega), ua9 hk (by omega), show (j : Int) - (cntP ps : Int) = ((j - cntP ps : Nat) : Int) by omega, ih (j - cntP ps) (by omega) (by omega)]
    have := loop (Nat.zero_le _) i (by rw [List.drop_zero]; exact hi) (by omega)
    rw [List.drop_zero] at this
    exact this
end Go.Proofs.YtaennkkcnhfglaaGreatDoor.Ev.F
namespace Go.Proofs.YtaennkkcnhfglaaGreatDoor.Ev.F
open Go.Proofs.YtaennkkcnhfglaaGreatDoor.Ev
theorem we0 {l : List ua2} (hl : l.length ≤ 24) (hd : ∀ d ∈ l, un5 d) {t : ua3} (ht : lenOk t) {v : DV} (hv : uG1 v) : ve2 (.start l t.Kind t.Value t.Name t.Parts v.Name v.Number v.Parts) = some ((vErr l t v, ()), ()) := by
  obtain ⟨o, ho, _⟩ := vL0 hl hd ht hv
  rw [ve2, ho]
  simp only [ua0]
theorem vX9 {l : List ua2} (hl : l.length ≤ 24) (hd : ∀ d ∈ l, un5 d) {t : ua3} (ht : lenOk t) {v : DV} (hv : uG1 v) : ve3 (.start l t.Kind t.Value t.Name t.Parts v.Name v.Number v.Parts) = some ((if vErr l t v = 0 then ((bef (exT l 40 t 0).2.2 v : Int), ((0 : Int), ())) else (0, (vErr l t v, ()))), ()) := by
  obtain ⟨o, ho, ho2⟩ := vL0 hl hd ht hv
  rw [ve3, ho]
  simp only [ua0]
  by_cases h0 : vErr l t v = 0
  · obtain ⟨z1, z2, z3⟩ := u35 h0
    have hop := uq3 (fun d h => (hd d h).light) z1
    rw [if_neg (by simpa using h0), if_pos h0, ho2 h0, pbef _ (sok hop.valid hop.sr) ⟨hop.nds, hop.w16⟩ v z3]
    simp only [ua0]
  · rw [if_pos (by simpa using h0), if_neg h0]
theorem vY0 {l : List ua2} (hl : l.length ≤ 24) (hd : ∀ d ∈ l, un5 d) {t : ua3} (ht : lenOk t) (n : Int) : uI6 (.start l t.Kind t.Value t.Name t.Parts n) = some ((if ut4 l t = 0 then (if 0 ≤ n ∧ n < (cnt (exT l 40 t 0).2.2 : Int) then (((atV (exT l 40 t 0).2.2 n.toNat).Name, ((atV (exT l 40 t 0).2.2 n.toNat).Number, ((atV (exT l 40 t 0).2.2 n.toNat).Parts, ()))), ((0 : Int), ())) else ((uf0, ((0 : Int), ([], ()))), ((6 : Int), ()))) else ((uf0, ((0 : Int), ([], ()))), (ut4 l t, ()))), ()) := by
  obtain ⟨o, ho, ho2⟩ := we6 hl hd ht
  rw [uI6, ho]
  simp only [ua0]
  by_cases h0 : ut4 l t = 0
  · have hop := uq3 (fun d h => (hd d h).light) h0
    have hso := sok hop.valid hop.sr
    have hsm : Sm (exT l 40 t 0).2.2 := ⟨hop.nds, hop.w16⟩
    have hcb := uc0 _ hso
    have hp := uc1 hop.w16
    have hc2 := hcb.2
    rw [if_neg (by simpa using h0), if_pos h0, ho2 h0, show run_z61 _ = _ from vj1 _ hso hsm]
    simp only [ua0, uH6]
    rw [wrap_i64 (by omega) (by omega)]
    by_cases hb : 0 ≤ n ∧ n < (cnt (exT l 40 t 0).2.2 : Int)
    · rw [decide_eq_true (show 0 ≤ n ∧ n ≤ (cnt (exT l 40 t 0).2.2 : Int) - 1 by omega), if_neg (by simp), if_pos hb]
      have := pat _ hso hsm n.toNat (by omega)
      rw [Int.toNat_of_nonneg hb.1] at this
      rw [this]
      simp only [ua0]
    · rw [decide_eq_false (show ¬ (0 ≤ n ∧ n ≤ (cnt (exT l 40 t 0).2.2 : Int) - 1) by omega), if_pos (by simp), if_neg hb]
  · rw [if_pos (by simpa using h0), if_neg h0]
theorem wg0 : ∀ v : DV, vsz v ≤ 1000000 → uf1 (.start v.Name v.Number v.Parts v.Name v.Number v.Parts) = some ((true, ()), ()) := by
  refine uO1 fun s k ps ih hsz => ?_
  rw [uO2] at hsz
  simp only at hsz
  have hl := uW0 ps
  have e1 : (k != k) = false := by simp
  have e4 : ((List.length ps : Int) != (List.length ps : Int)) = false := by simp
  have loop : ∀ {i}, i ≤ ps.length → uf1 (.p116 (i : Int) s k ps s k ps) = some ((true, ()), ()) := by
    refine ub0 ps (P := fun i => uf1 (.p116 (i : Int) s k ps s k ps) = some ((true, ()), ())) ?_ ?_
    · rw [uf1]
      simp only [lt_f, Bool.false_eq_true, if_false]
    · intro i hi ihl
      rw [uf1]
      have hm := vf6 (List.getElem_mem hi)
      simp only [lt_t hi, if_true, ua7 hi, ua0, ih _ (List.getElem_mem hi) (by omega), Bool.not_true, Bool.false_eq_true, if_false]
      rw [ua9 hi (by omega)]
      exact ihl
  rw [uf1]
  simp only [e1, e4, ui0, decide_true, Bool.not_true, Bool.false_eq_true, if_false]
  first
  | exact loop (Nat.zero_le _)
  | (rw [uf1]; exact loop (Nat.zero_le _))
theorem wq1 (n : Int) (k : Nat) (hk : k ≤ 16) : uM9 (.start n (k : Int)) = some ((decide (0 ≤ n ∧ n ≤ ((2 ^ k : Nat) : Int) - 1), ()), ()) := by
  have hp := uc1 hk
  have hpos := ue5 k
  rw [uM9, uC5 k (by omega)]
  simp only [ua0, u23]
  rw [wrap_i64 (by omega) (by omega)]
theorem uP8 {R : ua3 → ua5 → Prop} (s : ByteArray) {cs : List ua1} {vs : List data_variant} (h : All2 (VR R) cs vs) : ∀ i, ixAt (fun v => decide (v.name = s)) i vs = ixAt (fun c => decide (c.Name = s)) i cs := by
  induction h with
  | nil => intro i; rfl
  | cons h t ih =>
    intro i
    obtain ⟨ps, rfl, _⟩ := h
    unfold ixAt
    rw [ih]
def RV (l : List ua2) (t : ua3) (x : ua5) : Prop := ∀ v, vsz v ≤ 200 → ug9 (.start l t.Kind t.Value t.Name t.Parts v.Name v.Number v.Parts) = some ((valE x v, ()), ())
theorem wy6 {l : List ua2} (hv : uj3 l) : ∀ n t x, SR l n t x → Sm x → RV l t x := by
  refine uQ8 hv (fun t p hk hb hp h1 h2 => ?_) (fun t vs hc h => ?_)
  · intro v hvz
    rw [ug9, ul1, decide_eq_true (show t.Kind = 1 ∧ t.Name = sBit from ⟨hk, hb⟩), uO0]
    obtain ⟨k, hk2⟩ := Int.eq_ofNat_of_zero_le (show 0 ≤ p.Value by omega)
    have h53 : ug9 (.p53 t.Kind t.Value t.Name t.Parts v.Name v.Number v.Parts) = some ((if 0 ≤ v.Number ∧ v.Number ≤ pw p.Value - 1 then 0 else 2, ()), ()) := by
      rw [ug9, hp]
      simp only [show idx [p] (0 : Int) = some p from rfl, ua0]
      rw [hk2, wq1 _ k (by omega), uC4]
      simp only [ua0]
      by_cases hh : 0 ≤ v.Number ∧ v.Number ≤ ((2 ^ k : Nat) : Int) - 1
      · rw [decide_eq_true hh, if_neg (by simp), if_pos hh]
      · rw [decide_eq_false hh, if_pos (by simp), if_neg hh]
    simp only [ua0, if_true, ui0, h53]
    by_cases hnm : v.Name = uf0
    · rw [decide_eq_true hnm, if_neg (by simp)]
      by_cases hpl : v.Parts.length = 0
      · rw [decide_eq_false (by omega), if_neg (by simp)]
        have e3 : (if v.Name = uf0 ∧ v.Parts.length = 0 then (0 : Int) else 3) = 0 := if_pos ⟨hnm, hpl⟩
        rw [e3]
        simp only [uh4, if_true]
        by_cases hh : 0 ≤ v.Number ∧ v.Number ≤ pw p.Value - 1
        · rw [if_pos hh]; rfl
        · rw [if_neg hh]; rfl
      · rw [decide_eq_true (by omega), if_pos rfl]
        have e3 : (if v.Name = uf0 ∧ v.Parts.length = 0 then (0 : Int) else 3) = 3 := if_neg fun hh => hpl hh.2
        rw [e3]; rfl
    · rw [decide_eq_false hnm, if_pos (by simp)]
      have e3 : (if v.Name = uf0 ∧ v.Parts.length = 0 then (0 : Int) else 3) = 3 := if_neg fun hh => hnm hh.1
      rw [e3]; rfl
  · intro v hvz
    have hlen := h.len
    have hvl := hc.len
    rw [ug9, ul1, decide_eq_false (fun h => hc.name h.2), ui8]
    simp only [ua0, Bool.false_eq_true, if_false, u47 hv hc.kind hc.name hc.ty hc.tree]
    rw [wf8 _ v.Name (by unfold big; omega)]
    simp only [ua0]
    have hix : ix (fun c : data_variant => decide (c.name = v.Name)) vs = ix (fun c => decide (c.Name = v.Name)) (ub1 l t) := uP8 v.Name h 0
    rw [← hix]
    rcases uX7 vs v with ⟨e1, e2⟩ | ⟨j, c, e1, e2, e3, e4, e5⟩
    · rw [e1, e2, if_pos (by decide)]
    · have hj : j < vs.length := (List.getElem?_eq_some_iff.1 e2).1
      have hj2 : j < (ub1 l t).length := by omega
      obtain ⟨ps, ec, hps⟩ := h.get j hj2 hj
      have hcv : c = ⟨(ub1 l t)[j].Name, (ub1 l t)[j].Fields, some ps⟩ := by
        rw [List.getElem?_eq_getElem hj] at e2
        rw [← Option.some.inj e2, ec]
      have hpl := hps.len
      rw [e1, e4, if_neg (by simp), hcv, uD4, ua7 hj2]
      simp only [ua0, uh4]
      by_cases g1 : v.Number = 0
      · rw [if_neg (by simpa using g1), if_pos g1]
        by_cases g2 : v.Parts.length = ps.length
        · rw [if_neg (by rw [hpl]; simp; omega)]
          simp only [if_pos g2, if_true]
          have hvs : vszs v.Parts ≤ 200 := by rw [uO2] at hvz; omega
          have hll := uW0 v.Parts
          have loop : ∀ {i}, i ≤ v.Parts.length → ug9 (.p4084 l (ub1 l t) (j : Int) (i : Int) v.Name v.Number v.Parts) = some ((valP (ps.drop i) (v.Parts.drop i), ()), ()) := by
            refine ub0 v.Parts (P := fun i => ug9 (.p4084 l (ub1 l t) (j : Int) (i : Int) v.Name v.Number v.Parts) = some ((valP (ps.drop i) (v.Parts.drop i), ()), ())) ?_ ?_
            · rw [ug9]
              simp only [lt_f, Bool.false_eq_true, if_false]
              rw [g2, List.drop_length, uV8]
            · intro i hi ih
              have hip : i < ps.length := by omega
              have hif : i < (ub1 l t)[j].Fields.length := by omega
              obtain ⟨x, hx, _, _, hq⟩ := hps.get i hif hip
              have hm := vf6 (List.getElem_mem hi)
              rw [ug9]
              simp only [lt_t hi, if_true, ua7 hj2, ua7 hif, ua7 hi, ua0, hq v.Parts[i] (by omega)]
              rw [ua8 hip, ua8 hi, hx, uD2]
              by_cases h0 : valE x v.Parts[i] = 0
              · rw [h0, if_neg (by simp), if_pos rfl, ua9 hi (by omega)]
                exact ih
              · rw [if_pos (by simpa using h0), if_neg h0]
          have := loop (Nat.zero_le _)
          rw [List.drop_zero, List.drop_zero] at this
          have this' : ug9 (.p4084 l (ub1 l t) (j : Int) 0 v.Name v.Number v.Parts) = some ((valP ps v.Parts, ()), ()) := this
          rw [this']
          by_cases g3 : valP ps v.Parts = 0
          · rw [g3]; rfl
          · rw [if_neg g3]
        · rw [if_pos (by rw [hpl]; simp; omega)]
          simp only [if_neg g2]
          rfl
      · rw [if_pos (by simpa using g1), if_neg g1]
        rfl
theorem vL8 {l : List ua2} {t : ua3} {x : ua5} (h : uW4 l t x) (v : DV) : uV6 (.start l t.Kind t.Value t.Name t.Parts v.Name v.Number v.Parts) = some ((if uT7 v = true then valE x v else 8, ()), ()) := by
  rw [uV6, wq6]
  simp only [ua0]
  cases hv : uT7 v with
  | false => rfl
  | true =>
    rw [wy6 h.valid 40 t x h.sr ⟨h.nds, h.w16⟩ v (of_decide_eq_true hv).1]
    rfl
end Go.Proofs.YtaennkkcnhfglaaGreatDoor.Ev.F
namespace Go.Proofs.YtaennkkcnhfglaaGreatDoor.Ev.F
open Go.Proofs.YtaennkkcnhfglaaGreatDoor.Ev
theorem uU1 {α : Type} {B : List α} {m : Nat} {v : α} (h : m < B.length) : (B.set m v).drop m = v :: B.drop (m + 1) := by
  rw [List.drop_eq_getElem_cons (by rw [List.length_set]; exact h), List.getElem_set_self, List.drop_set_of_lt (by omega)]
theorem uK0 : ∀ {qs : List (Option ua5)}, AllP (fun _ => True) qs → ∀ {y : ua5}, cntP (qs ++ [some y]) = cntP qs * cnt y
 | [], _, y => by rw [List.nil_append, ug5, uk7, Nat.mul_one, Nat.one_mul]
 | p :: r, h, y => by
   obtain ⟨x, rfl, _⟩ := h p (List.mem_cons_self ..)
   rw [List.cons_append, ug5, ug5, uK0 h.tail, Nat.mul_assoc]
theorem uE5 : ∀ {qs : List (Option ua5)}, AllP (fun _ => True) qs → ∀ {y : ua5}, roomP (qs ++ [some y]) = roomP qs + wid y
 | [], _, y => by rw [List.nil_append, uc4, uj1]; omega
 | p :: r, h, y => by
   obtain ⟨x, rfl, _⟩ := h p (List.mem_cons_self ..)
   rw [List.cons_append, uc4, uc4, uE5 h.tail]
   omega
theorem u98 : ∀ {qs : List (Option ua5)}, AllP (fun _ => True) qs → ∀ {y : ua5} (i : Nat), i < cntP qs * cnt y → atP (qs ++ [some y]) i = atP qs (i / cnt y) ++ [atV y (i % cnt y)]
 | [], _, y, i, h => by
   rw [uk7, Nat.one_mul] at h
   rw [List.nil_append, ux7, uO5, uO5, uk7, Nat.div_one, Nat.mod_eq_of_lt h]
   rfl
 | p :: r, h, y, i, h1 => by
   obtain ⟨x, rfl, _⟩ := h p (List.mem_cons_self ..)
   rw [ug5, Nat.mul_assoc] at h1
   have hpos : 0 < cntP r * cnt y := by
     cases hz : cntP r * cnt y with
     | zero => rw [hz] at h1; omega
     | succ => omega
   rw [List.cons_append, ux7, ux7, uK0 h.tail, u98 h.tail _ (Nat.mod_lt _ hpos)]
   rw [Nat.div_div_eq_div_mul, Nat.mul_comm (cntP r) (cnt y), Nat.mod_mul_right_div_self, Nat.mod_mul_right_mod]
   rfl
theorem u34 : ∀ {qs : List (Option ua5)}, AllP (fun _ => True) qs → ∀ {y : ua5} {f : Nat}, upkP (qs ++ [some y]) f = match upkP qs (f / 2 ^ wid y), upk y (f % 2 ^ wid y) with | some q, some a => some (q ++ [a]) | _, _ => none
 | [], _, y, f => by
   rw [List.nil_append, uo1, uq0, uq0, uj1, Nat.pow_zero, Nat.div_one]
   cases upk y (f % 2 ^ wid y) <;> rfl
 | p :: r, h, y, f => by
   obtain ⟨x, rfl, _⟩ := h p (List.mem_cons_self ..)
   rw [List.cons_append, uo1, uo1, uE5 h.tail, u34 h.tail]
   rw [Nat.div_div_eq_div_mul, ← Nat.pow_add, Nat.add_comm (wid y) (roomP r)]
   cases upk x (f / 2 ^ (roomP r + wid y) % 2 ^ wid x) <;> cases upkP r (f / 2 ^ wid y) <;> cases upk y (f % 2 ^ wid y) <;> rfl
theorem vj7 {l : List ua2} (hv : uj3 l) {t : ua3} {vs : List data_variant} (hc : ConC l t vs) (h : All2 (VR (fun t x => SOk x ∧ Sm x ∧ RC l t x)) (ub1 l t) vs) : RC l t ⟨0, some vs⟩ := u76 hv t vs hc h
def RA (l : List ua2) (t : ua3) (x : ua5) : Prop := ∀ i, i < cnt x → uf9 (.start l t.Kind t.Value t.Name t.Parts (i : Int)) = some ((((atV x i).Name, ((atV x i).Number, ((atV x i).Parts, ()))), ()), ())
def RU (l : List ua2) (t : ua3) (x : ua5) : Prop := ∀ n : Nat, n < 2 ^ wid x → ∃ r, ui5 (.start l t.Kind t.Value t.Name t.Parts (n : Int)) = some r ∧ r.1.2.1 = (upk x n).isSome ∧ ∀ v, upk x n = some v → r.1.1 = (v.Name, (v.Number, (v.Parts, ())))
theorem u74 {l : List ua2} (all : List ua1) (j : Nat) (hj : j < all.length) {ps : List (Option ua5)} (hps : All2 (FR (fun t x => SOk x ∧ Sm x ∧ RA l t x)) all[j].Fields ps) (hrc : All2 (FR (fun t x => RC l t x)) all[j].Fields ps) (n0 : ByteArray) (k0 : Int) : ∀ (m : Nat), m ≤ ps.length → ∀ (i : Nat) (B : List DV), i < cntP (ps.take m) → i ≤ 10000000 → B.length = ps.length → ps.length ≤ 8 →
    uf9 (.p2036 l (i : Int) all (j : Int) ((m : Int) - 1) n0 k0 B) = some (((all[j].Name, (0, (atP (ps.take m) i ++ B.drop m, ()))), ()), ())
 | 0, _, i, B, _, _, _, _ => by
   rw [uf9]
   rw [decide_eq_false (by omega), if_neg (by simp), ua7 hj]
   simp only [ua0, List.take_zero, uO5, List.drop_zero, List.nil_append]
 | m + 1, hm, i, B, hi, hib, hB, h8 => by
   have hlen := hps.len
   have hmp : m < ps.length := by omega
   have hmf : m < all[j].Fields.length := by omega
   obtain ⟨y, hy, hq1, hq2, hq3⟩ := hps.get m hmf hmp
   obtain ⟨y', hy', hcnt⟩ := hrc.get m hmf hmp
   have : y = y' := by rw [hy] at hy'; exact Option.some.inj hy'
   subst this
   have hcb := uc0 y hq1
   have hp := uc1 hq2.2
   have htk : ps.take (m + 1) = ps.take m ++ [some y] := by rw [ub7 hmp, hy]
   have hA : AllP (fun _ => True) (ps.take m) := fun p hp => by
     obtain ⟨f, _, x, e, _⟩ := hps.memR p (List.mem_of_mem_take hp)
     exact ⟨x, e, trivial⟩
   rw [htk, uK0 hA] at hi
   have hd : i / cnt y < cntP (ps.take m) := (Nat.div_lt_iff_lt_mul (by have := hcb.1; omega)).2 hi
   have hmod : i % cnt y < cnt y := Nat.mod_lt _ (by have := hcb.1; omega)
   have hne : ((cnt y : Int) == 0) = false := by have := hcb.1; simp; omega
   have hdb : i / cnt y ≤ 10000000 := Nat.le_trans (Nat.div_le_self _ _) hib
   have hwd : IntKind.wrap .i64 ((i / cnt y : Nat) : Int) = ((i / cnt y : Nat) : Int) := by
     generalize i / cnt y = q at hdb ⊢
     exact wrap_i64 (by omega) (by omega)
   rw [uf9]
   rw [show ((m + 1 : Nat) : Int) - 1 = (m : Int) by omega, decide_eq_true (by omega), if_pos rfl, ua7 hj]
   simp only [ua0, ua7 hmf, show ud9 _ = _ from hcnt, hne, Bool.not_false, if_true, uA7, uv8, hq3 _ hmod, ut1, hwd]
   rw [if_pos (by simp; omega), ua7 (by omega)]
   simp only [ua0, Int.toNat_natCast]
   rw [wrap_i64 (by omega) (by omega), u74 all j hj hps hrc n0 k0 m (by omega) (i / cnt y) (B.set m (atV y (i % cnt y))) hd hdb (by rw [List.length_set]; exact hB) h8]
   rw [htk, u98 hA _ hi, uU1 (by omega), List.append_assoc]
   rfl
theorem vL4 {l : List ua2} (hv : uj3 l) {t : ua3} {vs : List data_variant} (hc : ConC l t vs) (h : All2 (VR (fun t x => SOk x ∧ Sm x ∧ RA l t x ∧ RC l t x)) (ub1 l t) vs) (i : Nat) (hi : i < cntVs vs) : uf9 (.start l t.Kind t.Value t.Name t.Parts (i : Int)) = some ((((atVs vs i).Name, ((atVs vs i).Number, ((atVs vs i).Parts, ()))), ()), ()) := by
  rw [uf9, ul1, decide_eq_false (fun h => hc.name h.2)]
  simp only [ua0, Bool.false_eq_true, if_false, u47 hv hc.kind hc.name hc.ty hc.tree]
  have hlen := h.len
  have hvl := hc.len
  have hw := hc.wid
  have hCB : AllV CB vs := AllV.of (fun t x hx => uc0 x hx.1) hc.fs h
  have hb := (uk2 hCB).2
  have hp16 := uc1 (show rooms vs ≤ 16 by omega)
  have hbig : vs.length * 2 ^ rooms vs ≤ 16 * 65536 := Nat.mul_le_mul hc.len hp16
  have loop : ∀ {k}, k ≤ vs.length → ∀ j : Nat, j < cntVs (vs.drop k) → j ≤ 5000000 → uf9 (.p248 l (j : Int) (ub1 l t) (k : Int) (⟨#[]⟩ : ByteArray) 0) = some ((((atVs (vs.drop k) j).Name, ((atVs (vs.drop k) j).Number, ((atVs (vs.drop k) j).Parts, ()))), ()), ()) := by
    refine ub0 vs (P := fun k => ∀ j : Nat, j < cntVs (vs.drop k) → j ≤ 5000000 → uf9 (.p248 l (j : Int) (ub1 l t) (k : Int) (⟨#[]⟩ : ByteArray) 0) = some ((((atVs (vs.drop k) j).Name, ((atVs (vs.drop k) j).Number, ((atVs (vs.drop k) j).Parts, ()))), ()), ())) ?_ ?_
    · intro j hj
      rw [List.drop_length, ul7] at hj
      omega
    · intro k hk ih j hj hj5
      have hk2 : k < (ub1 l t).length := by omega
      obtain ⟨ps, hx, hps⟩ := h.get k hk2 hk
      have hcm := hx ▸ List.getElem_mem hk
      obtain ⟨k1, k2, k3⟩ := uh1 hc.nds hc.wid hcm
      have hfl := hc.fs _ (List.getElem_mem hk2)
      have hpl := hps.len
      rw [ua8 hk, hx] at hj ⊢
      rw [ue4, ud4] at hj
      rw [ut3, ud4]
      have hco := uU8 (ub1 l t)[k] hfl (hps.mono fun f p ⟨x, e, h1, h2, _, h4⟩ => ⟨x, e, h1, h2, h4⟩) (show roomP ps ≤ 16 by omega)
      have hP : AllP CB ps := AllP.of (fun t x hx => uc0 x hx.1) hps
      have hpc := (uf3 hP).2
      have hp2 := uc1 (show roomP ps ≤ 16 by omega)
      rw [uf9]
      simp only [ua7 hk2, ua0, hco]
      by_cases hlt : j < cntP ps
      · rw [decide_eq_false (by omega), if_neg (by simp), if_pos hlt, ur8]
        rw [if_pos (by unfold u45; simp; omega)]
        simp only [Int.toNat_natCast, List.length_replicate]
        rw [wrap_i64 (by omega) (by omega), hpl]
        have := u74 (ub1 l t) k hk2 (hps.mono fun f p ⟨x, e, h1, h2, h3, _⟩ => ⟨x, e, h1, h2, h3⟩) (hps.mono fun f p ⟨x, e, _, _, _, h4⟩ => ⟨x, e, h4⟩) (⟨#[]⟩ : ByteArray) 0 ps.length (Nat.le_refl _) j (List.replicate ps.length (⟨(⟨#[]⟩ : ByteArray), 0, []⟩ : DV)) (by rw [List.take_length]; exact hlt) (by omega) (by rw [List.length_replicate]) (by omega)
        rw [List.take_length, List.drop_of_length_le (by rw [List.length_replicate]; exact Nat.le_refl _), List.append_nil] at this
        exact this
      · rw [decide_eq_true (by omega), if_pos rfl, if_neg hlt, wrap_i64 (by omega) (by omega), ua9 hk (by omega), show (j : Int) - (cntP ps : Int) = ((j - cntP ps : Nat) : Int) by omega, ih (j - cntP ps) (by omega) (by omega)]
  have := loop (Nat.zero_le _) i (by rw [List.drop_zero]; exact hi) (by omega)
  rw [List.drop_zero] at this
  exact this
theorem vL5 {l : List ua2} (all : List ua1) (j : Nat) (hj : j < all.length) {ps : List (Option ua5)} (hps : All2 (FR (fun t x => SOk x ∧ Sm x ∧ RA l t x)) all[j].Fields ps) (hrc : All2 (FR (fun t x => RC l t x)) all[j].Fields ps) (n0 : ByteArray) (k0 : Int) : ∀ (m : Nat), m ≤ ps.length → ∀ (i : Nat) (B : List DV), i < cntP (ps.take m) → i ≤ 10000000 → B.length = ps.length → ps.length ≤ 8 →
    uh0 (.p2036 l (i : Int) all (j : Int) ((m : Int) - 1) n0 k0 B) = some (((all[j].Name, (0, (atP (ps.take m) i ++ B.drop m, ()))), ()), ())
 | 0, _, i, B, _, _, _, _ => by
   rw [uh0]
   rw [decide_eq_false (by omega), if_neg (by simp), ua7 hj]
   simp only [ua0, List.take_zero, uO5, List.drop_zero, List.nil_append]
 | m + 1, hm, i, B, hi, hib, hB, h8 => by
   have hlen := hps.len
   have hmp : m < ps.length := by omega
   have hmf : m < all[j].Fields.length := by omega
   obtain ⟨y, hy, hq1, hq2, hq3⟩ := hps.get m hmf hmp
   obtain ⟨y', hy', hcnt⟩ := hrc.get m hmf hmp
   have : y = y' := by rw [hy] at hy'; exact Option.some.inj hy'
   subst this
   have hcb := uc0 y hq1
   have hp := uc1 hq2.2
   have htk : ps.take (m + 1) = ps.take m ++ [some y] := by rw [ub7 hmp, hy]
   have hA : AllP (fun _ => True) (ps.take m) := fun p hp => by
     obtain ⟨f, _, x, e, _⟩ := hps.memR p (List.mem_of_mem_take hp)
     exact ⟨x, e, trivial⟩
   rw [htk, uK0 hA] at hi
   have hd : i / cnt y < cntP (ps.take m) := (Nat.div_lt_iff_lt_mul (by have := hcb.1; omega)).2 hi
   have hmod : i % cnt y < cnt y := Nat.mod_lt _ (by have := hcb.1; omega)
   have hne : ((cnt y : Int) == 0) = false := by have := hcb.1; simp; omega
   have hdb : i / cnt y ≤ 10000000 := Nat.le_trans (Nat.div_le_self _ _) hib
   have hwd : IntKind.wrap .i64 ((i / cnt y : Nat) : Int) = ((i / cnt y : Nat) : Int) := by
     generalize i / cnt y = q at hdb ⊢
     exact wrap_i64 (by omega) (by omega)
   rw [uh0]
   rw [show ((m + 1 : Nat) : Int) - 1 = (m : Int) by omega, decide_eq_true (by omega), if_pos rfl, ua7 hj]
   simp only [ua0, ua7 hmf, show ud9 _ = _ from hcnt, hne, Bool.not_false, if_true, uA7, uv8, hq3 _ hmod, ut1, hwd]
   rw [if_pos (by simp; omega), ua7 (by omega)]
   simp only [ua0, Int.toNat_natCast]
   rw [wrap_i64 (by omega) (by omega), vL5 all j hj hps hrc n0 k0 m (by omega) (i / cnt y) (B.set m (atV y (i % cnt y))) hd hdb (by rw [List.length_set]; exact hB) h8]
   rw [htk, u98 hA _ hi, uU1 (by omega), List.append_assoc]
   rfl
theorem wp5 {l : List ua2} (hv : uj3 l) {t : ua3} {vs : List data_variant} (hc : ConC l t vs) (h : All2 (VR (fun t x => SOk x ∧ Sm x ∧ RA l t x ∧ RC l t x)) (ub1 l t) vs) (i : Nat) (hi : i < cntVs vs) : uh0 (.start l t.Kind t.Value t.Name t.Parts (i : Int)) = some ((((atVs vs i).Name, ((atVs vs i).Number, ((atVs vs i).Parts, ()))), ()), ()) := by
  rw [uh0, ul1, decide_eq_false (fun h => hc.name h.2)]
  simp only [ua0, Bool.false_eq_true, if_false, u47 hv hc.kind hc.name hc.ty hc.tree]
  have hlen := h.len
  have hvl := hc.len
  have hw := hc.wid
  have hCB : AllV CB vs := AllV.of (fun t x hx => uc0 x hx.1) hc.fs h
  have hb := (uk2 hCB).2
  have hp16 := uc1 (show rooms vs ≤ 16 by omega)
  have hbig : vs.length * 2 ^ rooms vs ≤ 16 * 65536 := Nat.mul_le_mul hc.len hp16
  have loop : ∀ {k}, k ≤ vs.length → ∀ j : Nat, j < cntVs (vs.drop k) → j ≤ 5000000 → uh0 (.p248 l (j : Int) (ub1 l t) (k : Int) (⟨#[]⟩ : ByteArray) 0) = some ((((atVs (vs.drop k) j).Name, ((atVs (vs.drop k) j).Number, ((atVs (vs.drop k) j).Parts, ()))), ()), ()) := by
    refine ub0 vs (P := fun k => ∀ j : Nat, j < cntVs (vs.drop k) → j ≤ 5000000 → uh0 (.p248 l (j : Int) (ub1 l t) (k : Int) (⟨#[]⟩ : ByteArray) 0) = some ((((atVs (vs.drop k) j).Name, ((atVs (vs.drop k) j).Number, ((atVs (vs.drop k) j).Parts, ()))), ()), ())) ?_ ?_
    · intro j hj
      rw [List.drop_length, ul7] at hj
      omega
    · intro k hk ih j hj hj5
      have hk2 : k < (ub1 l t).length := by omega
      obtain ⟨ps, hx, hps⟩ := h.get k hk2 hk
      have hcm := hx ▸ List.getElem_mem hk
      obtain ⟨k1, k2, k3⟩ := uh1 hc.nds hc.wid hcm
      have hfl := hc.fs _ (List.getElem_mem hk2)
      have hpl := hps.len
      rw [ua8 hk, hx] at hj ⊢
      rw [ue4, ud4] at hj
      rw [ut3, ud4]
      have hco := uU8 (ub1 l t)[k] hfl (hps.mono fun f p ⟨x, e, h1, h2, _, h4⟩ => ⟨x, e, h1, h2, h4⟩) (show roomP ps ≤ 16 by omega)
      have hP : AllP CB ps := AllP.of (fun t x hx => uc0 x hx.1) hps
      have hpc := (uf3 hP).2
      have hp2 := uc1 (show roomP ps ≤ 16 by omega)
      rw [uh0]
      simp only [ua7 hk2, ua0, hco]
      by_cases hlt : j < cntP ps
      · rw [decide_eq_false (by omega), if_neg (by simp), if_pos hlt, ur8]
        rw [if_pos (by unfold u45; simp; omega)]
        simp only [Int.toNat_natCast, List.length_replicate]
        rw [wrap_i64 (by omega) (by omega), hpl]
        have := vL5 (ub1 l t) k hk2 (hps.mono fun f p ⟨x, e, h1, h2, h3, _⟩ => ⟨x, e, h1, h2, h3⟩) (hps.mono fun f p ⟨x, e, _, _, _, h4⟩ => ⟨x, e, h4⟩) (⟨#[]⟩ : ByteArray) 0 ps.length (Nat.le_refl _) j (List.replicate ps.length (⟨(⟨#[]⟩ : ByteArray), 0, []⟩ : DV)) (by rw [List.take_length]; exact hlt) (by omega) (by rw [List.length_replicate]) (by omega)
        rw [List.take_length, List.drop_of_length_le (by rw [List.length_replicate]; exact Nat.le_refl _), List.append_nil] at this
        exact this
      · rw [decide_eq_true (by omega), if_pos rfl, if_neg hlt, wrap_i64 (by omega) (by omega), ua9 hk (by omega), show (j : Int) - (cntP ps : Int) = ((j - cntP ps : Nat) : Int) by omega, ih (j - cntP ps) (by omega) (by omega)]
  have := loop (Nat.zero_le _) i (by rw [List.drop_zero]; exact hi) (by omega)
  rw [List.drop_zero] at this
  exact this
theorem u75 {l : List ua2} (all : List ua1) (j : Nat) (hj : j < all.length) {ps : List (Option ua5)} (hps : All2 (FR (fun t x => SOk x ∧ Sm x ∧ RU l t x)) all[j].Fields ps) (hrw : All2 (FR (fun t x => RW l t x)) all[j].Fields ps) (n0 : ByteArray) (k0 : Int) : ∀ (m : Nat), m ≤ ps.length → ∀ (f : Nat) (B : List DV), f < 2 ^ roomP (ps.take m) → f ≤ 10000000 → B.length = ps.length → ps.length ≤ 8 →
    ∃ r, ui5 (.p4084 l all (j : Int) (f : Int) ((m : Int) - 1) n0 k0 B) = some r ∧ r.1.2.1 = (upkP (ps.take m) f).isSome ∧ ∀ q, upkP (ps.take m) f = some q → r.1.1 = (all[j].Name, (0, (q ++ B.drop m, ())))
 | 0, _, f, B, _, _, _, _ => by
   rw [ui5]
   rw [decide_eq_false (by omega), if_neg (by simp), ua7 hj]
   simp only [ua0, List.take_zero, uq0]
   exact ⟨_, rfl, rfl, fun q hq => by obtain rfl := Option.some.inj hq; rfl⟩
 | m + 1, hm, f, B, hf, hfb, hB, h8 => by
   have hlen := hps.len
   have hmp : m < ps.length := by omega
   have hmf : m < all[j].Fields.length := by omega
   obtain ⟨y, hy, hq1, hq2, hq3⟩ := hps.get m hmf hmp
   obtain ⟨y', hy', hwy⟩ := hrw.get m hmf hmp
   have : y = y' := by rw [hy] at hy'; exact Option.some.inj hy'
   subst this
   have h16 := hq2.2
   have hpw := ue5 (wid y)
   have htk : ps.take (m + 1) = ps.take m ++ [some y] := by rw [ub7 hmp, hy]
   have hA : AllP (fun _ => True) (ps.take m) := fun p hp => by
     obtain ⟨f, _, x, e, _⟩ := hps.memR p (List.mem_of_mem_take hp)
     exact ⟨x, e, trivial⟩
   rw [htk, uE5 hA, Nat.pow_add] at hf
   have hd : f / 2 ^ wid y < 2 ^ roomP (ps.take m) := (Nat.div_lt_iff_lt_mul hpw).2 hf
   have hmod : f % 2 ^ wid y < 2 ^ wid y := Nat.mod_lt _ hpw
   have hne : ((((2 ^ wid y : Nat) : Int)) == 0) = false := beq_eq_false_iff_ne.2 (show ((2 ^ wid y : Nat) : Int) ≠ 0 by omega)
   have hdb : f / 2 ^ wid y ≤ 10000000 := Nat.le_trans (Nat.div_le_self _ _) hfb
   have hwd : IntKind.wrap .i64 ((f / 2 ^ wid y : Nat) : Int) = ((f / 2 ^ wid y : Nat) : Int) := by
     generalize f / 2 ^ wid y = q at hdb ⊢
     exact wrap_i64 (by omega) (by omega)
   obtain ⟨r1, g1, g2, g3⟩ := hq3 _ hmod
   rw [ui5]
   rw [show ((m + 1 : Nat) : Int) - 1 = (m : Int) by omega, decide_eq_true (by omega), if_pos rfl, ua7 hj]
   simp only [ua0, ua7 hmf, (hwy hq2.1).2, uC5 (wid y) (by omega), hne, Bool.not_false, if_true, uA7, uv8, g1, hwd]
   rw [htk, u34 hA]
   cases hu : upk y (f % 2 ^ wid y) with
   | none =>
     rw [hu] at g2
     rw [g2]
     refine ⟨_, rfl, ?_, fun q hq => ?_⟩
     · cases upkP (ps.take m) (f / 2 ^ wid y) <;> rfl
     · cases hv : upkP (ps.take m) (f / 2 ^ wid y) <;> rw [hv] at hq <;> cases hq
   | some a =>
     rw [hu] at g2
     rw [g2, g3 a hu]
     simp only [Option.isSome_some, Bool.not_true, Bool.false_eq_true, if_false, ut1]
     rw [if_pos (by simp; omega), ua7 (by omega)]
     simp only [ua0, Int.toNat_natCast]
     rw [wrap_i64 (x := (m : Int) - 1) (by omega) (by omega)]
     obtain ⟨r2, f1, f2, f3⟩ := u75 all j hj hps hrw n0 k0 m (by omega) (f / 2 ^ wid y) (B.set m a) hd hdb (by rw [List.length_set]; exact hB) h8
     refine ⟨r2, f1, ?_, fun q hq => ?_⟩
     · rw [f2]
       cases upkP (ps.take m) (f / 2 ^ wid y) <;> rfl
     · cases hv : upkP (ps.take m) (f / 2 ^ wid y) with
       | none => rw [hv] at hq; cases hq
       | some q0 =>
         rw [hv] at hq
         obtain rfl := Option.some.inj hq
         rw [f3 q0 hv, uU1 (by omega), List.append_assoc]
         rfl
theorem vL6 {l : List ua2} (hv : uj3 l) {t : ua3} {vs : List data_variant} (hc : ConC l t vs) (h : All2 (VR (fun t x => SOk x ∧ Sm x ∧ RU l t x ∧ RW l t x)) (ub1 l t) vs) (n : Nat) (hn : n < 2 ^ wid ⟨0, some vs⟩) : ∃ r, ui5 (.start l t.Kind t.Value t.Name t.Parts (n : Int)) = some r ∧ r.1.2.1 = (upk ⟨0, some vs⟩ n).isSome ∧ ∀ v, upk ⟨0, some vs⟩ n = some v → r.1.1 = (v.Name, (v.Number, (v.Parts, ()))) := by
  have hlen := h.len
  have hvl := hc.len
  have hw := hc.wid
  have hnd := hc.nds
  have hsz : n < 65536 := by
    rw [ur6] at hn
    have := uc1 hw
    omega
  have hRW : All2 (VR (RW l)) (ub1 l t) vs := h.mono fun c v h => h.mono fun t x h => h.2.2.2
  have hpr := ue5 (rooms vs)
  have hp16 := uc1 (show rooms vs ≤ 16 by omega)
  have hne : ((((2 ^ rooms vs : Nat) : Int)) == 0) = false := beq_eq_false_iff_ne.2 (show ((2 ^ rooms vs : Nat) : Int) ≠ 0 by omega)
  have hdl : n / 2 ^ rooms vs ≤ 65536 := Nat.le_trans (Nat.div_le_self _ _) (by omega)
  have hml : n % 2 ^ rooms vs ≤ 65536 := Nat.le_trans (Nat.mod_le _ _) (by omega)
  have hwd : IntKind.wrap .i64 ((n / 2 ^ rooms vs : Nat) : Int) = ((n / 2 ^ rooms vs : Nat) : Int) := by
    generalize n / 2 ^ rooms vs = q at hdl ⊢
    exact wrap_i64 (by omega) (by omega)
  rw [ui5, ul1, decide_eq_false (fun h => hc.name h.2)]
  simp only [ua0, Bool.false_eq_true, if_false, u47 hv hc.kind hc.name hc.ty hc.tree, vY9 hv hc.kind hc.name hc.ty hc.tree hRW (by omega), uC5 (rooms vs) (by omega), hne, Bool.not_false, if_true, uv8, uA7, hwd, hlen]
  by_cases ht : vs.length ≤ n / 2 ^ rooms vs
  · have hU : upk ⟨0, some vs⟩ n = none := by rw [uu6, uu4, List.getElem?_eq_none (by omega)]
    have hd : decide (((n / 2 ^ rooms vs : Nat) : Int) ≥ (vs.length : Int)) = true := by
      generalize n / 2 ^ rooms vs = q at ht ⊢
      exact decide_eq_true (by omega)
    rw [hd, if_pos rfl, hU]
    exact ⟨_, rfl, rfl, fun v hv => (by cases hv)⟩
  · have hlt : n / 2 ^ rooms vs < vs.length := by omega
    have hd : decide (((n / 2 ^ rooms vs : Nat) : Int) ≥ (vs.length : Int)) = false := by
      generalize n / 2 ^ rooms vs = q at ht ⊢
      exact decide_eq_false (by omega)
    rw [hd, if_neg (by simp)]
    have hlt2 : n / 2 ^ rooms vs < (ub1 l t).length := by omega
    obtain ⟨ps, hx, hps⟩ := h.get _ hlt2 hlt
    have hcm := hx ▸ List.getElem_mem hlt
    obtain ⟨k1, k2, k3⟩ := uh1 hc.nds hc.wid hcm
    have hfl := hc.fs _ (List.getElem_mem hlt2)
    have hpl := hps.len
    have hU : upk ⟨0, some vs⟩ n = upkW ⟨(ub1 l t)[n / 2 ^ rooms vs].Name, (ub1 l t)[n / 2 ^ rooms vs].Fields, some ps⟩ (n % 2 ^ rooms vs) := by rw [uu6, uu4, List.getElem?_eq_getElem hlt, hx]
    rw [hU, uu5]
    have hRWp : All2 (FR (RW l)) (ub1 l t)[n / 2 ^ rooms vs].Fields ps := hps.mono fun f p ⟨x, e, hx⟩ => ⟨x, e, hx.2.2.2⟩
    rw [ua7 hlt2]
    simp only [ua0, ve4 _ hfl hRWp (show ndsP ps ≤ 200 by omega), uC5 (roomP ps) (by omega)]
    by_cases hf : n % 2 ^ rooms vs < 2 ^ roomP ps
    · rw [decide_eq_false (by omega), if_neg (by simp), if_pos hf]
      rw [ui5, ua7 hlt2]
      simp only [ua0]
      rw [if_pos (by unfold u45; simp; omega)]
      simp only [Int.toNat_natCast, List.length_replicate]
      rw [wrap_i64 (by omega) (by omega), hpl]
      obtain ⟨r, e1, e2, e3⟩ := u75 (ub1 l t) _ hlt2 (hps.mono fun f p ⟨x, e, h1, h2, h3, _⟩ => ⟨x, e, h1, h2, h3⟩) hRWp (⟨#[]⟩ : ByteArray) 0 ps.length (Nat.le_refl _) (n % 2 ^ rooms vs) (List.replicate ps.length (⟨(⟨#[]⟩ : ByteArray), 0, []⟩ : DV)) (by rw [List.take_length]; exact hf) (by omega) (by rw [List.length_replicate]) (by omega)
      rw [List.take_length] at e2 e3
      refine ⟨r, e1, ?_, fun v hv => ?_⟩
      · rw [e2]
        cases upkP ps (n % 2 ^ rooms vs) <;> rfl
      · obtain ⟨q, hq, rfl⟩ := Option.map_eq_some_iff.1 hv
        rw [e3 q hq, List.drop_of_length_le (by rw [List.length_replicate]; exact Nat.le_refl _), List.append_nil]
    · rw [decide_eq_true (by omega), if_pos rfl, if_neg hf]
      exact ⟨_, rfl, rfl, fun v hv => (by cases hv)⟩
theorem vL7 {l : List ua2} (all : List ua1) (j : Nat) (hj : j < all.length) {ps : List (Option ua5)} (hps : All2 (FR (fun t x => SOk x ∧ Sm x ∧ RU l t x)) all[j].Fields ps) (hrw : All2 (FR (fun t x => RW l t x)) all[j].Fields ps) (n0 : ByteArray) (k0 : Int) : ∀ (m : Nat), m ≤ ps.length → ∀ (f : Nat) (B : List DV), f < 2 ^ roomP (ps.take m) → f ≤ 10000000 → B.length = ps.length → ps.length ≤ 8 →
    ∃ r, uj8 (.p4084 l all (j : Int) (f : Int) ((m : Int) - 1) n0 k0 B) = some r ∧ r.1.2.1 = (upkP (ps.take m) f).isSome ∧ ∀ q, upkP (ps.take m) f = some q → r.1.1 = (all[j].Name, (0, (q ++ B.drop m, ())))
 | 0, _, f, B, _, _, _, _ => by
   rw [uj8]
   rw [decide_eq_false (by omega), if_neg (by simp), ua7 hj]
   simp only [ua0, List.take_zero, uq0]
   exact ⟨_, rfl, rfl, fun q hq => by obtain rfl := Option.some.inj hq; rfl⟩
 | m + 1, hm, f, B, hf, hfb, hB, h8 => by
   have hlen := hps.len
   have hmp : m < ps.length := by omega
   have hmf : m < all[j].Fields.length := by omega
   obtain ⟨y, hy, hq1, hq2, hq3⟩ := hps.get m hmf hmp
   obtain ⟨y', hy', hwy⟩ := hrw.get m hmf hmp
   have : y = y' := by rw [hy] at hy'; exact Option.some.inj hy'
   subst this
   have h16 := hq2.2
   have hpw := ue5 (wid y)
   have htk : ps.take (m + 1) = ps.take m ++ [some y] := by rw [ub7 hmp, hy]
   have hA : AllP (fun _ => True) (ps.take m) := fun p hp => by
     obtain ⟨f, _, x, e, _⟩ := hps.memR p (List.mem_of_mem_take hp)
     exact ⟨x, e, trivial⟩
   rw [htk, uE5 hA, Nat.pow_add] at hf
   have hd : f / 2 ^ wid y < 2 ^ roomP (ps.take m) := (Nat.div_lt_iff_lt_mul hpw).2 hf
   have hmod : f % 2 ^ wid y < 2 ^ wid y := Nat.mod_lt _ hpw
   have hne : ((((2 ^ wid y : Nat) : Int)) == 0) = false := beq_eq_false_iff_ne.2 (show ((2 ^ wid y : Nat) : Int) ≠ 0 by omega)
   have hdb : f / 2 ^ wid y ≤ 10000000 := Nat.le_trans (Nat.div_le_self _ _) hfb
   have hwd : IntKind.wrap .i64 ((f / 2 ^ wid y : Nat) : Int) = ((f / 2 ^ wid y : Nat) : Int) := by
     generalize f / 2 ^ wid y = q at hdb ⊢
     exact wrap_i64 (by omega) (by omega)
   obtain ⟨r1, g1, g2, g3⟩ := hq3 _ hmod
   rw [uj8]
   rw [show ((m + 1 : Nat) : Int) - 1 = (m : Int) by omega, decide_eq_true (by omega), if_pos rfl, ua7 hj]
   simp only [ua0, ua7 hmf, (hwy hq2.1).2, uC5 (wid y) (by omega), hne, Bool.not_false, if_true, uA7, uv8, g1, hwd]
   rw [htk, u34 hA]
   cases hu : upk y (f % 2 ^ wid y) with
   | none =>
     rw [hu] at g2
     rw [g2]
     refine ⟨_, rfl, ?_, fun q hq => ?_⟩
     · cases upkP (ps.take m) (f / 2 ^ wid y) <;> rfl
     · cases hv : upkP (ps.take m) (f / 2 ^ wid y) <;> rw [hv] at hq <;> cases hq
   | some a =>
     rw [hu] at g2
     rw [g2, g3 a hu]
     simp only [Option.isSome_some, Bool.not_true, Bool.false_eq_true, if_false, ut1]
     rw [if_pos (by simp; omega), ua7 (by omega)]
     simp only [ua0, Int.toNat_natCast]
     rw [wrap_i64 (x := (m : Int) - 1) (by omega) (by omega)]
     obtain ⟨r2, f1, f2, f3⟩ := vL7 all j hj hps hrw n0 k0 m (by omega) (f / 2 ^ wid y) (B.set m a) hd hdb (by rw [List.length_set]; exact hB) h8
     refine ⟨r2, f1, ?_, fun q hq => ?_⟩
     · rw [f2]
       cases upkP (ps.take m) (f / 2 ^ wid y) <;> rfl
     · cases hv : upkP (ps.take m) (f / 2 ^ wid y) with
       | none => rw [hv] at hq; cases hq
       | some q0 =>
         rw [hv] at hq
         obtain rfl := Option.some.inj hq
         rw [f3 q0 hv, uU1 (by omega), List.append_assoc]
         rfl
theorem wp6 {l : List ua2} (hv : uj3 l) {t : ua3} {vs : List data_variant} (hc : ConC l t vs) (h : All2 (VR (fun t x => SOk x ∧ Sm x ∧ RU l t x ∧ RW l t x)) (ub1 l t) vs) (n : Nat) (hn : n < 2 ^ wid ⟨0, some vs⟩) : ∃ r, uj8 (.start l t.Kind t.Value t.Name t.Parts (n : Int)) = some r ∧ r.1.2.1 = (upk ⟨0, some vs⟩ n).isSome ∧ ∀ v, upk ⟨0, some vs⟩ n = some v → r.1.1 = (v.Name, (v.Number, (v.Parts, ()))) := by
  have hlen := h.len
  have hvl := hc.len
  have hw := hc.wid
  have hnd := hc.nds
  have hsz : n < 65536 := by
    rw [ur6] at hn
    have := uc1 hw
    omega
  have hRW : All2 (VR (RW l)) (ub1 l t) vs := h.mono fun c v h => h.mono fun t x h => h.2.2.2
  have hpr := ue5 (rooms vs)
  have hp16 := uc1 (show rooms vs ≤ 16 by omega)
  have hne : ((((2 ^ rooms vs : Nat) : Int)) == 0) = false := beq_eq_false_iff_ne.2 (show ((2 ^ rooms vs : Nat) : Int) ≠ 0 by omega)
  have hdl : n / 2 ^ rooms vs ≤ 65536 := Nat.le_trans (Nat.div_le_self _ _) (by omega)
  have hml : n % 2 ^ rooms vs ≤ 65536 := Nat.le_trans (Nat.mod_le _ _) (by omega)
  have hwd : IntKind.wrap .i64 ((n / 2 ^ rooms vs : Nat) : Int) = ((n / 2 ^ rooms vs : Nat) : Int) := by
    generalize n / 2 ^ rooms vs = q at hdl ⊢
    exact wrap_i64 (by omega) (by omega)
  rw [uj8, ul1, decide_eq_false (fun h => hc.name h.2)]
  simp only [ua0, Bool.false_eq_true, if_false, u47 hv hc.kind hc.name hc.ty hc.tree, vY9 hv hc.kind hc.name hc.ty hc.tree hRW (by omega), uC5 (rooms vs) (by omega), hne, Bool.not_false, if_true, uv8, uA7, hwd, hlen]
  by_cases ht : vs.length ≤ n / 2 ^ rooms vs
  · have hU : upk ⟨0, some vs⟩ n = none := by rw [uu6, uu4, List.getElem?_eq_none (by omega)]
    have hd : decide (((n / 2 ^ rooms vs : Nat) : Int) ≥ (vs.length : Int)) = true := by
      generalize n / 2 ^ rooms vs = q at ht ⊢
      exact decide_eq_true (by omega)
    rw [hd, if_pos rfl, hU]
    exact ⟨_, rfl, rfl, fun v hv => (by cases hv)⟩
  · have hlt : n / 2 ^ rooms vs < vs.length := by omega
    have hd : decide (((n / 2 ^ rooms vs : Nat) : Int) ≥ (vs.length : Int)) = false := by
      generalize n / 2 ^ rooms vs = q at ht ⊢
      exact decide_eq_false (by omega)
    rw [hd, if_neg (by simp)]
    have hlt2 : n / 2 ^ rooms vs < (ub1 l t).length := by omega
    obtain ⟨ps, hx, hps⟩ := h.get _ hlt2 hlt
    have hcm := hx ▸ List.getElem_mem hlt
    obtain ⟨k1, k2, k3⟩ := uh1 hc.nds hc.wid hcm
    have hfl := hc.fs _ (List.getElem_mem hlt2)
    have hpl := hps.len
    have hU : upk ⟨0, some vs⟩ n = upkW ⟨(ub1 l t)[n / 2 ^ rooms vs].Name, (ub1 l t)[n / 2 ^ rooms vs].Fields, some ps⟩ (n % 2 ^ rooms vs) := by rw [uu6, uu4, List.getElem?_eq_getElem hlt, hx]
    rw [hU, uu5]
    have hRWp : All2 (FR (RW l)) (ub1 l t)[n / 2 ^ rooms vs].Fields ps := hps.mono fun f p ⟨x, e, hx⟩ => ⟨x, e, hx.2.2.2⟩
    rw [ua7 hlt2]
    simp only [ua0, ve4 _ hfl hRWp (show ndsP ps ≤ 200 by omega), uC5 (roomP ps) (by omega)]
    by_cases hf : n % 2 ^ rooms vs < 2 ^ roomP ps
    · rw [decide_eq_false (by omega), if_neg (by simp), if_pos hf]
      rw [uj8, ua7 hlt2]
      simp only [ua0]
      rw [if_pos (by unfold u45; simp; omega)]
      simp only [Int.toNat_natCast, List.length_replicate]
      rw [wrap_i64 (by omega) (by omega), hpl]
      obtain ⟨r, e1, e2, e3⟩ := vL7 (ub1 l t) _ hlt2 (hps.mono fun f p ⟨x, e, h1, h2, h3, _⟩ => ⟨x, e, h1, h2, h3⟩) hRWp (⟨#[]⟩ : ByteArray) 0 ps.length (Nat.le_refl _) (n % 2 ^ rooms vs) (List.replicate ps.length (⟨(⟨#[]⟩ : ByteArray), 0, []⟩ : DV)) (by rw [List.take_length]; exact hf) (by omega) (by rw [List.length_replicate]) (by omega)
      rw [List.take_length] at e2 e3
      refine ⟨r, e1, ?_, fun v hv => ?_⟩
      · rw [e2]
        cases upkP ps (n % 2 ^ rooms vs) <;> rfl
      · obtain ⟨q, hq, rfl⟩ := Option.map_eq_some_iff.1 hv
        rw [e3 q hq, List.drop_of_length_le (by rw [List.length_replicate]; exact Nat.le_refl _), List.append_nil]
    · rw [decide_eq_true (by omega), if_pos rfl, if_neg hf]
      exact ⟨_, rfl, rfl, fun v hv => (by cases hv)⟩
theorem rat {l : List ua2} (hv : uj3 l) : ∀ n t x, SR l n t x → Sm x → RA l t x ∧ RC l t x := by
  refine uQ8 hv (fun t p hk hb hp h1 h2 => ?_) (fun t vs hc h => ?_)
  · have hbr : SR l 1 t ⟨p.Value, none⟩ := .inl ⟨hk, hb, p, hp, h1, h2, rfl⟩
    refine ⟨fun i hi => ?_, vM1 hv 1 t _ hbr ⟨by rw [uH2]; omega, by rw [uw3]; omega⟩⟩
    rw [uf9, ul1, decide_eq_true (show t.Kind = 1 ∧ t.Name = sBit from ⟨hk, hb⟩), uO6]
    simp only [ua0, if_true]
  · refine ⟨fun i hi => ?_, ?_⟩
    · rw [uq7] at hi
      rw [uB2]
      exact vL4 hv hc h i hi
    · exact vj7 hv hc (h.mono fun c v h => h.mono fun t x h => ⟨h.1, h.2.1, h.2.2.2⟩)
theorem rAt {l : List ua2} {t : ua3} {x : ua5} (ho : uW4 l t x) (i : Nat) (hi : i < cnt x) : uh0 (.start l t.Kind t.Value t.Name t.Parts (i : Int)) = some ((((atV x i).Name, ((atV x i).Number, ((atV x i).Parts, ()))), ()), ()) := by
  rcases ho.cases with ⟨hk, hb, p, hp, h1, h2, rfl⟩ | ⟨vs, rfl, hc, hr⟩
  · rw [uh0, ul1, decide_eq_true (show t.Kind = 1 ∧ t.Name = sBit from ⟨hk, hb⟩), uO6]
    simp only [ua0, if_true]
  · rw [uq7] at hi
    rw [uB2]
    refine wp5 ho.valid hc ?_ i hi
    refine hr.withMem.mono fun c v h => ?_
    obtain ⟨⟨hcm, hvm⟩, ps, rfl, hps⟩ := h
    obtain ⟨_, _, k3⟩ := uh1 hc.nds hc.wid hvm
    refine ⟨ps, rfl, hps.withMem.mono fun f p h => ?_⟩
    obtain ⟨⟨_, hpm⟩, x, rfl, hx⟩ := h
    exact ⟨x, rfl, sok ho.valid hx, k3 x hpm, rat ho.valid 39 _ _ hx (k3 x hpm)⟩
theorem vw7 {l : List ua2} (hv : uj3 l) {Q : ua3 → ua5 → Prop} (hb : ∀ t p, t.Kind = 1 → t.Name = sBit → t.Parts = [p] → 1 ≤ p.Value → p.Value ≤ 16 → Q t ⟨p.Value, none⟩)
    (hc : ∀ t vs, ConC l t vs → All2 (VR (fun t x => SOk x ∧ Sm x ∧ Q t x ∧ RW l t x)) (ub1 l t) vs → Q t ⟨0, some vs⟩) : ∀ n t x, SR l n t x → Sm x → Q t x
 | 0, t, x, h, _ => h.elim
 | n + 1, t, x, h, hs => by
   rcases h with ⟨hk, hb', p, hp, h1, h2, rfl⟩ | ⟨hk, hb', ht, htr, vs, rfl, hr⟩
   · exact hb t p hk hb' hp h1 h2
   · obtain ⟨⟨m0, m1⟩, m2⟩ := uj2 hv ht htr hk
     have hlen := hr.len
     obtain ⟨s1, s2⟩ := vk8 hs
     refine hc t vs ⟨hk, hb', ht, htr, by omega, by omega, s1, s2, fun c hc => (m2 c hc).1⟩ (hr.withMem.mono fun c v h => ?_)
     obtain ⟨⟨hcm, hvm⟩, ps, rfl, hps⟩ := h
     obtain ⟨_, _, k3⟩ := uh1 s1 s2 hvm
     refine ⟨ps, rfl, hps.withMem.mono fun f p h => ?_⟩
     obtain ⟨⟨hf, hpm⟩, x, rfl, hx⟩ := h
     exact ⟨x, rfl, sok hv hx, k3 x hpm, vw7 hv hb hc n _ _ hx (k3 x hpm), rwid hv n _ _ hx⟩
theorem rup {l : List ua2} (hv : uj3 l) : ∀ n t x, SR l n t x → Sm x → RU l t x := by
  refine vw7 hv (fun t p hk hb hp h1 h2 => ?_) (fun t vs hc h => ?_)
  · intro n hn
    rw [ui5, ul1, decide_eq_true (show t.Kind = 1 ∧ t.Name = sBit from ⟨hk, hb⟩), uR8]
    simp only [ua0, if_true]
    exact ⟨_, rfl, rfl, fun v hv => by obtain rfl := Option.some.inj hv; rfl⟩
  · exact fun n hn => vL6 hv hc h n hn
theorem rUp {l : List ua2} {t : ua3} {x : ua5} (ho : uW4 l t x) (n : Nat) (hn : n < 2 ^ wid x) : ∃ r, uj8 (.start l t.Kind t.Value t.Name t.Parts (n : Int)) = some r ∧ r.1.2.1 = (upk x n).isSome ∧ ∀ v, upk x n = some v → r.1.1 = (v.Name, (v.Number, (v.Parts, ()))) := by
  rcases ho.cases with ⟨hk, hb, p, hp, h1, h2, rfl⟩ | ⟨vs, rfl, hc, hr⟩
  · rw [uj8, ul1, decide_eq_true (show t.Kind = 1 ∧ t.Name = sBit from ⟨hk, hb⟩), uR8]
    simp only [ua0, if_true]
    exact ⟨_, rfl, rfl, fun v hv => by obtain rfl := Option.some.inj hv; rfl⟩
  · refine wp6 ho.valid hc ?_ n hn
    refine hr.withMem.mono fun c v h => ?_
    obtain ⟨⟨hcm, hvm⟩, ps, rfl, hps⟩ := h
    obtain ⟨_, _, k3⟩ := uh1 hc.nds hc.wid hvm
    refine ⟨ps, rfl, hps.withMem.mono fun f p h => ?_⟩
    obtain ⟨⟨_, hpm⟩, x, rfl, hx⟩ := h
    exact ⟨x, rfl, sok ho.valid hx, k3 x hpm, rup ho.valid 39 _ _ hx (k3 x hpm), rwid ho.valid 39 _ _ hx⟩
end Go.Proofs.YtaennkkcnhfglaaGreatDoor.Ev.F
namespace Go.Proofs.YtaennkkcnhfglaaGreatDoor.Ev.F
open Go.Proofs.YtaennkkcnhfglaaGreatDoor.Ev
theorem vv6 (vs : List data_variant) (v : DV) (hz : valVs vs v = 0) : ∃ (j : Nat) (c : data_variant), ix (fun c => decide (c.name = v.Name)) vs = (j : Int) ∧ vs[j]? = some c ∧ c.name = v.Name ∧ valW c v = 0 ∧ pkT vs v = (j, pkW c v) ∧ ∀ k b, k < j → vs[k]? = some b → b.name ≠ v.Name := by
  rcases uP9 (fun c : data_variant => decide (c.name = v.Name)) vs with ⟨e1, e2⟩ | ⟨j, c, e1, e2, e3, e4⟩
  · rw [vK6 vs v fun c hc => of_decide_eq_false (e2 c hc)] at hz; cases hz
  · have hn := of_decide_eq_true e3
    have hk : ∀ k b, k < j → vs[k]? = some b → b.name ≠ v.Name := fun k b hk hb => of_decide_eq_false (e4 k b hk hb)
    obtain ⟨a1, a2⟩ := uY2 vs j c v e2 hn hk
    rw [a1] at hz
    exact ⟨j, c, e1, e2, hn, hz, a2, hk⟩
def RI (l : List ua2) (t : ua3) (x : ua5) : Prop := RC l t x ∧ ∀ v, valE x v = 0 → uf8 (.start l t.Kind t.Value t.Name t.Parts v.Name v.Number v.Parts) = some (((bef x v : Int), ()), ())
theorem wq4 {l : List ua2} (hv : uj3 l) : ∀ n t x, SR l n t x → Sm x → RI l t x := by
  refine uQ8 hv (fun t p hk hb hp h1 h2 => ?_) (fun t vs hc h => ?_)
  · have hbr : SR l 1 t ⟨p.Value, none⟩ := .inl ⟨hk, hb, p, hp, h1, h2, rfl⟩
    refine ⟨vM1 hv 1 t _ hbr ⟨by rw [uH2]; omega, by rw [uw3]; omega⟩, fun v hz => ?_⟩
    obtain ⟨_, _, z3, _⟩ := ui7 hz
    rw [uf8, ul1, decide_eq_true (show t.Kind = 1 ∧ t.Name = sBit from ⟨hk, hb⟩), u99]
    simp only [ua0, if_true]
    rw [Int.toNat_of_nonneg z3]
  · refine ⟨vj7 hv hc (h.mono fun c v h => h.mono fun t x h => ⟨h.1, h.2.1, h.2.2.1⟩), fun v hz => ?_⟩
    rw [ui8] at hz
    obtain ⟨j, c, e1, e2, e3, e4, _, e6⟩ := vv6 vs v hz
    have hlen := h.len
    have hvl := hc.len
    have hw := hc.wid
    have hj : j < vs.length := (List.getElem?_eq_some_iff.1 e2).1
    have hj2 : j < (ub1 l t).length := by omega
    obtain ⟨ps, ec, hps⟩ := h.get j hj2 hj
    have hcv : c = ⟨(ub1 l t)[j].Name, (ub1 l t)[j].Fields, some ps⟩ := by
      rw [List.getElem?_eq_getElem hj] at e2
      rw [← Option.some.inj e2, ec]
    subst hcv
    obtain ⟨z1, z2, z3⟩ := uu8 e4
    have hpl := hps.len
    have hfl := hc.fs _ (List.getElem_mem hj2)
    have hCB : AllV CB vs := AllV.of (fun t x hx => uc0 x hx.1) hc.fs h
    have hb := (uk2 hCB).2
    have hp16 := uc1 (show rooms vs ≤ 16 by omega)
    have hbig : vs.length * 2 ^ rooms vs ≤ 16 * 65536 := Nat.mul_le_mul hc.len hp16
    have hix : ix (fun c : data_variant => decide (c.name = v.Name)) vs = ix (fun c => decide (c.Name = v.Name)) (ub1 l t) := uP8 v.Name h 0
    rw [uf8, ul1, decide_eq_false (fun h => hc.name h.2), uX1]
    simp only [ua0, Bool.false_eq_true, if_false, u47 hv hc.kind hc.name hc.ty hc.tree]
    rw [wf8 _ v.Name (by unfold big; omega), ← hix, e1]
    simp only [ua0]
    have hA : AllP CB ps := AllP.of (fun t x hx => uc0 x hx.1) hps
    have parts : ∀ s : Nat, ∀ {i}, i ≤ ps.length → ∀ a : Nat, valP (ps.drop i) (v.Parts.drop i) = 0 → s + (a + 1) * cntP (ps.drop i) ≤ 10000000 → uf8 (.p2036 l (ub1 l t) (j : Int) (s : Int) (a : Int) (i : Int) v.Name v.Number v.Parts) = some ((((s + (a * cntP (ps.drop i) + befP (ps.drop i) (v.Parts.drop i)) : Nat) : Int), ()), ()) := by
      intro s i
      refine ub0 ps (P := fun i => ∀ a : Nat, valP (ps.drop i) (v.Parts.drop i) = 0 → s + (a + 1) * cntP (ps.drop i) ≤ 10000000 → uf8 (.p2036 l (ub1 l t) (j : Int) (s : Int) (a : Int) (i : Int) v.Name v.Number v.Parts) = some ((((s + (a * cntP (ps.drop i) + befP (ps.drop i) (v.Parts.drop i)) : Nat) : Int), ()), ())) ?_ ?_
      · intro a _ ha
        rw [List.drop_length, uk7, Nat.mul_one] at ha
        rw [List.drop_length, uk7, uT8, Nat.mul_one]
        rw [uf8, z2]
        simp only [lt_f, Bool.false_eq_true, if_false]
        rw [wrap_i64 (by omega) (by omega)]
        rfl
      · intro i hi ih a hz2 ha
        have hil : i < v.Parts.length := by omega
        have hif : i < (ub1 l t)[j].Fields.length := by omega
        obtain ⟨x, hx, hq1, hq2, hq3, hq4⟩ := hps.get i hif hi
        rw [ua8 hi, ua8 hil, hx] at hz2 ⊢
        rw [ua8 hi, hx] at ha
        obtain ⟨y1, y2⟩ := uu7 hz2
        rw [ug5] at ha ⊢
        rw [uJ5]
        have hb := t2 x hq1 hq2 _ y1
        have hr1 := (uf3 (ps := ps.drop (i + 1)) (fun p hp => hA p (List.mem_of_mem_drop hp))).1
        have hsum : a * (cnt x * cntP (ps.drop (i + 1))) + (bef x v.Parts[i] * cntP (ps.drop (i + 1)) + befP (ps.drop (i + 1)) (v.Parts.drop (i + 1))) = (a * cnt x + bef x v.Parts[i]) * cntP (ps.drop (i + 1)) + befP (ps.drop (i + 1)) (v.Parts.drop (i + 1)) := by
          rw [Nat.add_mul, Nat.mul_assoc, Nat.add_assoc]
        have hle : (a * cnt x + bef x v.Parts[i] + 1) * cntP (ps.drop (i + 1)) ≤ (a + 1) * (cnt x * cntP (ps.drop (i + 1))) := by
          rw [← Nat.mul_assoc]
          refine Nat.mul_le_mul_right _ ?_
          rw [Nat.add_mul]
          omega
        have hsm : (a * cnt x + bef x v.Parts[i] + 1) * 1 ≤ (a * cnt x + bef x v.Parts[i] + 1) * cntP (ps.drop (i + 1)) := Nat.mul_le_mul_left _ hr1
        rw [uf8]
        simp only [lt_t hil, if_true, ua7 hj2, ua7 hif, ua0, show ud9 _ = _ from hq3, ua7 hil, hq4 _ y1]
        rw [← Int.natCast_mul, wrap_i64 (x := ((a * cnt x : Nat) : Int)) (by omega) (by omega), ← Int.natCast_add, wrap_i64 (by omega) (by omega), ua9 hi (by omega), ih (a * cnt x + bef x v.Parts[i]) y2 (by omega), hsum]
    have before : ∀ m k : Nat, k + m = j → ∀ s : Nat, s + cntVs (vs.drop k) ≤ 5000000 → uf8 (.p500 l (ub1 l t) (j : Int) (s : Int) (k : Int) v.Name v.Number v.Parts) = some ((((s + befVs (vs.drop k) v : Nat) : Int), ()), ()) := by
      intro m
      induction m with
      | zero =>
        intro k hk s hs
        obtain rfl : k = j := by omega
        rw [ua8 hj, ec, ue4, ud4] at hs
        rw [uf8]
        simp only [lt_f, Bool.false_eq_true, if_false]
        have := parts s (Nat.zero_le _) 0 (by rw [List.drop_zero, List.drop_zero]; exact z3) (by rw [List.drop_zero]; omega)
        rw [List.drop_zero, List.drop_zero, Nat.zero_mul, Nat.zero_add] at this
        rw [ua8 hj, ec, us7, if_pos e3, uJ6]
        exact this
      | succ m ihm =>
        intro k hk s hs
        have hkj : k < j := by omega
        have hkv : k < vs.length := by omega
        have hkc : k < (ub1 l t).length := by omega
        obtain ⟨qs, eq, hqs⟩ := h.get k hkc hkv
        have hne := e6 k vs[k] hkj (List.getElem?_eq_getElem hkv)
        have hcm := eq ▸ List.getElem_mem hkv
        obtain ⟨_, k2, _⟩ := uh1 hc.nds hc.wid hcm
        rw [ua8 hkv, eq] at hs ⊢
        rw [eq] at hne
        rw [ue4, ud4] at hs
        rw [us7, if_neg hne, ud4]
        rw [uf8]
        simp only [lt_t hkj, if_true, ua7 hkc, ua0, uU8 _ (hc.fs _ (List.getElem_mem hkc)) (hqs.mono fun f p ⟨x, e, h1, h2, h3⟩ => ⟨x, e, h1, h2, h3.1⟩) (show roomP qs ≤ 16 by omega)]
        rw [← Int.natCast_add, wrap_i64 (by omega) (by omega), ua9 hkj (by omega), ihm (k + 1) (by omega) (s + cntP qs) (by omega), Nat.add_assoc]
    have := before j 0 (by omega) 0 (by rw [List.drop_zero]; omega)
    rw [List.drop_zero, Nat.zero_add] at this
    exact this
theorem vw8 {l : List ua2} (hv : uj3 l) {Q : ua3 → ua5 → Prop} (hb : ∀ t p, t.Kind = 1 → t.Name = sBit → t.Parts = [p] → 1 ≤ p.Value → p.Value ≤ 16 → Q t ⟨p.Value, none⟩)
    (hc : ∀ t vs, ConC l t vs → All2 (VR (fun t x => SOk x ∧ Sm x ∧ Q t x ∧ RW l t x ∧ T3 x)) (ub1 l t) vs → Q t ⟨0, some vs⟩) : ∀ n t x, SR l n t x → Sm x → Q t x
 | 0, t, x, h, _ => h.elim
 | n + 1, t, x, h, hs => by
   rcases h with ⟨hk, hb', p, hp, h1, h2, rfl⟩ | ⟨hk, hb', ht, htr, vs, rfl, hr⟩
   · exact hb t p hk hb' hp h1 h2
   · obtain ⟨⟨m0, m1⟩, m2⟩ := uj2 hv ht htr hk
     have hlen := hr.len
     obtain ⟨s1, s2⟩ := vk8 hs
     refine hc t vs ⟨hk, hb', ht, htr, by omega, by omega, s1, s2, fun c hc => (m2 c hc).1⟩ (hr.withMem.mono fun c v h => ?_)
     obtain ⟨⟨hcm, hvm⟩, ps, rfl, hps⟩ := h
     obtain ⟨_, _, k3⟩ := uh1 s1 s2 hvm
     refine ⟨ps, rfl, hps.withMem.mono fun f p h => ?_⟩
     obtain ⟨⟨hf, hpm⟩, x, rfl, hx⟩ := h
     exact ⟨x, rfl, sok hv hx, k3 x hpm, vw8 hv hb hc n _ _ hx (k3 x hpm), rwid hv n _ _ hx, t3 hv n _ _ hx (k3 x hpm)⟩
theorem wy5 {l : List ua2} (hv : uj3 l) : ∀ n t x, SR l n t x → Sm x → ∀ v, valE x v = 0 → ul0 (.start l t.Kind t.Value t.Name t.Parts v.Name v.Number v.Parts) = some (((pk_ x v : Int), ()), ()) := by
  refine vw8 hv (fun t p hk hb hp h1 h2 => ?_) (fun t vs hc h => ?_)
  · intro v hz
    obtain ⟨_, _, z3, _⟩ := ui7 hz
    rw [ul0, ul1, decide_eq_true (show t.Kind = 1 ∧ t.Name = sBit from ⟨hk, hb⟩), u73]
    simp only [ua0, if_true]
    rw [Int.toNat_of_nonneg z3]
  · intro v hz
    rw [ui8] at hz
    have h3 : AllV (fun x => SOk x ∧ Sm x ∧ T3 x) vs := AllV.of (fun t x hx => ⟨hx.1, hx.2.1, hx.2.2.2.2⟩) hc.fs h
    obtain ⟨b1, b2, _⟩ := t3Vs vs (rooms vs) (Nat.le_refl _) h3 v hz
    obtain ⟨j, c, e1, e2, e3, e4, e5, e6⟩ := vv6 vs v hz
    have hlen := h.len
    have hvl := hc.len
    have hw := hc.wid
    have hnd := hc.nds
    have hj : j < vs.length := (List.getElem?_eq_some_iff.1 e2).1
    have hj2 : j < (ub1 l t).length := by omega
    obtain ⟨ps, ec, hps⟩ := h.get j hj2 hj
    have hcv : c = ⟨(ub1 l t)[j].Name, (ub1 l t)[j].Fields, some ps⟩ := by
      rw [List.getElem?_eq_getElem hj] at e2
      rw [← Option.some.inj e2, ec]
    subst hcv
    obtain ⟨z1, z2, z3⟩ := uu8 e4
    have hpl := hps.len
    have hfl := hc.fs _ (List.getElem_mem hj2)
    have hix : ix (fun c : data_variant => decide (c.name = v.Name)) vs = ix (fun c => decide (c.Name = v.Name)) (ub1 l t) := uP8 v.Name h 0
    have hRW : All2 (VR (RW l)) (ub1 l t) vs := h.mono fun c v h => h.mono fun t x h => h.2.2.2.1
    have hp16 := uc1 (show rooms vs ≤ 16 by omega)
    rw [ul0, ul1, decide_eq_false (fun h => hc.name h.2), uS8, e5]
    rw [e5] at b1 b2
    simp only [ua0, Bool.false_eq_true, if_false, u47 hv hc.kind hc.name hc.ty hc.tree]
    rw [wf8 _ v.Name (by unfold big; omega), ← hix, e1]
    simp only [ua0]
    simp only at b1 b2
    rw [uE4] at b2 ⊢
    have loop : ∀ {i}, i ≤ ps.length → ∀ a : Nat, valP (ps.drop i) (v.Parts.drop i) = 0 → a * 2 ^ roomP (ps.drop i) + pkP (ps.drop i) (v.Parts.drop i) < 65536 → ul0 (.p1012 l (ub1 l t) (j : Int) (a : Int) (i : Int) t.Kind t.Value t.Name t.Parts v.Name v.Number v.Parts) = some ((((j * 2 ^ rooms vs + (a * 2 ^ roomP (ps.drop i) + pkP (ps.drop i) (v.Parts.drop i)) : Nat) : Int), ()), ()) := by
      refine ub0 ps (P := fun i => ∀ a : Nat, valP (ps.drop i) (v.Parts.drop i) = 0 → a * 2 ^ roomP (ps.drop i) + pkP (ps.drop i) (v.Parts.drop i) < 65536 → ul0 (.p1012 l (ub1 l t) (j : Int) (a : Int) (i : Int) t.Kind t.Value t.Name t.Parts v.Name v.Number v.Parts) = some ((((j * 2 ^ rooms vs + (a * 2 ^ roomP (ps.drop i) + pkP (ps.drop i) (v.Parts.drop i)) : Nat) : Int), ()), ())) ?_ ?_
      · intro a _ ha
        rw [List.drop_length, uj1, uZ8, Nat.pow_zero, Nat.mul_one, Nat.add_zero] at ha
        rw [List.drop_length, uj1, uZ8, Nat.pow_zero, Nat.mul_one, Nat.add_zero]
        have hm : j * 2 ^ rooms vs ≤ 16 * 65536 := Nat.mul_le_mul (by omega) hp16
        rw [ul0, z2]
        simp only [lt_f, Bool.false_eq_true, if_false, vY9 hv hc.kind hc.name hc.ty hc.tree hRW (show ndsV vs ≤ 200 by omega), ua0, uC5 (rooms vs) (by omega)]
        rw [← Int.natCast_mul, wrap_i64 (x := ((j * 2 ^ rooms vs : Nat) : Int)) (by omega) (by omega), ← Int.natCast_add, wrap_i64 (by omega) (by omega)]
      · intro i hi ih a hz4 ha
        have hil : i < v.Parts.length := by omega
        have hif : i < (ub1 l t)[j].Fields.length := by omega
        obtain ⟨x, hx, hq1, hq2, hq3, hq4, hq5⟩ := hps.get i hif hi
        rw [ua8 hi, ua8 hil, hx] at hz4 ha ⊢
        obtain ⟨y1, y2⟩ := uu7 hz4
        rw [uc4, uE3, Nat.pow_add] at ha ⊢
        have hpx := (hq5 _ y1).1
        have hwx := hq2.2
        have hpr := ue5 (roomP (ps.drop (i + 1)))
        have hsum : a * (2 ^ wid x * 2 ^ roomP (ps.drop (i + 1))) + (pk_ x v.Parts[i] * 2 ^ roomP (ps.drop (i + 1)) + pkP (ps.drop (i + 1)) (v.Parts.drop (i + 1))) = (a * 2 ^ wid x + pk_ x v.Parts[i]) * 2 ^ roomP (ps.drop (i + 1)) + pkP (ps.drop (i + 1)) (v.Parts.drop (i + 1)) := by
          rw [Nat.add_mul, Nat.mul_assoc, Nat.add_assoc]
        rw [hsum] at ha ⊢
        have u2 : (a * 2 ^ wid x + pk_ x v.Parts[i]) * 1 ≤ (a * 2 ^ wid x + pk_ x v.Parts[i]) * 2 ^ roomP (ps.drop (i + 1)) := Nat.mul_le_mul_left _ hpr
        rw [ul0]
        simp only [lt_t hil, if_true, ua7 hj2, ua7 hif, ua0, (hq4 hq2.1).2, uC5 (wid x) (by omega), ua7 hil, hq3 _ y1]
        rw [← Int.natCast_mul, wrap_i64 (x := ((a * 2 ^ wid x : Nat) : Int)) (by omega) (by omega), ← Int.natCast_add, wrap_i64 (by omega) (by omega), ua9 hi (by omega)]
        exact ih (a * 2 ^ wid x + pk_ x v.Parts[i]) y2 ha
    have := loop (Nat.zero_le _) 0 (by rw [List.drop_zero, List.drop_zero]; exact z3) (by rw [List.drop_zero, List.drop_zero]; omega)
    rw [List.drop_zero, List.drop_zero, Nat.zero_mul, Nat.zero_add] at this
    exact this
theorem vZ1 : uf1 (.start (⟨#[]⟩ : ByteArray) 0 [] (⟨#[]⟩ : ByteArray) 0 []) = some ((true, ()), ()) := wg0 ⟨uf0, 0, []⟩ (by decide)
theorem vO3 {v : DV} (h : ud2 v) : uG1 v := by
  revert h
  refine uO1 (P := fun v => ud2 v → uG1 v) (fun n k ps ih h => ?_) v
  obtain ⟨_, h0, h1, h2, h3⟩ := h
  exact .mk n k ps h2 fun p hp => ih p hp (h3 p hp)
theorem vt3 {l : List ua2} (hl : l.length ≤ 24) (hld : ∀ d ∈ l, uq1 d) {t : ua3} (h0 : ut4 l t = 0) (n k : Int) (v : DV) (a : DV) (e : Int)
    (h : (a, e) = if 0 ≤ n ∧ n < pw (wid (exT l 40 t 0).2.2 : Int) then (match upk (exT l 40 t 0).2.2 n.toNat with | some v => (v, (0 : Int)) | none => ((⟨uf0, 0, []⟩ : DV), (3 : Int))) else ((⟨uf0, 0, []⟩ : DV), (2 : Int))) :
    um1 (.p4095 l e t.Kind t.Value t.Name t.Parts v.Name v.Number v.Parts n a.Name a.Number a.Parts) = some ((true, ()), ()) := by
  have hop := uq3 hld h0
  have h16 := hop.w16
  have hsm : Sm (exT l 40 t 0).2.2 := ⟨hop.nds, hop.w16⟩
  rw [um1, (rwid hop.valid 40 t _ hop.sr hop.nds).2]
  simp only [ua0, wq1 n _ h16]
  by_cases hb : 0 ≤ n ∧ n < pw (wid (exT l 40 t 0).2.2 : Int)
  · rw [if_pos hb] at h
    rw [uC4] at hb
    rw [decide_eq_true (show 0 ≤ n ∧ n ≤ ((2 ^ wid (exT l 40 t 0).2.2 : Nat) : Int) - 1 by omega)]
    obtain ⟨r, e1, e2, e3⟩ := rUp hop n.toNat (by omega)
    rw [Int.toNat_of_nonneg hb.1] at e1
    simp only [Bool.not_true, Bool.false_eq_true, if_false, e1, ua0]
    cases hu : upk (exT l 40 t 0).2.2 n.toNat with
    | none =>
      rw [hu] at h e2
      obtain ⟨rfl, rfl⟩ := Prod.mk.inj h
      rw [e2]
      simp only [Option.isSome_none, Bool.not_false, if_true, beq_self_eq_true, vZ1, ua0]
    | some w =>
      rw [hu] at h e2
      obtain ⟨rfl, rfl⟩ := Prod.mk.inj h
      have hz := (t4 hop.valid 40 t _ hop.sr hsm _ a (by omega) hu).1
      have hsz := (of_decide_eq_true (uS7 hop hz)).1
      rw [e2, e3 a hu]
      simp only [Option.isSome_some, Bool.not_true, Bool.false_eq_true, if_false, beq_self_eq_true, if_true, wg0 a (show vsz a ≤ 1000000 by omega), ua0]
  · rw [if_neg hb] at h
    rw [uC4] at hb
    obtain ⟨rfl, rfl⟩ := Prod.mk.inj h
    rw [decide_eq_false (show ¬ (0 ≤ n ∧ n ≤ ((2 ^ wid (exT l 40 t 0).2.2 : Nat) : Int) - 1) by omega)]
    simp only [Bool.not_false, if_true, beq_self_eq_true, vZ1, ua0]
theorem vD4 {l : List ua2} (hl : l.length ≤ 24) (hld : ∀ d ∈ l, uq1 d) {t : ua3} (h0 : ut4 l t = 0) (n : Int) (v : DV) (a b : DV) (e f : Int)
    (h : (a, e) = if 0 ≤ n ∧ n < pw (wid (exT l 40 t 0).2.2 : Int) then (match upk (exT l 40 t 0).2.2 n.toNat with | some v => (v, (0 : Int)) | none => ((⟨uf0, 0, []⟩ : DV), (3 : Int))) else ((⟨uf0, 0, []⟩ : DV), (2 : Int)))
    (g : (b, f) = if 0 ≤ n ∧ n < (cnt (exT l 40 t 0).2.2 : Int) then (atV (exT l 40 t 0).2.2 n.toNat, (0 : Int)) else ((⟨uf0, 0, []⟩ : DV), (6 : Int))) :
    um1 (.p2047 l f e t.Kind t.Value t.Name t.Parts v.Name v.Number v.Parts n b.Name b.Number b.Parts a.Name a.Number a.Parts) = some ((true, ()), ()) := by
  have hop := uq3 hld h0
  have hsm : Sm (exT l 40 t 0).2.2 := ⟨hop.nds, hop.w16⟩
  have hso := sok hop.valid hop.sr
  have hcb := uc0 _ hso
  have hp := uc1 hop.w16
  have hc2 := hcb.2
  have hlast := vt3 hl hld h0 n 0 v a e h
  rw [um1, show ud9 _ = _ from vM1 hop.valid 40 t _ hop.sr hsm]
  simp only [ua0, u23]
  rw [wrap_i64 (by omega) (by omega)]
  by_cases hb : 0 ≤ n ∧ n < (cnt (exT l 40 t 0).2.2 : Int)
  · rw [if_pos hb] at g
    obtain ⟨rfl, rfl⟩ := Prod.mk.inj g
    have hz := (t1 hop.valid 40 t _ hop.sr hsm n.toNat (by omega)).1
    have hsz := (of_decide_eq_true (uS7 hop hz)).1
    have := rAt hop n.toNat (by omega)
    rw [Int.toNat_of_nonneg hb.1] at this
    rw [decide_eq_true (show 0 ≤ n ∧ n ≤ (cnt (exT l 40 t 0).2.2 : Int) - 1 by omega)]
    simp only [Bool.not_true, Bool.false_eq_true, if_false, bne_self_eq_false, this, ua0, wg0 _ (show vsz (atV (exT l 40 t 0).2.2 n.toNat) ≤ 1000000 by omega)]
    exact hlast
  · rw [if_neg hb] at g
    obtain ⟨rfl, rfl⟩ := Prod.mk.inj g
    rw [decide_eq_false (show ¬ (0 ≤ n ∧ n ≤ (cnt (exT l 40 t 0).2.2 : Int) - 1) by omega)]
    simp only [Bool.not_false, if_true, bne_self_eq_false, Bool.false_eq_true, if_false, vZ1, ua0, Bool.not_true]
    exact hlast
theorem vt4 (a0 : List ua2) (a1 : ua3) (v : DV) (n : Int) (hd : DHyp a0) (ht : ue9 a1) (hv : ud2 v) : um1 (.start a0 a1.Kind a1.Value a1.Name a1.Parts v.Name v.Number v.Parts n) = some ((true, ()), ()) := by
  rw [um1, vF2]
  simp only [ua0, Bool.not_true, Bool.false_eq_true, if_false]
  obtain ⟨b, hb, hb2⟩ := wq5 a0
  rw [hb]
  simp only [ua0]
  cases b with
  | false => rfl
  | true =>
    obtain ⟨hl, hld⟩ := hb2 rfl
    have hok := vI0 hd hld
    have htl := vX5 ht
    have hvl := vO3 hv
    simp only [Bool.not_true, Bool.false_eq_true, if_false, ua0, vM0 a0 hl hld, we0 hl hok htl hvl, vX9 hl hok htl hvl, wx1 hl hok htl hvl, vY0 hl hok htl, wy0 hl hok htl]
    by_cases h0 : ut4 a0 a1 = 0
    · have hop := uq3 hld h0
      have hsm : Sm (exT a0 40 a1 0).2.2 := ⟨hop.nds, hop.w16⟩
      have hve : vErr a0 a1 v = if uT7 v = true then valE (exT a0 40 a1 0).2.2 v else 8 := by unfold vErr; rw [if_pos h0]
      obtain ⟨⟨a, e⟩, hae⟩ : ∃ p : DV × Int, p = if 0 ≤ n ∧ n < pw (wid (exT a0 40 a1 0).2.2 : Int) then (match upk (exT a0 40 a1 0).2.2 n.toNat with | some v => (v, (0 : Int)) | none => ((⟨uf0, 0, []⟩ : DV), (3 : Int))) else ((⟨uf0, 0, []⟩ : DV), (2 : Int)) := ⟨_, rfl⟩
      obtain ⟨⟨w, f⟩, hwf⟩ : ∃ p : DV × Int, p = if 0 ≤ n ∧ n < (cnt (exT a0 40 a1 0).2.2 : Int) then (atV (exT a0 40 a1 0).2.2 n.toNat, (0 : Int)) else ((⟨uf0, 0, []⟩ : DV), (6 : Int)) := ⟨_, rfl⟩
      have hmid := vD4 hl hld h0 n v a w e f hae hwf
      have q1 : uC8 (.start a0 a1.Kind a1.Value a1.Name a1.Parts n) = some (((a.Name, (a.Number, (a.Parts, ()))), (e, ())), ()) := by
        rw [vK7 hl hok htl n, if_pos h0]
        by_cases hb : 0 ≤ n ∧ n < pw (wid (exT a0 40 a1 0).2.2 : Int)
        · rw [if_pos hb] at hae ⊢
          cases hu : upk (exT a0 40 a1 0).2.2 n.toNat with
          | none => rw [hu] at hae; obtain ⟨rfl, rfl⟩ := Prod.mk.inj hae; rfl
          | some u => rw [hu] at hae; obtain ⟨rfl, rfl⟩ := Prod.mk.inj hae; rfl
        · rw [if_neg hb] at hae ⊢
          obtain ⟨rfl, rfl⟩ := Prod.mk.inj hae; rfl
      have q2 : (if 0 ≤ n ∧ n < (cnt (exT a0 40 a1 0).2.2 : Int) then (((atV (exT a0 40 a1 0).2.2 n.toNat).Name, ((atV (exT a0 40 a1 0).2.2 n.toNat).Number, ((atV (exT a0 40 a1 0).2.2 n.toNat).Parts, ()))), ((0 : Int), ())) else ((uf0, ((0 : Int), ([], ()))), ((6 : Int), ()))) = ((w.Name, (w.Number, (w.Parts, ()))), (f, ())) := by
        by_cases hb : 0 ≤ n ∧ n < (cnt (exT a0 40 a1 0).2.2 : Int)
        · rw [if_pos hb] at hwf ⊢
          obtain ⟨rfl, rfl⟩ := Prod.mk.inj hwf; rfl
        · rw [if_neg hb] at hwf ⊢
          obtain ⟨rfl, rfl⟩ := Prod.mk.inj hwf; rfl
      simp only [q1, if_pos h0, q2, ua0]
      rw [if_neg (by simpa using h0), vL8 hop v, ← hve]
      simp only [ua0]
      by_cases hz : vErr a0 a1 v = 0
      · obtain ⟨_, _, z3⟩ := u35 hz
        simp only [hz, bne_self_eq_false, Bool.false_eq_true, if_false, if_true, (wq4 hop.valid 40 a1 _ hop.sr hsm).2 v z3, ua0, wy5 hop.valid 40 a1 _ hop.sr hsm v z3]
        exact hmid
      · rw [if_pos (by simpa using hz)]
        simp only [if_neg hz, bne_self_eq_false, Bool.false_eq_true, if_false]
        exact hmid
    · have hve : vErr a0 a1 v = ut4 a0 a1 := by unfold vErr; rw [if_neg h0]
      rw [vK7 hl hok htl]
      simp only [ua0]
      rw [if_pos (show (ut4 a0 a1 != 0) = true by simpa using h0)]
      simp only [hve, if_neg h0, ua0, beq_self_eq_true, if_true, vZ1, ua0]
end Go.Proofs.YtaennkkcnhfglaaGreatDoor.Ev.F
