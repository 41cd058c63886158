/- A part of the proof. -/
import Derived.Test.YtaennkkcnhfglaaGreatDoorOPA
import Derived.Test.YtaennkkcnhfglaaGreatDoorOPA
set_option linter.unusedVariables false
set_option linter.unusedSimpArgs false
set_option linter.unnecessarySimpa false
namespace Go.Proofs.YtaennkkcnhfglaaGreatDoor.Ev.F
open Go.Proofs.YtaennkkcnhfglaaGreatDoor.Ev
abbrev Ex : Type := Int × Nat × ua4
def ud3 (f : ua1 → Nat → Ex) : List ua6 → Nat → Int × Nat × List (Option ua4)
 | [], c => (0, c, [])
 | x :: r, c => if (f x.Type_ c).1 = 0 then ((ud3 f r (f x.Type_ c).2.1).1, (ud3 f r (f x.Type_ c).2.1).2.1, some (f x.Type_ c).2.2 :: (ud3 f r (f x.Type_ c).2.1).2.2) else ((f x.Type_ c).1, 0, [])
def uf6 (f : ua1 → Nat → Ex) : List ua2 → Nat → Int × Nat × List data_variant
 | [], c => (0, c, [])
 | x :: r, c => if (ud3 f x.Fields c).1 = 0 then ((uf6 f r (ud3 f x.Fields c).2.1).1, (uf6 f r (ud3 f x.Fields c).2.1).2.1, ⟨x.Name, x.Fields, some (ud3 f x.Fields c).2.2⟩ :: (uf6 f r (ud3 f x.Fields c).2.1).2.2) else ((ud3 f x.Fields c).1, 0, [])
def junk : ua4 := ⟨0, none⟩
def exS (l : List ua3) (deep : Bool) (f : ua1 → Nat → Ex) (t : ua1) (c : Nat) : Ex :=
  if tree t = true then
    if t.Kind = 2 then (26, 0, junk)
    else if t.Name = sBit then
      match t.Parts with
      | p :: _ => (ug4 [if p.Kind = 2 then 0 else 26, if 1 ≤ p.Value ∧ p.Value ≤ 16 then 0 else 25, if c + 1 ≤ 200 ∧ deep = true then 0 else 8], c + 1, ⟨p.Value, none⟩)
      | [] => (0, 0, junk)
    else if c + 1 ≤ 200 ∧ deep = true then ((uf6 f (ub9 l t) (c + 1)).1, (uf6 f (ub9 l t) (c + 1)).2.1, ⟨0, some (uf6 f (ub9 l t) (c + 1)).2.2⟩)
    else (8, 0, junk)
  else (8, 0, junk)
def exT (l : List ua3) : Nat → ua1 → Nat → Ex
 | 0 => exS l false fun _ _ => (8, 0, junk)
 | n + 1 => exS l true (exT l n)
structure Ty (l : List ua3) (t : ua1) : Prop where
  sz : tsz t ≤ 1000000
  ok : up5 l [] t = 0
theorem Ty.kind {l : List ua3} {t : ua1} (h : Ty l t) : t.Kind = 1 ∨ t.Kind = 2 := by
  obtain ⟨k, v, s, ts⟩ := t
  have := (uD5.1 h.ok).1
  unfold uz5 at this
  by_cases h0 : k = 0
  · rw [if_pos h0] at this; cases this
  · by_cases h1 : k = 1
    · exact .inl h1
    · by_cases h2 : k = 2
      · exact .inr h2
      · rw [if_neg h0, if_neg h1, if_neg h2] at this; cases this
theorem Ty.con {l : List ua3} (hp : ug6 l) {t : ua1} (h : Ty l t) (hk : t.Kind = 1) : (t.Name = sBit → ∃ p, t.Parts = [p]) ∧ (∀ d, dat l t.Name = some d → d.Params.length = t.Parts.length) ∧ (t.Name ≠ sBit → t.Name ≠ uE9 → dat l t.Name ≠ none) ∧ ∀ p ∈ t.Parts, up5 l [] p = 0 := by
  obtain ⟨k, v, s, ts⟩ := t
  obtain ⟨h1, h2, _, h4⟩ := uD5.1 h.ok
  simp only at hk ⊢
  subst hk
  unfold uz5 at h1 h2
  rw [if_neg (by decide), if_pos rfl] at h1 h2
  refine ⟨fun e => ?_, fun d hd => ?_, fun e1 e2 hn => ?_, h4⟩
  · rw [uD1 hp (.inl e)] at h2
    simp only at h2
    rw [if_pos e] at h2
    match ts, h2 with
    | [p], _ => exact ⟨p, rfl⟩
    | [], h => simp at h
    | _ :: _ :: _, h => simp at h; omega
  · rw [hd] at h2
    simp only at h2
    omega
  · rw [hn] at h1
    simp only at h1
    rw [if_neg e1, if_neg e2] at h1
    cases h1
theorem uN0 {t p : ua1} (h : p ∈ t.Parts) : tsz p ≤ tsz t := by
  obtain ⟨k, v, s, ts⟩ := t
  have hts : tsz ⟨k, v, s, ts⟩ = 1 + tszs ts := by rw [tsz]
  have := uQ7 h
  simp only at this
  omega
theorem ul9 {l : List ua3} (hv : uq2 l) {t : ua1} (h : Ty l t) (ht : tree t = true) (hk : t.Kind = 1) : (0 < (ub9 l t).length ∧ (ub9 l t).length ≤ 16) ∧ ∀ c ∈ ub9 l t, c.Fields.length ≤ 8 ∧ ∀ f ∈ c.Fields, Ty l f.Type_ := by
  have hc := h.con hv.plain hk
  unfold ub9
  cases hd : dat l t.Name with
  | none => exact ⟨by simp, fun c hc => by simp at hc; rcases hc with rfl | rfl <;> exact ⟨by simp, fun f hf => by cases hf⟩⟩
  | some d =>
    obtain ⟨hm, _⟩ := uW6 hd
    obtain ⟨h1, h2, _⟩ := hv.cons d hm
    refine ⟨by simp only [List.length_map]; exact ⟨h1, h2⟩, fun c hcm => ?_⟩
    obtain ⟨c0, hc0, rfl⟩ := List.mem_map.1 hcm
    obtain ⟨l0, hb, hf0⟩ := hv.fields d hm
    obtain ⟨m1, m2⟩ := hf0 c0 hc0
    refine ⟨by simp only [List.length_map]; exact m1, fun f hf => ?_⟩
    obtain ⟨f0, hf0, rfl⟩ := List.mem_map.1 hf
    obtain ⟨e1, e2⟩ := m2 f0 hf0
    have s1 := up9 e1
    have s2 := up9 ht
    have hsz := wo2 (ps := d.Params) (args := t.Parts) (M := 200) (by decide) (fun a ha => by have := uN0 ha; omega) f0.Type_
    refine ⟨?_, vK2 hb hv.plain (hc.2.1 d hd) hc.2.2.2 _ e2⟩
    have : tsz f0.Type_ * 200 ≤ 200 * 200 := Nat.mul_le_mul_right _ s1.1
    show tsz (rep d.Params t.Parts f0.Type_) ≤ 1000000
    omega
def vB4 (l : List ua3) (deep : Int) (f : ua1 → Nat → Ex) : Prop := ∀ t c, Ty l t → c ≤ 200 → ((f t c).1 = 0 → (f t c).2.1 ≤ 200) ∧ ∃ o c'', uc4 (.start l [] t.Kind t.Value t.Name t.Parts deep (c : Int)) = some ((o, ((f t c).1, ())), ((c'', ()), ())) ∧ ((f t c).1 = 0 → o = some (f t c).2.2 ∧ c'' = ((f t c).2.1 : Int))
theorem wn4 {l : List ua3} {deep : Nat} (hdeep : deep ≤ 100) {f : ua1 → Nat → Ex} (hf : vB4 l ((deep + 1 : Nat) : Int) f) (B : List data_variant) (i n : Nat) (hi : i < B.length) (fs : List ua6) (hl : fs.length ≤ 12) (hok : ∀ x ∈ fs, Ty l x.Type_) :
    ∀ {k}, k ≤ fs.length → ∀ (c : Nat) (acc : List (Option ua4)), c ≤ 200 → acc.length = k → ((ud3 f (fs.drop k) c).1 = 0 → (ud3 f (fs.drop k) c).2.1 ≤ 200) ∧
      ((ud3 f (fs.drop k) c).1 ≠ 0 → ∃ c'', uc4 (.p4188572 (deep : Int) (i : Int) (n : Int) (i : Int) fs (List.length fs : Int) (k : Int) (c : Int) l [] 0 (B, i) acc) = some ((none, ((ud3 f (fs.drop k) c).1, ())), ((c'', ()), ()))) ∧
      ((ud3 f (fs.drop k) c).1 = 0 → uc4 (.p4188572 (deep : Int) (i : Int) (n : Int) (i : Int) fs (List.length fs : Int) (k : Int) (c : Int) l [] 0 (B, i) acc) = uc4 (.p8180 (deep : Int) (n : Int) (IntKind.wrap .i64 ((i : Int) + 1)) ((ud3 f (fs.drop k) c).2.1 : Int) l [] 0 (B.modify i fun y => ⟨y.name, y.fields, some (acc ++ (ud3 f (fs.drop k) c).2.2)⟩))) := by
  refine ub0 fs (P := fun k => ∀ (c : Nat) (acc : List (Option ua4)), c ≤ 200 → acc.length = k → ((ud3 f (fs.drop k) c).1 = 0 → (ud3 f (fs.drop k) c).2.1 ≤ 200) ∧
      ((ud3 f (fs.drop k) c).1 ≠ 0 → ∃ c'', uc4 (.p4188572 (deep : Int) (i : Int) (n : Int) (i : Int) fs (List.length fs : Int) (k : Int) (c : Int) l [] 0 (B, i) acc) = some ((none, ((ud3 f (fs.drop k) c).1, ())), ((c'', ()), ()))) ∧
      ((ud3 f (fs.drop k) c).1 = 0 → uc4 (.p4188572 (deep : Int) (i : Int) (n : Int) (i : Int) fs (List.length fs : Int) (k : Int) (c : Int) l [] 0 (B, i) acc) = uc4 (.p8180 (deep : Int) (n : Int) (IntKind.wrap .i64 ((i : Int) + 1)) ((ud3 f (fs.drop k) c).2.1 : Int) l [] 0 (B.modify i fun y => ⟨y.name, y.fields, some (acc ++ (ud3 f (fs.drop k) c).2.2)⟩)))) ?_ ?_
  · intro c acc hc _
    rw [List.drop_length]
    refine ⟨fun _ => hc, fun h => absurd rfl h, fun _ => ?_⟩
    conv => lhs; rw [uc4]
    simp only [lt_f, Bool.false_eq_true, if_false, ud3, List.append_nil]
  · intro k hk ih c acc hc hacc
    rw [ua8 hk]
    obtain ⟨g0, o, c'', e1, e2⟩ := hf fs[k].Type_ c (hok _ (List.getElem_mem hk)) hc
    have hw : IntKind.wrap .i64 ((deep : Int) + 1) = ((deep + 1 : Nat) : Int) := ui5 (by omega)
    have hstep : uc4 (.p4188572 (deep : Int) (i : Int) (n : Int) (i : Int) fs (List.length fs : Int) (k : Int) (c : Int) l [] 0 (B, i) acc) = if ((f fs[k].Type_ c).1 != (0 : Int)) = true then some ((none, ((f fs[k].Type_ c).1, ())), ((c'', ()), ())) else uc4 (.p4188572 (deep : Int) (i : Int) (n : Int) (i : Int) fs (List.length fs : Int) ((k + 1 : Nat) : Int) c'' l [] 0 (B, i) (acc ++ [o])) := by
      conv => lhs; rw [uc4]
      simp only [lt_t hk, if_true, ua9 hk, ua0, hw, e1, List.getElem?_eq_getElem hi]
      rw [if_pos (ug1 (by simp only [List.length_cons, List.length_nil]; omega)), ua7 hk (by omega)]
    by_cases h0 : (f fs[k].Type_ c).1 = 0
    · obtain ⟨e3, e4⟩ := e2 h0
      rw [if_neg (by rw [h0]; decide), e3, e4] at hstep
      obtain ⟨i1, i2, i3⟩ := ih (f fs[k].Type_ c).2.1 (acc ++ [some (f fs[k].Type_ c).2.2]) (g0 h0) (by rw [List.length_append, hacc]; rfl)
      rw [hstep]
      simp only [ud3, if_pos h0]
      refine ⟨i1, i2, fun h => ?_⟩
      rw [i3 h, List.append_assoc]
      rfl
    · rw [if_pos (by simpa using h0)] at hstep
      rw [hstep]
      simp only [ud3, if_neg h0]
      exact ⟨fun h => absurd h h0, fun _ => ⟨c'', rfl⟩, fun h => absurd h h0⟩
theorem uJ7 {α : Type} (f : α → α) : ∀ (a : List α) (x : α) (b : List α), (a ++ x :: b).modify a.length f = a ++ f x :: b
 | [], x, b => by simp
 | y :: a, x, b => by simp [uJ7 f a x b]
theorem v16 {l : List ua3} {deep : Nat} (hdeep : deep ≤ 100) {f : ua1 → Nat → Ex} (hf : vB4 l ((deep + 1 : Nat) : Int) f) (n : Nat) : ∀ (cs : List ua2) (vs : List data_variant) (c : Nat), n = vs.length + cs.length → n ≤ 20 → (∀ x ∈ cs, x.Fields.length ≤ 8 ∧ ∀ y ∈ x.Fields, Ty l y.Type_) → c ≤ 200 → ((uf6 f cs c).1 = 0 → (uf6 f cs c).2.1 ≤ 200) ∧
    ∃ o c'', uc4 (.p8180 (deep : Int) (n : Int) (vs.length : Int) (c : Int) l [] 0 (vs ++ cs.map rawV)) = some ((o, ((uf6 f cs c).1, ())), ((c'', ()), ())) ∧ ((uf6 f cs c).1 = 0 → o = some ⟨0, some (vs ++ (uf6 f cs c).2.2)⟩ ∧ c'' = ((uf6 f cs c).2.1 : Int))
 | [], vs, c, hn, _, _, hc => by
   refine ⟨fun _ => hc, some ⟨0, some vs⟩, (c : Int), ?_, fun _ => ⟨by simp [uf6], rfl⟩⟩
   rw [uc4]
   obtain rfl : n = vs.length := by simpa using hn
   simp only [lt_f, Bool.false_eq_true, if_false, List.map_nil, List.append_nil, uf6]
 | x :: r, vs, c, hn, h20, hok, hc => by
   obtain ⟨x1, x2⟩ := hok x (List.mem_cons_self ..)
   have hlt : vs.length < n := by rw [hn, List.length_cons]; omega
   have hB : vs.length < (vs ++ (x :: r).map rawV).length := by simp
   have hget : (vs ++ (x :: r).map rawV)[vs.length]? = some (rawV x) := by simp
   have hget' : (vs ++ (x :: r).map rawV)[vs.length] = rawV x := Option.some.inj ((List.getElem?_eq_getElem hB).symm.trans hget)
   have hstep : uc4 (.p8180 (deep : Int) (n : Int) (vs.length : Int) (c : Int) l [] 0 (vs ++ (x :: r).map rawV)) = uc4 (.p4188572 (deep : Int) (vs.length : Int) (n : Int) (vs.length : Int) x.Fields (List.length x.Fields : Int) 0 (c : Int) l [] 0 (vs ++ (x :: r).map rawV, vs.length) []) := by
     conv => lhs; rw [uc4]
     rw [lt_t hlt, if_pos rfl, if_pos (by simp; omega), ua9 hB, hget']
     simp only [ua0]
     rw [if_pos (by rfl), Int.toNat_natCast, hget, if_pos rfl]
     rfl
   obtain ⟨i1, i2, i3⟩ := wn4 hdeep hf (vs ++ (x :: r).map rawV) vs.length n hB x.Fields (by omega) x2 (Nat.zero_le _) c [] hc rfl
   rw [List.drop_zero] at i1 i2 i3
   rw [hstep]
   by_cases h0 : (ud3 f x.Fields c).1 = 0
   · have i3' := i3 h0
     rw [List.map_cons, uJ7, ui5 (by omega), List.nil_append] at i3'
     rw [show ((0 : Nat) : Int) = 0 from rfl] at i3'
     rw [List.map_cons, i3']
     simp only [uf6, if_pos h0]
     have := v16 hdeep hf n r (vs ++ [⟨x.Name, x.Fields, some (ud3 f x.Fields c).2.2⟩]) (ud3 f x.Fields c).2.1 (by rw [hn]; simp only [List.length_append, List.length_cons, List.length_nil]; omega) h20 (fun y hy => hok y (List.mem_cons_of_mem _ hy)) (i1 h0)
     rw [List.length_append, List.append_assoc] at this
     obtain ⟨j1, o, c'', j2, j3⟩ := this
     refine ⟨j1, o, c'', j2, fun h => ⟨?_, (j3 h).2⟩⟩
     rw [(j3 h).1, List.append_assoc]
     rfl
   · obtain ⟨c'', hc''⟩ := i2 h0
     rw [show ((0 : Nat) : Int) = 0 from rfl] at hc''
     simp only [uf6, if_neg h0]
     exact ⟨fun h => absurd h h0, none, c'', hc'', fun h => absurd h h0⟩
theorem wn2 {l : List ua3} (hv : uq2 l) (deep : Nat) (hdeep : deep ≤ 100) {f : ua1 → Nat → Ex} (hf : deep ≤ 40 → vB4 l ((deep + 1 : Nat) : Int) f) : vB4 l (deep : Int) (exS l (decide (deep ≤ 40)) f) := by
  intro t c ht hc
  have hlb : l.length ≤ big := by have := hv.len; unfold big; omega
  have hlen : lenOk t := u62 t (by have := ht.sz; unfold big; omega)
  have hstart : uc4 (.start l [] t.Kind t.Value t.Name t.Parts (deep : Int) (c : Int)) = if tree t = true then uc4 (.p31 (deep : Int) (if c + 1 ≤ 200 ∧ deep ≤ 40 then 0 else 8) ((c + 1 : Nat) : Int) l [] t.Kind t.Value t.Name t.Parts) else some ((none, ((8 : Int), ())), (((c : Int), ()), ())) := by
    conv => lhs; rw [uc4]
    simp only [v18 t hlen, ua0, ui5 (show c ≤ 4611686018427387904 by omega), ux3]
    cases tree t with
    | false => rfl
    | true =>
      rw [if_pos rfl, if_neg (by decide), if_pos rfl]
      by_cases h2 : c + 1 ≤ 200
      · rw [if_pos (by simp; omega)]
        by_cases h4 : deep ≤ 40
        · rw [if_pos (show c + 1 ≤ 200 ∧ deep ≤ 40 from ⟨h2, h4⟩), if_pos (by simp; omega)]
        · rw [if_neg (show ¬ (c + 1 ≤ 200 ∧ deep ≤ 40) from fun h => h4 h.2), if_neg (by simp; omega)]
      · rw [if_neg (show ¬ (c + 1 ≤ 200 ∧ deep ≤ 40) from fun h => h2 h.1), if_neg (by simp; omega), if_neg (by simp)]
  rw [hstart]
  have hdec : (c + 1 ≤ 200 ∧ decide (deep ≤ 40) = true) ↔ (c + 1 ≤ 200 ∧ deep ≤ 40) := by simp
  cases htr : tree t with
  | false =>
    have e : exS l (decide (deep ≤ 40)) f t c = (8, 0, junk) := by unfold exS; rw [htr]; rfl
    rw [e]
    exact ⟨fun h => (by cases h), none, (c : Int), rfl, fun h => (by cases h)⟩
  | true =>
    rw [if_pos rfl, uc4]
    by_cases hk2 : t.Kind = 2
    · have e : exS l (decide (deep ≤ 40)) f t c = (26, 0, junk) := by unfold exS; rw [htr, if_pos rfl, if_pos hk2]
      rw [e, if_pos (by simpa using hk2)]
      exact ⟨fun h => (by cases h), none, _, rfl, fun h => (by cases h)⟩
    · have hk1 : t.Kind = 1 := ht.kind.resolve_right hk2
      obtain ⟨hc1, hc2, hc3, hc4⟩ := ht.con hv.plain hk1
      rw [if_neg (by simpa using hk2)]
      simp only [uh1]
      by_cases hb : t.Name = sBit
      · obtain ⟨p, hp⟩ := hc1 hb
        have e : exS l (decide (deep ≤ 40)) f t c = (ug4 [if p.Kind = 2 then 0 else 26, if 1 ≤ p.Value ∧ p.Value ≤ 16 then 0 else 25, if c + 1 ≤ 200 ∧ deep ≤ 40 then 0 else 8], c + 1, ⟨p.Value, none⟩) := by
          unfold exS
          rw [htr, if_pos rfl, if_neg hk2, if_pos hb, hp]
          simp only [hdec]
        have hbt : decide (t.Name = sBit) = true := by simpa using hb
        rw [e, if_pos hbt, hp]
        simp only [show idx [p] (0 : Int) = some p from rfl, ua0, ux3, uG6]
        rw [uK1 _ (by simp [big])]
        simp only [ua0]
        have e1 : (if (p.Kind == (2 : Int)) = true then (0 : Int) else 26) = if p.Kind = 2 then 0 else 26 := by
          by_cases h : p.Kind = 2 <;> simp [h]
        have e2 : (if decide (1 ≤ p.Value ∧ p.Value ≤ 16) = true then (0 : Int) else 25) = if 1 ≤ p.Value ∧ p.Value ≤ 16 then 0 else 25 := by
          by_cases h : 1 ≤ p.Value ∧ p.Value ≤ 16
          · rw [decide_eq_true h, if_pos rfl, if_pos h]
          · rw [decide_eq_false h, if_neg (by simp), if_neg h]
        rw [e1, e2]
        refine ⟨fun h => ?_, _, _, rfl, fun _ => ⟨rfl, rfl⟩⟩
        have h3 := (uc7 (uc7 (uc7 h).2).2).1
        by_cases hh : c + 1 ≤ 200 ∧ deep ≤ 40
        · exact hh.1
        · rw [if_neg hh] at h3; cases h3
      · rw [if_neg (by simpa using hb)]
        by_cases hh : c + 1 ≤ 200 ∧ deep ≤ 40
        · have e : exS l (decide (deep ≤ 40)) f t c = ((uf6 f (ub9 l t) (c + 1)).1, (uf6 f (ub9 l t) (c + 1)).2.1, ⟨0, some (uf6 f (ub9 l t) (c + 1)).2.2⟩) := by
            unfold exS
            rw [htr, if_pos rfl, if_neg hk2, if_neg hb, if_pos (hdec.2 hh)]
          rw [e, if_pos hh, if_neg (by decide)]
          have hs := up9 htr
          rw [wc5 hlb hv.light t.Kind t.Value t.Name t.Parts hc2 (fun a ha => by have := uN0 ha; omega), ur0]
          simp only [ua0, List.length_map]
          obtain ⟨⟨_, m1⟩, m2⟩ := ul9 hv ht htr hk1
          have := v16 hdeep (hf hh.2) (ub9 l t).length (ub9 l t) [] (c + 1) (by simp) (by omega) m2 hh.1
          simp only [List.length_nil, List.nil_append] at this
          exact this
        · have e : exS l (decide (deep ≤ 40)) f t c = (8, 0, junk) := by
            unfold exS
            rw [htr, if_pos rfl, if_neg hk2, if_neg hb, if_neg (fun h => hh (hdec.1 h))]
          rw [e, if_neg hh, if_pos (by decide)]
          exact ⟨fun h => (by cases h), none, _, rfl, fun h => (by cases h)⟩
theorem wn3 {l : List ua3} (hv : uq2 l) : ∀ n, n ≤ 40 → vB4 l ((41 - n : Nat) : Int) (exT l n)
 | 0, _ => by
   have := wn2 hv 41 (by omega) (f := fun _ _ => (8, 0, junk)) (fun h => by omega)
   exact this
 | n + 1, h => by
   have := wn2 hv (41 - (n + 1)) (by omega) (f := exT l n) (fun _ => by rw [show 41 - (n + 1) + 1 = 41 - n by omega]; exact wn3 hv n (by omega))
   rw [decide_eq_true (by omega)] at this
   exact this
end Go.Proofs.YtaennkkcnhfglaaGreatDoor.Ev.F
namespace Go.Proofs.YtaennkkcnhfglaaGreatDoor.Ev.F
open Go.Proofs.YtaennkkcnhfglaaGreatDoor.Ev
def ExpR (l : List ua3) (depth : Nat) (f : ua1 → Nat → Ex) : Prop := ∀ (t : ua1) (c : Nat), Ty l t → c ≤ 200 → ∃ c'', ub7 (.start l t.Kind t.Value t.Name t.Parts (c : Int) 0 (depth : Int)) = some (((c'', ((f t c).1, ((depth : Int), ()))), ()), ()) ∧ ((f t c).1 = 0 → c'' = ((f t c).2.1 : Int) ∧ (f t c).2.1 ≤ 200)
theorem uS0 (t : ua1) : uB5 (.start t.Kind t.Value t.Name t.Parts) = some ((decide (t.Kind = 1 ∧ t.Name = sBit), ()), ()) := by
  rw [uB5]
  by_cases h : t.Kind = 1
  · rw [if_pos (by simpa using h), uh1]
    by_cases h2 : t.Name = sBit <;> simp [h, h2]
  · rw [if_neg (by simpa using h)]
    simp [h]
theorem vb7 (n : Int) : uQ4 (.start n) = some ((decide (1 ≤ n ∧ n ≤ 16), ()), ()) := by
  rw [uQ4, u09]
  simp only [ua0]
theorem wo6 {l : List ua3} {d : Nat} (hd : d ≤ 100) {f : ua1 → Nat → Ex} (hf : ExpR l (d + 1) f) (all : List ua2) (hal : all.length ≤ 20) (i : Nat) (hi : i < all.length) (b0 b1 b2 : Int) (hl : all[i].Fields.length ≤ 12) (hok : ∀ x ∈ all[i].Fields, Ty l x.Type_) :
    ∀ {k}, k ≤ all[i].Fields.length → ∀ (c : Nat), c ≤ 200 → ((ud3 f (all[i].Fields.drop k) c).1 = 0 → (ud3 f (all[i].Fields.drop k) c).2.1 ≤ 200) ∧
      ((ud3 f (all[i].Fields.drop k) c).1 ≠ 0 → ∃ c'', ub7 (.p523556 l all (i : Int) (k : Int) b0 b1 b2 (c : Int) 0 (d : Int)) = some (((c'', ((ud3 f (all[i].Fields.drop k) c).1, ((d : Int), ()))), ()), ())) ∧
      ((ud3 f (all[i].Fields.drop k) c).1 = 0 → ub7 (.p523556 l all (i : Int) (k : Int) b0 b1 b2 (c : Int) 0 (d : Int)) = ub7 (.p8180 l all ((i + 1 : Nat) : Int) b0 b1 b2 ((ud3 f (all[i].Fields.drop k) c).2.1 : Int) 0 (d : Int))) := by
  refine ub0 all[i].Fields (P := fun k => ∀ (c : Nat), c ≤ 200 → ((ud3 f (all[i].Fields.drop k) c).1 = 0 → (ud3 f (all[i].Fields.drop k) c).2.1 ≤ 200) ∧
      ((ud3 f (all[i].Fields.drop k) c).1 ≠ 0 → ∃ c'', ub7 (.p523556 l all (i : Int) (k : Int) b0 b1 b2 (c : Int) 0 (d : Int)) = some (((c'', ((ud3 f (all[i].Fields.drop k) c).1, ((d : Int), ()))), ()), ())) ∧
      ((ud3 f (all[i].Fields.drop k) c).1 = 0 → ub7 (.p523556 l all (i : Int) (k : Int) b0 b1 b2 (c : Int) 0 (d : Int)) = ub7 (.p8180 l all ((i + 1 : Nat) : Int) b0 b1 b2 ((ud3 f (all[i].Fields.drop k) c).2.1 : Int) 0 (d : Int)))) ?_ ?_
  · intro c hc
    rw [List.drop_length]
    refine ⟨fun _ => hc, fun h => absurd rfl h, fun _ => ?_⟩
    conv => lhs; rw [ub7]
    simp only [ua9 hi, ua0, lt_f, Bool.false_eq_true, if_false, ud3]
    rw [ua7 hi (by omega)]
  · intro k hk ih c hc
    rw [ua8 hk]
    obtain ⟨c'', e1, e2⟩ := hf all[i].Fields[k].Type_ c (hok _ (List.getElem_mem hk)) hc
    have hstep : ub7 (.p523556 l all (i : Int) (k : Int) b0 b1 b2 (c : Int) 0 (d : Int)) = if ((f all[i].Fields[k].Type_ c).1 != (0 : Int)) = true then some (((c'', ((f all[i].Fields[k].Type_ c).1, ((d : Int), ()))), ()), ()) else ub7 (.p523556 l all (i : Int) ((k + 1 : Nat) : Int) b0 b1 b2 c'' (f all[i].Fields[k].Type_ c).1 (d : Int)) := by
      conv => lhs; rw [ub7]
      simp only [ua9 hi, ua0, lt_t hk, if_true, ua9 hk]
      rw [ui5 (show d ≤ 4611686018427387904 by omega), e1]
      simp only [ua0]
      rw [ua7 hk (by omega)]
    by_cases h0 : (f all[i].Fields[k].Type_ c).1 = 0
    · obtain ⟨e3, e4⟩ := e2 h0
      rw [if_neg (by rw [h0]; decide), e3, h0] at hstep
      obtain ⟨i1, i2, i3⟩ := ih (f all[i].Fields[k].Type_ c).2.1 e4
      rw [hstep]
      simp only [ud3, if_pos h0]
      exact ⟨i1, i2, i3⟩
    · rw [if_pos (by simpa using h0)] at hstep
      rw [hstep]
      simp only [ud3, if_neg h0]
      exact ⟨fun h => absurd h h0, fun _ => ⟨c'', rfl⟩, fun h => absurd h h0⟩
theorem wo5 {l : List ua3} {d : Nat} (hd : d ≤ 100) {f : ua1 → Nat → Ex} (hf : ExpR l (d + 1) f) (all : List ua2) (hal : all.length ≤ 20) (b0 b1 b2 : Int) (hok : ∀ x ∈ all, x.Fields.length ≤ 8 ∧ ∀ y ∈ x.Fields, Ty l y.Type_) :
    ∀ {i}, i ≤ all.length → ∀ c : Nat, c ≤ 200 → ∃ c'', ub7 (.p8180 l all (i : Int) b0 b1 b2 (c : Int) 0 (d : Int)) = some (((c'', ((uf6 f (all.drop i) c).1, ((d : Int), ()))), ()), ()) ∧ ((uf6 f (all.drop i) c).1 = 0 → c'' = ((uf6 f (all.drop i) c).2.1 : Int) ∧ (uf6 f (all.drop i) c).2.1 ≤ 200) := by
  refine ub0 all (P := fun i => ∀ c : Nat, c ≤ 200 → ∃ c'', ub7 (.p8180 l all (i : Int) b0 b1 b2 (c : Int) 0 (d : Int)) = some (((c'', ((uf6 f (all.drop i) c).1, ((d : Int), ()))), ()), ()) ∧ ((uf6 f (all.drop i) c).1 = 0 → c'' = ((uf6 f (all.drop i) c).2.1 : Int) ∧ (uf6 f (all.drop i) c).2.1 ≤ 200)) ?_ ?_
  · intro c hc
    rw [List.drop_length]
    refine ⟨(c : Int), ?_, fun _ => ⟨rfl, hc⟩⟩
    rw [ub7]
    simp only [lt_f, Bool.false_eq_true, if_false, uf6]
  · intro i hi ih c hc
    obtain ⟨m1, m2⟩ := hok _ (List.getElem_mem hi)
    obtain ⟨i1, i2, i3⟩ := wo6 hd hf all hal i hi b0 b1 b2 (by omega) m2 (Nat.zero_le _) c hc
    rw [List.drop_zero] at i1 i2 i3
    have hstep : ub7 (.p8180 l all (i : Int) b0 b1 b2 (c : Int) 0 (d : Int)) = ub7 (.p523556 l all (i : Int) ((0 : Nat) : Int) b0 b1 b2 (c : Int) 0 (d : Int)) := by
      conv => lhs; rw [ub7]
      simp only [lt_t hi, if_true]
      rfl
    rw [ua8 hi, hstep]
    by_cases h0 : (ud3 f all[i].Fields c).1 = 0
    · rw [i3 h0]
      simp only [uf6, if_pos h0]
      exact ih _ (i1 h0)
    · obtain ⟨c'', e⟩ := i2 h0
      rw [e]
      simp only [uf6, if_neg h0]
      exact ⟨c'', rfl, fun h => absurd h h0⟩
theorem wo3 {l : List ua3} (hv : uq2 l) (d : Nat) (hd : d ≤ 100) {f : ua1 → Nat → Ex} (hf : d < 40 → ExpR l (d + 1) f) : ExpR l d (exS l (decide (d < 40)) f) := by
  intro t c ht hc
  have hlb : l.length ≤ big := by have := hv.len; unfold big; omega
  have hdec : (c + 1 ≤ 200 ∧ decide (d < 40) = true) ↔ (c + 1 ≤ 200 ∧ d < 40) := by simp
  rw [ub7]
  simp only [we3, ua0, ui5 (show c ≤ 4611686018427387904 by omega)]
  cases htr : tree t with
  | false =>
    have e : exS l (decide (d < 40)) f t c = (8, 0, junk) := by unfold exS; rw [htr]; rfl
    rw [e]
    exact ⟨_, rfl, fun h => (by cases h)⟩
  | true =>
    simp only [Bool.not_true, Bool.false_eq_true, if_false]
    by_cases hk2 : t.Kind = 2
    · have e : exS l (decide (d < 40)) f t c = (26, 0, junk) := by unfold exS; rw [htr, if_pos rfl, if_pos hk2]
      rw [e, if_pos (by simpa using hk2)]
      exact ⟨_, rfl, fun h => (by cases h)⟩
    · have hk1 : t.Kind = 1 := ht.kind.resolve_right hk2
      obtain ⟨hc1, hc2, hc3, hc4⟩ := ht.con hv.plain hk1
      rw [if_neg (by simpa using hk2), uS0]
      simp only [ua0]
      have h63 : ∀ b0 b1 b2 : Int, ub7 (.p63 l t.Kind t.Value t.Name t.Parts b0 b1 b2 ((c + 1 : Nat) : Int) 0 (d : Int)) = if c + 1 ≤ 200 ∧ d < 40 then ub7 (.p127 l t.Kind t.Value t.Name t.Parts b0 b1 b2 ((c + 1 : Nat) : Int) 0 (d : Int)) else some (((((c + 1 : Nat) : Int), ((8 : Int), ((d : Int), ()))), ()), ()) := by
        intro b0 b1 b2
        conv => lhs; rw [ub7]
        by_cases h2 : c + 1 ≤ 200
        · rw [decide_eq_false (by omega), if_neg (by simp)]
          by_cases h4 : d < 40
          · rw [decide_eq_false (by omega), if_neg (by simp), if_pos ⟨h2, h4⟩]
          · rw [decide_eq_true (by omega), if_pos rfl, if_neg (fun h => h4 h.2)]
        · rw [decide_eq_true (by omega), if_pos rfl, if_neg (fun h => h2 h.1)]
      by_cases hb : t.Name = sBit
      · obtain ⟨p, hp⟩ := hc1 hb
        have e : exS l (decide (d < 40)) f t c = (ug4 [if p.Kind = 2 then 0 else 26, if 1 ≤ p.Value ∧ p.Value ≤ 16 then 0 else 25, if c + 1 ≤ 200 ∧ d < 40 then 0 else 8], c + 1, ⟨p.Value, none⟩) := by
          unfold exS
          rw [htr, if_pos rfl, if_neg hk2, if_pos hb, hp]
          simp only [hdec]
        have hbt : decide (t.Kind = 1 ∧ t.Name = sBit) = true := decide_eq_true ⟨hk1, hb⟩
        have h127 : ∀ b0 b1 b2 : Int, ub7 (.p127 l t.Kind t.Value t.Name t.Parts b0 b1 b2 ((c + 1 : Nat) : Int) 0 (d : Int)) = some (((((c + 1 : Nat) : Int), ((0 : Int), ((d : Int), ()))), ()), ()) := by
          intro b0 b1 b2
          rw [ub7, uS0]
          simp only [ua0, hbt, if_true]
        rw [hbt, if_pos rfl]
        rw [e]
        rw [show idx t.Parts (0 : Int) = some p by rw [hp]; rfl]
        simp only [ua0]
        by_cases q1 : p.Kind = 2
        · rw [if_neg (by simpa using q1), ub7, uS0]
          simp only [ua0, hbt, if_true]
          rw [show idx t.Parts (0 : Int) = some p by rw [hp]; rfl]
          simp only [ua0, vb7, if_pos q1]
          by_cases q2 : 1 ≤ p.Value ∧ p.Value ≤ 16
          · rw [decide_eq_true q2]
            simp only [Bool.not_true, Bool.false_eq_true, if_false, if_pos q2, h63, h127]
            by_cases q3 : c + 1 ≤ 200 ∧ d < 40
            · simp only [if_pos q3]
              exact ⟨_, rfl, fun _ => ⟨rfl, q3.1⟩⟩
            · simp only [if_neg q3]
              exact ⟨_, rfl, fun h => (by cases h)⟩
          · rw [decide_eq_false q2]
            simp only [Bool.not_false, if_true, if_neg q2]
            exact ⟨_, rfl, fun h => (by cases h)⟩
        · rw [if_pos (by simpa using q1)]
          simp only [if_neg q1]
          exact ⟨_, rfl, fun h => (by cases h)⟩
      · have hbf : decide (t.Kind = 1 ∧ t.Name = sBit) = false := decide_eq_false fun h => hb h.2
        have h31 : ∀ b0 b1 b2 : Int, ub7 (.p31 l t.Kind t.Value t.Name t.Parts b0 b1 b2 ((c + 1 : Nat) : Int) 0 (d : Int)) = ub7 (.p63 l t.Kind t.Value t.Name t.Parts b0 b1 b2 ((c + 1 : Nat) : Int) 0 (d : Int)) := by
          intro b0 b1 b2
          conv => lhs; rw [ub7]
          rw [uS0]
          simp only [ua0, hbf, Bool.false_eq_true, if_false]
        rw [hbf, if_neg (by simp), h31, h63]
        by_cases q3 : c + 1 ≤ 200 ∧ d < 40
        · have e : exS l (decide (d < 40)) f t c = ((uf6 f (ub9 l t) (c + 1)).1, (uf6 f (ub9 l t) (c + 1)).2.1, ⟨0, some (uf6 f (ub9 l t) (c + 1)).2.2⟩) := by
            unfold exS
            rw [htr, if_pos rfl, if_neg hk2, if_neg hb, if_pos (hdec.2 q3)]
          have hs := up9 htr
          obtain ⟨⟨_, m1⟩, m2⟩ := ul9 hv ht htr hk1
          rw [if_pos q3, e, ub7, uS0]
          simp only [ua0, hbf, Bool.false_eq_true, if_false]
          rw [vK0 hlb hv.plain hv.light t.Kind t.Value t.Name t.Parts hc2 (fun a ha => by have := uN0 ha; omega) (hc3 hb), ur0]
          simp only [ua0]
          have := wo5 hd (hf q3.2) (ub9 l t) (by omega) 0 0 0 m2 (Nat.zero_le _) (c + 1) q3.1
          rw [List.drop_zero] at this
          exact this
        · have e : exS l (decide (d < 40)) f t c = (8, 0, junk) := by
            unfold exS
            rw [htr, if_pos rfl, if_neg hk2, if_neg hb, if_neg (fun h => q3 (hdec.1 h))]
          rw [e, if_neg q3]
          exact ⟨_, rfl, fun h => (by cases h)⟩
theorem wo4 {l : List ua3} (hv : uq2 l) : ∀ n, n ≤ 40 → ExpR l (40 - n) (exT l n)
 | 0, _ => by
   have := wo3 hv 40 (by omega) (f := fun _ _ => (8, 0, junk)) (fun h => by omega)
   exact this
 | n + 1, h => by
   have := wo3 hv (40 - (n + 1)) (by omega) (f := exT l n) (fun _ => by rw [show 40 - (n + 1) + 1 = 40 - n by omega]; exact wo4 hv n (by omega))
   rw [decide_eq_true (by omega)] at this
   exact this
end Go.Proofs.YtaennkkcnhfglaaGreatDoor.Ev.F
namespace Go.Proofs.YtaennkkcnhfglaaGreatDoor.Ev.F
open Go.Proofs.YtaennkkcnhfglaaGreatDoor.Ev
def tagN (n : Nat) : Nat := if n ≤ 1 then 0 else if n ≤ 2 then 1 else if n ≤ 4 then 2 else if n ≤ 8 then 3 else 4
mutual
def nds : ua4 → Nat
 | ⟨_, none⟩ => 1
 | ⟨_, some vs⟩ => 1 + ndsV vs
def ndsV : List data_variant → Nat
 | [] => 0
 | v :: r => ndsW v + ndsV r
def ndsW : data_variant → Nat
 | ⟨_, _, none⟩ => 0
 | ⟨_, _, some ps⟩ => ndsP ps
def ndsP : List (Option ua4) → Nat
 | [] => 0
 | none :: r => ndsP r
 | some x :: r => nds x + ndsP r
end
mutual
def wid : ua4 → Nat
 | ⟨b, none⟩ => b.toNat
 | ⟨_, some vs⟩ => tagN vs.length + rooms vs
def rooms : List data_variant → Nat
 | [] => 0
 | v :: r => max (roomV v) (rooms r)
def roomV : data_variant → Nat
 | ⟨_, _, none⟩ => 0
 | ⟨_, _, some ps⟩ => roomP ps
def roomP : List (Option ua4) → Nat
 | [] => 0
 | none :: r => roomP r
 | some x :: r => wid x + roomP r
end
inductive All2 {α β : Type} (R : α → β → Prop) : List α → List β → Prop
 | nil : All2 R [] []
 | cons {a : α} {b : β} {l : List α} {m : List β} (h : R a b) (t : All2 R l m) : All2 R (a :: l) (b :: m)
theorem All2.len {α β : Type} {R : α → β → Prop} {l : List α} {m : List β} (h : All2 R l m) : l.length = m.length := by
  induction h with
  | nil => rfl
  | cons _ _ ih => rw [List.length_cons, List.length_cons, ih]
theorem All2.get {α β : Type} {R : α → β → Prop} {l : List α} {m : List β} (h : All2 R l m) : ∀ (i : Nat) (h1 : i < l.length) (h2 : i < m.length), R l[i] m[i] := by
  induction h with
  | nil => intro i h1; simp at h1
  | cons h t ih =>
    intro i h1 h2
    cases i with
    | zero => exact h
    | succ i => exact ih i (by simpa using h1) (by simpa using h2)
theorem All2.memR {α β : Type} {R : α → β → Prop} {l : List α} {m : List β} (h : All2 R l m) : ∀ b ∈ m, ∃ a ∈ l, R a b := by
  induction h with
  | nil => intro b hb; cases hb
  | cons h t ih =>
    intro b hb
    rcases List.mem_cons.1 hb with rfl | hb
    · exact ⟨_, List.mem_cons_self .., h⟩
    · obtain ⟨a, ha, hr⟩ := ih b hb
      exact ⟨a, List.mem_cons_of_mem _ ha, hr⟩
def BitR (t : ua1) (x : ua4) : Prop := t.Kind = 1 ∧ t.Name = sBit ∧ ∃ p, t.Parts = [p] ∧ 1 ≤ p.Value ∧ p.Value ≤ 16 ∧ x = ⟨p.Value, none⟩
def FR (R : ua1 → ua4 → Prop) (f : ua6) (p : Option ua4) : Prop := ∃ x, p = some x ∧ R f.Type_ x
def VR (R : ua1 → ua4 → Prop) (c : ua2) (v : data_variant) : Prop := ∃ ps, v = ⟨c.Name, c.Fields, some ps⟩ ∧ All2 (FR R) c.Fields ps
def ConR (l : List ua3) (R : ua1 → ua4 → Prop) (t : ua1) (x : ua4) : Prop := t.Kind = 1 ∧ t.Name ≠ sBit ∧ Ty l t ∧ tree t = true ∧ ∃ vs, x = ⟨0, some vs⟩ ∧ All2 (VR R) (ub9 l t) vs
def SR (l : List ua3) : Nat → ua1 → ua4 → Prop
 | 0, _, _ => False
 | n + 1, t, x => BitR t x ∨ ConR l (SR l n) t x
def ExOk (l : List ua3) (R : ua1 → ua4 → Prop) (f : ua1 → Nat → Ex) : Prop := ∀ (t : ua1) (c : Nat), Ty l t → c ≤ 200 → (f t c).1 = 0 → R t (f t c).2.2 ∧ (f t c).2.1 = c + nds (f t c).2.2 ∧ (f t c).2.1 ≤ 200
theorem vt4 {l : List ua3} {R : ua1 → ua4 → Prop} {f : ua1 → Nat → Ex} (hf : ExOk l R f) : ∀ (fs : List ua6) (c : Nat), (∀ x ∈ fs, Ty l x.Type_) → c ≤ 200 → (ud3 f fs c).1 = 0 → All2 (FR R) fs (ud3 f fs c).2.2 ∧ (ud3 f fs c).2.1 = c + ndsP (ud3 f fs c).2.2 ∧ (ud3 f fs c).2.1 ≤ 200
 | [], c, _, hc, _ => ⟨.nil, by unfold ud3; simp only; rw [ndsP]; rfl, hc⟩
 | x :: r, c, hok, hc, h => by
   by_cases h0 : (f x.Type_ c).1 = 0
   · obtain ⟨a1, a2, a3⟩ := hf x.Type_ c (hok x (List.mem_cons_self ..)) hc h0
     simp only [ud3, if_pos h0] at h ⊢
     obtain ⟨b1, b2, b3⟩ := vt4 hf r _ (fun y hy => hok y (List.mem_cons_of_mem _ hy)) a3 h
     refine ⟨.cons ⟨_, rfl, a1⟩ b1, ?_, b3⟩
     rw [b2, ndsP, a2]
     omega
   · simp only [ud3, if_neg h0] at h
     exact absurd h h0
theorem vt3 {l : List ua3} {R : ua1 → ua4 → Prop} {f : ua1 → Nat → Ex} (hf : ExOk l R f) : ∀ (cs : List ua2) (c : Nat), (∀ x ∈ cs, ∀ y ∈ x.Fields, Ty l y.Type_) → c ≤ 200 → (uf6 f cs c).1 = 0 → All2 (VR R) cs (uf6 f cs c).2.2 ∧ (uf6 f cs c).2.1 = c + ndsV (uf6 f cs c).2.2 ∧ (uf6 f cs c).2.1 ≤ 200
 | [], c, _, hc, _ => ⟨.nil, by unfold uf6; simp only; rw [ndsV]; rfl, hc⟩
 | x :: r, c, hok, hc, h => by
   by_cases h0 : (ud3 f x.Fields c).1 = 0
   · obtain ⟨a1, a2, a3⟩ := vt4 hf x.Fields c (hok x (List.mem_cons_self ..)) hc h0
     simp only [uf6, if_pos h0] at h ⊢
     obtain ⟨b1, b2, b3⟩ := vt3 hf r _ (fun y hy => hok y (List.mem_cons_of_mem _ hy)) a3 h
     refine ⟨.cons ⟨_, rfl, a1⟩ b1, ?_, b3⟩
     rw [b2, ndsV, ndsW, a2]
     omega
   · simp only [uf6, if_neg h0] at h
     exact absurd h h0
theorem vG8 {l : List ua3} {b : Bool} {f : ua1 → Nat → Ex} {t : ua1} {c : Nat} (hv : uq2 l) (ht : Ty l t) (h : (exS l b f t c).1 = 0) : b = true ∧ c + 1 ≤ 200 ∧ tree t = true ∧ t.Kind = 1 ∧ ((BitR t (exS l b f t c).2.2 ∧ (exS l b f t c).2.1 = c + 1) ∨ (t.Name ≠ sBit ∧ exS l b f t c = ((uf6 f (ub9 l t) (c + 1)).1, (uf6 f (ub9 l t) (c + 1)).2.1, ⟨0, some (uf6 f (ub9 l t) (c + 1)).2.2⟩))) := by
  cases htr : tree t with
  | false => unfold exS at h; rw [htr] at h; simp at h
  | true =>
    by_cases hk2 : t.Kind = 2
    · unfold exS at h; rw [htr, if_pos rfl, if_pos hk2] at h; cases h
    · have hk1 := ht.kind.resolve_right hk2
      obtain ⟨hc1, _⟩ := ht.con hv.plain hk1
      by_cases hb : t.Name = sBit
      · obtain ⟨p, hp⟩ := hc1 hb
        have e : exS l b f t c = (ug4 [if p.Kind = 2 then 0 else 26, if 1 ≤ p.Value ∧ p.Value ≤ 16 then 0 else 25, if c + 1 ≤ 200 ∧ b = true then 0 else 8], c + 1, ⟨p.Value, none⟩) := by
          unfold exS
          rw [htr, if_pos rfl, if_neg hk2, if_pos hb, hp]
        rw [e] at h ⊢
        obtain ⟨_, h⟩ := uc7 h
        obtain ⟨h2, h⟩ := uc7 h
        obtain ⟨h3, _⟩ := uc7 h
        by_cases q3 : c + 1 ≤ 200 ∧ b = true
        · by_cases q2 : 1 ≤ p.Value ∧ p.Value ≤ 16
          · exact ⟨q3.2, q3.1, rfl, hk1, .inl ⟨⟨hk1, hb, p, hp, q2.1, q2.2, rfl⟩, rfl⟩⟩
          · rw [if_neg q2] at h2; cases h2
        · rw [if_neg q3] at h3; cases h3
      · by_cases q3 : c + 1 ≤ 200 ∧ b = true
        · refine ⟨q3.2, q3.1, rfl, hk1, .inr ⟨hb, ?_⟩⟩
          unfold exS
          rw [htr, if_pos rfl, if_neg hk2, if_neg hb, if_pos q3]
        · unfold exS at h
          rw [htr, if_pos rfl, if_neg hk2, if_neg hb, if_neg q3] at h; cases h
theorem uY2 (b : Int) : nds ⟨b, none⟩ = 1 := by rw [nds]
theorem uP2 (b : Int) (vs : List data_variant) : nds ⟨b, some vs⟩ = 1 + ndsV vs := by rw [nds]
theorem vt1 {l : List ua3} (hv : uq2 l) : ∀ n, ExOk l (SR l n) (exT l n)
 | 0 => fun t c ht hc h => by
   have := (vG8 hv ht h).1
   cases this
 | n + 1 => fun t c ht hc h => by
   have h' : (exS l true (exT l n) t c).1 = 0 := h
   obtain ⟨_, h200, htr, hk1, hh⟩ := vG8 hv ht h'
   show SR l (n + 1) t (exS l true (exT l n) t c).2.2 ∧ (exS l true (exT l n) t c).2.1 = c + nds (exS l true (exT l n) t c).2.2 ∧ (exS l true (exT l n) t c).2.1 ≤ 200
   rcases hh with ⟨hb, e⟩ | ⟨hb, e⟩
   · rw [e]
     obtain ⟨q1, q2, p, q3, q4, q5, q6⟩ := id hb
     refine ⟨.inl hb, ?_, h200⟩
     rw [q6, uY2]
   · rw [e] at h' ⊢
     obtain ⟨_, m2⟩ := ul9 hv ht htr hk1
     obtain ⟨b1, b2, b3⟩ := vt3 (vt1 hv n) (ub9 l t) (c + 1) (fun x hx => (m2 x hx).2) h200 h'
     refine ⟨.inr ⟨hk1, hb, ht, htr, _, rfl, b1⟩, ?_, b3⟩
     simp only
     rw [uP2, b2]
     omega
end Go.Proofs.YtaennkkcnhfglaaGreatDoor.Ev.F
namespace Go.Proofs.YtaennkkcnhfglaaGreatDoor.Ev.F
open Go.Proofs.YtaennkkcnhfglaaGreatDoor.Ev
theorem wn6 (m : Nat) (h : m < 16) : uj8 (.start (m : Int)) = some (((tagN (m + 1) : Int), ()), ()) := by
  rw [uj8]
  rw [if_neg (by simp; omega), uj8]
  rw [if_neg (by simp; omega), uj8]
  rw [if_neg (by simp; omega), uj8]
  have hm : m = 0 ∨ m = 1 ∨ m = 2 ∨ m = 3 ∨ m = 4 ∨ m = 5 ∨ m = 6 ∨ m = 7 ∨ m = 8 ∨ m = 9 ∨ m = 10 ∨ m = 11 ∨ m = 12 ∨ m = 13 ∨ m = 14 ∨ m = 15 := by omega
  rcases hm with rfl | rfl | rfl | rfl | rfl | rfl | rfl | rfl | rfl | rfl | rfl | rfl | rfl | rfl | rfl | rfl <;> rfl
theorem ptag (b : Int) (vs : List data_variant) (h1 : 0 < vs.length) (h2 : vs.length ≤ 16) : uQ1 (.start (some ⟨b, some vs⟩)) = some (((tagN vs.length : Int), ()), ()) := by
  rw [uQ1]
  simp only [ua0, Option.getD_some]
  rw [show (List.length vs : Int) - 1 = ((vs.length - 1 : Nat) : Int) by omega, wrap_i64 (by omega) (by omega)]
  rw [show IntKind.wrap .u64 ((vs.length - 1 : Nat) : Int) = ((vs.length - 1 : Nat) : Int) by simp [IntKind.wrap, IntKind.bits, IntKind.signed]; omega]
  rw [u01, wn6 _ (by omega)]
  simp only [ua0]
  rw [show vs.length - 1 + 1 = vs.length by omega]
theorem vK6 (k : Nat) (h : k ≤ 62) : uQ5 (.start (k : Int)) = some ((((2 ^ k : Nat) : Int), ()), ()) := by
  rw [uQ5, if_pos (by simp), vc2 (by omega)]
  simp [pw]
theorem uK7 (c : Int) (k : Nat) (h : k ≤ 10) : uu4 (.p56 c (k : Int)) = if ((2 ^ k : Nat) : Int) < c then uu4 (.p56 c ((k + 1 : Nat) : Int)) else some (((k : Int), ()), ()) := by
  conv => lhs; rw [uu4]
  rw [vK6 k (by omega)]
  simp only [ua0, ui5 (show k ≤ 4611686018427387904 by omega)]
  by_cases h : ((2 ^ k : Nat) : Int) < c
  · rw [decide_eq_true h, if_pos rfl, if_pos h]
  · rw [decide_eq_false h, if_neg (by simp), if_neg h]
theorem rtag (n : Nat) (h : n ≤ 16) : uu4 (.start (n : Int)) = some (((tagN n : Int), ()), ()) := by
  rw [uu4, show ((0 : Int)) = ((0 : Nat) : Int) from rfl]
  unfold tagN
  rw [uK7 _ 0 (by omega)]
  by_cases h1 : n ≤ 1
  · rw [if_neg (by simp; omega), if_pos h1]
  · rw [if_pos (by simp; omega), if_neg h1, uK7 _ 1 (by omega)]
    by_cases h2 : n ≤ 2
    · rw [if_neg (by simp; omega), if_pos h2]
    · rw [if_pos (by simp; omega), if_neg h2, uK7 _ 2 (by omega)]
      by_cases h4 : n ≤ 4
      · rw [if_neg (by simp; omega), if_pos h4]
      · rw [if_pos (by simp; omega), if_neg h4, uK7 _ 3 (by omega)]
        by_cases h8 : n ≤ 8
        · rw [if_neg (by simp; omega), if_pos h8]
        · rw [if_pos (by simp; omega), if_neg h8, uK7 _ 4 (by omega)]
          rw [if_neg (by simp; omega)]
theorem wf0 (n : Nat) : tagN n ≤ 4 := by
  unfold tagN
  split
  · omega
  · split
    · omega
    · split
      · omega
      · split <;> omega
theorem uC6 (b : Int) : wid ⟨b, none⟩ = b.toNat := by rw [wid]
theorem uu5 (b : Int) (vs : List data_variant) : wid ⟨b, some vs⟩ = tagN vs.length + rooms vs := by rw [wid]
theorem un3 (v : data_variant) (r : List data_variant) : rooms (v :: r) = max (roomV v) (rooms r) := by rw [rooms]
theorem uY8 : rooms [] = 0 := by rw [rooms]
theorem un2 (n : ByteArray) (fs : List ua6) (ps : List (Option ua4)) : roomV ⟨n, fs, some ps⟩ = roomP ps := by rw [roomV]
theorem up1 : roomP [] = 0 := by rw [roomP]
theorem ud9 (x : ua4) (r : List (Option ua4)) : roomP (some x :: r) = wid x + roomP r := by rw [roomP]
theorem uA3 (v : data_variant) (r : List data_variant) : ndsV (v :: r) = ndsW v + ndsV r := by rw [ndsV]
theorem uu9 (n : ByteArray) (fs : List ua6) (ps : List (Option ua4)) : ndsW ⟨n, fs, some ps⟩ = ndsP ps := by rw [ndsW]
theorem uA2 (x : ua4) (r : List (Option ua4)) : ndsP (some x :: r) = nds x + ndsP r := by rw [ndsP]
def AllP (Q : ua4 → Prop) (ps : List (Option ua4)) : Prop := ∀ p ∈ ps, ∃ x, p = some x ∧ Q x
def AllV (Q : ua4 → Prop) (vs : List data_variant) : Prop := ∀ v ∈ vs, ∃ n fs ps, v = ⟨n, fs, some ps⟩ ∧ fs.length = ps.length ∧ ps.length ≤ 8 ∧ AllP Q ps
theorem AllP.tail {Q : ua4 → Prop} {p : Option ua4} {r : List (Option ua4)} (h : AllP Q (p :: r)) : AllP Q r := fun x hx => h x (List.mem_cons_of_mem _ hx)
theorem AllV.tail {Q : ua4 → Prop} {p : data_variant} {r : List data_variant} (h : AllV Q (p :: r)) : AllV Q r := fun x hx => h x (List.mem_cons_of_mem _ hx)
theorem AllP.mono {Q R : ua4 → Prop} (hq : ∀ x, Q x → R x) {ps : List (Option ua4)} (h : AllP Q ps) : AllP R ps := fun p hp => by
  obtain ⟨x, hx, hx2⟩ := h p hp
  exact ⟨x, hx, hq x hx2⟩
theorem AllV.mono {Q R : ua4 → Prop} (hq : ∀ x, Q x → R x) {vs : List data_variant} (h : AllV Q vs) : AllV R vs := fun v hv => by
  obtain ⟨n, fs, ps, h1, h2, h3, h4⟩ := h v hv
  exact ⟨n, fs, ps, h1, h2, h3, h4.mono hq⟩
theorem AllP.of {R : ua1 → ua4 → Prop} {Q : ua4 → Prop} (hq : ∀ t x, R t x → Q x) {fs : List ua6} {ps : List (Option ua4)} (h : All2 (FR R) fs ps) : AllP Q ps := fun p hp => by
  obtain ⟨f, _, x, e, hr⟩ := h.memR p hp
  exact ⟨x, e, hq _ _ hr⟩
theorem AllV.of {R : ua1 → ua4 → Prop} {Q : ua4 → Prop} (hq : ∀ t x, R t x → Q x) {cs : List ua2} (hc : ∀ c ∈ cs, c.Fields.length ≤ 8) {vs : List data_variant} (h : All2 (VR R) cs vs) : AllV Q vs := fun v hv => by
  obtain ⟨c, hcm, ps, e, hr⟩ := h.memR v hv
  exact ⟨c.Name, c.Fields, ps, e, hr.len, by rw [← hr.len]; exact hc c hcm, AllP.of hq hr⟩
theorem u89 {ps : List (Option ua4)} {x : ua4} (h : some x ∈ ps) : nds x ≤ ndsP ps := by
  induction ps with
  | nil => cases h
  | cons p r ih =>
    rcases List.mem_cons.1 h with rfl | h
    · rw [uA2]; omega
    · have := ih h
      cases p with
      | none => rw [ndsP]; exact this
      | some y => rw [uA2]; omega
theorem u88 {vs : List data_variant} {v : data_variant} (h : v ∈ vs) : ndsW v ≤ ndsV vs := by
  induction vs with
  | nil => cases h
  | cons p r ih =>
    rw [uA3]
    rcases List.mem_cons.1 h with rfl | h
    · omega
    · have := ih h; omega
def PW (x : ua4) : Prop := nds x ≤ 200 → run_z41 (.start (some x)) = some (((wid x : Int), ()), ()) ∧ wid x ≤ 16 * nds x
theorem u94 {ps : List (Option ua4)} (h : AllP PW ps) (hn : ndsP ps ≤ 200) : roomP ps ≤ 16 * ndsP ps := by
  induction ps with
  | nil => rw [up1]; omega
  | cons p r ih =>
    obtain ⟨x, rfl, hx⟩ := h p (List.mem_cons_self ..)
    rw [uA2] at hn
    rw [ud9, uA2]
    have := (hx (by omega)).2
    have := ih h.tail (by omega)
    omega
theorem vW9 {vs : List data_variant} (h : AllV PW vs) (hn : ndsV vs ≤ 200) : rooms vs ≤ 16 * ndsV vs := by
  induction vs with
  | nil => rw [uY8]; omega
  | cons v r ih =>
    obtain ⟨n, fs, ps, rfl, _, _, hp⟩ := h v (List.mem_cons_self ..)
    rw [uA3, uu9] at hn
    rw [un3, uA3, uu9, un2]
    have := u94 hp (by omega)
    have := ih h.tail (by omega)
    omega
theorem v19 (n : ByteArray) (fs : List ua6) {ps : List (Option ua4)} (h : AllP PW ps) (hl : ps.length ≤ 8) (hn : ndsP ps ≤ 200) : ul3 (.start n fs (some ps)) = some (((roomP ps : Int), ()), ()) := by
  rw [ul3]
  simp only [Option.getD_some]
  have loop : ∀ {i}, i ≤ ps.length → ∀ s : Nat, s + roomP (ps.drop i) ≤ 100000 → ul3 (.p116 (s : Int) (some ps) (List.length ps : Int) (i : Int)) = some ((((s + roomP (ps.drop i) : Nat) : Int), ()), ()) := by
    refine ub0 ps (P := fun i => ∀ s : Nat, s + roomP (ps.drop i) ≤ 100000 → ul3 (.p116 (s : Int) (some ps) (List.length ps : Int) (i : Int)) = some ((((s + roomP (ps.drop i) : Nat) : Int), ()), ())) ?_ ?_
    · intro s hs
      rw [ul3, List.drop_length, up1]
      simp only [lt_f, Bool.false_eq_true, if_false]
      rfl
    · intro i hi ih s hs
      obtain ⟨x, hx, hq⟩ := h ps[i] (List.getElem_mem hi)
      have hm : nds x ≤ ndsP ps := u89 (hx ▸ List.getElem_mem hi)
      rw [ul3]
      simp only [lt_t hi, if_true, Option.getD_some, ua9 hi, ua0, hx, (hq (by omega)).1]
      rw [ua8 hi, hx, ud9] at hs ⊢
      rw [ua7 hi (by omega), ← Int.natCast_add, wrap_i64 (by omega) (by omega), ih (s + wid x) (by omega), Nat.add_assoc]
  have hr := u94 h hn
  have := loop (Nat.zero_le _) 0 (by rw [List.drop_zero]; omega)
  rw [List.drop_zero, Nat.zero_add] at this
  exact this
theorem wd0 (b : Int) {vs : List data_variant} (h : AllV PW vs) (hl : vs.length ≤ 16) (hn : ndsV vs ≤ 200) : run_z42 (.start (some ⟨b, some vs⟩)) = some (((rooms vs : Int), ()), ()) := by
  rw [run_z42]
  simp only [ua0, Option.getD_some]
  have loop : ∀ {i}, i ≤ vs.length → ∀ s : Nat, run_z42 (.p116 (s : Int) (some vs) (List.length vs : Int) (i : Int)) = some ((((max s (rooms (vs.drop i)) : Nat) : Int), ()), ()) := by
    refine ub0 vs (P := fun i => ∀ s : Nat, run_z42 (.p116 (s : Int) (some vs) (List.length vs : Int) (i : Int)) = some ((((max s (rooms (vs.drop i)) : Nat) : Int), ()), ())) ?_ ?_
    · intro s
      rw [run_z42, List.drop_length, uY8]
      simp only [lt_f, Bool.false_eq_true, if_false, Nat.max_zero]
    · intro i hi ih s
      obtain ⟨n, fs, ps, hx, _, hpl, hq⟩ := h vs[i] (List.getElem_mem hi)
      have hm := u88 (List.getElem_mem hi)
      rw [hx, uu9] at hm
      rw [run_z42]
      simp only [lt_t hi, if_true, Option.getD_some, ua9 hi, ua0, hx]
      rw [v19 n fs hq hpl (by omega)]
      simp only [ua0]
      rw [ua8 hi, hx, un3, un2, ua7 hi (by omega)]
      rw [show (if (roomP ps : Int) > (s : Int) then (roomP ps : Int) else (s : Int)) = ((max s (roomP ps) : Nat) : Int) by
        by_cases hh : (roomP ps : Int) > (s : Int)
        · rw [if_pos hh]; omega
        · rw [if_neg hh]; omega]
      rw [ih, Nat.max_assoc]
  have := loop (Nat.zero_le _) 0
  rw [List.drop_zero, Nat.zero_max] at this
  exact this
def SOkN : Nat → ua4 → Prop
 | 0, _ => False
 | n + 1, x => (∃ b : Int, 1 ≤ b ∧ b ≤ 16 ∧ x = ⟨b, none⟩) ∨ (∃ vs : List data_variant, 0 < vs.length ∧ vs.length ≤ 16 ∧ AllV (SOkN n) vs ∧ x = ⟨0, some vs⟩)
def SOk (x : ua4) : Prop := ∃ n, SOkN n x
theorem sokN {l : List ua3} (hv : uq2 l) : ∀ n t x, SR l n t x → SOkN n x
 | 0, t, x, h => h.elim
 | n + 1, t, x, h => by
   rcases h with ⟨_, _, p, _, h1, h2, rfl⟩ | ⟨hk, hb, ht, htr, vs, rfl, hr⟩
   · exact .inl ⟨_, h1, h2, rfl⟩
   · obtain ⟨⟨m0, m1⟩, m2⟩ := ul9 hv ht htr hk
     have hlen := hr.len
     exact .inr ⟨vs, by omega, by omega, AllV.of (fun t x h => sokN hv n t x h) (fun c hc => (m2 c hc).1) hr, rfl⟩
theorem sok {l : List ua3} (hv : uq2 l) {n : Nat} {t : ua1} {x : ua4} (h : SR l n t x) : SOk x := ⟨n, sokN hv n t x h⟩
theorem ux1 (b : Int) : up7 (.start (some ⟨b, none⟩)) = some ((true, ()), ()) := rfl
theorem ux2 (b : Int) (vs : List data_variant) (h : 0 < vs.length) : up7 (.start (some ⟨b, some vs⟩)) = some ((false, ()), ()) := by
  cases vs with
  | nil => simp at h
  | cons => rfl
theorem u11 {Q : ua4 → Prop} (hb : ∀ b : Int, 1 ≤ b → b ≤ 16 → Q ⟨b, none⟩) (hc : ∀ vs : List data_variant, 0 < vs.length → vs.length ≤ 16 → AllV (fun x => SOk x ∧ Q x) vs → Q ⟨0, some vs⟩) : ∀ x, SOk x → Q x := by
  have key : ∀ n x, SOkN n x → Q x := by
    intro n
    induction n with
    | zero => intro x h; exact h.elim
    | succ n ih =>
      intro x h
      rcases h with ⟨b, h1, h2, rfl⟩ | ⟨vs, h0, h1, h, rfl⟩
      · exact hb b h1 h2
      · exact hc vs h0 h1 (h.mono fun x hx => ⟨⟨n, hx⟩, ih x hx⟩)
  exact fun x ⟨n, h⟩ => key n x h
theorem pwid : ∀ x, SOk x → PW x := by
  refine u11 (fun b h1 h2 => ?_) (fun vs h0 h1 h => ?_)
  · intro _
    rw [run_z41, ux1, uC6, uY2]
    simp only [ua0, if_true]
    refine ⟨?_, by omega⟩
    rw [Int.toNat_of_nonneg (by omega)]
  · intro hn
    rw [uP2] at hn ⊢
    have h' : AllV PW vs := h.mono fun x hx => hx.2
    have hr := vW9 h' (by omega)
    have ht := wf0 vs.length
    rw [run_z41, ux2 _ _ h0, uu5]
    simp only [ua0, Bool.false_eq_true, if_false, ptag _ vs h0 h1, wd0 0 h' h1 (by omega)]
    rw [← Int.natCast_add, wrap_i64 (by omega) (by omega)]
    exact ⟨rfl, by omega⟩
end Go.Proofs.YtaennkkcnhfglaaGreatDoor.Ev.F
namespace Go.Proofs.YtaennkkcnhfglaaGreatDoor.Ev.F
open Go.Proofs.YtaennkkcnhfglaaGreatDoor.Ev
theorem vL3 {x : ua4} (h : SOk x) (hn : nds x ≤ 200) : wid x ≤ 3200 := by
  have := (pwid x h hn).2
  omega
def RW (l : List ua3) (t : ua1) (x : ua4) : Prop := nds x ≤ 200 → SOk x ∧ run_z94 (.start l t.Kind t.Value t.Name t.Parts) = some (((wid x : Int), ()), ())
theorem vX1 {l : List ua3} (c : ua2) (hl : c.Fields.length ≤ 8) {ps : List (Option ua4)} (h : All2 (FR (RW l)) c.Fields ps) (hn : ndsP ps ≤ 200) : us3 (.start l c.Name c.Fields) = some (((roomP ps : Int), ()), ()) := by
  rw [us3]
  have hlen := h.len
  have hP : AllP (fun x => nds x ≤ 200 → SOk x) ps := AllP.of (fun t x hx hn => (hx hn).1) h
  have hW : AllP PW ps := fun p hp => by
    obtain ⟨x, e, hx⟩ := hP p hp
    have : nds x ≤ ndsP ps := u89 (e ▸ hp)
    exact ⟨x, e, pwid x (hx (by omega))⟩
  have hr := u94 hW hn
  have loop : ∀ {i}, i ≤ c.Fields.length → ∀ s : Nat, s + roomP (ps.drop i) ≤ 100000 → us3 (.p116 l (s : Int) (i : Int) c.Name c.Fields) = some ((((s + roomP (ps.drop i) : Nat) : Int), ()), ()) := by
    refine ub0 c.Fields (P := fun i => ∀ s : Nat, s + roomP (ps.drop i) ≤ 100000 → us3 (.p116 l (s : Int) (i : Int) c.Name c.Fields) = some ((((s + roomP (ps.drop i) : Nat) : Int), ()), ())) ?_ ?_
    · intro s hs
      rw [us3, hlen, List.drop_length, up1]
      simp only [lt_f, Bool.false_eq_true, if_false]
      rfl
    · intro i hi ih s hs
      have hi2 : i < ps.length := by omega
      obtain ⟨x, hx, hq⟩ := h.get i hi hi2
      have hm : nds x ≤ ndsP ps := u89 (hx ▸ List.getElem_mem hi2)
      rw [us3]
      simp only [lt_t hi, if_true, ua9 hi, ua0, (hq (by omega)).2]
      rw [ua8 hi2, hx, ud9] at hs ⊢
      rw [ua7 hi (by omega), ← Int.natCast_add, wrap_i64 (by omega) (by omega), ih (s + wid x) (by omega), Nat.add_assoc]
  have := loop (Nat.zero_le _) 0 (by rw [List.drop_zero]; omega)
  rw [List.drop_zero, Nat.zero_add] at this
  exact this
theorem wd6 {l : List ua3} (hv : uq2 l) {t : ua1} (hk : t.Kind = 1) (hb : t.Name ≠ sBit) (ht : Ty l t) (htr : tree t = true) : ug2 (.start l t.Kind t.Value t.Name t.Parts) = some ((ub9 l t, ()), ()) := by
  obtain ⟨hc1, hc2, hc3, hc4⟩ := ht.con hv.plain hk
  have hs := up9 htr
  have := vK0 (show l.length ≤ big by have := hv.len; unfold big; omega) hv.plain hv.light t.Kind t.Value t.Name t.Parts hc2 (fun a ha => by have := uN0 ha; omega) (hc3 hb)
  rw [ur0] at this
  exact this
theorem ww5 {l : List ua3} (hv : uq2 l) {t : ua1} (hk : t.Kind = 1) (hb : t.Name ≠ sBit) (ht : Ty l t) (htr : tree t = true) {vs : List data_variant} (h : All2 (VR (RW l)) (ub9 l t) vs) (hn : ndsV vs ≤ 200) : run_z95 (.start l t.Kind t.Value t.Name t.Parts) = some (((rooms vs : Int), ()), ()) := by
  rw [run_z95, wd6 hv hk hb ht htr]
  simp only [ua0]
  obtain ⟨⟨m0, m1⟩, m2⟩ := ul9 hv ht htr hk
  have hlen := h.len
  have loop : ∀ {i}, i ≤ (ub9 l t).length → ∀ s : Nat, run_z95 (.p116 l (ub9 l t) (s : Int) (i : Int)) = some ((((max s (rooms (vs.drop i)) : Nat) : Int), ()), ()) := by
    refine ub0 (ub9 l t) (P := fun i => ∀ s : Nat, run_z95 (.p116 l (ub9 l t) (s : Int) (i : Int)) = some ((((max s (rooms (vs.drop i)) : Nat) : Int), ()), ())) ?_ ?_
    · intro s
      rw [run_z95, hlen, List.drop_length, uY8]
      simp only [lt_f, Bool.false_eq_true, if_false, Nat.max_zero]
    · intro i hi ih s
      have hi2 : i < vs.length := by omega
      obtain ⟨ps, hx, hq⟩ := h.get i hi hi2
      have hm := u88 (List.getElem_mem hi2)
      rw [hx, uu9] at hm
      rw [run_z95]
      simp only [lt_t hi, if_true, ua9 hi, ua0, vX1 _ (m2 _ (List.getElem_mem hi)).1 hq (by omega)]
      rw [ua8 hi2, hx, un3, un2, ua7 hi (by omega)]
      rw [show (if (roomP ps : Int) > (s : Int) then (roomP ps : Int) else (s : Int)) = ((max s (roomP ps) : Nat) : Int) by
        by_cases hh : (roomP ps : Int) > (s : Int)
        · rw [if_pos hh]; omega
        · rw [if_neg hh]; omega]
      rw [ih, Nat.max_assoc]
  have := loop (Nat.zero_le _) 0
  rw [List.drop_zero, Nat.zero_max] at this
  exact this
theorem All2.mono {α β : Type} {R R' : α → β → Prop} (hr : ∀ a b, R a b → R' a b) {l : List α} {m : List β} (h : All2 R l m) : All2 R' l m := by
  induction h with
  | nil => exact .nil
  | cons h t ih => exact .cons (hr _ _ h) ih
theorem VR.mono {R R' : ua1 → ua4 → Prop} (hr : ∀ t x, R t x → R' t x) {c : ua2} {v : data_variant} (h : VR R c v) : VR R' c v := by
  obtain ⟨ps, e, h⟩ := h
  exact ⟨ps, e, h.mono fun f p ⟨x, e, hx⟩ => ⟨x, e, hr _ _ hx⟩⟩
theorem rwid {l : List ua3} (hv : uq2 l) : ∀ n t x, SR l n t x → RW l t x
 | 0, t, x, h => h.elim
 | n + 1, t, x, h => fun hn => by
   have hsok := sok hv h
   refine ⟨hsok, ?_⟩
   rw [run_z94, uS0]
   rcases h with ⟨hk, hb, p, hp, h1, h2, rfl⟩ | ⟨hk, hb, ht, htr, vs, rfl, hr⟩
   · rw [decide_eq_true (show t.Kind = 1 ∧ t.Name = sBit from ⟨hk, hb⟩), hp, uC6]
     simp only [ua0, if_true, show idx [p] (0 : Int) = some p from rfl]
     rw [Int.toNat_of_nonneg (by omega)]
   · rw [decide_eq_false (fun h => hb h.2)]
     rw [uP2] at hn
     obtain ⟨⟨m0, m1⟩, m2⟩ := ul9 hv ht htr hk
     have hr' : All2 (VR (RW l)) (ub9 l t) vs := hr.mono fun c v h => h.mono fun t x h => rwid hv n t x h
     have hlen := hr.len
     simp only [ua0, Bool.false_eq_true, if_false, wd6 hv hk hb ht htr, rtag _ m1, ww5 hv hk hb ht htr hr' (by omega)]
     rw [uu5, hlen]
     have := vL3 hsok (by rw [uP2]; omega)
     rw [uu5] at this
     rw [← Int.natCast_add, wrap_i64 (by omega) (by omega)]
def vv8 (l : List ua3) (t : ua1) : Int := if uq0 l [] t = 0 then (if (exT l 40 t 0).1 = 0 then (if 1 ≤ wid (exT l 40 t 0).2.2 ∧ wid (exT l 40 t 0).2.2 ≤ 16 then 0 else 25) else (exT l 40 t 0).1) else uq0 l [] t
def uk3 (l : List ua3) (t : ua1) : Int := if (uz4 l).2 = 0 then vv8 l t else (uz4 l).2
structure u36 (l : List ua3) (t : ua1) (x : ua4) : Prop where
  valid : uq2 l
  ty : Ty l t
  tree : tree t = true
  sr : SR l 40 t x
  nds : nds x ≤ 200
  w1 : 1 ≤ wid x
  w16 : wid x ≤ 16
theorem uh8.light {d : ua3} (h : uh8 d) : um3 d := ⟨h.plen, h.clen, fun c hc => ⟨(h.cs c hc).len, fun f hf => ((h.cs c hc).fs f hf).tree⟩⟩
theorem ug5 {l : List ua3} (hd : ∀ d ∈ l, um3 d) {t : ua1} (h : uk3 l t = 0) : u36 l t (exT l 40 t 0).2.2 := by
  unfold uk3 at h
  by_cases h0 : (uz4 l).2 = 0
  · rw [if_pos h0] at h
    have hv := vc9 hd h0
    unfold vv8 at h
    by_cases h1 : uq0 l [] t = 0
    · rw [if_pos h1] at h
      obtain ⟨htr, hn⟩ := uE4 h1
      have hs := up9 htr
      have hty : Ty l t := ⟨by omega, hn⟩
      by_cases h2 : (exT l 40 t 0).1 = 0
      · rw [if_pos h2] at h
        obtain ⟨a1, a2, a3⟩ := vt1 hv 40 t 0 hty (by omega) h2
        by_cases h3 : 1 ≤ wid (exT l 40 t 0).2.2 ∧ wid (exT l 40 t 0).2.2 ≤ 16
        · exact ⟨hv, hty, htr, a1, by omega, h3.1, h3.2⟩
        · rw [if_neg h3] at h; cases h
      · rw [if_neg h2] at h; exact absurd h h2
    · rw [if_neg h1] at h; exact absurd h h1
  · rw [if_neg h0] at h; exact absurd h h0
theorem vJ5 {l : List ua3} (hl : l.length ≤ 24) (hd : ∀ d ∈ l, uh8 d) {t : ua1} (ht : lenOk t) : ∃ o, uu2 (.start l t.Kind t.Value t.Name t.Parts) = some ((o, ((l, ((), ())), (uk3 l t, ()))), ()) ∧ (uk3 l t = 0 → o = some (exT l 40 t 0).2.2) := by
  rw [uu2, wn1 l hl hd]
  simp only [ua0]
  unfold uk3
  by_cases h0 : (uz4 l).2 = 0
  · have hv := vc9 (fun d h => (hd d h).light) h0
    rw [if_neg (by simpa using h0), if_pos h0, v22 (by unfold big; omega) (by simp) t ht]
    simp only [ua0]
    unfold vv8
    by_cases h1 : uq0 l [] t = 0
    · rw [h1, if_neg (by decide), if_pos rfl]
      obtain ⟨htr, hn⟩ := uE4 h1
      have hs := up9 htr
      have hty : Ty l t := ⟨by omega, hn⟩
      obtain ⟨_, o, c'', e1, e2⟩ := wn3 hv 40 (by omega) t 0 hty (by omega)
      rw [show ((41 - 40 : Nat) : Int) = 1 from rfl, show ((0 : Nat) : Int) = 0 from rfl] at e1
      rw [e1]
      simp only [ua0]
      by_cases h2 : (exT l 40 t 0).1 = 0
      · obtain ⟨a1, a2, a3⟩ := vt1 hv 40 t 0 hty (by omega) h2
        rw [h2, if_pos (by decide), if_pos rfl, (e2 h2).1, (pwid _ (sok hv a1) (by omega)).1]
        simp only [ua0, uG6]
        by_cases h3 : 1 ≤ wid (exT l 40 t 0).2.2 ∧ wid (exT l 40 t 0).2.2 ≤ 16
        · rw [decide_eq_true (by omega), if_neg (by simp), if_pos h3]
          exact ⟨_, rfl, fun _ => rfl⟩
        · rw [decide_eq_false (by omega), if_pos (by simp), if_neg h3]
          exact ⟨_, rfl, fun h => (by cases h)⟩
      · rw [if_neg (by simpa using h2), if_neg h2]
        exact ⟨_, rfl, fun h => absurd h h2⟩
    · rw [if_pos (by simpa using h1), if_neg h1]
      exact ⟨_, rfl, fun h => absurd h h1⟩
  · rw [if_pos (by simpa using h0), if_neg h0]
    exact ⟨_, rfl, fun h => absurd h h0⟩
theorem wv9 {l : List ua3} (hl : l.length ≤ 24) (hd : ∀ d ∈ l, uh8 d) {t : ua1} (ht : lenOk t) : vb6 (.start l t.Kind t.Value t.Name t.Parts) = some ((uk3 l t, ()), ()) := by
  rw [vb6, vq2, wo1 l hl hd]
  simp only [ua0]
  unfold uk3
  by_cases h0 : (uz4 l).2 = 0
  · have hv := vc9 (fun d h => (hd d h).light) h0
    rw [if_neg (by simpa using h0), if_pos h0, vq3, v26 (by unfold big; omega) (by simp) hv.plain t ht]
    simp only [ua0]
    unfold vv8
    by_cases h1 : uq0 l [] t = 0
    · rw [h1, if_neg (by decide), if_pos rfl]
      obtain ⟨htr, hn⟩ := uE4 h1
      have hs := up9 htr
      have hty : Ty l t := ⟨by omega, hn⟩
      obtain ⟨c'', e1, e2⟩ := wo4 hv 40 (by omega) t 0 hty (by omega)
      rw [show ((40 - 40 : Nat) : Int) = 0 from rfl] at e1
      rw [e1]
      simp only [ua0]
      by_cases h2 : (exT l 40 t 0).1 = 0
      · obtain ⟨a1, a2, a3⟩ := vt1 hv 40 t 0 hty (by omega) h2
        rw [h2, if_neg (by decide), if_pos rfl, (rwid hv 40 t _ a1 (by omega)).2]
        simp only [ua0, vb7]
        by_cases h3 : 1 ≤ wid (exT l 40 t 0).2.2 ∧ wid (exT l 40 t 0).2.2 ≤ 16
        · rw [decide_eq_true (by omega), if_neg (by simp), if_pos h3]
          simp only [ua0]
        · rw [decide_eq_false (by omega), if_pos (by simp), if_neg h3]
          simp only [ua0]
      · rw [if_pos (by simpa using h2), if_neg h2]
        simp only [ua0]
    · rw [if_pos (by simpa using h1), if_neg h1]
      simp only [ua0]
  · rw [if_pos (by simpa using h0), if_neg h0]
end Go.Proofs.YtaennkkcnhfglaaGreatDoor.Ev.F
namespace Go.Proofs.YtaennkkcnhfglaaGreatDoor.Ev.F
open Go.Proofs.YtaennkkcnhfglaaGreatDoor.Ev Go.Proofs
def DHyp (a0 : List ua3) : Prop := (a0.length ≤ maxLen ∧ ∀ x ∈ a0, (x.Name.size ≤ maxLen) ∧ (x.Params.length ≤ maxLen ∧ ∀ y ∈ x.Params, y.size ≤ maxLen) ∧ (x.Constructors.length ≤ maxLen ∧ ∀ y ∈ x.Constructors, (y.Name.size ≤ maxLen) ∧ (y.Fields.length ≤ maxLen ∧ ∀ x ∈ y.Fields, (x.Name.size ≤ maxLen) ∧ (ue3 x.Type_) ∧ True) ∧ True) ∧ True)
theorem vG3 {l : List ua3} (h : DHyp l) (hl : ∀ d ∈ l, um3 d) : ∀ d ∈ l, uh8 d := by
  intro d hd
  obtain ⟨h1, h2⟩ := h
  obtain ⟨n1, n2, n3, _⟩ := h2 d hd
  have hld := hl d hd
  refine ⟨n1, hld.plen, n2.2, hld.clen, fun c hc => ?_⟩
  obtain ⟨c1, c2, _⟩ := n3.2 c hc
  obtain ⟨m1, m2⟩ := hld.cs c hc
  exact ⟨c1, m1, fun f hf => ⟨(c2.2 f hf).1, m2 f hf⟩⟩
theorem vV6 {t : ua1} (h : ue3 t) : lenOk t := by
  revert h
  refine uk9 (P := fun t => ue3 t → lenOk t) (fun k v s ts ih h => ?_) t
  obtain ⟨_, h0, h1, h2, h3, h4⟩ := h
  exact .mk k v s ts h3 fun p hp => ih p hp (h4 p hp)
theorem wd3 (vs : List data_variant) (s : ByteArray) (hl : vs.length ≤ big) (o : Option (List data_variant)) (ho : o.getD [] = vs) : uo1 (.start o s) = some ((ix (fun v => decide (v.name = s)) vs, ()), ((s, ()), ())) := by
  rw [uo1, ho]
  have : ∀ {i}, i ≤ vs.length → uo1 (.p52 o (List.length vs : Int) (i : Int) s) = some ((ixAt (fun v => decide (v.name = s)) i (vs.drop i), ()), ((s, ()), ())) := by
    refine ub0 vs (P := fun i => uo1 (.p52 o (List.length vs : Int) (i : Int) s) = some ((ixAt (fun v => decide (v.name = s)) i (vs.drop i), ()), ((s, ()), ()))) ?_ ?_
    · rw [uo1]; simp [ixAt]
    · intro i hi ih
      rw [uo1]
      simp only [lt_t hi, if_true, ho, ua9 hi, ua0, uh1, u04]
      rw [ua7 hi hl, ih, ua8 hi]
      simp only [ixAt]
      by_cases h0 : vs[i].name = s <;> simp [h0]
  exact this (Nat.zero_le _)
theorem vJ7 (x : ua4) (s : ByteArray) (hl : (x.constructors.getD []).length ≤ big) : uH4 (.start (some x) s) = some ((ix (fun v => decide (v.name = s)) (x.constructors.getD []), ()), ()) := by
  rw [uH4]
  simp only [ua0, wd3 _ s hl _ rfl]
end Go.Proofs.YtaennkkcnhfglaaGreatDoor.Ev.F
namespace Go.Proofs.YtaennkkcnhfglaaGreatDoor.Ev.F
open Go.Proofs.YtaennkkcnhfglaaGreatDoor.Ev Go.Proofs
theorem ww2 (l : List ua2) (s : ByteArray) (hl : l.length ≤ big) : um8 (.start l s) = some ((ix (fun c => decide (c.Name = s)) l, ()), ()) := by
  rw [um8]
  have : ∀ {i}, i ≤ l.length → um8 (.p52 l s (i : Int)) = some ((ixAt (fun c => decide (c.Name = s)) i (l.drop i), ()), ()) := by
    refine ub0 l (P := fun i => um8 (.p52 l s (i : Int)) = some ((ixAt (fun c => decide (c.Name = s)) i (l.drop i), ()), ())) ?_ ?_
    · rw [um8]; simp [ixAt]
    · intro i hi ih
      rw [um8]
      simp only [lt_t hi, if_true, ua9 hi, ua0, uh1]
      rw [ua7 hi hl, ih, ua8 hi]
      simp only [ixAt]
      by_cases h0 : l[i].Name = s <;> simp [h0]
  exact this (Nat.zero_le _)
end Go.Proofs.YtaennkkcnhfglaaGreatDoor.Ev.F
namespace Go.Proofs.YtaennkkcnhfglaaGreatDoor.Ev.F
open Go.Proofs.YtaennkkcnhfglaaGreatDoor.Ev Go.Proofs
def Sm (x : ua4) : Prop := nds x ≤ 200 ∧ wid x ≤ 16
theorem vh2 {ps : List (Option ua4)} {x : ua4} (h : some x ∈ ps) : wid x ≤ roomP ps := by
  induction ps with
  | nil => cases h
  | cons p r ih =>
    rcases List.mem_cons.1 h with rfl | h
    · rw [ud9]; omega
    · have := ih h
      cases p with
      | none => rw [roomP]; exact this
      | some y => rw [ud9]; omega
theorem vK5 {vs : List data_variant} {v : data_variant} (h : v ∈ vs) : roomV v ≤ rooms vs := by
  induction vs with
  | nil => cases h
  | cons p r ih =>
    rw [un3]
    rcases List.mem_cons.1 h with rfl | h
    · exact Nat.le_max_left _ _
    · exact Nat.le_trans (ih h) (Nat.le_max_right _ _)
theorem vL5 {b : Int} {vs : List data_variant} (h : Sm ⟨b, some vs⟩) : ndsV vs ≤ 199 ∧ tagN vs.length + rooms vs ≤ 16 := by
  obtain ⟨h1, h2⟩ := h
  rw [uP2] at h1
  rw [uu5] at h2
  exact ⟨by omega, h2⟩
theorem uy7 {vs : List data_variant} (h1 : ndsV vs ≤ 199) (h2 : tagN vs.length + rooms vs ≤ 16) {n : ByteArray} {fs : List ua6} {ps : List (Option ua4)} (hv : ⟨n, fs, some ps⟩ ∈ vs) : ndsP ps ≤ 199 ∧ roomP ps ≤ rooms vs ∧ ∀ x, some x ∈ ps → Sm x := by
  have h3 := u88 hv
  have h4 := vK5 hv
  rw [uu9] at h3
  rw [un2] at h4
  refine ⟨by omega, h4, fun x hx => ?_⟩
  have h5 := u89 hx
  have h6 := vh2 hx
  exact ⟨by omega, by omega⟩
theorem uv0 {Q : ua4 → Prop} (hb : ∀ b : Int, 1 ≤ b → b ≤ 16 → Q ⟨b, none⟩)
    (hc : ∀ vs : List data_variant, 0 < vs.length → vs.length ≤ 16 → ndsV vs ≤ 199 → tagN vs.length + rooms vs ≤ 16 → AllV (fun x => SOk x ∧ Sm x ∧ Q x) vs → Q ⟨0, some vs⟩) : ∀ x, SOk x → Sm x → Q x := by
  refine u11 (Q := fun x => Sm x → Q x) (fun b h1 h2 _ => hb b h1 h2) (fun vs h0 h1 h hs => ?_)
  obtain ⟨s1, s2⟩ := vL5 hs
  refine hc vs h0 h1 s1 s2 fun v hv => ?_
  obtain ⟨n, fs, ps, rfl, l1, l2, hp⟩ := h v hv
  obtain ⟨_, _, k3⟩ := uy7 s1 s2 hv
  refine ⟨n, fs, ps, rfl, l1, l2, fun p hpm => ?_⟩
  obtain ⟨x, rfl, hx1, hx2⟩ := hp p hpm
  exact ⟨x, rfl, hx1, k3 x hpm, hx2 (k3 x hpm)⟩
structure ConC (l : List ua3) (t : ua1) (vs : List data_variant) : Prop where
  kind : t.Kind = 1
  name : t.Name ≠ sBit
  ty : Ty l t
  tree : tree t = true
  pos : 0 < vs.length
  len : vs.length ≤ 16
  nds : ndsV vs ≤ 199
  wid : tagN vs.length + rooms vs ≤ 16
  fs : ∀ c ∈ ub9 l t, c.Fields.length ≤ 8
theorem All2.withMem {α β : Type} {R : α → β → Prop} {l : List α} {m : List β} (h : All2 R l m) : All2 (fun a b => (a ∈ l ∧ b ∈ m) ∧ R a b) l m := by
  induction h with
  | nil => exact .nil
  | cons h t ih => exact .cons ⟨⟨List.mem_cons_self .., List.mem_cons_self ..⟩, h⟩ (ih.mono fun a b ⟨⟨h1, h2⟩, h3⟩ => ⟨⟨List.mem_cons_of_mem _ h1, List.mem_cons_of_mem _ h2⟩, h3⟩)
theorem vl6 {l : List ua3} (hv : uq2 l) {Q : ua1 → ua4 → Prop} (hb : ∀ t p, t.Kind = 1 → t.Name = sBit → t.Parts = [p] → 1 ≤ p.Value → p.Value ≤ 16 → Q t ⟨p.Value, none⟩)
    (hc : ∀ t vs, ConC l t vs → All2 (VR (fun t x => SOk x ∧ Sm x ∧ Q t x)) (ub9 l t) vs → Q t ⟨0, some vs⟩) : ∀ n t x, SR l n t x → Sm x → Q t x
 | 0, t, x, h, _ => h.elim
 | n + 1, t, x, h, hs => by
   rcases h with ⟨hk, hb', p, hp, h1, h2, rfl⟩ | ⟨hk, hb', ht, htr, vs, rfl, hr⟩
   · exact hb t p hk hb' hp h1 h2
   · obtain ⟨⟨m0, m1⟩, m2⟩ := ul9 hv ht htr hk
     have hlen := hr.len
     obtain ⟨s1, s2⟩ := vL5 hs
     refine hc t vs ⟨hk, hb', ht, htr, by omega, by omega, s1, s2, fun c hc => (m2 c hc).1⟩ (hr.withMem.mono fun c v h => ?_)
     obtain ⟨⟨hcm, hvm⟩, ps, rfl, hps⟩ := h
     obtain ⟨_, _, k3⟩ := uy7 s1 s2 hvm
     refine ⟨ps, rfl, hps.withMem.mono fun f p h => ?_⟩
     obtain ⟨⟨hf, hpm⟩, x, rfl, hx⟩ := h
     exact ⟨x, rfl, sok hv hx, k3 x hpm, vl6 hv hb hc n _ _ hx (k3 x hpm)⟩
mutual
def cnt : ua4 → Nat
 | ⟨b, none⟩ => 2 ^ b.toNat
 | ⟨_, some vs⟩ => cntVs vs
def cntVs : List data_variant → Nat
 | [] => 0
 | v :: r => cntV v + cntVs r
def cntV : data_variant → Nat
 | ⟨_, _, none⟩ => 1
 | ⟨_, _, some ps⟩ => cntP ps
def cntP : List (Option ua4) → Nat
 | [] => 1
 | none :: r => cntP r
 | some x :: r => cnt x * cntP r
end
theorem uW2 (b : Int) : cnt ⟨b, none⟩ = 2 ^ b.toNat := by rw [cnt]
theorem uw3 (b : Int) (vs : List data_variant) : cnt ⟨b, some vs⟩ = cntVs vs := by rw [cnt]
theorem ur7 : cntVs [] = 0 := by rw [cntVs]
theorem uj2 (v : data_variant) (r : List data_variant) : cntVs (v :: r) = cntV v + cntVs r := by rw [cntVs]
theorem uk4 (n : ByteArray) (fs : List ua6) (ps : List (Option ua4)) : cntV ⟨n, fs, some ps⟩ = cntP ps := by rw [cntV]
theorem uw1 : cntP [] = 1 := by rw [cntP]
theorem uo7 (x : ua4) (r : List (Option ua4)) : cntP (some x :: r) = cnt x * cntP r := by rw [cntP]
theorem uM8 (n : Nat) (h : n ≤ 16) : n ≤ 2 ^ tagN n := by
  unfold tagN
  split
  · omega
  · split
    · omega
    · split
      · omega
      · split <;> omega
def CB (x : ua4) : Prop := 1 ≤ cnt x ∧ cnt x ≤ 2 ^ wid x
theorem ul8 {ps : List (Option ua4)} (h : AllP CB ps) : 1 ≤ cntP ps ∧ cntP ps ≤ 2 ^ roomP ps := by
  induction ps with
  | nil => rw [uw1, up1]; decide
  | cons p r ih =>
    obtain ⟨x, rfl, h1, h2⟩ := h p (List.mem_cons_self ..)
    obtain ⟨k1, k2⟩ := ih h.tail
    rw [uo7, ud9, Nat.pow_add]
    exact ⟨Nat.mul_le_mul h1 k1, Nat.mul_le_mul h2 k2⟩
theorem uw2 {vs : List data_variant} (h : AllV CB vs) : vs.length ≤ cntVs vs ∧ cntVs vs ≤ vs.length * 2 ^ rooms vs := by
  induction vs with
  | nil => rw [ur7]; simp
  | cons v r ih =>
    obtain ⟨n, fs, ps, rfl, _, _, hp⟩ := h v (List.mem_cons_self ..)
    obtain ⟨k1, k2⟩ := ih h.tail
    obtain ⟨p1, p2⟩ := ul8 hp
    rw [uj2, uk4, un3, un2, List.length_cons, Nat.add_mul]
    have m1 : 2 ^ roomP ps ≤ 2 ^ max (roomP ps) (rooms r) := Nat.pow_le_pow_right (by decide) (Nat.le_max_left _ _)
    have m2 : 2 ^ rooms r ≤ 2 ^ max (roomP ps) (rooms r) := Nat.pow_le_pow_right (by decide) (Nat.le_max_right _ _)
    have m3 : r.length * 2 ^ rooms r ≤ r.length * 2 ^ max (roomP ps) (rooms r) := Nat.mul_le_mul_left _ m2
    omega
theorem ue4 : ∀ x, SOk x → CB x := by
  refine u11 (fun b h1 h2 => ?_) (fun vs h0 h1 h => ?_)
  · unfold CB
    rw [uW2, uC6]
    exact ⟨Nat.one_le_two_pow, Nat.le_refl _⟩
  · unfold CB
    obtain ⟨k1, k2⟩ := uw2 (h.mono fun x hx => hx.2)
    rw [uw3, uu5, Nat.pow_add]
    have := uM8 vs.length h1
    exact ⟨by omega, Nat.le_trans k2 (Nat.mul_le_mul_right _ this)⟩
theorem uf8 {n : Nat} (h : n ≤ 16) : 2 ^ n ≤ 65536 := Nat.le_trans (Nat.pow_le_pow_right (by decide) h) (by decide)
def PC (x : ua4) : Prop := run_z61 (.start (some x)) = some (((cnt x : Int), ()), ())
theorem wc4 (n : ByteArray) (fs : List ua6) {ps : List (Option ua4)} (h : AllP (fun x => SOk x ∧ Sm x ∧ PC x) ps) (hl : ps.length ≤ 8) (hr : roomP ps ≤ 16) : uk1 (.start n fs (some ps)) = some (((cntP ps : Int), ()), ()) := by
  rw [uk1]
  simp only [Option.getD_some]
  have loop : ∀ {i}, i ≤ ps.length → ∀ s : Nat, s * cntP (ps.drop i) ≤ 65536 → uk1 (.p116 (s : Int) (some ps) (List.length ps : Int) (i : Int)) = some ((((s * cntP (ps.drop i) : Nat) : Int), ()), ()) := by
    refine ub0 ps (P := fun i => ∀ s : Nat, s * cntP (ps.drop i) ≤ 65536 → uk1 (.p116 (s : Int) (some ps) (List.length ps : Int) (i : Int)) = some ((((s * cntP (ps.drop i) : Nat) : Int), ()), ())) ?_ ?_
    · intro s hs
      rw [uk1, List.drop_length, uw1]
      simp only [lt_f, Bool.false_eq_true, if_false, Nat.mul_one]
    · intro i hi ih s hs
      obtain ⟨x, hx, hq1, hq2, hq3⟩ := h ps[i] (List.getElem_mem hi)
      rw [uk1]
      simp only [lt_t hi, if_true, Option.getD_some, ua9 hi, ua0, hx, show run_z61 (.start (some x)) = _ from hq3]
      rw [ua8 hi, hx, uo7] at hs ⊢
      have hrest : AllP CB (ps.drop (i + 1)) := fun p hp => by
        obtain ⟨y, e, hy, _⟩ := h p (List.mem_of_mem_drop hp)
        exact ⟨y, e, ue4 y hy⟩
      have h1 := (ul8 hrest).1
      rw [← Nat.mul_assoc] at hs ⊢
      have h2 : s * cnt x * 1 ≤ s * cnt x * cntP (ps.drop (i + 1)) := Nat.mul_le_mul_left _ h1
      rw [ua7 hi (by omega), ← Int.natCast_mul, wrap_i64 (by omega) (by omega), ih (s * cnt x) hs]
  have hb := (ul8 (h.mono fun x hx => ue4 x hx.1)).2
  have hp := uf8 hr
  have := loop (Nat.zero_le _) 1 (by rw [List.drop_zero]; omega)
  rw [List.drop_zero, Nat.one_mul] at this
  exact this
theorem u50 : ∀ x, SOk x → Sm x → PC x := by
  refine uv0 (fun b h1 h2 => ?_) (fun vs h0 h1 hn hw h => ?_)
  · unfold PC
    rw [run_z61, ux1]
    simp only [ua0, if_true]
    rw [decide_eq_true (by omega), if_pos rfl, vc2 (by omega), uW2]
    unfold pw
    simp
  · unfold PC
    rw [run_z61, ux2 _ _ h0]
    simp only [ua0, Bool.false_eq_true, if_false, Option.getD_some]
    have hCB := h.mono fun x hx => ue4 x hx.1
    have loop : ∀ {i}, i ≤ vs.length → ∀ s : Nat, s + cntVs (vs.drop i) ≤ 10000000 → run_z61 (.p244 (s : Int) (some vs) (List.length vs : Int) (i : Int)) = some ((((s + cntVs (vs.drop i) : Nat) : Int), ()), ()) := by
      refine ub0 vs (P := fun i => ∀ s : Nat, s + cntVs (vs.drop i) ≤ 10000000 → run_z61 (.p244 (s : Int) (some vs) (List.length vs : Int) (i : Int)) = some ((((s + cntVs (vs.drop i) : Nat) : Int), ()), ())) ?_ ?_
      · intro s hs
        rw [run_z61, List.drop_length, ur7]
        simp only [lt_f, Bool.false_eq_true, if_false, Nat.add_zero]
      · intro i hi ih s hs
        obtain ⟨n, fs, ps, hx, _, hpl, hq⟩ := h vs[i] (List.getElem_mem hi)
        have hm := hx ▸ List.getElem_mem hi
        obtain ⟨_, k2, _⟩ := uy7 hn hw hm
        rw [run_z61]
        simp only [lt_t hi, if_true, Option.getD_some, ua9 hi, ua0, hx]
        rw [wc4 n fs hq hpl (by omega)]
        simp only [ua0]
        rw [ua8 hi, hx, uj2, uk4] at hs ⊢
        rw [ua7 hi (by omega), ← Int.natCast_add, wrap_i64 (by omega) (by omega), ih (s + cntP ps) (by omega), Nat.add_assoc]
    have hb := (uw2 hCB).2
    have hp := uf8 (show rooms vs ≤ 16 by omega)
    have : vs.length * 2 ^ rooms vs ≤ 16 * 65536 := Nat.mul_le_mul h1 hp
    have := loop (Nat.zero_le _) 0 (by rw [List.drop_zero]; omega)
    rw [List.drop_zero, Nat.zero_add] at this
    rw [uw3]
    exact this
end Go.Proofs.YtaennkkcnhfglaaGreatDoor.Ev.F
namespace Go.Proofs.YtaennkkcnhfglaaGreatDoor.Ev.F
open Go.Proofs.YtaennkkcnhfglaaGreatDoor.Ev Go.Proofs
theorem vW5 {l : List ua3} (hl : l.length ≤ 24) (hd : ∀ d ∈ l, uh8 d) {t : ua1} (ht : lenOk t) : uH2 (.start l t.Kind t.Value t.Name t.Parts) = some ((if uk3 l t = 0 then (((wid (exT l 40 t 0).2.2 : Int)), ((0 : Int), ())) else ((0 : Int), (uk3 l t, ()))), ()) := by
  obtain ⟨o, ho, ho2⟩ := vJ5 hl hd ht
  rw [uH2, ho]
  simp only [ua0]
  by_cases h0 : uk3 l t = 0
  · have hop := ug5 (fun d h => (hd d h).light) h0
    rw [if_neg (by simpa using h0), if_pos h0, ho2 h0, (pwid _ (sok hop.valid hop.sr) hop.nds).1]
    simp only [ua0]
  · rw [if_pos (by simpa using h0), if_neg h0]
theorem u36.cases {l : List ua3} {t : ua1} {x : ua4} (h : u36 l t x) : (t.Kind = 1 ∧ t.Name = sBit ∧ ∃ p, t.Parts = [p] ∧ 1 ≤ p.Value ∧ p.Value ≤ 16 ∧ x = ⟨p.Value, none⟩) ∨ ∃ vs, x = ⟨0, some vs⟩ ∧ ConC l t vs ∧ All2 (VR (SR l 39)) (ub9 l t) vs := by
  rcases h.sr with hb | ⟨hk, hb, hty, htr, vs, e, hr⟩
  · exact .inl hb
  · refine .inr ⟨vs, e, ?_, hr⟩
    obtain ⟨⟨m0, m1⟩, m2⟩ := ul9 h.valid hty htr hk
    have hlen := hr.len
    have hs : Sm ⟨0, some vs⟩ := by rw [← e]; exact ⟨h.nds, h.w16⟩
    obtain ⟨s1, s2⟩ := vL5 hs
    exact ⟨hk, hb, hty, htr, by omega, by omega, s1, s2, fun c hc => (m2 c hc).1⟩
end Go.Proofs.YtaennkkcnhfglaaGreatDoor.Ev.F
namespace Go.Proofs.YtaennkkcnhfglaaGreatDoor.Ev.F
open Go.Proofs.YtaennkkcnhfglaaGreatDoor.Ev Go.Proofs
theorem vW1 {l : List ua3} (hl : l.length ≤ 24) (hd : ∀ d ∈ l, uh8 d) {t : ua1} (ht : lenOk t) : uU4 (.start l t.Kind t.Value t.Name t.Parts) = some ((if uk3 l t = 0 then (((cnt (exT l 40 t 0).2.2 : Int)), ((0 : Int), ())) else ((0 : Int), (uk3 l t, ()))), ()) := by
  obtain ⟨o, ho, ho2⟩ := vJ5 hl hd ht
  rw [uU4, ho]
  simp only [ua0]
  by_cases h0 : uk3 l t = 0
  · have hop := ug5 (fun d h => (hd d h).light) h0
    rw [if_neg (by simpa using h0), if_pos h0, ho2 h0, show run_z61 _ = _ from u50 _ (sok hop.valid hop.sr) ⟨hop.nds, hop.w16⟩]
    simp only [ua0]
  · rw [if_pos (by simpa using h0), if_neg h0]
end Go.Proofs.YtaennkkcnhfglaaGreatDoor.Ev.F
namespace Go.Proofs.YtaennkkcnhfglaaGreatDoor.Ev.F
open Go.Proofs.YtaennkkcnhfglaaGreatDoor.Ev
abbrev DV : Type := ua5
abbrev ug3 : ByteArray := ⟨#[]⟩
mutual
def atV : ua4 → Nat → DV
 | ⟨_, none⟩, i => ⟨ug3, (i : Int), []⟩
 | ⟨_, some vs⟩, i => atVs vs i
def atVs : List data_variant → Nat → DV
 | [], _ => ⟨ug3, 0, []⟩
 | v :: r, i => if i < cntV v then atW v i else atVs r (i - cntV v)
def atW : data_variant → Nat → DV
 | ⟨n, _, none⟩, _ => ⟨n, 0, []⟩
 | ⟨n, _, some ps⟩, i => ⟨n, 0, atP ps i⟩
def atP : List (Option ua4) → Nat → List DV
 | [], _ => []
 | none :: r, i => atP r i
 | some x :: r, i => atV x (i / cntP r) :: atP r (i % cntP r)
end
mutual
def bef : ua4 → DV → Nat
 | ⟨_, none⟩, v => v.Number.toNat
 | ⟨_, some vs⟩, v => befVs vs v
def befVs : List data_variant → DV → Nat
 | [], _ => 0
 | c :: r, v => if c.name = v.Name then befW c v else cntV c + befVs r v
def befW : data_variant → DV → Nat
 | ⟨_, _, none⟩, _ => 0
 | ⟨_, _, some ps⟩, v => befP ps v.Parts
def befP : List (Option ua4) → List DV → Nat
 | [], _ => 0
 | none :: r, l => befP r l
 | some x :: r, [] => 0
 | some x :: r, v :: l => bef x v * cntP r + befP r l
end
mutual
def valE : ua4 → DV → Int
 | ⟨b, none⟩, v => ug4 [if v.Name = ug3 ∧ v.Parts.length = 0 then 0 else 3, if 0 ≤ v.Number ∧ v.Number ≤ pw b - 1 then 0 else 2]
 | ⟨_, some vs⟩, v => valVs vs v
def valVs : List data_variant → DV → Int
 | [], _ => 6
 | c :: r, v => if c.name = v.Name then valW c v else valVs r v
def valW : data_variant → DV → Int
 | ⟨_, _, none⟩, _ => 6
 | ⟨_, _, some ps⟩, v => ug4 [if v.Number = 0 then 0 else 3, if v.Parts.length = ps.length then 0 else 10, valP ps v.Parts]
def valP : List (Option ua4) → List DV → Int
 | [], _ => 0
 | none :: r, l => valP r l
 | some x :: r, [] => 0
 | some x :: r, v :: l => if valE x v = 0 then valP r l else valE x v
end
mutual
def pk_ : ua4 → DV → Nat
 | ⟨_, none⟩, v => v.Number.toNat
 | ⟨_, some vs⟩, v => (pkT vs v).1 * 2 ^ rooms vs + (pkT vs v).2
def pkT : List data_variant → DV → Nat × Nat
 | [], _ => (0, 0)
 | c :: r, v => if c.name = v.Name then (0, pkW c v) else ((pkT r v).1 + 1, (pkT r v).2)
def pkW : data_variant → DV → Nat
 | ⟨_, _, none⟩, _ => 0
 | ⟨_, _, some ps⟩, v => pkP ps v.Parts
def pkP : List (Option ua4) → List DV → Nat
 | [], _ => 0
 | none :: r, l => pkP r l
 | some x :: r, [] => 0
 | some x :: r, v :: l => pk_ x v * 2 ^ roomP r + pkP r l
end
mutual
def upk : ua4 → Nat → Option DV
 | ⟨_, none⟩, n => some ⟨ug3, (n : Int), []⟩
 | ⟨_, some vs⟩, n => upkVs vs (n / 2 ^ rooms vs) (n % 2 ^ rooms vs)
def upkVs : List data_variant → Nat → Nat → Option DV
 | [], _, _ => none
 | v :: r, 0, f => upkW v f
 | v :: r, k + 1, f => upkVs r k f
def upkW : data_variant → Nat → Option DV
 | ⟨_, _, none⟩, _ => none
 | ⟨n, _, some ps⟩, f => if f < 2 ^ roomP ps then (upkP ps f).map fun l => ⟨n, 0, l⟩ else none
def upkP : List (Option ua4) → Nat → Option (List DV)
 | [], _ => some []
 | none :: r, f => upkP r f
 | some x :: r, f => match upk x (f / 2 ^ roomP r % 2 ^ wid x), upkP r f with
   | some a, some l => some (a :: l)
   | _, _ => none
end
theorem u73 (b : Int) (i : Nat) : atV ⟨b, none⟩ i = ⟨ug3, (i : Int), []⟩ := by rw [atV]
theorem uN9 (b : Int) (vs : List data_variant) (i : Nat) : atV ⟨b, some vs⟩ i = atVs vs i := by rw [atV]
theorem uz6 (v : data_variant) (r : List data_variant) (i : Nat) : atVs (v :: r) i = if i < cntV v then atW v i else atVs r (i - cntV v) := by rw [atVs]
theorem uv9 (n : ByteArray) (fs : List ua6) (ps : List (Option ua4)) (i : Nat) : atW ⟨n, fs, some ps⟩ i = ⟨n, 0, atP ps i⟩ := by rw [atW]
theorem vC8 (i : Nat) : atP [] i = [] := by rw [atP]
theorem uS9 (x : ua4) (r : List (Option ua4)) (i : Nat) : atP (some x :: r) i = atV x (i / cntP r) :: atP r (i % cntP r) := by rw [atP]
theorem vi9 (b : Int) (v : DV) : bef ⟨b, none⟩ v = v.Number.toNat := by rw [bef]
theorem u75 (b : Int) (vs : List data_variant) (v : DV) : bef ⟨b, some vs⟩ v = befVs vs v := by rw [bef]
theorem uC9 (c : data_variant) (r : List data_variant) (v : DV) : befVs (c :: r) v = if c.name = v.Name then befW c v else cntV c + befVs r v := by rw [befVs]
theorem uV8 (n : ByteArray) (fs : List ua6) (ps : List (Option ua4)) (v : DV) : befW ⟨n, fs, some ps⟩ v = befP ps v.Parts := by rw [befW]
theorem u74 (l : List DV) : befP [] l = 0 := by rw [befP]
theorem uV7 (x : ua4) (r : List (Option ua4)) (v : DV) (l : List DV) : befP (some x :: r) (v :: l) = bef x v * cntP r + befP r l := by rw [befP]
theorem uN6 (b : Int) (v : DV) : valE ⟨b, none⟩ v = ug4 [if v.Name = ug3 ∧ v.Parts.length = 0 then 0 else 3, if 0 ≤ v.Number ∧ v.Number ≤ pw b - 1 then 0 else 2] := by rw [valE]
theorem ui4 (b : Int) (vs : List data_variant) (v : DV) : valE ⟨b, some vs⟩ v = valVs vs v := by rw [valE]
theorem uC0 (v : DV) : valVs [] v = 6 := by rw [valVs]
theorem uh3 (c : data_variant) (r : List data_variant) (v : DV) : valVs (c :: r) v = if c.name = v.Name then valW c v else valVs r v := by rw [valVs]
theorem uC1 (n : ByteArray) (fs : List ua6) (ps : List (Option ua4)) (v : DV) : valW ⟨n, fs, some ps⟩ v = ug4 [if v.Number = 0 then 0 else 3, if v.Parts.length = ps.length then 0 else 10, valP ps v.Parts] := by rw [valW]
theorem uU6 (l : List DV) : valP [] l = 0 := by rw [valP]
theorem uB8 (x : ua4) (r : List (Option ua4)) (v : DV) (l : List DV) : valP (some x :: r) (v :: l) = if valE x v = 0 then valP r l else valE x v := by rw [valP]
theorem vg5 (b : Int) (v : DV) : pk_ ⟨b, none⟩ v = v.Number.toNat := by rw [pk_]
theorem uY5 (b : Int) (vs : List data_variant) (v : DV) : pk_ ⟨b, some vs⟩ v = (pkT vs v).1 * 2 ^ rooms vs + (pkT vs v).2 := by rw [pk_]
theorem uo4 (c : data_variant) (r : List data_variant) (v : DV) : pkT (c :: r) v = if c.name = v.Name then (0, pkW c v) else ((pkT r v).1 + 1, (pkT r v).2) := by rw [pkT]
theorem uK4 (n : ByteArray) (fs : List ua6) (ps : List (Option ua4)) (v : DV) : pkW ⟨n, fs, some ps⟩ v = pkP ps v.Parts := by rw [pkW]
theorem vl1 (l : List DV) : pkP [] l = 0 := by rw [pkP]
theorem uK3 (x : ua4) (r : List (Option ua4)) (v : DV) (l : List DV) : pkP (some x :: r) (v :: l) = pk_ x v * 2 ^ roomP r + pkP r l := by rw [pkP]
theorem vc7 (b : Int) (n : Nat) : upk ⟨b, none⟩ n = some ⟨ug3, (n : Int), []⟩ := by rw [upk]
theorem uH7 (b : Int) (vs : List data_variant) (n : Nat) : upk ⟨b, some vs⟩ n = upkVs vs (n / 2 ^ rooms vs) (n % 2 ^ rooms vs) := by rw [upk]
theorem uN4 (k f : Nat) : upkVs [] k f = none := by rw [upkVs]
theorem uv5 (v : data_variant) (r : List data_variant) (f : Nat) : upkVs (v :: r) 0 f = upkW v f := by rw [upkVs]
theorem uv4 (v : data_variant) (r : List data_variant) (k f : Nat) : upkVs (v :: r) (k + 1) f = upkVs r k f := by rw [upkVs]
theorem uB7 (n : ByteArray) (fs : List ua6) (ps : List (Option ua4)) (f : Nat) : upkW ⟨n, fs, some ps⟩ f = if f < 2 ^ roomP ps then (upkP ps f).map fun l => ⟨n, 0, l⟩ else none := by rw [upkW]
theorem uE5 (f : Nat) : upkP [] f = some [] := by rw [upkP]
theorem uv3 (x : ua4) (r : List (Option ua4)) (f : Nat) : upkP (some x :: r) f = match upk x (f / 2 ^ roomP r % 2 ^ wid x), upkP r f with | some a, some l => some (a :: l) | _, _ => none := by rw [upkP]
theorem uh6 (n : Nat) : 0 < 2 ^ n := Nat.pow_pos (by decide)
def uniq : List data_variant → Prop
 | [] => True
 | c :: r => (∀ d ∈ r, c.name ≠ d.name) ∧ uniq r
theorem vM2 {Q : ua4 → Prop} : ∀ {vs : List data_variant}, (∀ (i j : Nat) (c d : data_variant), vs[i]? = some c → vs[j]? = some d → c.name = d.name → i = j) → uniq vs
 | [], _ => trivial
 | c :: r, h => ⟨fun d hd e => by
   obtain ⟨j, hj⟩ := List.getElem?_of_mem hd
   have := h 0 (j + 1) c d rfl hj e
   omega, vM2 (Q := Q) fun i j c d hi hj e => by have := h (i + 1) (j + 1) c d hi hj e; omega⟩
theorem vU5 {l : List ua3} (hv : uq2 l) {t : ua1} {vs : List data_variant} {R : ua1 → ua4 → Prop} (hr : All2 (VR R) (ub9 l t) vs) : uniq vs := by
  refine vM2 (Q := fun _ => True) fun i j c d hi hj e => ?_
  obtain ⟨hi', rfl⟩ := List.getElem?_eq_some_iff.1 hi
  obtain ⟨hj', rfl⟩ := List.getElem?_eq_some_iff.1 hj
  have hlen := hr.len
  obtain ⟨_, e1, _⟩ := hr.get i (by omega) hi'
  obtain ⟨_, e2, _⟩ := hr.get j (by omega) hj'
  rw [e1, e2] at e
  simp only at e
  have h1 : (ub9 l t)[i]? = some (ub9 l t)[i] := List.getElem?_eq_getElem (by omega)
  have h2 : (ub9 l t)[j]? = some (ub9 l t)[j] := List.getElem?_eq_getElem (by omega)
  generalize (ub9 l t)[i] = ci at h1 e
  generalize (ub9 l t)[j] = cj at h2 e
  unfold ub9 at h1 h2
  cases hd : dat l t.Name with
  | none =>
    rw [hd] at h1 h2
    simp only at h1 h2
    have hne : us5 ≠ uH5 := by decide
    match i, j, h1, h2 with
    | 0, 0, _, _ => rfl
    | 1, 1, _, _ => rfl
    | 0, 1, h1, h2 => simp at h1 h2; subst h1 h2; exact absurd e hne
    | 1, 0, h1, h2 => simp at h1 h2; subst h1 h2; exact absurd e.symm hne
    | i + 2, _, h1, _ => simp at h1
    | _, j + 2, _, h2 => simp at h2
  | some d =>
    rw [hd] at h1 h2
    simp only [List.getElem?_map, Option.map_eq_some_iff] at h1 h2
    obtain ⟨c1, g1, rfl⟩ := h1
    obtain ⟨c2, g2, rfl⟩ := h2
    exact hv.known d (uW6 hd).1 i j c1 c2 g1 g2 e
theorem u58 {l : List ua3} (hv : uq2 l) {Q : ua4 → Prop} (hb : ∀ b : Int, 1 ≤ b → b ≤ 16 → Q ⟨b, none⟩)
    (hc : ∀ vs : List data_variant, 0 < vs.length → vs.length ≤ 16 → ndsV vs ≤ 199 → tagN vs.length + rooms vs ≤ 16 → uniq vs → AllV (fun x => SOk x ∧ Sm x ∧ Q x) vs → Q ⟨0, some vs⟩) : ∀ n t x, SR l n t x → Sm x → Q x :=
  vl6 hv (Q := fun _ x => Q x) (fun t p _ _ _ h1 h2 => hb _ h1 h2) (fun t vs c h => hc vs c.pos c.len c.nds c.wid (vU5 hv h) (AllV.of (R := fun t x => SOk x ∧ Sm x ∧ Q x) (fun t x hx => hx) c.fs h))
end Go.Proofs.YtaennkkcnhfglaaGreatDoor.Ev.F
namespace Go.Proofs.YtaennkkcnhfglaaGreatDoor.Ev.F
open Go.Proofs.YtaennkkcnhfglaaGreatDoor.Ev Go.Proofs
theorem uT7 {b : Int} (h : 0 ≤ b) : pw b = ((2 ^ b.toNat : Nat) : Int) := by unfold pw; simp
theorem uN3 : ∀ (ps : List (Option ua4)), AllP (fun _ => True) ps → ∀ f, upkP ps f = upkP ps (f % 2 ^ roomP ps)
 | [], _, f => by rw [uE5, uE5]
 | p :: r, h, f => by
   obtain ⟨x, rfl, _⟩ := h p (List.mem_cons_self ..)
   rw [uv3, uv3, ud9]
   have e1 : f % 2 ^ (wid x + roomP r) / 2 ^ roomP r % 2 ^ wid x = f / 2 ^ roomP r % 2 ^ wid x := by
     rw [Nat.add_comm, Nat.pow_add, Nat.mod_mul_right_div_self, Nat.mod_mod]
   have e2 : upkP r (f % 2 ^ (wid x + roomP r)) = upkP r f := by
     rw [uN3 r h.tail, uN3 r h.tail f, Nat.mod_mod_of_dvd _ (Nat.pow_dvd_pow 2 (by omega))]
   rw [e1, e2]
def T3 (x : ua4) : Prop := ∀ v, valE x v = 0 → pk_ x v < 2 ^ wid x ∧ upk x (pk_ x v) = some v
theorem vc8 {x : ua4} {r : List (Option ua4)} {l : List DV} (h : l.length = (some x :: r).length) : ∃ v m, l = v :: m ∧ m.length = r.length := by
  cases l with
  | nil => simp at h
  | cons v m => exact ⟨v, m, rfl, by simpa using h⟩
theorem uB9 {x : ua4} {r : List (Option ua4)} {v : DV} {m : List DV} (h : valP (some x :: r) (v :: m) = 0) : valE x v = 0 ∧ valP r m = 0 := by
  rw [uB8] at h
  by_cases h0 : valE x v = 0
  · rw [if_pos h0] at h; exact ⟨h0, h⟩
  · rw [if_neg h0] at h; exact absurd h h0
theorem uC2 {n : ByteArray} {fs : List ua6} {ps : List (Option ua4)} {v : DV} (h : valW ⟨n, fs, some ps⟩ v = 0) : v.Number = 0 ∧ v.Parts.length = ps.length ∧ valP ps v.Parts = 0 := by
  rw [uC1] at h
  obtain ⟨h1, h⟩ := uc7 h
  obtain ⟨h2, h⟩ := uc7 h
  obtain ⟨h3, _⟩ := uc7 h
  refine ⟨?_, ?_, h3⟩
  · by_cases e : v.Number = 0
    · exact e
    · rw [if_neg e] at h1; cases h1
  · by_cases e : v.Parts.length = ps.length
    · exact e
    · rw [if_neg e] at h2; cases h2
theorem t3P : ∀ (ps : List (Option ua4)), AllP (fun x => SOk x ∧ Sm x ∧ T3 x) ps → ∀ l, l.length = ps.length → valP ps l = 0 → pkP ps l < 2 ^ roomP ps ∧ upkP ps (pkP ps l) = some l
 | [], _, l, hl, _ => by
   have : l = [] := List.length_eq_zero_iff.1 (by simpa using hl)
   subst this
   rw [vl1, up1, uE5]
   exact ⟨by decide, rfl⟩
 | p :: r, h, l, hl, hz => by
   obtain ⟨x, rfl, hs, hm, hx⟩ := h p (List.mem_cons_self ..)
   obtain ⟨v, m, rfl, hml⟩ := vc8 hl
   obtain ⟨z1, z2⟩ := uB9 hz
   obtain ⟨a1, a2⟩ := hx v z1
   obtain ⟨b1, b2⟩ := t3P r h.tail m hml z2
   rw [uK3, ud9, uv3]
   have hp := uh6 (roomP r)
   have e1 : (pk_ x v * 2 ^ roomP r + pkP r m) / 2 ^ roomP r = pk_ x v := by
     rw [Nat.add_comm, Nat.add_mul_div_right _ _ hp, Nat.div_eq_of_lt b1, Nat.zero_add]
   have e2 : (pk_ x v * 2 ^ roomP r + pkP r m) % 2 ^ roomP r = pkP r m := by
     rw [Nat.add_comm, Nat.add_mul_mod_self_right, Nat.mod_eq_of_lt b1]
   refine ⟨?_, ?_⟩
   · rw [Nat.pow_add]
     have : (pk_ x v + 1) * 2 ^ roomP r ≤ 2 ^ wid x * 2 ^ roomP r := Nat.mul_le_mul_right _ a1
     rw [Nat.add_mul] at this
     omega
   · rw [e1, Nat.mod_eq_of_lt a1, a2, uN3 r (h.tail.mono fun _ _ => trivial), e2, b2]
theorem vi4 (v : DV) {n : ByteArray} {k : Int} {l : List DV} (h1 : v.Name = n) (h2 : v.Number = k) (h3 : v.Parts = l) : (⟨n, k, l⟩ : DV) = v := by subst h1 h2 h3; cases v; rfl
theorem t3Vs : ∀ (vs : List data_variant) (R : Nat), rooms vs ≤ R → AllV (fun x => SOk x ∧ Sm x ∧ T3 x) vs → ∀ v, valVs vs v = 0 → (pkT vs v).1 < vs.length ∧ (pkT vs v).2 < 2 ^ R ∧ upkVs vs (pkT vs v).1 (pkT vs v).2 = some v
 | [], R, _, _, v, hz => by rw [uC0] at hz; cases hz
 | c :: r, R, hR, h, v, hz => by
   rw [un3] at hR
   rw [uh3] at hz
   rw [uo4]
   by_cases hn : c.name = v.Name
   · rw [if_pos hn] at hz
     obtain ⟨n, fs, ps, rfl, _, _, hp⟩ := h c (List.mem_cons_self ..)
     obtain ⟨z1, z2, z3⟩ := uC2 hz
     obtain ⟨a1, a2⟩ := t3P ps hp v.Parts z2 z3
     rw [un2] at hR
     have := Nat.pow_le_pow_right (show 0 < 2 by decide) (show roomP ps ≤ R from Nat.le_trans (Nat.le_max_left _ _) hR)
     rw [if_pos hn, uK4]
     simp only
     rw [uv5, uB7, if_pos a1, a2]
     exact ⟨by simp, by omega, by rw [Option.map_some]; congr 1; exact vi4 v hn.symm z1 rfl⟩
   · rw [if_neg hn] at hz
     obtain ⟨a1, a2, a3⟩ := t3Vs r R (Nat.le_trans (Nat.le_max_right _ _) hR) h.tail v hz
     rw [if_neg hn]
     simp only
     rw [uv4]
     exact ⟨by simpa using a1, a2, a3⟩
theorem uj5 {b : Int} {v : DV} (h : valE ⟨b, none⟩ v = 0) : v.Name = ug3 ∧ v.Parts = [] ∧ 0 ≤ v.Number ∧ v.Number ≤ pw b - 1 := by
  rw [uN6] at h
  obtain ⟨h1, h⟩ := uc7 h
  obtain ⟨h2, _⟩ := uc7 h
  by_cases e1 : v.Name = ug3 ∧ v.Parts.length = 0
  · by_cases e2 : 0 ≤ v.Number ∧ v.Number ≤ pw b - 1
    · exact ⟨e1.1, List.length_eq_zero_iff.1 e1.2, e2.1, e2.2⟩
    · rw [if_neg e2] at h2; cases h2
  · rw [if_neg e1] at h1; cases h1
theorem t3 {l : List ua3} (hv : uq2 l) : ∀ n t x, SR l n t x → Sm x → T3 x := by
  refine u58 hv (fun b h1 h2 v hz => ?_) (fun vs _ hl _ _ hu h v hz => ?_)
  · obtain ⟨z1, z2, z3, z4⟩ := uj5 hz
    rw [uT7 (by omega)] at z4
    rw [vg5, uC6, vc7]
    exact ⟨by omega, by congr 1; exact vi4 v z1 (by omega) z2⟩
  · rw [ui4] at hz
    obtain ⟨a1, a2, a3⟩ := t3Vs vs (rooms vs) (Nat.le_refl _) h v hz
    have hp := uh6 (rooms vs)
    have ht := uM8 vs.length hl
    have e1 : ((pkT vs v).1 * 2 ^ rooms vs + (pkT vs v).2) / 2 ^ rooms vs = (pkT vs v).1 := by
      rw [Nat.add_comm, Nat.add_mul_div_right _ _ hp, Nat.div_eq_of_lt a2, Nat.zero_add]
    have e2 : ((pkT vs v).1 * 2 ^ rooms vs + (pkT vs v).2) % 2 ^ rooms vs = (pkT vs v).2 := by
      rw [Nat.add_comm, Nat.add_mul_mod_self_right, Nat.mod_eq_of_lt a2]
    rw [uY5, uH7, uu5, Nat.pow_add, e1, e2]
    refine ⟨?_, a3⟩
    have : ((pkT vs v).1 + 1) * 2 ^ rooms vs ≤ 2 ^ tagN vs.length * 2 ^ rooms vs := Nat.mul_le_mul_right _ (by omega)
    rw [Nat.add_mul] at this
    omega
def T4 (x : ua4) : Prop := ∀ n v, n < 2 ^ wid x → upk x n = some v → valE x v = 0 ∧ pk_ x v = n
theorem t4P : ∀ (ps : List (Option ua4)), AllP (fun x => SOk x ∧ Sm x ∧ T4 x) ps → ∀ f l, f < 2 ^ roomP ps → upkP ps f = some l → l.length = ps.length ∧ valP ps l = 0 ∧ pkP ps l = f
 | [], _, f, l, hf, hu => by
   rw [uE5] at hu
   obtain rfl := Option.some.inj hu
   rw [up1] at hf
   rw [uU6, vl1]
   exact ⟨rfl, rfl, by simp at hf; omega⟩
 | p :: r, h, f, l, hf, hu => by
   obtain ⟨x, rfl, hs, hm, hx⟩ := h p (List.mem_cons_self ..)
   rw [uv3] at hu
   rw [ud9, Nat.pow_add] at hf
   have hp := uh6 (roomP r)
   have h1 : f / 2 ^ roomP r < 2 ^ wid x := (Nat.div_lt_iff_lt_mul hp).2 hf
   rw [Nat.mod_eq_of_lt h1] at hu
   split at hu
   · rename_i a m ha hm2
     obtain rfl := Option.some.inj hu
     obtain ⟨a1, a2⟩ := hx _ a h1 ha
     rw [uN3 r (h.tail.mono fun _ _ => trivial)] at hm2
     obtain ⟨b1, b2, b3⟩ := t4P r h.tail _ m (Nat.mod_lt _ hp) hm2
     rw [uB8, uK3, a1, a2, if_pos rfl, b3, List.length_cons, List.length_cons, b1]
     exact ⟨rfl, b2, by rw [Nat.mul_comm]; exact Nat.div_add_mod f _⟩
   · cases hu
theorem u63 : ∀ (vs : List data_variant) (k f : Nat) (v : DV), AllV (fun _ => True) vs → upkVs vs k f = some v → ∃ d ∈ vs, v.Name = d.name
 | [], k, f, v, _, hu => by rw [uN4] at hu; cases hu
 | c :: r, 0, f, v, h, hu => by
   obtain ⟨n, fs, ps, rfl, _⟩ := h c (List.mem_cons_self ..)
   rw [uv5, uB7] at hu
   by_cases hf : f < 2 ^ roomP ps
   · rw [if_pos hf] at hu
     obtain ⟨l, _, rfl⟩ := Option.map_eq_some_iff.1 hu
     exact ⟨_, List.mem_cons_self .., rfl⟩
   · rw [if_neg hf] at hu; cases hu
 | c :: r, k + 1, f, v, h, hu => by
   rw [uv4] at hu
   obtain ⟨d, hd, e⟩ := u63 r k f v h.tail hu
   exact ⟨d, List.mem_cons_of_mem _ hd, e⟩
theorem t4Vs : ∀ (vs : List data_variant), uniq vs → AllV (fun x => SOk x ∧ Sm x ∧ T4 x) vs → ∀ k f v, upkVs vs k f = some v → valVs vs v = 0 ∧ pkT vs v = (k, f)
 | [], _, _, k, f, v, hu => by rw [uN4] at hu; cases hu
 | c :: r, hq, h, 0, f, v, hu => by
   obtain ⟨n, fs, ps, rfl, _, _, hp⟩ := h c (List.mem_cons_self ..)
   rw [uv5, uB7] at hu
   by_cases hf : f < 2 ^ roomP ps
   · rw [if_pos hf] at hu
     obtain ⟨l, hl, rfl⟩ := Option.map_eq_some_iff.1 hu
     obtain ⟨b1, b2, b3⟩ := t4P ps hp f l hf hl
     rw [uh3, uo4, if_pos rfl, if_pos rfl, uC1, uK4]
     simp only [b1, b2, b3, if_true]
     exact ⟨rfl, trivial⟩
   · rw [if_neg hf] at hu; cases hu
 | c :: r, hq, h, k + 1, f, v, hu => by
   rw [uv4] at hu
   obtain ⟨d, hd, e⟩ := u63 r k f v (h.tail.mono fun _ _ => trivial) hu
   have hn : ¬ c.name = v.Name := by rw [e]; exact hq.1 d hd
   obtain ⟨a1, a2⟩ := t4Vs r hq.2 h.tail k f v hu
   rw [uh3, uo4, if_neg hn, if_neg hn, a2]
   exact ⟨a1, rfl⟩
theorem t4 {l : List ua3} (hv : uq2 l) : ∀ n t x, SR l n t x → Sm x → T4 x := by
  refine u58 hv (fun b h1 h2 n v hn hu => ?_) (fun vs _ hl _ _ hq h n v hn hu => ?_)
  · rw [vc7] at hu
    obtain rfl := Option.some.inj hu
    rw [uC6] at hn
    rw [uN6, vg5, uT7 (by omega)]
    simp only [List.length_nil, and_self, if_true]
    rw [if_pos (by omega)]
    exact ⟨rfl, by simp⟩
  · rw [uH7] at hu
    obtain ⟨a1, a2⟩ := t4Vs vs hq h _ _ v hu
    rw [ui4, uY5, a2]
    exact ⟨a1, by rw [Nat.mul_comm]; exact Nat.div_add_mod n _⟩
end Go.Proofs.YtaennkkcnhfglaaGreatDoor.Ev.F
namespace Go.Proofs.YtaennkkcnhfglaaGreatDoor.Ev.F
open Go.Proofs.YtaennkkcnhfglaaGreatDoor.Ev Go.Proofs
def T1 (x : ua4) : Prop := ∀ i, i < cnt x → valE x (atV x i) = 0 ∧ bef x (atV x i) = i
theorem t1P : ∀ (ps : List (Option ua4)), AllP (fun x => SOk x ∧ Sm x ∧ T1 x) ps → ∀ i, i < cntP ps → valP ps (atP ps i) = 0 ∧ (atP ps i).length = ps.length ∧ befP ps (atP ps i) = i
 | [], _, i, hi => by
   rw [uw1] at hi
   rw [vC8, uU6, u74]
   exact ⟨rfl, rfl, by omega⟩
 | p :: r, h, i, hi => by
   obtain ⟨x, rfl, hs, hm, hx⟩ := h p (List.mem_cons_self ..)
   have hr1 := (ul8 (h.tail.mono fun x hx => ue4 x hx.1)).1
   rw [uo7] at hi
   have h1 : i / cntP r < cnt x := (Nat.div_lt_iff_lt_mul (by omega)).2 hi
   have h2 : i % cntP r < cntP r := Nat.mod_lt _ (by omega)
   obtain ⟨a1, a2⟩ := hx _ h1
   obtain ⟨b1, b2, b3⟩ := t1P r h.tail _ h2
   rw [uS9, uB8, uV7, a1, a2, if_pos rfl, b3, List.length_cons, List.length_cons, b2]
   exact ⟨b1, rfl, by rw [Nat.mul_comm]; exact Nat.div_add_mod i (cntP r)⟩
theorem t1W {n : ByteArray} {fs : List ua6} {ps : List (Option ua4)} (h : AllP (fun x => SOk x ∧ Sm x ∧ T1 x) ps) {i : Nat} (hi : i < cntP ps) : valW ⟨n, fs, some ps⟩ (atW ⟨n, fs, some ps⟩ i) = 0 ∧ befW ⟨n, fs, some ps⟩ (atW ⟨n, fs, some ps⟩ i) = i := by
  obtain ⟨b1, b2, b3⟩ := t1P ps h i hi
  rw [uv9, uC1, uV8]
  simp only [b1, b2, b3, if_true]
  exact ⟨rfl, trivial⟩
theorem uV6 : ∀ (vs : List data_variant) (i : Nat), AllV (fun _ => True) vs → i < cntVs vs → ∃ d ∈ vs, (atVs vs i).Name = d.name
 | [], i, _, hi => by rw [ur7] at hi; omega
 | c :: r, i, h, hi => by
   rw [uz6]
   rw [uj2] at hi
   by_cases hc : i < cntV c
   · rw [if_pos hc]
     obtain ⟨n, fs, ps, rfl, _⟩ := h c (List.mem_cons_self ..)
     exact ⟨_, List.mem_cons_self .., by rw [uv9]⟩
   · rw [if_neg hc]
     obtain ⟨d, hd, e⟩ := uV6 r (i - cntV c) h.tail (by omega)
     exact ⟨d, List.mem_cons_of_mem _ hd, e⟩
theorem t1Vs : ∀ (vs : List data_variant), uniq vs → AllV (fun x => SOk x ∧ Sm x ∧ T1 x) vs → ∀ i, i < cntVs vs → valVs vs (atVs vs i) = 0 ∧ befVs vs (atVs vs i) = i
 | [], _, _, i, hi => by rw [ur7] at hi; omega
 | c :: r, hu, h, i, hi => by
   rw [uj2] at hi
   rw [uz6]
   by_cases hc : i < cntV c
   · rw [if_pos hc]
     obtain ⟨n, fs, ps, rfl, _, _, hp⟩ := h c (List.mem_cons_self ..)
     rw [uk4] at hc
     have hn : (⟨n, fs, some ps⟩ : data_variant).name = (atW ⟨n, fs, some ps⟩ i).Name := by rw [uv9]
     rw [uh3, uC9, if_pos hn, if_pos hn]
     exact t1W hp hc
   · rw [if_neg hc]
     obtain ⟨d, hd, e⟩ := uV6 r (i - cntV c) (h.tail.mono fun _ _ => trivial) (by omega)
     have hn : ¬ c.name = (atVs r (i - cntV c)).Name := by rw [e]; exact hu.1 d hd
     obtain ⟨a1, a2⟩ := t1Vs r hu.2 h.tail (i - cntV c) (by omega)
     rw [uh3, uC9, if_neg hn, if_neg hn]
     exact ⟨a1, by omega⟩
theorem t1 {l : List ua3} (hv : uq2 l) : ∀ n t x, SR l n t x → Sm x → T1 x := by
  refine u58 hv (fun b h1 h2 i hi => ?_) (fun vs _ _ _ _ hu h i hi => ?_)
  · rw [uW2] at hi
    rw [u73, uN6, vi9, uT7 (by omega)]
    simp only [List.length_nil, and_self, if_true]
    rw [if_pos (by omega)]
    exact ⟨rfl, by simp⟩
  · rw [uw3] at hi
    rw [uN9, ui4, u75]
    exact t1Vs vs hu h i hi
def T5 (x : ua4) : Prop := T1 x ∧ T3 x ∧ ∀ i j, i < j → j < cnt x → pk_ x (atV x i) < pk_ x (atV x j)
theorem t5P : ∀ (ps : List (Option ua4)), AllP (fun x => SOk x ∧ Sm x ∧ T5 x) ps → ∀ i j, i < j → j < cntP ps → pkP ps (atP ps i) < pkP ps (atP ps j)
 | [], _, i, j, hij, hj => by rw [uw1] at hj; omega
 | p :: r, h, i, j, hij, hj => by
   obtain ⟨x, rfl, hs, hm, h1, h3, h5⟩ := h p (List.mem_cons_self ..)
   have hr1 := (ul8 (h.tail.mono fun x hx => ue4 x hx.1)).1
   rw [uo7] at hj
   rw [uS9, uS9, uK3, uK3]
   have hjx : j / cntP r < cnt x := (Nat.div_lt_iff_lt_mul (by omega)).2 hj
   have hle : i / cntP r ≤ j / cntP r := Nat.div_le_div_right (Nat.le_of_lt hij)
   have hbi : pkP r (atP r (i % cntP r)) < 2 ^ roomP r := by
     obtain ⟨b1, b2, _⟩ := t1P r (h.tail.mono fun x hx => ⟨hx.1, hx.2.1, hx.2.2.1⟩) (i % cntP r) (Nat.mod_lt _ (by omega))
     exact (t3P r (h.tail.mono fun x hx => ⟨hx.1, hx.2.1, hx.2.2.2.1⟩) _ b2 b1).1
   by_cases he : i / cntP r = j / cntP r
   · have hlt : i % cntP r < j % cntP r := by
       have e1 := Nat.div_add_mod i (cntP r)
       have e2 := Nat.div_add_mod j (cntP r)
       rw [he] at e1
       omega
     have := t5P r h.tail _ _ hlt (Nat.mod_lt _ (by omega))
     rw [he]
     omega
   · have := h5 (i / cntP r) (j / cntP r) (by omega) hjx
     have h6 : (pk_ x (atV x (i / cntP r)) + 1) * 2 ^ roomP r ≤ pk_ x (atV x (j / cntP r)) * 2 ^ roomP r := Nat.mul_le_mul_right _ this
     rw [Nat.add_mul] at h6
     omega
theorem t5Vs : ∀ (vs : List data_variant), uniq vs → AllV (fun x => SOk x ∧ Sm x ∧ T5 x) vs → ∀ i j, i < j → j < cntVs vs → (pkT vs (atVs vs i)).1 < (pkT vs (atVs vs j)).1 ∨ (pkT vs (atVs vs i)).1 = (pkT vs (atVs vs j)).1 ∧ (pkT vs (atVs vs i)).2 < (pkT vs (atVs vs j)).2
 | [], _, _, i, j, _, hj => by rw [ur7] at hj; omega
 | c :: r, hq, h, i, j, hij, hj => by
   rw [uj2] at hj
   have name : ∀ k, ¬ k < cntV c → k < cntV c + cntVs r → ¬ c.name = (atVs r (k - cntV c)).Name := fun k h1 h2 => by
     obtain ⟨d, hd, e⟩ := uV6 r (k - cntV c) (h.tail.mono fun _ _ => trivial) (by omega)
     rw [e]; exact hq.1 d hd
   have own : ∀ k, k < cntV c → c.name = (atW c k).Name := fun k _ => by
     obtain ⟨n, fs, ps, rfl, _⟩ := h c (List.mem_cons_self ..)
     rw [uv9]
   rw [uz6, uz6]
   by_cases hi : i < cntV c
   · rw [if_pos hi, uo4, if_pos (own i hi)]
     by_cases hjc : j < cntV c
     · rw [if_pos hjc, uo4, if_pos (own j hjc)]
       right
       obtain ⟨n, fs, ps, rfl, _, _, hp⟩ := h c (List.mem_cons_self ..)
       rw [uk4] at hjc
       rw [uv9, uv9, uK4, uK4]
       exact ⟨rfl, t5P ps hp i j hij hjc⟩
     · rw [if_neg hjc, uo4, if_neg (name j hjc hj)]
       left
       simp
   · have hjc : ¬ j < cntV c := by omega
     rw [if_neg hi, if_neg hjc, uo4, uo4, if_neg (name i hi (by omega)), if_neg (name j hjc hj)]
     rcases t5Vs r hq.2 h.tail (i - cntV c) (j - cntV c) (by omega) (by omega) with h1 | ⟨h1, h2⟩
     · left; simp only; omega
     · right; simp only; exact ⟨by omega, h2⟩
theorem t5 {l : List ua3} (hv : uq2 l) (n : Nat) (t : ua1) (x : ua4) (hr : SR l n t x) (hs : Sm x) : T5 x := by
  refine u58 hv (Q := T5) (fun b h1 h2 => ?_) (fun vs h0 hl h1 h2 hq h => ?_) n t x hr hs
  · have hb : BitR ⟨1, 0, sBit, [⟨2, b, ug3, []⟩]⟩ ⟨b, none⟩ := ⟨rfl, rfl, _, rfl, h1, h2, rfl⟩
    have hsm : Sm ⟨b, none⟩ := ⟨by rw [uY2]; omega, by rw [uC6]; omega⟩
    refine ⟨t1 hv 1 _ _ (.inl hb) hsm, t3 hv 1 _ _ (.inl hb) hsm, fun i j hij hj => ?_⟩
    rw [u73, u73, vg5, vg5]
    simp only [Int.toNat_natCast]
    exact hij
  · have hT1 : T1 ⟨0, some vs⟩ := fun i hi => by
      rw [uw3] at hi
      rw [uN9, ui4, u75]
      exact t1Vs vs hq (h.mono fun x hx => ⟨hx.1, hx.2.1, hx.2.2.1⟩) i hi
    have h3 : AllV (fun x => SOk x ∧ Sm x ∧ T3 x) vs := h.mono fun x hx => ⟨hx.1, hx.2.1, hx.2.2.2.1⟩
    have hT3 : T3 ⟨0, some vs⟩ := fun v hz => by
      rw [ui4] at hz
      obtain ⟨a1, a2, a3⟩ := t3Vs vs (rooms vs) (Nat.le_refl _) h3 v hz
      have hp := uh6 (rooms vs)
      have ht := uM8 vs.length hl
      have e1 : ((pkT vs v).1 * 2 ^ rooms vs + (pkT vs v).2) / 2 ^ rooms vs = (pkT vs v).1 := by
        rw [Nat.add_comm, Nat.add_mul_div_right _ _ hp, Nat.div_eq_of_lt a2, Nat.zero_add]
      have e2 : ((pkT vs v).1 * 2 ^ rooms vs + (pkT vs v).2) % 2 ^ rooms vs = (pkT vs v).2 := by
        rw [Nat.add_comm, Nat.add_mul_mod_self_right, Nat.mod_eq_of_lt a2]
      rw [uY5, uH7, uu5, Nat.pow_add, e1, e2]
      refine ⟨?_, a3⟩
      have : ((pkT vs v).1 + 1) * 2 ^ rooms vs ≤ 2 ^ tagN vs.length * 2 ^ rooms vs := Nat.mul_le_mul_right _ (by omega)
      rw [Nat.add_mul] at this
      omega
    refine ⟨hT1, hT3, fun i j hij hj => ?_⟩
    rw [uw3] at hj
    rw [uN9, uN9, uY5, uY5]
    have hz := (hT1 i (by rw [uw3]; omega)).1
    rw [uN9, ui4] at hz
    have hb := (t3Vs vs (rooms vs) (Nat.le_refl _) h3 _ hz).2.1
    rcases t5Vs vs hq h i j hij hj with h6 | ⟨h6, h7⟩
    · have : ((pkT vs (atVs vs i)).1 + 1) * 2 ^ rooms vs ≤ (pkT vs (atVs vs j)).1 * 2 ^ rooms vs := Nat.mul_le_mul_right _ h6
      rw [Nat.add_mul] at this
      omega
    · rw [h6]; omega
end Go.Proofs.YtaennkkcnhfglaaGreatDoor.Ev.F
namespace Go.Proofs.YtaennkkcnhfglaaGreatDoor.Ev.F
open Go.Proofs.YtaennkkcnhfglaaGreatDoor.Ev
def cTo (p : Nat → Bool) : Nat → Nat
 | 0 => 0
 | n + 1 => cTo p n + if p n = true then 1 else 0
theorem uI6 {p q : Nat → Bool} : ∀ {n : Nat}, (∀ i, i < n → p i = q i) → cTo p n = cTo q n
 | 0, _ => rfl
 | n + 1, h => by unfold cTo; rw [uI6 fun i hi => h i (by omega), h n (by omega)]
theorem uI7 {p : Nat → Bool} : ∀ {n : Nat}, (∀ i, i < n → p i = false) → cTo p n = 0
 | 0, _ => rfl
 | n + 1, h => by unfold cTo; rw [uI7 fun i hi => h i (by omega), h n (by omega)]; rfl
theorem u79 {p : Nat → Bool} : ∀ {n : Nat}, (∀ i, i < n → p i = true) → cTo p n = n
 | 0, _ => rfl
 | n + 1, h => by unfold cTo; rw [u79 fun i hi => h i (by omega), h n (by omega)]; rfl
theorem u78 (p : Nat → Bool) (m : Nat) : ∀ n, cTo p (m + n) = cTo p m + cTo (fun i => p (m + i)) n
 | 0 => by simp [cTo]
 | n + 1 => by
   rw [← Nat.add_assoc]
   show cTo p (m + n) + _ = _
   rw [u78 p m n]
   show cTo p m + cTo (fun i => p (m + i)) n + (if p (m + n) = true then 1 else 0) = cTo p m + (cTo (fun i => p (m + i)) n + (if p (m + n) = true then 1 else 0))
   omega
theorem vF3 (p : Nat → Bool) {m n : Nat} (h : m ≤ n) : cTo (fun i => decide (i < m) && p i) n = cTo p m := by
  obtain ⟨k, rfl⟩ := Nat.exists_eq_add_of_le h
  rw [u78, uI6 (q := p) fun i hi => by simp [hi], uI7 (p := fun i => decide (m + i < m) && p (m + i)) fun i hi => by rw [decide_eq_false (by omega), Bool.false_and], Nat.add_zero]
theorem vs7 {p A B : Nat → Bool} (b : Nat) : ∀ {a : Nat}, (∀ t i, t < a → i < b → p (t * b + i) = (A t && B i)) → cTo p (a * b) = cTo A a * cTo B b
 | 0, _ => by simp [cTo]
 | a + 1, h => by
   rw [Nat.add_mul, Nat.one_mul, u78, vs7 b fun t i ht hi => h t i (by omega) hi]
   show _ = (cTo A a + _) * _
   rw [Nat.add_mul]
   congr 1
   cases hA : A a with
   | true => rw [uI6 (q := B) fun i hi => by rw [h a i (by omega) hi, hA, Bool.true_and]]; simp
   | false => rw [uI7 fun i hi => by rw [h a i (by omega) hi, hA, Bool.false_and]]; simp
def T6 (x : ua4) : Prop := cTo (fun n => (upk x n).isSome) (2 ^ wid x) = cnt x
theorem t6P : ∀ (ps : List (Option ua4)), AllP (fun x => SOk x ∧ Sm x ∧ T6 x) ps → cTo (fun n => (upkP ps n).isSome) (2 ^ roomP ps) = cntP ps
 | [], _ => by
   rw [up1, uw1]
   exact u79 (n := 1) fun i hi => by rw [uE5]; rfl
 | p :: r, h => by
   obtain ⟨x, rfl, hs, hm, hx⟩ := h p (List.mem_cons_self ..)
   rw [ud9, uo7, Nat.pow_add]
   rw [vs7 (A := fun n => (upk x n).isSome) (B := fun n => (upkP r n).isSome) (2 ^ roomP r), show cTo (fun n => (upk x n).isSome) (2 ^ wid x) = cnt x from hx, t6P r h.tail]
   intro t i ht hi
   have hp := uh6 (roomP r)
   have e1 : (t * 2 ^ roomP r + i) / 2 ^ roomP r = t := by
     rw [Nat.add_comm, Nat.add_mul_div_right _ _ hp, Nat.div_eq_of_lt hi, Nat.zero_add]
   have e2 : (t * 2 ^ roomP r + i) % 2 ^ roomP r = i := by
     rw [Nat.add_comm, Nat.add_mul_mod_self_right, Nat.mod_eq_of_lt hi]
   rw [uv3, e1, Nat.mod_eq_of_lt ht, uN3 r (h.tail.mono fun _ _ => trivial), e2]
   cases upk x t <;> cases upkP r i <;> rfl
theorem t6Vs : ∀ (vs : List data_variant) (R : Nat), rooms vs ≤ R → AllV (fun x => SOk x ∧ Sm x ∧ T6 x) vs → ∀ N, vs.length ≤ N → ∀ p : Nat → Bool, (∀ t i, t < N → i < 2 ^ R → p (t * 2 ^ R + i) = (upkVs vs t i).isSome) → cTo p (N * 2 ^ R) = cntVs vs
 | [], R, _, _, N, _, p, hp => by
   rw [ur7]
   refine uI7 fun i hi => ?_
   have h2 := uh6 R
   have := hp (i / 2 ^ R) (i % 2 ^ R) ((Nat.div_lt_iff_lt_mul h2).2 hi) (Nat.mod_lt _ h2)
   rw [Nat.mul_comm, Nat.div_add_mod, uN4] at this
   exact this
 | c :: r, R, hR, h, 0, hN, p, hp => by simp at hN
 | c :: r, R, hR, h, N + 1, hN, p, hp => by
   rw [un3] at hR
   obtain ⟨n, fs, ps, rfl, _, _, hps⟩ := h c (List.mem_cons_self ..)
   rw [un2] at hR
   rw [Nat.add_mul, Nat.one_mul, Nat.add_comm, u78, uj2, uk4]
   have hle : 2 ^ roomP ps ≤ 2 ^ R := Nat.pow_le_pow_right (by decide) (Nat.le_trans (Nat.le_max_left _ _) hR)
   congr 1
   · rw [← t6P ps hps, ← vF3 _ hle]
     refine uI6 fun i hi => ?_
     have := hp 0 i (by omega) hi
     rw [Nat.zero_mul, Nat.zero_add] at this
     rw [this, uv5, uB7]
     by_cases hf : i < 2 ^ roomP ps
     · rw [if_pos hf, decide_eq_true hf, Bool.true_and]
       cases upkP ps i <;> rfl
     · rw [if_neg hf, decide_eq_false hf, Bool.false_and]; rfl
   · refine t6Vs r R (Nat.le_trans (Nat.le_max_right _ _) hR) h.tail N (by simpa using hN) _ fun t i ht hi => ?_
     have := hp (t + 1) i (by omega) hi
     rw [uv4] at this
     rw [← this, Nat.add_mul, Nat.one_mul]
     congr 1
     omega
theorem t6 {l : List ua3} (hv : uq2 l) : ∀ n t x, SR l n t x → Sm x → T6 x := by
  refine u58 hv (fun b h1 h2 => ?_) (fun vs _ hl _ _ hq h => ?_)
  · unfold T6
    rw [uC6, uW2]
    exact u79 fun i hi => by rw [vc7]; rfl
  · unfold T6
    rw [uu5, uw3, Nat.pow_add]
    refine t6Vs vs (rooms vs) (Nat.le_refl _) h _ (uM8 vs.length hl) _ fun t i ht hi => ?_
    have hp := uh6 (rooms vs)
    have e1 : (t * 2 ^ rooms vs + i) / 2 ^ rooms vs = t := by
      rw [Nat.add_comm, Nat.add_mul_div_right _ _ hp, Nat.div_eq_of_lt hi, Nat.zero_add]
    have e2 : (t * 2 ^ rooms vs + i) % 2 ^ rooms vs = i := by
      rw [Nat.add_comm, Nat.add_mul_mod_self_right, Nat.mod_eq_of_lt hi]
    rw [uH7, e1, e2]
mutual
def vsz : DV → Nat
 | ⟨_, _, ps⟩ => 1 + vszs ps
def vszs : List DV → Nat
 | [] => 0
 | p :: l => vsz p + vszs l
end
mutual
def vdp : DV → Nat
 | ⟨_, _, ps⟩ => 1 + vdps ps
def vdps : List DV → Nat
 | [] => 0
 | p :: l => max (vdp p) (vdps l)
end
theorem uE7 : vszs [] = 0 := by rw [vszs]
theorem uU7 : vdps [] = 0 := by rw [vdps]
theorem uC5 (p : DV) (l : List DV) : vszs (p :: l) = vsz p + vszs l := by rw [vszs]
theorem u21 (p : DV) (l : List DV) : vdps (p :: l) = max (vdp p) (vdps l) := by rw [vdps]
theorem uC4 (v : DV) : vsz v = 1 + vszs v.Parts := by cases v; rw [vsz]
theorem vw0 (v : DV) : vdp v = 1 + vdps v.Parts := by cases v; rw [vdp]
theorem wf3 (t : DV) : 1 ≤ vsz t := by rw [uC4]; omega
theorem uE6 (l : List DV) : l.length ≤ vszs l := by
  induction l with
  | nil => simp [uE7]
  | cons a l ih => have := wf3 a; rw [uC5, List.length_cons]; omega
theorem uQ9 {l : List DV} {t : DV} (h : t ∈ l) : vsz t ≤ vszs l := by
  induction l with
  | nil => cases h
  | cons a l ih =>
    rw [uC5]
    rcases List.mem_cons.1 h with rfl | h
    · omega
    · have := ih h; omega
theorem uC3 {P : DV → Prop} (h : ∀ n k ps, (∀ p ∈ ps, P p) → P ⟨n, k, ps⟩) (v : DV) : P v := by
  generalize hn : vsz v = n
  induction n using Nat.strongRecOn generalizing v with
  | ind n ih =>
    obtain ⟨s, k, ps⟩ := v
    exact h s k ps fun p hp => ih (vsz p) (by have := uQ9 hp; rw [uC4] at hn; simp only at hn; omega) p rfl
def uR0 (v : DV) : Bool := decide (vsz v ≤ 200 ∧ vdp v ≤ 40)
def T7 (n : Nat) (x : ua4) : Prop := ∀ v, valE x v = 0 → vsz v ≤ nds x ∧ vdp v ≤ n
theorem t7P {n : Nat} : ∀ (ps : List (Option ua4)), AllP (T7 n) ps → ∀ l, l.length = ps.length → valP ps l = 0 → vszs l ≤ ndsP ps ∧ vdps l ≤ n
 | [], _, l, hl, _ => by
   have : l = [] := List.length_eq_zero_iff.1 (by simpa using hl)
   subst this
   rw [uE7, uU7]
   exact ⟨Nat.zero_le _, Nat.zero_le _⟩
 | p :: r, h, l, hl, hz => by
   obtain ⟨x, rfl, hx⟩ := h p (List.mem_cons_self ..)
   obtain ⟨v, m, rfl, hml⟩ := vc8 hl
   obtain ⟨z1, z2⟩ := uB9 hz
   obtain ⟨a1, a2⟩ := hx v z1
   obtain ⟨b1, b2⟩ := t7P r h.tail m hml z2
   rw [uC5, u21, uA2]
   exact ⟨by omega, Nat.max_le.2 ⟨a2, b2⟩⟩
theorem t7Vs {n : Nat} : ∀ (vs : List data_variant), AllV (T7 n) vs → ∀ v, valVs vs v = 0 → vsz v ≤ 1 + ndsV vs ∧ vdp v ≤ n + 1
 | [], _, v, hz => by rw [uC0] at hz; cases hz
 | c :: r, h, v, hz => by
   rw [uh3] at hz
   by_cases hn : c.name = v.Name
   · rw [if_pos hn] at hz
     obtain ⟨nm, fs, ps, rfl, _, _, hp⟩ := h c (List.mem_cons_self ..)
     obtain ⟨_, z2, z3⟩ := uC2 hz
     obtain ⟨a1, a2⟩ := t7P ps hp v.Parts z2 z3
     rw [uC4, vw0, uA3, uu9]
     exact ⟨by omega, by omega⟩
   · rw [if_neg hn] at hz
     obtain ⟨a1, a2⟩ := t7Vs r h.tail v hz
     rw [uA3]
     exact ⟨by omega, a2⟩
theorem t7 : ∀ n x, SOkN n x → T7 n x
 | 0, x, h => h.elim
 | n + 1, x, h => by
   intro v hz
   rcases h with ⟨b, _, _, rfl⟩ | ⟨vs, _, _, hV, rfl⟩
   · obtain ⟨_, z2, _⟩ := uj5 hz
     rw [uC4, vw0, z2, uE7, uU7, uY2]
     exact ⟨by omega, by omega⟩
   · rw [ui4] at hz
     rw [uP2]
     exact t7Vs vs (hV.mono fun x hx => t7 n x hx) v hz
theorem uR9 {l : List ua3} {t : ua1} {x : ua4} (h : u36 l t x) {v : DV} (hz : valE x v = 0) : uR0 v = true := by
  obtain ⟨a1, a2⟩ := t7 40 x (sokN h.valid 40 t x h.sr) v hz
  have := h.nds
  exact decide_eq_true ⟨by omega, a2⟩
end Go.Proofs.YtaennkkcnhfglaaGreatDoor.Ev.F
namespace Go.Proofs.YtaennkkcnhfglaaGreatDoor.Ev.F
open Go.Proofs.YtaennkkcnhfglaaGreatDoor.Ev
theorem wm8 {a b : Nat} (ha : a < 2 ^ 62) (hb : b < 2 ^ 62) : bits .or .i64 (a : Int) (b : Int) = ((a ||| b : Nat) : Int) := by
  rw [u77]
  unfold u76
  show IntKind.wrap .i64 (((BitVec.ofInt 64 (a : Int) ||| BitVec.ofInt 64 (b : Int)).toNat : Nat) : Int) = _
  rw [BitVec.toNat_or, BitVec.ofInt_natCast, BitVec.ofInt_natCast, BitVec.toNat_ofNat, BitVec.toNat_ofNat, Nat.mod_eq_of_lt (by omega), Nat.mod_eq_of_lt (by omega)]
  have := Nat.or_lt_two_pow ha hb
  exact wrap_i64 (by omega) (by omega)
theorem uA8 (k : Nat) : pw (k : Int) = ((2 ^ k : Nat) : Int) := by simp [pw]
theorem v14 {V k b : Nat} (hV : V < 65536) (hk : k ≤ 16) (hb : b < 2 ^ k) : bits .or .i64 (shl .i64 (V : Int) (k : Int)) (b : Int) = ((V * 2 ^ k + b : Nat) : Int) := by
  have hk2 := uf8 hk
  have hm : V * 2 ^ k ≤ 65536 * 65536 := Nat.mul_le_mul (by omega) hk2
  have e : (V : Int) * pw (k : Int) = ((V * 2 ^ k : Nat) : Int) := by rw [uA8, Int.natCast_mul]
  rw [v28 (by omega) (by rw [e]; omega) (by rw [e]; omega), e, wm8 (by omega) (by omega)]
  rw [← Nat.shiftLeft_eq, ← Nat.shiftLeft_add_eq_or_of_lt hb]
theorem vq5 (n k : Nat) (hk : k ≤ 16) : shr .i64 (n : Int) (k : Int) = ((n / 2 ^ k : Nat) : Int) := by
  rw [wp2 (by omega), uA8, Int.natCast_ediv]
theorem vt6 (n k : Nat) (hk : k ≤ 16) (hn : n ≤ 10000000) : bits .and .i64 (n : Int) (IntKind.wrap .i64 (shl .i64 1 (k : Int) - 1)) = ((n % 2 ^ k : Nat) : Int) := by
  have hk2 := uf8 hk
  have hp := uh6 k
  rw [vc2 (by omega), uA8, wrap_i64 (by omega) (by omega), ← uA8, vS0 (by omega) (by omega) (by omega) (by omega), uA8, Int.natCast_emod]
theorem vv1 (k : Nat) (hk : k ≤ 16) : IntKind.wrap .i64 (shl .i64 1 (k : Int) - 1) = ((2 ^ k : Nat) : Int) - 1 := by
  have hk2 := uf8 hk
  have hp := uh6 k
  rw [vc2 (by omega), uA8, wrap_i64 (by omega) (by omega)]
inductive ut8 : DV → Prop
 | mk (n : ByteArray) (k : Int) (ps : List DV) (h : ps.length ≤ big) (hs : ∀ p ∈ ps, ut8 p) : ut8 ⟨n, k, ps⟩
theorem vr2 : ∀ v, vsz v ≤ big → ut8 v := by
  refine uC3 fun n k ps ih h => ?_
  rw [uC4] at h
  simp only at h
  exact .mk n k ps (by have := uE6 ps; omega) fun p hp => ih p hp (by have := uQ9 hp; omega)
def vr4 (t : DV) : Prop := ∀ d n : Nat, 1 ≤ d → d ≤ 41 → n ≤ 200 → ∃ r, uj9 (.start t.Name t.Number t.Parts (d : Int) (n : Int)) = some r ∧ r.1.1 = decide (n + vsz t ≤ 200 ∧ d + vdp t ≤ 41) ∧ (r.1.1 = true → r.2.1.1 = ((n + vsz t : Nat) : Int))
theorem vg9 (ps : List DV) (hps : ∀ p ∈ ps, vr4 p) (hl : ps.length ≤ big) (d : Nat) (h1 : 1 ≤ d) (h2 : d ≤ 40) : ∀ {i}, i ≤ ps.length → ∀ n : Nat, n ≤ 200 → ∃ r, uj9 (.p244 (d : Int) ps (List.length ps : Int) (i : Int) (n : Int)) = some r ∧ r.1.1 = decide (n + vszs (ps.drop i) ≤ 200 ∧ d + vdps (ps.drop i) ≤ 40) ∧ (r.1.1 = true → r.2.1.1 = ((n + vszs (ps.drop i) : Nat) : Int)) := by
  refine ub0 ps (P := fun i => ∀ n : Nat, n ≤ 200 → ∃ r, uj9 (.p244 (d : Int) ps (List.length ps : Int) (i : Int) (n : Int)) = some r ∧ r.1.1 = decide (n + vszs (ps.drop i) ≤ 200 ∧ d + vdps (ps.drop i) ≤ 40) ∧ (r.1.1 = true → r.2.1.1 = ((n + vszs (ps.drop i) : Nat) : Int))) ?_ ?_
  · intro n hn
    rw [uj9]
    refine ⟨_, by simp only [lt_f, Bool.false_eq_true, if_false]; rfl, ?_, ?_⟩
    · rw [List.drop_length, uE7, uU7]; simp; omega
    · rw [List.drop_length, uE7]; simp
  · intro i hi ih n hn
    rw [uj9]
    simp only [lt_t hi, if_true, ua9 hi, ua0]
    obtain ⟨r, e1, e2, e3⟩ := hps ps[i] (List.getElem_mem hi) (d + 1) n (by omega) (by omega) hn
    rw [ui5 (by omega), e1]
    simp only [ua0]
    rw [ua8 hi, uC5, u21]
    cases hb : r.1.1 with
    | false =>
      rw [hb] at e2
      refine ⟨_, by simp only [Bool.not_false, if_true]; rfl, ?_, ?_⟩
      · simp only
        have := of_decide_eq_false e2.symm
        symm
        refine decide_eq_false ?_
        have := Nat.le_max_left (vdp ps[i]) (vdps (ps.drop (i + 1)))
        omega
      · intro h; cases h
    | true =>
      rw [hb] at e2
      have h3 := of_decide_eq_true e2.symm
      obtain ⟨r', f1, f2, f3⟩ := ih (n + vsz ps[i]) h3.1
      refine ⟨r', ?_, ?_, ?_⟩
      · simp only [Bool.not_true, Bool.false_eq_true, if_false]
        rw [e3 hb, ua7 hi hl]
        exact f1
      · rw [f2]
        refine decide_eq_decide.2 ?_
        have := Nat.le_max_left (vdp ps[i]) (vdps (ps.drop (i + 1)))
        have := Nat.le_max_right (vdp ps[i]) (vdps (ps.drop (i + 1)))
        have : max (vdp ps[i]) (vdps (ps.drop (i + 1))) = vdp ps[i] ∨ max (vdp ps[i]) (vdps (ps.drop (i + 1))) = vdps (ps.drop (i + 1)) := by omega
        omega
      · intro h
        rw [f3 h]
        congr 1
        omega
theorem vW4 : ∀ t, ut8 t → vr4 t := by
  refine uC3 fun s k ps ih hok => ?_
  obtain ⟨_, _, _, hl, hs⟩ := hok
  intro d n h1 h2 hn
  have hsz : vsz ⟨s, k, ps⟩ = 1 + vszs ps := uC4 _
  have hdp : vdp ⟨s, k, ps⟩ = 1 + vdps ps := vw0 _
  rw [uj9, hsz, hdp]
  simp only
  rw [ui5 (by omega)]
  by_cases hc : n + 1 > 200
  · refine ⟨_, by rw [if_pos (by simp; omega)], ?_, ?_⟩
    · simp only
      symm
      exact decide_eq_false (by omega)
    · intro h; cases h
  · rw [if_neg (by simp; omega)]
    by_cases hd : d > 40
    · refine ⟨_, by rw [if_pos (by simp; omega)], ?_, ?_⟩
      · simp only
        symm
        exact decide_eq_false (by omega)
      · intro h; cases h
    · rw [if_neg (by simp; omega)]
      rw [uj9]
      simp only [u03, ua0]
      obtain ⟨r, e1, e2, e3⟩ := vg9 ps (fun p hp => ih p hp (hs p hp)) hl d h1 (by omega) (Nat.zero_le _) (n + 1) (by omega)
      refine ⟨r, e1, ?_, ?_⟩
      · rw [e2, List.drop_zero]
        exact decide_eq_decide.2 (by omega)
      · intro h
        rw [e3 h, List.drop_zero]
        congr 1
        omega
theorem wd4 (t : DV) (h : ut8 t) : uH3 (.start t.Name t.Number t.Parts) = some ((if uR0 t = true then 0 else 8, ()), ()) := by
  rw [uH3]
  obtain ⟨r, e1, e2, _⟩ := vW4 t h 1 0 (by omega) (by omega) (by omega)
  rw [show ((1 : Int)) = ((1 : Nat) : Int) from rfl, show ((0 : Int)) = ((0 : Nat) : Int) from rfl, e1]
  simp only [ua0, ux3]
  rw [e2]
  have : decide (0 + vsz t ≤ 200 ∧ 1 + vdp t ≤ 41) = uR0 t := decide_eq_decide.2 (by omega)
  rw [this]
  rfl
theorem vX0 : ∀ (t : DV) (d n : Nat), 1 ≤ d → d ≤ 41 → n ≤ 200 → uf9 (.start t.Name t.Number t.Parts (d : Int) (n : Int)) = some (((if n + vsz t ≤ 200 ∧ d + vdp t ≤ 41 then ((n + vsz t : Nat) : Int) else 201), ()), ()) := by
  refine uC3 fun s k ps ih d n h1 h2 hn => ?_
  have hts : vsz ⟨s, k, ps⟩ = 1 + vszs ps := uC4 _
  have htd : vdp ⟨s, k, ps⟩ = 1 + vdps ps := vw0 _
  rw [uf9, hts, htd]
  simp only
  by_cases hd : d > 40
  · rw [if_pos (by simp; omega), if_neg (by omega)]
  · rw [if_neg (by simp; omega), ui5 (by omega)]
    by_cases hc : n + 1 > 200
    · rw [if_pos (by simp; omega), if_neg (by omega)]
    · rw [if_neg (by simp; omega)]
      by_cases hp : ps.length > 200
      · rw [if_pos (by simp; omega), if_neg (by have := uE6 ps; omega)]
      · rw [if_neg (by simp; omega), uf9]
        have loop : ∀ {i}, i ≤ ps.length → ∀ m : Nat, m ≤ 200 → uf9 (.p244 (d : Int) (m : Int) (i : Int) s k ps) = some (((if m + vszs (ps.drop i) ≤ 200 ∧ d + vdps (ps.drop i) ≤ 40 then ((m + vszs (ps.drop i) : Nat) : Int) else 201), ()), ()) := by
          refine ub0 ps (P := fun i => ∀ m : Nat, m ≤ 200 → uf9 (.p244 (d : Int) (m : Int) (i : Int) s k ps) = some (((if m + vszs (ps.drop i) ≤ 200 ∧ d + vdps (ps.drop i) ≤ 40 then ((m + vszs (ps.drop i) : Nat) : Int) else 201), ()), ())) ?_ ?_
          · intro m hm
            rw [uf9]
            simp only [lt_f, Bool.false_eq_true, if_false]
            rw [List.drop_length, uE7, uU7]
            rw [if_pos (by omega)]
            rfl
          · intro i hi ihl m hm
            rw [uf9]
            simp only [lt_t hi, if_true, show decide ((m : Int) ≤ 200) = true by simp; omega]
            rw [uf9]
            simp only [ua9 hi, ua0]
            rw [ui5 (by omega), ih ps[i] (List.getElem_mem hi) (d + 1) m (by omega) (by omega) hm]
            simp only [ua0]
            rw [ua7 hi (by omega), ua8 hi, uC5, u21]
            have m1 := Nat.le_max_left (vdp ps[i]) (vdps (ps.drop (i + 1)))
            have m2 := Nat.le_max_right (vdp ps[i]) (vdps (ps.drop (i + 1)))
            have m3 : max (vdp ps[i]) (vdps (ps.drop (i + 1))) = vdp ps[i] ∨ max (vdp ps[i]) (vdps (ps.drop (i + 1))) = vdps (ps.drop (i + 1)) := by omega
            by_cases hx : m + vsz ps[i] ≤ 200 ∧ d + 1 + vdp ps[i] ≤ 41
            · rw [if_pos hx, ihl _ hx.1]
              by_cases hy : m + vsz ps[i] + vszs (ps.drop (i + 1)) ≤ 200 ∧ d + vdps (ps.drop (i + 1)) ≤ 40
              · rw [if_pos hy, if_pos (by omega)]
                congr 4
                omega
              · rw [if_neg hy, if_neg (by omega)]
            · rw [if_neg hx]
              have hq : decide ((201 : Int) ≤ 200) = false := by decide
              rw [if_neg (by omega)]
              rw [uf9]
              by_cases hz : i + 1 < ps.length
              · simp only [lt_t hz, if_true, hq, Bool.false_eq_true, if_false]
              · have : i + 1 = ps.length := by omega
                rw [this]
                simp only [lt_f, Bool.false_eq_true, if_false]
        have := loop (Nat.zero_le _) (n + 1) (by omega)
        rw [List.drop_zero] at this
        rw [show ((0 : Int)) = ((0 : Nat) : Int) from rfl, this]
        by_cases hy : n + 1 + vszs ps ≤ 200 ∧ d + vdps ps ≤ 40
        · rw [if_pos hy, if_pos (by omega)]
          congr 4
          omega
        · rw [if_neg hy, if_neg (by omega)]
theorem vK8 (t : DV) : uk8 (.start t.Name t.Number t.Parts) = some ((uR0 t, ()), ()) := by
  rw [uk8, show ((1 : Int)) = ((1 : Nat) : Int) from rfl, show ((0 : Int)) = ((0 : Nat) : Int) from rfl, vX0 t 1 0 (by omega) (by omega) (by omega)]
  simp only [ua0]
  unfold uR0
  by_cases h : vsz t ≤ 200 ∧ vdp t ≤ 40
  · rw [if_pos (by omega)]
    simp only [Nat.zero_add]
    rw [show decide (((vsz t : Nat) : Int) ≤ 200) = true by simp; omega, decide_eq_true h]
  · rw [if_neg (by omega), decide_eq_false h]
    rfl
theorem uQ8 (v : DV) : (⟨v.Name, v.Number, v.Parts⟩ : DV) = v := by cases v; rfl
theorem vu4 : ∀ v, vsz v ≤ 1000000 → uf0 (.start v.Name v.Number v.Parts) = some (((v.Name, (v.Number, (v.Parts, ()))), ()), ()) := by
  refine uC3 fun s k ps ih hsz => ?_
  rw [uC4] at hsz
  simp only at hsz
  have hlen := uE6 ps
  rw [uf0]
  have loop : ∀ {i}, i ≤ ps.length → uf0 (.p244 (i : Int) s k ps (⟨#[]⟩ : ByteArray) 0 s k (ps.take i)) = some (((s, (k, (ps, ()))), ()), ()) := by
    refine ub0 ps (P := fun i => uf0 (.p244 (i : Int) s k ps (⟨#[]⟩ : ByteArray) 0 s k (ps.take i)) = some (((s, (k, (ps, ()))), ()), ())) ?_ ?_
    · rw [uf0]
      simp only [lt_f, Bool.false_eq_true, if_false, List.take_length]
    · intro i hi ihl
      rw [uf0]
      have hm := uQ9 (List.getElem_mem hi)
      simp only [lt_t hi, if_true, ua9 hi, ua0, ih _ (List.getElem_mem hi) (by omega), uQ8]
      rw [if_pos (ug1 (by simp only [List.length_take, List.length_cons, List.length_nil]; omega)), ua7 hi (by omega), ← uc1 hi]
      exact ihl
  exact loop (Nat.zero_le _)
end Go.Proofs.YtaennkkcnhfglaaGreatDoor.Ev.F
namespace Go.Proofs.YtaennkkcnhfglaaGreatDoor.Ev.F
open Go.Proofs.YtaennkkcnhfglaaGreatDoor.Ev
theorem ve4 : ∀ (vs : List data_variant) (j : Nat) (c : data_variant) (v : DV), vs[j]? = some c → c.name = v.Name → (∀ k b, k < j → vs[k]? = some b → b.name ≠ v.Name) → valVs vs v = valW c v ∧ pkT vs v = (j, pkW c v)
 | [], j, c, v, h, _, _ => by simp at h
 | d :: r, 0, c, v, h, hn, _ => by
   obtain rfl : d = c := by simpa using h
   rw [uh3, uo4, if_pos hn, if_pos hn]
   exact ⟨rfl, rfl⟩
 | d :: r, j + 1, c, v, h, hn, hk => by
   have h0 := hk 0 d (by omega) rfl
   obtain ⟨a1, a2⟩ := ve4 r j c v (by simpa using h) hn (fun k b hkj hb => hk (k + 1) b (by omega) (by simpa using hb))
   rw [uh3, uo4, if_neg h0, if_neg h0, a1, a2]
   exact ⟨rfl, rfl⟩
theorem vJ0 : ∀ (vs : List data_variant) (v : DV), (∀ c ∈ vs, c.name ≠ v.Name) → valVs vs v = 6
 | [], v, _ => uC0 v
 | d :: r, v, h => by
   rw [uh3, if_neg (h d (List.mem_cons_self ..))]
   exact vJ0 r v fun c hc => h c (List.mem_cons_of_mem _ hc)
theorem uW4 (vs : List data_variant) (v : DV) : (ix (fun c => decide (c.name = v.Name)) vs = -1 ∧ valVs vs v = 6) ∨ ∃ (j : Nat) (c : data_variant), ix (fun c => decide (c.name = v.Name)) vs = (j : Int) ∧ vs[j]? = some c ∧ c.name = v.Name ∧ valVs vs v = valW c v ∧ pkT vs v = (j, pkW c v) := by
  rcases uX7 (fun c : data_variant => decide (c.name = v.Name)) vs with ⟨e1, e2⟩ | ⟨j, c, e1, e2, e3, e4⟩
  · exact .inl ⟨e1, vJ0 vs v fun c hc => of_decide_eq_false (e2 c hc)⟩
  · have hn := of_decide_eq_true e3
    obtain ⟨a1, a2⟩ := ve4 vs j c v e2 hn fun k b hk hb => of_decide_eq_false (e4 k b hk hb)
    exact .inr ⟨j, c, e1, e2, hn, a1, a2⟩
theorem wb5 {p : Prop} [Decidable p] {a b : Int} : (if decide p = true then a else b) = if p then a else b := by by_cases h : p <;> simp [h]
def PVal (x : ua4) : Prop := ∀ v, vsz v ≤ 200 → run_z53 (.start (some x) v.Name v.Number v.Parts) = some ((valE x v, ()), ())
theorem wv7 (n : ByteArray) (fs : List ua6) {ps : List (Option ua4)} (h : AllP (fun x => SOk x ∧ Sm x ∧ PVal x) ps) (l : List DV) (hl : l.length = ps.length) (hs : vszs l ≤ 200) : ∃ j : Int, run_z54 (.start l n fs (some ps)) = some ((j, (valP ps l, ())), ((n, (fs, (some ps, ()))), ())) := by
  rw [run_z54]
  have hll := uE6 l
  have loop : ∀ {i}, i ≤ l.length → ∃ j : Int, run_z54 (.p52 l (List.length l : Int) (i : Int) n fs (some ps)) = some ((j, (valP (ps.drop i) (l.drop i), ())), ((n, (fs, (some ps, ()))), ())) := by
    refine ub0 l (P := fun i => ∃ j : Int, run_z54 (.p52 l (List.length l : Int) (i : Int) n fs (some ps)) = some ((j, (valP (ps.drop i) (l.drop i), ())), ((n, (fs, (some ps, ()))), ()))) ?_ ?_
    · rw [run_z54]
      simp only [lt_f, Bool.false_eq_true, if_false]
      rw [hl, List.drop_length, uU6]
      exact ⟨0, rfl⟩
    · intro i hi ⟨j, hj⟩
      have hi2 : i < ps.length := by omega
      obtain ⟨x, hx, _, _, hq⟩ := h ps[i] (List.getElem_mem hi2)
      have hm := uQ9 (List.getElem_mem hi)
      rw [run_z54]
      simp only [lt_t hi, if_true, ua9 hi, ua0]
      rw [uQ2]
      simp only [Option.getD_some, ua9 hi2, ua0, hx, hq l[i] (by omega)]
      rw [ua8 hi2, ua8 hi, hx, uB8]
      by_cases h0 : valE x l[i] = 0
      · rw [h0, if_neg (by simp), if_pos rfl, ua7 hi (by omega)]
        exact ⟨j, hj⟩
      · rw [if_pos (by simpa using h0), if_neg h0]
        exact ⟨_, rfl⟩
  obtain ⟨j, hj⟩ := loop (Nat.zero_le _)
  rw [List.drop_zero, List.drop_zero] at hj
  exact ⟨j, hj⟩
theorem pval : ∀ x, SOk x → Sm x → PVal x := by
  refine uv0 (fun b h1 h2 v hv => ?_) (fun vs h0 h1 hn hw h v hv => ?_)
  · rw [run_z53, ux1, uN6]
    obtain ⟨k, rfl⟩ := Int.eq_ofNat_of_zero_le (show 0 ≤ b by omega)
    have hk : k ≤ 16 := by omega
    simp only [ua0, if_true, uh1, decide_eq_true (show (0 : Int) ≤ (k : Int) by omega), vv1 k hk, uG6, ux3, uA8]
    have e1 : ((List.length v.Parts : Int) == 0) = decide (v.Parts.length = 0) := by
      rw [Bool.eq_iff_iff]; simp
    have e2 : (if decide (0 ≤ v.Number ∧ v.Number ≤ ((2 ^ k : Nat) : Int) - 1) = true then (0 : Int) else 2) = if 0 ≤ v.Number ∧ v.Number ≤ ((2 ^ k : Nat) : Int) - 1 then 0 else 2 := wb5
    by_cases hnm : v.Name = ug3
    · rw [if_pos (by simpa using hnm), uK1 _ (by simp [big]), e1, e2]
      have e3 : (if decide (v.Parts.length = 0) = true then (0 : Int) else 3) = if v.Name = ug3 ∧ v.Parts.length = 0 then 0 else 3 := by
        by_cases hp : v.Parts.length = 0 <;> simp [hp, hnm]
      rw [e3]
      simp only [ua0]
    · rw [if_neg (by simpa using hnm), uK1 _ (by simp [big])]
      have e3 : (if v.Name = ug3 ∧ v.Parts.length = 0 then (0 : Int) else 3) = 3 := if_neg fun hh => hnm hh.1
      rw [e3]
      rfl
  · rw [run_z53, ux2 _ _ h0, ui4]
    simp only [ua0, Bool.false_eq_true, if_false]
    rw [vJ7 _ v.Name (by simp only [Option.getD_some]; unfold big; omega)]
    simp only [ua0, Option.getD_some]
    rcases uW4 vs v with ⟨e1, e2⟩ | ⟨j, c, e1, e2, e3, e4, e5⟩
    · rw [e1, e2, if_pos (by decide)]
    · rw [e1, e4, if_neg (by simp), uO8, e2]
      obtain ⟨n, fs, ps, rfl, q1, q2, hp⟩ := h c (List.mem_of_getElem? e2)
      simp only [ua0, ux3, Option.getD_some]
      rw [uK1 _ (by simp [big]), uC1]
      simp only [ua0]
      have f1 : (if (v.Number == (0 : Int)) = true then (0 : Int) else 3) = if v.Number = 0 then 0 else 3 := by by_cases hh : v.Number = 0 <;> simp [hh]
      have f2 : (if ((List.length v.Parts : Int) == (List.length ps : Int)) = true then (0 : Int) else 10) = if v.Parts.length = ps.length then 0 else 10 := by
        by_cases hh : v.Parts.length = ps.length
        · rw [if_pos (by simp [hh]), if_pos hh]
        · rw [if_neg (by simp; omega), if_neg hh]
      rw [f1, f2]
      simp only [ug4]
      by_cases g1 : v.Number = 0
      · by_cases g2 : v.Parts.length = ps.length
        · have hvs : vszs v.Parts ≤ 200 := by rw [uC4] at hv; omega
          obtain ⟨j2, e6⟩ := wv7 n fs hp v.Parts g2 hvs
          simp only [if_pos g1, if_pos g2, if_true, bne_self_eq_false, Bool.false_eq_true, if_false, e6, ua0]
          by_cases g3 : valP ps v.Parts = 0
          · rw [if_pos g3, g3]
          · rw [if_neg g3]
        · simp only [if_pos g1, if_neg g2, if_true]
          rfl
      · simp only [if_neg g1]
        rfl
def PPk (x : ua4) : Prop := T3 x ∧ ∀ v, valE x v = 0 → ul4 (.start (some x) v.Name v.Number v.Parts) = some (((pk_ x v : Int), ()), ())
theorem ppk {l : List ua3} (hv : uq2 l) : ∀ n t x, SR l n t x → Sm x → PPk x := by
  refine u58 hv (fun b h1 h2 => ?_) (fun vs h0 h1 hn hw hq h => ?_)
  · have hb : BitR ⟨1, 0, sBit, [⟨2, b, ug3, []⟩]⟩ ⟨b, none⟩ := ⟨rfl, rfl, _, rfl, h1, h2, rfl⟩
    refine ⟨t3 hv 1 _ _ (.inl hb) ⟨by rw [uY2]; omega, by rw [uC6]; omega⟩, fun v hz => ?_⟩
    obtain ⟨_, _, z3, _⟩ := uj5 hz
    rw [ul4, ux1, vg5]
    simp only [ua0, if_true]
    rw [Int.toNat_of_nonneg z3]
  · have h3 : AllV (fun x => SOk x ∧ Sm x ∧ T3 x) vs := h.mono fun x hx => ⟨hx.1, hx.2.1, hx.2.2.1⟩
    have hT3 : T3 ⟨0, some vs⟩ := fun v hz => by
      rw [ui4] at hz
      obtain ⟨a1, a2, a3⟩ := t3Vs vs (rooms vs) (Nat.le_refl _) h3 v hz
      have hp := uh6 (rooms vs)
      have ht := uM8 vs.length h1
      have e1 : ((pkT vs v).1 * 2 ^ rooms vs + (pkT vs v).2) / 2 ^ rooms vs = (pkT vs v).1 := by
        rw [Nat.add_comm, Nat.add_mul_div_right _ _ hp, Nat.div_eq_of_lt a2, Nat.zero_add]
      have e2 : ((pkT vs v).1 * 2 ^ rooms vs + (pkT vs v).2) % 2 ^ rooms vs = (pkT vs v).2 := by
        rw [Nat.add_comm, Nat.add_mul_mod_self_right, Nat.mod_eq_of_lt a2]
      rw [uY5, uH7, uu5, Nat.pow_add, e1, e2]
      refine ⟨?_, a3⟩
      have : ((pkT vs v).1 + 1) * 2 ^ rooms vs ≤ 2 ^ tagN vs.length * 2 ^ rooms vs := Nat.mul_le_mul_right _ (by omega)
      rw [Nat.add_mul] at this
      omega
    refine ⟨hT3, fun v hz => ?_⟩
    have hz' := hz
    rw [ui4] at hz
    obtain ⟨b1, b2, _⟩ := t3Vs vs (rooms vs) (Nat.le_refl _) h3 v hz
    rw [ul4, ux2 _ _ h0]
    simp only [ua0, Bool.false_eq_true, if_false]
    rw [vJ7 _ v.Name (by simp only [Option.getD_some]; unfold big; omega)]
    simp only [ua0, Option.getD_some]
    rcases uW4 vs v with ⟨e1, e2⟩ | ⟨j, c, e1, e2, e3, e4, e5⟩
    · rw [e2] at hz; cases hz
    · rw [e1, uO8, e2]
      have hcm := List.mem_of_getElem? e2
      obtain ⟨n, fs, ps, rfl, q1, q2, hp⟩ := h c hcm
      rw [e4] at hz
      obtain ⟨z1, z2, z3⟩ := uC2 hz
      obtain ⟨k1, k2, k3⟩ := uy7 hn hw hcm
      have hPW : AllV PW vs := h.mono fun x hx => pwid x hx.1
      simp only [ua0, Option.getD_some]
      rw [uY5, e5] 
      rw [e5] at b1 b2
      simp only at b1 b2 ⊢
      rw [uK4] at b2 ⊢
      have loop : ∀ {i}, i ≤ ps.length → ∀ a : Nat, (valP (ps.drop i) (v.Parts.drop i) = 0) → a * 2 ^ roomP (ps.drop i) + pkP (ps.drop i) (v.Parts.drop i) < 65536 → ul4 (.p500 (some ⟨0, some vs⟩) (j : Int) (a : Int) (some ps) (List.length ps : Int) (i : Int) v.Name v.Number v.Parts) = some ((((j * 2 ^ rooms vs + (a * 2 ^ roomP (ps.drop i) + pkP (ps.drop i) (v.Parts.drop i)) : Nat) : Int), ()), ()) ∨ ¬ (a * 2 ^ roomP (ps.drop i) + pkP (ps.drop i) (v.Parts.drop i) < 2 ^ rooms vs) := by
        refine ub0 ps (P := fun i => ∀ a : Nat, (valP (ps.drop i) (v.Parts.drop i) = 0) → a * 2 ^ roomP (ps.drop i) + pkP (ps.drop i) (v.Parts.drop i) < 65536 → ul4 (.p500 (some ⟨0, some vs⟩) (j : Int) (a : Int) (some ps) (List.length ps : Int) (i : Int) v.Name v.Number v.Parts) = some ((((j * 2 ^ rooms vs + (a * 2 ^ roomP (ps.drop i) + pkP (ps.drop i) (v.Parts.drop i)) : Nat) : Int), ()), ()) ∨ ¬ (a * 2 ^ roomP (ps.drop i) + pkP (ps.drop i) (v.Parts.drop i) < 2 ^ rooms vs)) ?_ ?_
        · intro a _ ha
          by_cases hlt : a * 2 ^ roomP (ps.drop ps.length) + pkP (ps.drop ps.length) (v.Parts.drop ps.length) < 2 ^ rooms vs
          · left
            rw [List.drop_length, up1, vl1, Nat.pow_zero, Nat.mul_one, Nat.add_zero] at hlt ha ⊢
            rw [ul4]
            simp only [lt_f, Bool.false_eq_true, if_false]
            rw [wd0 0 hPW h1 (by omega)]
            simp only [ua0]
            rw [if_pos (by simp), v14 (by omega) (by omega) hlt]
          · exact .inr hlt
        · intro i hi ih a hz4 ha
          have hil : i < v.Parts.length := by omega
          obtain ⟨x, hx, hq1, hq2, hq3, hq4⟩ := hp ps[i] (List.getElem_mem hi)
          rw [ua8 hi, ua8 hil, hx] at hz4 ha ⊢
          obtain ⟨y1, y2⟩ := uB9 hz4
          rw [ud9, uK3, Nat.pow_add] at ha ⊢
          have hpx := (hq3 _ y1).1
          have hwx := hq2.2
          have hpr := uh6 (roomP (ps.drop (i + 1)))
          have hpwx := uh6 (wid x)
          have hsum : a * (2 ^ wid x * 2 ^ roomP (ps.drop (i + 1))) + (pk_ x v.Parts[i] * 2 ^ roomP (ps.drop (i + 1)) + pkP (ps.drop (i + 1)) (v.Parts.drop (i + 1))) = (a * 2 ^ wid x + pk_ x v.Parts[i]) * 2 ^ roomP (ps.drop (i + 1)) + pkP (ps.drop (i + 1)) (v.Parts.drop (i + 1)) := by
            rw [Nat.add_mul, Nat.mul_assoc, Nat.add_assoc]
          rw [hsum] at ha ⊢
          have ha2 : a < 65536 := by
            have u1 : a * 1 ≤ a * 2 ^ wid x := Nat.mul_le_mul_left _ hpwx
            have u2 : (a * 2 ^ wid x + pk_ x v.Parts[i]) * 1 ≤ (a * 2 ^ wid x + pk_ x v.Parts[i]) * 2 ^ roomP (ps.drop (i + 1)) := Nat.mul_le_mul_left _ hpr
            omega
          rcases ih (a * 2 ^ wid x + pk_ x v.Parts[i]) y2 ha with h5 | h5
          · left
            rw [ul4]
            simp only [lt_t hi, if_true, Option.getD_some, ua9 hi, ua0, hx, (pwid x hq1 hq2.1).1, decide_eq_true (show (0 : Int) ≤ (wid x : Int) by omega), ua9 hil, hq4 _ y1]
            rw [v14 ha2 hwx hpx, ua7 hi (by omega)]
            exact h5
          · exact .inr h5
      have h5 := uf8 (show rooms vs ≤ 16 by omega)
      have := loop (Nat.zero_le _) 0 (by rw [List.drop_zero, List.drop_zero]; exact z3) (by rw [List.drop_zero, List.drop_zero]; omega)
      rw [List.drop_zero, List.drop_zero, Nat.zero_mul, Nat.zero_add] at this
      rcases this with h6 | h6
      · exact h6
      · exact absurd b2 h6
end Go.Proofs.YtaennkkcnhfglaaGreatDoor.Ev.F
namespace Go.Proofs.YtaennkkcnhfglaaGreatDoor.Ev.F
open Go.Proofs.YtaennkkcnhfglaaGreatDoor.Ev
def PU (x : ua4) : Prop := ∀ n : Nat, n < 2 ^ wid x → ∃ r, ul5 (.start (some x) (n : Int)) = some r ∧ r.1.2.1 = (upk x n).isSome ∧ ∀ v, upk x n = some v → r.1.1 = (v.Name, (v.Number, (v.Parts, ())))
theorem u20 : ∀ (vs : List data_variant) (k f : Nat), upkVs vs k f = match vs[k]? with | some c => upkW c f | none => none
 | [], k, f => by rw [uN4]; rfl
 | v :: r, 0, f => by rw [uv5]; rfl
 | v :: r, k + 1, f => by rw [uv4, u20 r k f]; rfl
theorem pupk : ∀ x, SOk x → Sm x → PU x := by
  refine uv0 (fun b h1 h2 n hn => ?_) (fun vs h0 h1 hnd hw h n hn => ?_)
  · rw [ul5, ux1, vc7]
    simp only [ua0, if_true]
    exact ⟨_, rfl, rfl, fun v hv => by obtain rfl := Option.some.inj hv; rfl⟩
  · have hPW : AllV PW vs := h.mono fun x hx => pwid x hx.1
    have h16 : rooms vs ≤ 16 := by omega
    have hsz : n < 65536 := by
      rw [uu5] at hn
      have := uf8 hw
      omega
    rw [ul5, ux2 _ _ h0]
    simp only [ua0, Bool.false_eq_true, if_false, wd0 0 hPW h1 (show ndsV vs ≤ 200 by omega), decide_eq_true (show (0 : Int) ≤ (rooms vs : Int) by omega), if_true, Option.getD_some, vq5 n _ h16, vt6 n _ h16 (by omega)]
    by_cases ht : vs.length ≤ n / 2 ^ rooms vs
    · have hU : upk ⟨0, some vs⟩ n = none := by rw [uH7, u20, List.getElem?_eq_none (by omega)]
      rw [decide_eq_true (by omega), if_pos rfl, hU]
      exact ⟨_, rfl, rfl, fun v hv => (by cases hv)⟩
    · rw [decide_eq_false (by omega), if_neg (by simp)]
      have hlt : n / 2 ^ rooms vs < vs.length := by omega
      rw [ua9 hlt]
      obtain ⟨nm, fs, ps, hx, q1, q2, hp⟩ := h _ (List.getElem_mem hlt)
      have hcm := hx ▸ List.getElem_mem hlt
      obtain ⟨k1, k2, k3⟩ := uy7 hnd hw hcm
      have hPP : AllP PW ps := hp.mono fun x hx => pwid x hx.1
      have hU : upk ⟨0, some vs⟩ n = upkW ⟨nm, fs, some ps⟩ (n % 2 ^ rooms vs) := by rw [uH7, u20, List.getElem?_eq_getElem hlt, hx]
      rw [hU]
      generalize hF : n % 2 ^ rooms vs = F
      have hFlt : F < 65536 := by rw [← hF]; exact Nat.lt_of_le_of_lt (Nat.mod_le _ _) hsz
      rw [hx, uB7]
      simp only [ua0, Option.getD_some, v19 nm fs hPP q2 (show ndsP ps ≤ 200 by omega), decide_eq_true (show (0 : Int) ≤ (roomP ps : Int) by omega), if_true, vq5 F _ (show roomP ps ≤ 16 by omega)]
      have hpp := uh6 (roomP ps)
      by_cases hf : F < 2 ^ roomP ps
      · rw [Nat.div_eq_of_lt hf, if_pos hf, if_neg (by simp)]
        have loop : ∀ {i}, i ≤ ps.length → ∀ acc : List DV, acc.length = i → ∃ r, ul5 (.p8180 (F : Int) (roomP (ps.drop i) : Int) (some ps) (List.length ps : Int) (i : Int) nm 0 acc) = some r ∧ r.1.2.1 = (upkP (ps.drop i) F).isSome ∧ ∀ l, upkP (ps.drop i) F = some l → r.1.1 = (nm, (0, (acc ++ l, ()))) := by
          refine ub0 ps (P := fun i => ∀ acc : List DV, acc.length = i → ∃ r, ul5 (.p8180 (F : Int) (roomP (ps.drop i) : Int) (some ps) (List.length ps : Int) (i : Int) nm 0 acc) = some r ∧ r.1.2.1 = (upkP (ps.drop i) F).isSome ∧ ∀ l, upkP (ps.drop i) F = some l → r.1.1 = (nm, (0, (acc ++ l, ())))) ?_ ?_
          · intro acc _
            rw [ul5, List.drop_length, uE5]
            simp only [lt_f, Bool.false_eq_true, if_false]
            exact ⟨_, rfl, rfl, fun l hl => by obtain rfl := Option.some.inj hl; rw [List.append_nil]⟩
          · intro i hi ih acc hacc
            obtain ⟨x, hxi, hq1, hq2, hq3⟩ := hp ps[i] (List.getElem_mem hi)
            have hwx := hq2.2
            have hr := vh2 (hxi ▸ List.getElem_mem hi)
            have hdrop : roomP (ps.drop i) = wid x + roomP (ps.drop (i + 1)) := by rw [ua8 hi, hxi, ud9]
            have hrb : roomP (ps.drop (i + 1)) ≤ 16 := by
              have : ∀ (q : List (Option ua4)) (k : Nat), roomP (q.drop k) ≤ roomP q := by
                intro q
                induction q with
                | nil => intro k; rw [List.drop_nil]; exact Nat.le_refl _
                | cons p r ihq =>
                  intro k
                  cases k with
                  | zero => exact Nat.le_refl _
                  | succ k =>
                    have := ihq k
                    simp only [List.drop_succ_cons]
                    cases p with
                    | none => rw [roomP]; exact this
                    | some y => rw [ud9]; omega
              have := this ps (i + 1)
              omega
            have hdl : F / 2 ^ roomP (ps.drop (i + 1)) ≤ 10000000 := Nat.le_trans (Nat.div_le_self _ _) (by omega)
            have hml : F / 2 ^ roomP (ps.drop (i + 1)) % 2 ^ wid x < 2 ^ wid x := Nat.mod_lt _ (uh6 _)
            obtain ⟨r1, g1, g2, g3⟩ := hq3 _ hml
            rw [ul5]
            simp only [lt_t hi, if_true, Option.getD_some, ua9 hi, ua0, hxi, (pwid x hq1 hq2.1).1]
            rw [hdrop, wrap_i64 (by omega) (by omega), show ((wid x + roomP (ps.drop (i + 1)) : Nat) : Int) - (wid x : Int) = (roomP (ps.drop (i + 1)) : Int) by omega]
            rw [if_pos (by simp), if_pos (by simp), vq5 F _ hrb, vt6 _ _ hwx hdl, g1]
            simp only [ua0]
            rw [ua8 hi, hxi, uv3]
            cases hu : upk x (F / 2 ^ roomP (ps.drop (i + 1)) % 2 ^ wid x) with
            | none =>
              rw [hu] at g2
              rw [g2]
              exact ⟨_, rfl, rfl, fun l hl => (by cases hl)⟩
            | some a =>
              rw [hu] at g2
              rw [g2, g3 a hu]
              simp only [Option.isSome_some, Bool.not_true, Bool.false_eq_true, if_false, uQ8]
              obtain ⟨r2, f1, f2, f3⟩ := ih (acc ++ [a]) (by rw [List.length_append, hacc]; rfl)
              rw [if_pos (ug1 (by simp only [List.length_cons, List.length_nil]; omega)), ua7 hi (by omega)]
              refine ⟨r2, f1, ?_, fun l hl => ?_⟩
              · rw [f2]
                cases upkP (ps.drop (i + 1)) F <;> rfl
              · cases hv : upkP (ps.drop (i + 1)) F with
                | none => rw [hv] at hl; cases hl
                | some m =>
                  rw [hv] at hl
                  obtain rfl := Option.some.inj hl
                  rw [f3 m hv, List.append_assoc]
                  rfl
        obtain ⟨r, e1, e2, e3⟩ := loop (Nat.zero_le _) [] rfl
        rw [List.drop_zero] at e1 e2 e3
        refine ⟨r, e1, ?_, fun v hv => ?_⟩
        · rw [e2]
          cases upkP ps F <;> rfl
        · obtain ⟨l, hl, rfl⟩ := Option.map_eq_some_iff.1 hv
          rw [e3 l hl]
          rfl
      · have : F / 2 ^ roomP ps ≠ 0 := fun e => hf ((Nat.div_eq_zero_iff).1 e |>.resolve_left (by omega))
        rw [if_neg hf, if_pos (bne_iff_ne.2 (show ((F / 2 ^ roomP ps : Nat) : Int) ≠ 0 by omega))]
        exact ⟨_, rfl, rfl, fun v hv => (by cases hv)⟩
def vErr (l : List ua3) (t : ua1) (v : DV) : Int := if uk3 l t = 0 then (if uR0 v = true then valE (exT l 40 t 0).2.2 v else 8) else uk3 l t
theorem vg6 {l : List ua3} (hl : l.length ≤ 24) (hd : ∀ d ∈ l, uh8 d) {t : ua1} (ht : lenOk t) {v : DV} (hv : ut8 v) : ∃ o, uk0 (.start l t.Kind t.Value t.Name t.Parts v.Name v.Number v.Parts) = some ((o, (vErr l t v, ())), ()) ∧ (vErr l t v = 0 → o = some (exT l 40 t 0).2.2) := by
  obtain ⟨o, ho, ho2⟩ := vJ5 hl hd ht
  rw [uk0, ho]
  simp only [ua0]
  unfold vErr
  by_cases h0 : uk3 l t = 0
  · have hop := ug5 (fun d h => (hd d h).light) h0
    rw [h0, if_pos (by rfl), if_pos rfl, wd4 v hv, ho2 h0]
    simp only [ua0]
    cases hvt : uR0 v with
    | false =>
      rw [uk0]
      exact ⟨_, rfl, fun h => (by cases h)⟩
    | true =>
      rw [uk0, if_pos rfl, if_pos (by rfl), pval _ (sok hop.valid hop.sr) ⟨hop.nds, hop.w16⟩ v (of_decide_eq_true hvt).1]
      simp only [ua0]
      exact ⟨_, rfl, fun _ => rfl⟩
  · rw [if_neg (by simpa using h0), if_neg h0, uk0, if_neg (by simpa using h0)]
    exact ⟨_, rfl, fun h => absurd h h0⟩
theorem uN5 {l : List ua3} {t : ua1} {v : DV} (h : vErr l t v = 0) : uk3 l t = 0 ∧ uR0 v = true ∧ valE (exT l 40 t 0).2.2 v = 0 := by
  unfold vErr at h
  by_cases h0 : uk3 l t = 0
  · rw [if_pos h0] at h
    cases hv : uR0 v with
    | false => rw [hv] at h; simp at h
    | true => rw [hv, if_pos rfl] at h; exact ⟨h0, rfl, h⟩
  · rw [if_neg h0] at h; exact absurd h h0
theorem wf2 {l : List ua3} (hd : ∀ d ∈ l, um3 d) {t : ua1} {v : DV} (h0 : uk3 l t = 0) (hz : valE (exT l 40 t 0).2.2 v = 0) : vErr l t v = 0 := by
  unfold vErr
  rw [if_pos h0, uR9 (ug5 hd h0) hz, if_pos rfl, hz]
theorem wm9 {l : List ua3} (hl : l.length ≤ 24) (hd : ∀ d ∈ l, uh8 d) {t : ua1} (ht : lenOk t) {v : DV} (hv : ut8 v) : uB1 (.start l t.Kind t.Value t.Name t.Parts v.Name v.Number v.Parts) = some ((if vErr l t v = 0 then ((pk_ (exT l 40 t 0).2.2 v : Int), ((0 : Int), ())) else (0, (vErr l t v, ()))), ()) := by
  obtain ⟨o, ho, ho2⟩ := vg6 hl hd ht hv
  rw [uB1, ho]
  simp only [ua0]
  by_cases h0 : vErr l t v = 0
  · obtain ⟨z1, z2, z3⟩ := uN5 h0
    have hop := ug5 (fun d h => (hd d h).light) z1
    rw [if_neg (by simpa using h0), if_pos h0, ho2 h0, (ppk hop.valid 40 t _ hop.sr ⟨hop.nds, hop.w16⟩).2 v z3]
    simp only [ua0]
  · rw [if_pos (by simpa using h0), if_neg h0]
theorem vJ1 {l : List ua3} (hl : l.length ≤ 24) (hd : ∀ d ∈ l, uh8 d) {t : ua1} (ht : lenOk t) (n : Int) : uB2 (.start l t.Kind t.Value t.Name t.Parts n) = some ((if uk3 l t = 0 then (if 0 ≤ n ∧ n < pw (wid (exT l 40 t 0).2.2 : Int) then (match upk (exT l 40 t 0).2.2 n.toNat with | some v => ((v.Name, (v.Number, (v.Parts, ()))), ((0 : Int), ())) | none => ((ug3, ((0 : Int), ([], ()))), ((3 : Int), ()))) else ((ug3, ((0 : Int), ([], ()))), ((2 : Int), ()))) else ((ug3, ((0 : Int), ([], ()))), (uk3 l t, ()))), ()) := by
  obtain ⟨o, ho, ho2⟩ := vJ5 hl hd ht
  rw [uB2, ho]
  simp only [ua0]
  rw [uK1 _ (by simp [big])]
  simp only [ua0, ug4]
  by_cases h0 : uk3 l t = 0
  · have hop := ug5 (fun d h => (hd d h).light) h0
    have h16 := hop.w16
    have hso := sok hop.valid hop.sr
    simp only [if_pos h0, bne_self_eq_false, Bool.false_eq_true, if_false, ho2 h0, (pwid _ hso hop.nds).1, ua0, decide_eq_true (show (0 : Int) ≤ (wid (exT l 40 t 0).2.2 : Int) by omega), if_true, vv1 _ h16, uG6, uA8]
    by_cases hb : 0 ≤ n ∧ n < ((2 ^ wid (exT l 40 t 0).2.2 : Nat) : Int)
    · rw [decide_eq_true (show 0 ≤ n ∧ n ≤ ((2 ^ wid (exT l 40 t 0).2.2 : Nat) : Int) - 1 by omega)]
      obtain ⟨r, e1, e2, e3⟩ := pupk _ hso ⟨hop.nds, h16⟩ n.toNat (by omega)
      rw [Int.toNat_of_nonneg hb.1] at e1
      simp only [Bool.not_true, Bool.false_eq_true, if_false, e1, ua0, if_pos hb]
      cases hu : upk (exT l 40 t 0).2.2 n.toNat with
      | none => rw [e2, hu]; rfl
      | some v => rw [e2, hu, e3 v hu]; rfl
    · rw [decide_eq_false (show ¬ (0 ≤ n ∧ n ≤ ((2 ^ wid (exT l 40 t 0).2.2 : Nat) : Int) - 1) by omega)]
      simp only [Bool.not_false, if_true, if_neg hb]
  · simp only [if_neg h0]
    rw [if_pos (by simpa using h0)]
end Go.Proofs.YtaennkkcnhfglaaGreatDoor.Ev.F
namespace Go.Proofs.YtaennkkcnhfglaaGreatDoor.Ev.F
open Go.Proofs.YtaennkkcnhfglaaGreatDoor.Ev
def T2 (x : ua4) : Prop := ∀ v, valE x v = 0 → bef x v < cnt x
theorem t2P : ∀ (ps : List (Option ua4)), AllP (fun x => SOk x ∧ Sm x ∧ T2 x) ps → ∀ l, l.length = ps.length → valP ps l = 0 → befP ps l < cntP ps
 | [], _, l, hl, _ => by rw [u74, uw1]; omega
 | p :: r, h, l, hl, hz => by
   obtain ⟨x, rfl, hs, hm, hx⟩ := h p (List.mem_cons_self ..)
   obtain ⟨v, m, rfl, hml⟩ := vc8 hl
   obtain ⟨z1, z2⟩ := uB9 hz
   have a1 := hx v z1
   have b1 := t2P r h.tail m hml z2
   rw [uV7, uo7]
   have : (bef x v + 1) * cntP r ≤ cnt x * cntP r := Nat.mul_le_mul_right _ a1
   rw [Nat.add_mul] at this
   omega
theorem t2Vs : ∀ (vs : List data_variant), AllV (fun x => SOk x ∧ Sm x ∧ T2 x) vs → ∀ v, valVs vs v = 0 → befVs vs v < cntVs vs
 | [], _, v, hz => by rw [uC0] at hz; cases hz
 | c :: r, h, v, hz => by
   rw [uh3] at hz
   rw [uC9, uj2]
   by_cases hn : c.name = v.Name
   · rw [if_pos hn] at hz
     obtain ⟨n, fs, ps, rfl, _, _, hp⟩ := h c (List.mem_cons_self ..)
     obtain ⟨_, z2, z3⟩ := uC2 hz
     have := t2P ps hp v.Parts z2 z3
     rw [if_pos hn, uV8, uk4]
     omega
   · rw [if_neg hn] at hz
     have := t2Vs r h.tail v hz
     rw [if_neg hn]
     omega
theorem t2 : ∀ x, SOk x → Sm x → T2 x := by
  refine uv0 (fun b h1 h2 v hz => ?_) (fun vs _ _ _ _ h v hz => ?_)
  · obtain ⟨_, _, z3, z4⟩ := uj5 hz
    rw [uT7 (by omega)] at z4
    rw [vi9, uW2]
    omega
  · rw [ui4] at hz
    rw [u75, uw3]
    exact t2Vs vs h v hz
def PB (x : ua4) : Prop := ∀ v, valE x v = 0 → ue1 (.start (some x) v.Name v.Number v.Parts) = some (((bef x v : Int), ()), ())
theorem wv1 {vs : List data_variant} {ps : List (Option ua4)} (h : AllP (fun x => SOk x ∧ Sm x ∧ PB x) ps) (q2 : ps.length ≤ 8) (v : DV) (hl : v.Parts.length = ps.length) (s : Nat) : ∀ {i}, i ≤ ps.length → ∀ a : Nat, valP (ps.drop i) (v.Parts.drop i) = 0 → s + (a + 1) * cntP (ps.drop i) ≤ 10000000 → ue1 (.p501364 (s : Int) (a : Int) (some ps) (List.length ps : Int) (i : Int) v.Name v.Number v.Parts) = some ((((s + (a * cntP (ps.drop i) + befP (ps.drop i) (v.Parts.drop i)) : Nat) : Int), ()), ()) := by
  refine ub0 ps (P := fun i => ∀ a : Nat, valP (ps.drop i) (v.Parts.drop i) = 0 → s + (a + 1) * cntP (ps.drop i) ≤ 10000000 → ue1 (.p501364 (s : Int) (a : Int) (some ps) (List.length ps : Int) (i : Int) v.Name v.Number v.Parts) = some ((((s + (a * cntP (ps.drop i) + befP (ps.drop i) (v.Parts.drop i)) : Nat) : Int), ()), ())) ?_ ?_
  · intro a _ ha
    rw [List.drop_length, uw1, u74, Nat.mul_one] at *
    rw [ue1]
    simp only [lt_f, Bool.false_eq_true, if_false]
    rw [wrap_i64 (by omega) (by omega)]
    rfl
  · intro i hi ih a hz ha
    have hil : i < v.Parts.length := by omega
    obtain ⟨x, hx, hq1, hq2, hq3⟩ := h ps[i] (List.getElem_mem hi)
    rw [ua8 hi, ua8 hil, hx] at hz ⊢
    rw [ua8 hi, hx] at ha
    obtain ⟨y1, y2⟩ := uB9 hz
    rw [uo7] at ha ⊢
    rw [uV7]
    have hb := t2 x hq1 hq2 _ y1
    have hc := ue4 x hq1
    have hrest : AllP CB (ps.drop (i + 1)) := fun p hp => by
      obtain ⟨y, e, hy, _⟩ := h p (List.mem_of_mem_drop hp)
      exact ⟨y, e, ue4 y hy⟩
    have hr1 := (ul8 hrest).1
    have hsum : a * (cnt x * cntP (ps.drop (i + 1))) + (bef x v.Parts[i] * cntP (ps.drop (i + 1)) + befP (ps.drop (i + 1)) (v.Parts.drop (i + 1))) = (a * cnt x + bef x v.Parts[i]) * cntP (ps.drop (i + 1)) + befP (ps.drop (i + 1)) (v.Parts.drop (i + 1)) := by
      rw [Nat.add_mul, Nat.mul_assoc, Nat.add_assoc]
    have hle : (a * cnt x + bef x v.Parts[i] + 1) * cntP (ps.drop (i + 1)) ≤ (a + 1) * (cnt x * cntP (ps.drop (i + 1))) := by
      rw [← Nat.mul_assoc]
      refine Nat.mul_le_mul_right _ ?_
      rw [Nat.add_mul]
      omega
    have hsm : (a * cnt x + bef x v.Parts[i] + 1) * 1 ≤ (a * cnt x + bef x v.Parts[i] + 1) * cntP (ps.drop (i + 1)) := Nat.mul_le_mul_left _ hr1
    rw [ue1]
    simp only [lt_t hi, if_true, Option.getD_some, ua9 hi, ua0, hx, show run_z61 _ = _ from u50 x hq1 hq2, ua9 hil, hq3 _ y1]
    rw [← Int.natCast_mul, wrap_i64 (x := ((a * cnt x : Nat) : Int)) (by omega) (by omega), ← Int.natCast_add, wrap_i64 (by omega) (by omega), ua7 hi (by omega), ih (a * cnt x + bef x v.Parts[i]) y2 (by omega), hsum]
theorem pbef : ∀ x, SOk x → Sm x → PB x := by
  refine uv0 (fun b h1 h2 v hz => ?_) (fun vs h0 h1 hn hw h v hz => ?_)
  · obtain ⟨_, _, z3, _⟩ := uj5 hz
    rw [ue1, ux1, vi9]
    simp only [ua0, if_true]
    rw [Int.toNat_of_nonneg z3]
  · rw [ue1, ux2 _ _ h0, u75]
    simp only [ua0, Bool.false_eq_true, if_false, Option.getD_some]
    rw [ui4] at hz
    have hCB := h.mono fun x hx => ue4 x hx.1
    have loop : ∀ {i}, i ≤ vs.length → ∀ s : Nat, valVs (vs.drop i) v = 0 → s + cntVs (vs.drop i) ≤ 5000000 → ue1 (.p244 (s : Int) (some vs) (List.length vs : Int) (i : Int) v.Name v.Number v.Parts) = some ((((s + befVs (vs.drop i) v : Nat) : Int), ()), ()) := by
      refine ub0 vs (P := fun i => ∀ s : Nat, valVs (vs.drop i) v = 0 → s + cntVs (vs.drop i) ≤ 5000000 → ue1 (.p244 (s : Int) (some vs) (List.length vs : Int) (i : Int) v.Name v.Number v.Parts) = some ((((s + befVs (vs.drop i) v : Nat) : Int), ()), ())) ?_ ?_
      · intro s hz2
        rw [List.drop_length, uC0] at hz2
        cases hz2
      · intro i hi ih s hz2 hs
        obtain ⟨n, fs, ps, hx, q1, q2, hp⟩ := h vs[i] (List.getElem_mem hi)
        have hcm := hx ▸ List.getElem_mem hi
        obtain ⟨k1, k2, k3⟩ := uy7 hn hw hcm
        rw [ua8 hi, hx] at hz2 hs ⊢
        rw [uh3] at hz2
        rw [uC9]
        rw [uj2, uk4] at hs
        rw [ue1]
        simp only [lt_t hi, if_true, Option.getD_some, ua9 hi, ua0, hx, uh1]
        by_cases hnm : n = v.Name
        · rw [if_pos hnm] at hz2 ⊢
          obtain ⟨_, z2, z3⟩ := uC2 hz2
          rw [decide_eq_true hnm, if_neg (by simp)]
          have := wv1 (vs := vs) hp q2 v z2 s (Nat.zero_le _) 0 (by rw [List.drop_zero, List.drop_zero]; exact z3) (by rw [List.drop_zero]; omega)
          rw [List.drop_zero, List.drop_zero, Nat.zero_mul, Nat.zero_add] at this
          rw [uV8]
          exact this
        · rw [if_neg hnm] at hz2 ⊢
          rw [decide_eq_false hnm, if_pos (by simp), wc4 n fs (hp.mono fun x hx => ⟨hx.1, hx.2.1, u50 x hx.1 hx.2.1⟩) q2 (by omega)]
          simp only [ua0]
          rw [uk4, ← Int.natCast_add, wrap_i64 (by omega) (by omega), ua7 hi (by omega), ih (s + cntP ps) hz2 (by omega), Nat.add_assoc]
    have hb := (uw2 hCB).2
    have hp := uf8 (show rooms vs ≤ 16 by omega)
    have : vs.length * 2 ^ rooms vs ≤ 16 * 65536 := Nat.mul_le_mul h1 hp
    have := loop (Nat.zero_le _) 0 (by rw [List.drop_zero]; exact hz) (by rw [List.drop_zero]; omega)
    rw [List.drop_zero, Nat.zero_add] at this
    exact this
theorem uK6 : ∀ (q : List (Option ua4)) (k : Nat), roomP (q.drop k) ≤ roomP q
 | [], k => by rw [List.drop_nil]; exact Nat.le_refl _
 | p :: r, 0 => Nat.le_refl _
 | p :: r, k + 1 => by
   have := uK6 r k
   rw [List.drop_succ_cons]
   cases p with
   | none => rw [roomP]; exact this
   | some y => rw [ud9]; omega
theorem vv5 (a b : Nat) : Int.tdiv (a : Int) (b : Int) = ((a / b : Nat) : Int) := rfl
theorem vY5 (a b : Nat) : Int.tmod (a : Int) (b : Int) = ((a % b : Nat) : Int) := rfl
def PA (x : ua4) : Prop := ∀ i, i < cnt x → ug9 (.start (some x) (i : Int)) = some ((((atV x i).Name, ((atV x i).Number, ((atV x i).Parts, ()))), ()), ())
theorem pat : ∀ x, SOk x → Sm x → PA x := by
  refine uv0 (fun b h1 h2 i hi => ?_) (fun vs h0 h1 hn hw h i hi => ?_)
  · rw [ug9, ux1, u73]
    simp only [ua0, if_true]
  · rw [ug9, ux2 _ _ h0, uN9]
    simp only [ua0, Bool.false_eq_true, if_false, Option.getD_some]
    rw [uw3] at hi
    have hCB := h.mono fun x hx => ue4 x hx.1
    have hb := (uw2 hCB).2
    have hp16 := uf8 (show rooms vs ≤ 16 by omega)
    have hbig : vs.length * 2 ^ rooms vs ≤ 16 * 65536 := Nat.mul_le_mul h1 hp16
    have loop : ∀ {k}, k ≤ vs.length → ∀ j : Nat, j < cntVs (vs.drop k) → j ≤ 5000000 → ug9 (.p116 (j : Int) (some vs) (List.length vs : Int) (k : Int) (⟨#[]⟩ : ByteArray) 0) = some ((((atVs (vs.drop k) j).Name, ((atVs (vs.drop k) j).Number, ((atVs (vs.drop k) j).Parts, ()))), ()), ()) := by
      refine ub0 vs (P := fun k => ∀ j : Nat, j < cntVs (vs.drop k) → j ≤ 5000000 → ug9 (.p116 (j : Int) (some vs) (List.length vs : Int) (k : Int) (⟨#[]⟩ : ByteArray) 0) = some ((((atVs (vs.drop k) j).Name, ((atVs (vs.drop k) j).Number, ((atVs (vs.drop k) j).Parts, ()))), ()), ())) ?_ ?_
      · intro j hj
        rw [List.drop_length, ur7] at hj
        omega
      · intro k hk ih j hj hj5
        obtain ⟨n, fs, ps, hx, q1, q2, hp⟩ := h vs[k] (List.getElem_mem hk)
        have hcm := hx ▸ List.getElem_mem hk
        obtain ⟨k1, k2, k3⟩ := uy7 hn hw hcm
        have hpc := (ul8 (hp.mono fun x hx => ue4 x hx.1))
        have hp2 := uf8 (show roomP ps ≤ 16 by omega)
        rw [ua8 hk, hx] at hj ⊢
        rw [uj2, uk4] at hj
        rw [uz6, uk4]
        rw [ug9]
        simp only [lt_t hk, if_true, Option.getD_some, ua9 hk, ua0, hx]
        rw [wc4 n fs (hp.mono fun x hx => ⟨hx.1, hx.2.1, u50 x hx.1 hx.2.1⟩) q2 (by omega)]
        simp only [ua0]
        by_cases hlt : j < cntP ps
        · rw [decide_eq_false (by omega), if_neg (by simp), if_pos hlt, uv9]
          have inner : ∀ {m}, m ≤ ps.length → ∀ (j : Nat) (acc : List DV), j < cntP (ps.drop m) → acc.length = m → ug9 (.p478452 (j : Int) (cntP (ps.drop m) : Int) (some ps) (List.length ps : Int) (m : Int) (⟨#[]⟩ : ByteArray) 0 n 0 acc) = some (((n, (0, (acc ++ atP (ps.drop m) j, ()))), ()), ()) := by
            refine ub0 ps (P := fun m => ∀ (j : Nat) (acc : List DV), j < cntP (ps.drop m) → acc.length = m → ug9 (.p478452 (j : Int) (cntP (ps.drop m) : Int) (some ps) (List.length ps : Int) (m : Int) (⟨#[]⟩ : ByteArray) 0 n 0 acc) = some (((n, (0, (acc ++ atP (ps.drop m) j, ()))), ()), ())) ?_ ?_
            · intro j acc _ _
              rw [ug9]
              simp only [lt_f, Bool.false_eq_true, if_false]
              rw [List.drop_length, vC8, List.append_nil]
            · intro m hm ihm j acc hj hacc
              obtain ⟨x, hxm, hq1, hq2, hq3⟩ := hp ps[m] (List.getElem_mem hm)
              have hrest : AllP CB (ps.drop (m + 1)) := fun p hp' => by
                obtain ⟨y, e, hy, _⟩ := hp p (List.mem_of_mem_drop hp')
                exact ⟨y, e, ue4 y hy⟩
              have hr := ul8 hrest
              have hc := ue4 x hq1
              have hcx := uf8 hq2.2
              have hrr : roomP (ps.drop (m + 1)) ≤ 16 := by
                have := uK6 ps (m + 1)
                omega
              have hpr := uf8 hrr
              have hdrop : cntP (ps.drop m) = cnt x * cntP (ps.drop (m + 1)) := by rw [ua8 hm, hxm, uo7]
              have hdiv : cntP (ps.drop m) / cnt x = cntP (ps.drop (m + 1)) := by rw [hdrop, Nat.mul_div_cancel_left _ (by have := hc.1; omega)]
              rw [hdrop] at hj
              have hj1 : j / cntP (ps.drop (m + 1)) < cnt x := (Nat.div_lt_iff_lt_mul (by omega)).2 hj
              have hne : ((cnt x : Int) == 0) = false := by have := hc.1; simp; omega
              have hne2 : ((cntP (ps.drop (m + 1)) : Int) == 0) = false := by have := hr.1; simp; omega
              have hj3 : j / cntP (ps.drop (m + 1)) ≤ 65536 := by have := hc.2; omega
              rw [ug9]
              simp only [lt_t hm, if_true, Option.getD_some, ua9 hm, ua0, hxm, show run_z61 _ = _ from u50 x hq1 hq2, hne, Bool.not_false, vv5, hdiv]
              rw [wrap_i64 (x := ((cntP (ps.drop (m + 1)) : Nat) : Int)) (by omega) (by omega), hne2]
              simp only [Bool.not_false, if_true, vv5, vY5]
              have hwq : IntKind.wrap .i64 ((j / cntP (ps.drop (m + 1)) : Nat) : Int) = ((j / cntP (ps.drop (m + 1)) : Nat) : Int) := by
                generalize j / cntP (ps.drop (m + 1)) = q at hj3 ⊢
                exact wrap_i64 (by omega) (by omega)
              rw [hwq, hq3 _ hj1]
              simp only [ua0, uQ8]
              rw [if_pos (ug1 (by simp only [List.length_cons, List.length_nil]; omega)), ua7 hm (by omega), ihm (j % cntP (ps.drop (m + 1))) _ (Nat.mod_lt _ (by omega)) (by rw [List.length_append, hacc]; rfl)]
              rw [ua8 hm, hxm, uS9, List.append_assoc]
              rfl
          have := inner (Nat.zero_le _) j [] (by rw [List.drop_zero]; exact hlt) rfl
          rw [List.drop_zero] at this
          exact this
        · rw [decide_eq_true (by omega), if_pos rfl, if_neg hlt, wrap_i64 (by omega) (by omega), ua7 hk (by omega), show (j : Int) - (cntP ps : Int) = ((j - cntP ps : Nat) : Int) by omega, ih (j - cntP ps) (by omega) (by omega)]
    have := loop (Nat.zero_le _) i (by rw [List.drop_zero]; exact hi) (by omega)
    rw [List.drop_zero] at this
    exact this
end Go.Proofs.YtaennkkcnhfglaaGreatDoor.Ev.F
namespace Go.Proofs.YtaennkkcnhfglaaGreatDoor.Ev.F
open Go.Proofs.YtaennkkcnhfglaaGreatDoor.Ev
theorem vJ3 {l : List ua3} (hl : l.length ≤ 24) (hd : ∀ d ∈ l, uh8 d) {t : ua1} (ht : lenOk t) {v : DV} (hv : ut8 v) : um7 (.start l t.Kind t.Value t.Name t.Parts v.Name v.Number v.Parts) = some ((vErr l t v, ()), ()) := by
  obtain ⟨o, ho, _⟩ := vg6 hl hd ht hv
  rw [um7, ho]
  simp only [ua0]
theorem vu0 {l : List ua3} (hl : l.length ≤ 24) (hd : ∀ d ∈ l, uh8 d) {t : ua1} (ht : lenOk t) {v : DV} (hv : ut8 v) : uM4 (.start l t.Kind t.Value t.Name t.Parts v.Name v.Number v.Parts) = some ((if vErr l t v = 0 then ((bef (exT l 40 t 0).2.2 v : Int), ((0 : Int), ())) else (0, (vErr l t v, ()))), ()) := by
  obtain ⟨o, ho, ho2⟩ := vg6 hl hd ht hv
  rw [uM4, ho]
  simp only [ua0]
  by_cases h0 : vErr l t v = 0
  · obtain ⟨z1, z2, z3⟩ := uN5 h0
    have hop := ug5 (fun d h => (hd d h).light) z1
    rw [if_neg (by simpa using h0), if_pos h0, ho2 h0, pbef _ (sok hop.valid hop.sr) ⟨hop.nds, hop.w16⟩ v z3]
    simp only [ua0]
  · rw [if_pos (by simpa using h0), if_neg h0]
theorem vu1 {l : List ua3} (hl : l.length ≤ 24) (hd : ∀ d ∈ l, uh8 d) {t : ua1} (ht : lenOk t) (n : Int) : um9 (.start l t.Kind t.Value t.Name t.Parts n) = some ((if uk3 l t = 0 then (if 0 ≤ n ∧ n < (cnt (exT l 40 t 0).2.2 : Int) then (((atV (exT l 40 t 0).2.2 n.toNat).Name, ((atV (exT l 40 t 0).2.2 n.toNat).Number, ((atV (exT l 40 t 0).2.2 n.toNat).Parts, ()))), ((0 : Int), ())) else ((ug3, ((0 : Int), ([], ()))), ((6 : Int), ()))) else ((ug3, ((0 : Int), ([], ()))), (uk3 l t, ()))), ()) := by
  obtain ⟨o, ho, ho2⟩ := vJ5 hl hd ht
  rw [um9, ho]
  simp only [ua0]
  by_cases h0 : uk3 l t = 0
  · have hop := ug5 (fun d h => (hd d h).light) h0
    have hso := sok hop.valid hop.sr
    have hsm : Sm (exT l 40 t 0).2.2 := ⟨hop.nds, hop.w16⟩
    have hcb := ue4 _ hso
    have hp := uf8 hop.w16
    have hc2 := hcb.2
    rw [if_neg (by simpa using h0), if_pos h0, ho2 h0, show run_z61 _ = _ from u50 _ hso hsm]
    simp only [ua0, uG6]
    rw [wrap_i64 (by omega) (by omega)]
    by_cases hb : 0 ≤ n ∧ n < (cnt (exT l 40 t 0).2.2 : Int)
    · rw [decide_eq_true (show 0 ≤ n ∧ n ≤ (cnt (exT l 40 t 0).2.2 : Int) - 1 by omega), if_neg (by simp), if_pos hb]
      have := pat _ hso hsm n.toNat (by omega)
      rw [Int.toNat_of_nonneg hb.1] at this
      rw [this]
      simp only [ua0]
    · rw [decide_eq_false (show ¬ (0 ≤ n ∧ n ≤ (cnt (exT l 40 t 0).2.2 : Int) - 1) by omega), if_pos (by simp), if_neg hb]
  · rw [if_pos (by simpa using h0), if_neg h0]
theorem wo8 : ∀ v : DV, vsz v ≤ 1000000 → uh0 (.start v.Name v.Number v.Parts v.Name v.Number v.Parts) = some ((true, ()), ()) := by
  refine uC3 fun s k ps ih hsz => ?_
  rw [uC4] at hsz
  simp only at hsz
  have hl := uE6 ps
  have e1 : (k != k) = false := by simp
  have e4 : ((List.length ps : Int) != (List.length ps : Int)) = false := by simp
  have loop : ∀ {i}, i ≤ ps.length → uh0 (.p116 (i : Int) s k ps s k ps) = some ((true, ()), ()) := by
    refine ub0 ps (P := fun i => uh0 (.p116 (i : Int) s k ps s k ps) = some ((true, ()), ())) ?_ ?_
    · rw [uh0]
      simp only [lt_f, Bool.false_eq_true, if_false]
    · intro i hi ihl
      rw [uh0]
      have hm := uQ9 (List.getElem_mem hi)
      simp only [lt_t hi, if_true, ua9 hi, ua0, ih _ (List.getElem_mem hi) (by omega), Bool.not_true, Bool.false_eq_true, if_false]
      rw [ua7 hi (by omega)]
      exact ihl
  rw [uh0]
  simp only [e1, e4, uh1, decide_true, Bool.not_true, Bool.false_eq_true, if_false]
  first
  | exact loop (Nat.zero_le _)
  | (rw [uh0]; exact loop (Nat.zero_le _))
theorem we1 (n : Int) (k : Nat) (hk : k ≤ 16) : ut5 (.start n (k : Int)) = some ((decide (0 ≤ n ∧ n ≤ ((2 ^ k : Nat) : Int) - 1), ()), ()) := by
  have hp := uf8 hk
  have hpos := uh6 k
  rw [ut5, vK6 k (by omega)]
  simp only [ua0, u09]
  rw [wrap_i64 (by omega) (by omega)]
theorem vy7 {R : ua1 → ua4 → Prop} (s : ByteArray) {cs : List ua2} {vs : List data_variant} (h : All2 (VR R) cs vs) : ∀ i, ixAt (fun v => decide (v.name = s)) i vs = ixAt (fun c => decide (c.Name = s)) i cs := by
  induction h with
  | nil => intro i; rfl
  | cons h t ih =>
    intro i
    obtain ⟨ps, rfl, _⟩ := h
    unfold ixAt
    rw [ih]
def RV (l : List ua3) (t : ua1) (x : ua4) : Prop := ∀ v, vsz v ≤ 200 → ug0 (.start l t.Kind t.Value t.Name t.Parts v.Name v.Number v.Parts) = some ((valE x v, ()), ())
theorem ww7 {l : List ua3} (hv : uq2 l) : ∀ n t x, SR l n t x → Sm x → RV l t x := by
  refine vl6 hv (fun t p hk hb hp h1 h2 => ?_) (fun t vs hc h => ?_)
  · intro v hvz
    rw [ug0, uS0, decide_eq_true (show t.Kind = 1 ∧ t.Name = sBit from ⟨hk, hb⟩), uN6]
    obtain ⟨k, hk2⟩ := Int.eq_ofNat_of_zero_le (show 0 ≤ p.Value by omega)
    have h53 : ug0 (.p53 t.Kind t.Value t.Name t.Parts v.Name v.Number v.Parts) = some ((if 0 ≤ v.Number ∧ v.Number ≤ pw p.Value - 1 then 0 else 2, ()), ()) := by
      rw [ug0, hp]
      simp only [show idx [p] (0 : Int) = some p from rfl, ua0]
      rw [hk2, we1 _ k (by omega), uA8]
      simp only [ua0]
      by_cases hh : 0 ≤ v.Number ∧ v.Number ≤ ((2 ^ k : Nat) : Int) - 1
      · rw [decide_eq_true hh, if_neg (by simp), if_pos hh]
      · rw [decide_eq_false hh, if_pos (by simp), if_neg hh]
    simp only [ua0, if_true, uh1, h53]
    by_cases hnm : v.Name = ug3
    · rw [decide_eq_true hnm, if_neg (by simp)]
      by_cases hpl : v.Parts.length = 0
      · rw [decide_eq_false (by omega), if_neg (by simp)]
        have e3 : (if v.Name = ug3 ∧ v.Parts.length = 0 then (0 : Int) else 3) = 0 := if_pos ⟨hnm, hpl⟩
        rw [e3]
        simp only [ug4, if_true]
        by_cases hh : 0 ≤ v.Number ∧ v.Number ≤ pw p.Value - 1
        · rw [if_pos hh]; rfl
        · rw [if_neg hh]; rfl
      · rw [decide_eq_true (by omega), if_pos rfl]
        have e3 : (if v.Name = ug3 ∧ v.Parts.length = 0 then (0 : Int) else 3) = 3 := if_neg fun hh => hpl hh.2
        rw [e3]; rfl
    · rw [decide_eq_false hnm, if_pos (by simp)]
      have e3 : (if v.Name = ug3 ∧ v.Parts.length = 0 then (0 : Int) else 3) = 3 := if_neg fun hh => hnm hh.1
      rw [e3]; rfl
  · intro v hvz
    have hlen := h.len
    have hvl := hc.len
    rw [ug0, uS0, decide_eq_false (fun h => hc.name h.2), ui4]
    simp only [ua0, Bool.false_eq_true, if_false, wd6 hv hc.kind hc.name hc.ty hc.tree]
    rw [ww2 _ v.Name (by unfold big; omega)]
    simp only [ua0]
    have hix : ix (fun c : data_variant => decide (c.name = v.Name)) vs = ix (fun c => decide (c.Name = v.Name)) (ub9 l t) := vy7 v.Name h 0
    rw [← hix]
    rcases uW4 vs v with ⟨e1, e2⟩ | ⟨j, c, e1, e2, e3, e4, e5⟩
    · rw [e1, e2, if_pos (by decide)]
    · have hj : j < vs.length := (List.getElem?_eq_some_iff.1 e2).1
      have hj2 : j < (ub9 l t).length := by omega
      obtain ⟨ps, ec, hps⟩ := h.get j hj2 hj
      have hcv : c = ⟨(ub9 l t)[j].Name, (ub9 l t)[j].Fields, some ps⟩ := by
        rw [List.getElem?_eq_getElem hj] at e2
        rw [← Option.some.inj e2, ec]
      have hpl := hps.len
      rw [e1, e4, if_neg (by simp), hcv, uC1, ua9 hj2]
      simp only [ua0, ug4]
      by_cases g1 : v.Number = 0
      · rw [if_neg (by simpa using g1), if_pos g1]
        by_cases g2 : v.Parts.length = ps.length
        · rw [if_neg (by rw [hpl]; simp; omega)]
          simp only [if_pos g2, if_true]
          have hvs : vszs v.Parts ≤ 200 := by rw [uC4] at hvz; omega
          have hll := uE6 v.Parts
          have loop : ∀ {i}, i ≤ v.Parts.length → ug0 (.p4084 l (ub9 l t) (j : Int) (i : Int) v.Name v.Number v.Parts) = some ((valP (ps.drop i) (v.Parts.drop i), ()), ()) := by
            refine ub0 v.Parts (P := fun i => ug0 (.p4084 l (ub9 l t) (j : Int) (i : Int) v.Name v.Number v.Parts) = some ((valP (ps.drop i) (v.Parts.drop i), ()), ())) ?_ ?_
            · rw [ug0]
              simp only [lt_f, Bool.false_eq_true, if_false]
              rw [g2, List.drop_length, uU6]
            · intro i hi ih
              have hip : i < ps.length := by omega
              have hif : i < (ub9 l t)[j].Fields.length := by omega
              obtain ⟨x, hx, _, _, hq⟩ := hps.get i hif hip
              have hm := uQ9 (List.getElem_mem hi)
              rw [ug0]
              simp only [lt_t hi, if_true, ua9 hj2, ua9 hif, ua9 hi, ua0, hq v.Parts[i] (by omega)]
              rw [ua8 hip, ua8 hi, hx, uB8]
              by_cases h0 : valE x v.Parts[i] = 0
              · rw [h0, if_neg (by simp), if_pos rfl, ua7 hi (by omega)]
                exact ih
              · rw [if_pos (by simpa using h0), if_neg h0]
          have := loop (Nat.zero_le _)
          rw [List.drop_zero, List.drop_zero] at this
          have this' : ug0 (.p4084 l (ub9 l t) (j : Int) 0 v.Name v.Number v.Parts) = some ((valP ps v.Parts, ()), ()) := this
          rw [this']
          by_cases g3 : valP ps v.Parts = 0
          · rw [g3]; rfl
          · rw [if_neg g3]
        · rw [if_pos (by rw [hpl]; simp; omega)]
          simp only [if_neg g2]
          rfl
      · rw [if_pos (by simpa using g1), if_neg g1]
        rfl
theorem vJ9 {l : List ua3} {t : ua1} {x : ua4} (h : u36 l t x) (v : DV) : uM2 (.start l t.Kind t.Value t.Name t.Parts v.Name v.Number v.Parts) = some ((if uR0 v = true then valE x v else 8, ()), ()) := by
  rw [uM2, vK8]
  simp only [ua0]
  cases hv : uR0 v with
  | false => rfl
  | true =>
    rw [ww7 h.valid 40 t x h.sr ⟨h.nds, h.w16⟩ v (of_decide_eq_true hv).1]
    rfl
end Go.Proofs.YtaennkkcnhfglaaGreatDoor.Ev.F
namespace Go.Proofs.YtaennkkcnhfglaaGreatDoor.Ev.F
open Go.Proofs.YtaennkkcnhfglaaGreatDoor.Ev
theorem rmod (n : Int) (b : Nat) (h1 : 1 ≤ b) (h2 : b ≤ 65536) : ∃ m : Nat, m < b ∧ uM1 (.start n (b : Int)) = some (((m : Int), ()), ()) := by
  rw [uM1]
  have hne : ((b : Int) == 0) = false := by simp; omega
  rw [hne]
  simp only [Bool.not_false, if_true]
  have e := Int.tmod_add_mul_tdiv n (b : Int)
  have hlt : Int.natAbs (Int.tmod n (b : Int)) < b := by
    rw [Int.natAbs_tmod]
    exact Nat.mod_lt _ (by omega)
  by_cases h : Int.tmod n (b : Int) < 0
  · rw [decide_eq_true h, if_pos rfl, wrap_i64 (by omega) (by omega)]
    refine ⟨(Int.tmod n (b : Int) + (b : Int)).toNat, by omega, ?_⟩
    rw [Int.toNat_of_nonneg (by omega)]
  · rw [decide_eq_false h, if_neg (by simp)]
    refine ⟨(Int.tmod n (b : Int)).toNat, by omega, ?_⟩
    rw [Int.toNat_of_nonneg (by omega)]
def sgn (n : Int) : Int := if n < 0 then -1 else if 0 < n then 1 else 0
theorem ww6 (n : Int) : uM3 (.start n) = some ((sgn n, ()), ()) := by
  rw [uM3]
  unfold sgn
  by_cases h : n < 0
  · rw [decide_eq_true h, if_pos rfl, if_pos h]
  · rw [decide_eq_false h, if_neg (by simp), if_neg h]
    congr 3
    by_cases h1 : 1 < n
    · rw [if_pos h1, if_pos (by omega)]
    · rw [if_neg h1]
      by_cases h0 : 0 < n
      · rw [if_pos h0]; omega
      · rw [if_neg h0]; omega
theorem pcmp (a b : Int) : uU3 (.start a b) = some ((sgn (a - b), ()), ()) := by
  rw [uU3, uM0, uM0]
  simp only [ua0, bne_self_eq_false, Bool.false_eq_true, if_false]
  unfold sgn
  by_cases h : a < b
  · rw [decide_eq_true h, if_pos rfl, if_pos (by omega)]
  · rw [decide_eq_false h, if_neg (by simp)]
    by_cases h2 : a > b
    · rw [decide_eq_true h2, if_pos rfl, if_neg (by omega), if_pos (by omega)]
    · rw [decide_eq_false h2, if_neg (by simp), if_neg (by omega), if_neg (by omega)]
theorem u92 {l : List ua3} (hl : l.length ≤ 24) (hd : ∀ d ∈ l, uh8 d) {t : ua1} (ht : lenOk t) {v w : DV} (hv : ut8 v) (hw : ut8 w) : uj4 (.start l t.Kind t.Value t.Name t.Parts v.Name v.Number v.Parts w.Name w.Number w.Parts) = some ((if vErr l t v = 0 then (if vErr l t w = 0 then (sgn ((bef (exT l 40 t 0).2.2 v : Int) - (bef (exT l 40 t 0).2.2 w : Int)), ((0 : Int), ())) else (0, (vErr l t w, ()))) else (0, (vErr l t v, ()))), ()) := by
  obtain ⟨o, ho, ho2⟩ := vg6 hl hd ht hv
  obtain ⟨o', ho', _⟩ := vg6 hl hd ht hw
  rw [uj4, ho]
  simp only [ua0]
  by_cases h0 : vErr l t v = 0
  · obtain ⟨z1, _, z3⟩ := uN5 h0
    have hop := ug5 (fun d h => (hd d h).light) z1
    rw [h0, if_pos (by rfl), if_pos rfl, ho']
    simp only [ua0]
    rw [uj4]
    by_cases h1 : vErr l t w = 0
    · obtain ⟨_, _, y3⟩ := uN5 h1
      have hso := sok hop.valid hop.sr
      rw [if_neg (by simpa using h1), if_pos h1, ho2 h0, pbef _ hso ⟨hop.nds, hop.w16⟩ v z3]
      simp only [ua0]
      rw [pbef _ hso ⟨hop.nds, hop.w16⟩ w y3]
      simp only [ua0, pcmp]
    · rw [if_pos (by simpa using h1), if_neg h1]
  · rw [if_neg (by simpa using h0), if_neg h0, uj4, if_pos (by simpa using h0)]
theorem uW5 {l : List ua3} {ps : List ByteArray} : ∀ {cs : List ua2} {kn : List ByteArray}, uu0 l ps kn cs = 0 → ∀ c ∈ cs, isN c.Name = true
 | [], _, _ => fun c hc => (by cases hc)
 | c :: r, kn, h => by
   unfold uu0 at h
   by_cases h0 : newE c.Name kn = 0
   · rw [if_pos h0] at h
     by_cases h8 : c.Fields.length ≤ 8
     · rw [if_pos h8] at h
       by_cases h1 : ud1 l ps [] c.Fields = 0
       · rw [if_pos h1] at h
         intro x hx
         rcases List.mem_cons.1 hx with rfl | hx
         · exact (uJ8 h0).1
         · exact uW5 h x hx
       · rw [if_neg h1] at h; exact absurd h h1
     · rw [if_neg h8] at h; cases h
   · rw [if_neg h0] at h; exact absurd h h0
abbrev sAsk : ByteArray := ⟨#[63]⟩
theorem v34 : isN sAsk = false := by decide
theorem vG2 {l : List ua3} (h : (uz4 l).2 = 0) (t : ua1) : ∀ c ∈ ub9 l t, c.Name ≠ sAsk := by
  intro c hc e
  have : isN c.Name = true := by
    unfold ub9 at hc
    cases hd : dat l t.Name with
    | none =>
      rw [hd] at hc
      simp at hc
      rcases hc with rfl | rfl <;> decide
    | some d =>
      rw [hd] at hc
      obtain ⟨c0, hc0, rfl⟩ := List.mem_map.1 hc
      obtain ⟨hm, _⟩ := uW6 hd
      obtain ⟨j, hj, rfl⟩ := List.getElem_of_mem hm
      unfold uz4 at h
      by_cases h20 : l.length > 20
      · rw [if_pos h20] at h; cases h
      · rw [if_neg h20] at h
        have hz := vs9 l (Nat.zero_le _) (by rw [List.drop_zero]; exact h) j hj (Nat.zero_le _)
        exact uW5 (ur1 hz).2.2.2.2 c0 hc0
  rw [e, v34] at this
  cases this
def vAsk : DV := ⟨sAsk, 0, []⟩
theorem v33 {l : List ua3} {t : ua1} {x : ua4} (h : u36 l t x) (h0 : (uz4 l).2 = 0) : valE x vAsk ≠ 0 := by
  rcases h.cases with ⟨_, _, p, _, _, _, rfl⟩ | ⟨vs, rfl, hc, hr⟩
  · intro hz
    have := (uj5 hz).1
    revert this
    decide
  · rw [ui4, vJ0]
    · decide
    · intro c hcm e
      obtain ⟨c0, hc0, ps, rfl, _⟩ := hr.memR c hcm
      exact vG2 h0 t c0 hc0 e
theorem vj3 {l : List ua3} {t : ua1} (h : uk3 l t = 0) : (uz4 l).2 = 0 := by
  unfold uk3 at h
  by_cases h0 : (uz4 l).2 = 0
  · exact h0
  · rw [if_neg h0] at h; exact h
section
variable {l : List ua3} {t : ua1}
theorem uK0 (hl : l.length ≤ 24) (hld : ∀ d ∈ l, um3 d) (hok : ∀ d ∈ l, uh8 d) (ht : lenOk t) (h0 : uk3 l t = 0) {m : Nat} (hm : m < cnt (exT l 40 t 0).2.2) :
    valE (exT l 40 t 0).2.2 (atV (exT l 40 t 0).2.2 m) = 0 ∧ bef (exT l 40 t 0).2.2 (atV (exT l 40 t 0).2.2 m) = m ∧ uR0 (atV (exT l 40 t 0).2.2 m) = true ∧ vErr l t (atV (exT l 40 t 0).2.2 m) = 0 ∧ ut8 (atV (exT l 40 t 0).2.2 m) ∧ vsz (atV (exT l 40 t 0).2.2 m) ≤ 1000000 ∧ pk_ (exT l 40 t 0).2.2 (atV (exT l 40 t 0).2.2 m) < 2 ^ wid (exT l 40 t 0).2.2 ∧ upk (exT l 40 t 0).2.2 (pk_ (exT l 40 t 0).2.2 (atV (exT l 40 t 0).2.2 m)) = some (atV (exT l 40 t 0).2.2 m) := by
  have hop := ug5 hld h0
  have hsm : Sm (exT l 40 t 0).2.2 := ⟨hop.nds, hop.w16⟩
  obtain ⟨a1, a2⟩ := t1 hop.valid 40 t _ hop.sr hsm m hm
  obtain ⟨b1, b2⟩ := t3 hop.valid 40 t _ hop.sr hsm _ a1
  have hvt := uR9 hop a1
  have hsz := (of_decide_eq_true hvt).1
  exact ⟨a1, a2, hvt, wf2 hld h0 a1, vr2 _ (by unfold big; omega), by omega, b1, b2⟩
theorem vk9 (hl : l.length ≤ 24) (hld : ∀ d ∈ l, um3 d) (hok : ∀ d ∈ l, uh8 d) (ht : lenOk t) (h0 : uk3 l t = 0) (x0 x1 : Int) (n0 n1 : ByteArray) (k0 k1 b0 b1 a0 a1 : Int) (p0 p1 : List DV) : ∃ m : Nat, m < cnt (exT l 40 t 0).2.2 ∧
    ub8 (.p16372 l (cnt (exT l 40 t 0).2.2 : Int) (wid (exT l 40 t 0).2.2 : Int) 0 t.Kind t.Value t.Name t.Parts x0 x1 n0 k0 p0 n1 k1 p1 b0 b1 a0 a1) = ub8 (.p16372 l (cnt (exT l 40 t 0).2.2 : Int) (wid (exT l 40 t 0).2.2 : Int) 1 t.Kind t.Value t.Name t.Parts x0 x1 (atV (exT l 40 t 0).2.2 m).Name (atV (exT l 40 t 0).2.2 m).Number (atV (exT l 40 t 0).2.2 m).Parts n1 k1 p1 (pk_ (exT l 40 t 0).2.2 (atV (exT l 40 t 0).2.2 m) : Int) b1 (m : Int) a1) := by
  have hop := ug5 hld h0
  have h16 := hop.w16
  have hcb := ue4 _ (sok hop.valid hop.sr)
  have hp := uf8 h16
  have hc1 := hcb.1
  have hc2 := hcb.2
  obtain ⟨m, hm, hmod⟩ := rmod x0 (cnt (exT l 40 t 0).2.2) hc1 (by omega)
  obtain ⟨c1, c2, c3, c4, c5, c6, c7, c8⟩ := uK0 hl hld hok ht h0 hm
  refine ⟨m, hm, ?_⟩
  have d00 : decide ((0 : Int) = 0) = true := by decide
  have d02 : decide ((0 : Int) < 2) = true := by decide
  conv => lhs; rw [ub8]
  simp only [d00, d02, if_true, hmod, ua0, ur9 l hl hld, vu1 hl hok ht, if_pos h0, if_pos (show (0 : Int) ≤ (m : Int) ∧ (m : Int) < (cnt (exT l 40 t 0).2.2 : Int) by omega), Int.toNat_natCast, bne_self_eq_false, Bool.false_eq_true, if_false, vK8, c3, Bool.not_true, vJ3 hl hok ht c5, c4]
  conv => lhs; rw [ub8]
  simp only [d00, if_true, ua0, ur9 l hl hld, vu4 _ c6, vu0 hl hok ht c5, wm9 hl hok ht c5, if_pos c4, vJ1 hl hok ht, if_pos h0, c2]
  rw [if_pos (show (0 : Int) ≤ (pk_ (exT l 40 t 0).2.2 (atV (exT l 40 t 0).2.2 m) : Int) ∧ (pk_ (exT l 40 t 0).2.2 (atV (exT l 40 t 0).2.2 m) : Int) < pw (wid (exT l 40 t 0).2.2 : Int) by rw [uA8]; omega), Int.toNat_natCast, c8]
  simp only [ua0, bne_self_eq_false, Bool.false_eq_true, if_false, we1 _ _ h16]
  rw [decide_eq_true (show 0 ≤ (pk_ (exT l 40 t 0).2.2 (atV (exT l 40 t 0).2.2 m) : Int) ∧ (pk_ (exT l 40 t 0).2.2 (atV (exT l 40 t 0).2.2 m) : Int) ≤ ((2 ^ wid (exT l 40 t 0).2.2 : Nat) : Int) - 1 by omega)]
  simp only [Bool.not_true, Bool.false_eq_true, if_false, wo8 _ c6, ua0]
  rfl
theorem vl0 (hl : l.length ≤ 24) (hld : ∀ d ∈ l, um3 d) (hok : ∀ d ∈ l, uh8 d) (ht : lenOk t) (h0 : uk3 l t = 0) (x0 x1 : Int) (n0 n1 : ByteArray) (k0 k1 b0 b1 a0 a1 : Int) (p0 p1 : List DV) : ∃ m : Nat, m < cnt (exT l 40 t 0).2.2 ∧
    ub8 (.p16372 l (cnt (exT l 40 t 0).2.2 : Int) (wid (exT l 40 t 0).2.2 : Int) 1 t.Kind t.Value t.Name t.Parts x0 x1 n0 k0 p0 n1 k1 p1 b0 b1 a0 a1) = ub8 (.p16372 l (cnt (exT l 40 t 0).2.2 : Int) (wid (exT l 40 t 0).2.2 : Int) 2 t.Kind t.Value t.Name t.Parts x0 x1 n0 k0 p0 (atV (exT l 40 t 0).2.2 m).Name (atV (exT l 40 t 0).2.2 m).Number (atV (exT l 40 t 0).2.2 m).Parts b0 (pk_ (exT l 40 t 0).2.2 (atV (exT l 40 t 0).2.2 m) : Int) a0 (m : Int)) := by
  have hop := ug5 hld h0
  have h16 := hop.w16
  have hcb := ue4 _ (sok hop.valid hop.sr)
  have hp := uf8 h16
  have hc1 := hcb.1
  have hc2 := hcb.2
  obtain ⟨m, hm, hmod⟩ := rmod x1 (cnt (exT l 40 t 0).2.2) hc1 (by omega)
  obtain ⟨c1, c2, c3, c4, c5, c6, c7, c8⟩ := uK0 hl hld hok ht h0 hm
  refine ⟨m, hm, ?_⟩
  have d00 : decide ((1 : Int) = 0) = false := by decide
  have d01 : decide ((1 : Int) = 1) = true := by decide
  have d02 : decide ((1 : Int) < 2) = true := by decide
  conv => lhs; rw [ub8]
  simp only [d00, d01, d02, if_true, hmod, ua0, ur9 l hl hld, vu1 hl hok ht, if_pos h0, if_pos (show (0 : Int) ≤ (m : Int) ∧ (m : Int) < (cnt (exT l 40 t 0).2.2 : Int) by omega), Int.toNat_natCast, bne_self_eq_false, Bool.false_eq_true, if_false, vK8, c3, Bool.not_true, vJ3 hl hok ht c5, c4]
  conv => lhs; rw [ub8]
  simp only [d00, d01, Bool.false_eq_true, if_false, if_true, ua0, ur9 l hl hld, vu4 _ c6, vu0 hl hok ht c5, wm9 hl hok ht c5, if_pos c4, vJ1 hl hok ht, if_pos h0, c2]
  rw [if_pos (show (0 : Int) ≤ (pk_ (exT l 40 t 0).2.2 (atV (exT l 40 t 0).2.2 m) : Int) ∧ (pk_ (exT l 40 t 0).2.2 (atV (exT l 40 t 0).2.2 m) : Int) < pw (wid (exT l 40 t 0).2.2 : Int) by rw [uA8]; omega), Int.toNat_natCast, c8]
  simp only [ua0, bne_self_eq_false, Bool.false_eq_true, if_false, we1 _ _ h16]
  rw [decide_eq_true (show 0 ≤ (pk_ (exT l 40 t 0).2.2 (atV (exT l 40 t 0).2.2 m) : Int) ∧ (pk_ (exT l 40 t 0).2.2 (atV (exT l 40 t 0).2.2 m) : Int) ≤ ((2 ^ wid (exT l 40 t 0).2.2 : Nat) : Int) - 1 by omega)]
  simp only [Bool.not_true, Bool.false_eq_true, if_false, wo8 _ c6, ua0]
  rfl
end
theorem vz3 (a0 : List ua3) (a1 : ua1) (x0 x1 : Int) (hd : DHyp a0) (ht : ue3 a1) : ub8 (.start a0 a1.Kind a1.Value a1.Name a1.Parts x0 x1) = some ((true, ()), ()) := by
  rw [ub8, vC9]
  simp only [ua0, Bool.not_true, Bool.false_eq_true, if_false]
  obtain ⟨b, hb, hb2⟩ := wo7 a0
  rw [hb]
  simp only [ua0]
  cases b with
  | false => rfl
  | true =>
    obtain ⟨hl, hld⟩ := hb2 rfl
    have hok := vG3 hd hld
    have htl := vV6 ht
    simp only [Bool.not_true, Bool.false_eq_true, if_false, ua0, wv9 hl hok htl]
    have hv0 : ut8 ⟨ug3, 0, []⟩ := .mk _ _ _ (by simp [big]) (fun p hp => (by cases hp))
    have hvA : ut8 vAsk := .mk _ _ _ (by simp [big]) (fun p hp => (by cases hp))
    by_cases h0 : uk3 a0 a1 = 0
    · have hop := ug5 hld h0
      have hso := sok hop.valid hop.sr
      have hsm : Sm (exT a0 40 a1 0).2.2 := ⟨hop.nds, hop.w16⟩
      have hcb := ue4 _ hso
      have hc1 := hcb.1
      have hc2 := hcb.2
      have hw1 := hop.w1
      have hw16 := hop.w16
      have hp := uf8 hw16
      rw [if_neg (by simpa using h0), ur9 a0 hl hld]
      simp only [ua0, vW1 hl hok htl, vW5 hl hok htl, if_pos h0, bne_self_eq_false, Bool.false_eq_true, if_false, vb7, u09]
      rw [decide_eq_true (show 1 ≤ (wid (exT a0 40 a1 0).2.2 : Int) ∧ (wid (exT a0 40 a1 0).2.2 : Int) ≤ 16 by omega), if_neg (by simp), vK6 _ (by omega)]
      simp only [ua0]
      rw [decide_eq_true (show 1 ≤ (cnt (exT a0 40 a1 0).2.2 : Int) ∧ (cnt (exT a0 40 a1 0).2.2 : Int) ≤ ((2 ^ wid (exT a0 40 a1 0).2.2 : Nat) : Int) by omega), if_neg (by simp), ub8]
      obtain ⟨m0, hm0, e0⟩ := vk9 hl hld hok htl h0 x0 x1 ug3 ug3 0 0 0 0 0 0 [] []
      obtain ⟨m1, hm1, e1⟩ := vl0 hl hld hok htl h0 x0 x1 (atV (exT a0 40 a1 0).2.2 m0).Name ug3 (atV (exT a0 40 a1 0).2.2 m0).Number 0 (pk_ (exT a0 40 a1 0).2.2 (atV (exT a0 40 a1 0).2.2 m0) : Int) 0 (m0 : Int) 0 (atV (exT a0 40 a1 0).2.2 m0).Parts []
      rw [e0, e1]
      obtain ⟨c1, c2, c3, c4, c5, c6, c7, c8⟩ := uK0 hl hld hok htl h0 hm0
      obtain ⟨d1, d2, d3, d4, d5, d6, d7, d8⟩ := uK0 hl hld hok htl h0 hm1
      have hT5 := (t5 hop.valid 40 a1 _ hop.sr hsm).2.2
      have hask := v33 hop (vj3 h0)
      have hvt : uR0 vAsk = true := by decide
      have heA : vErr a0 a1 vAsk = valE (exT a0 40 a1 0).2.2 vAsk := by unfold vErr; rw [if_pos h0, hvt, if_pos rfl]
      have h22 : decide ((2 : Int) < 2) = false := by decide
      have pA := u92 hl hok htl c5 hvA
      have pB := u92 hl hok htl c5 d5
      have rA := vJ9 hop vAsk
      rw [if_pos c4, heA, if_neg hask] at pA
      rw [if_pos c4, if_pos d4, c2, d2] at pB
      rw [hvt, if_pos rfl] at rA
      have pA' : uj4 (.start a0 a1.Kind a1.Value a1.Name a1.Parts (atV (exT a0 40 a1 0).2.2 m0).Name (atV (exT a0 40 a1 0).2.2 m0).Number (atV (exT a0 40 a1 0).2.2 m0).Parts (⟨#[63]⟩ : ByteArray) 0 []) = some ((0, (valE (exT a0 40 a1 0).2.2 vAsk, ())), ()) := pA
      have rA' : uM2 (.start a0 a1.Kind a1.Value a1.Name a1.Parts (⟨#[63]⟩ : ByteArray) 0 []) = some ((valE (exT a0 40 a1 0).2.2 vAsk, ()), ()) := rA
      have hs1 : IntKind.wrap .i64 ((m0 : Int) - (m1 : Int)) = (m0 : Int) - (m1 : Int) := wrap_i64 (by omega) (by omega)
      generalize hp0 : pk_ (exT a0 40 a1 0).2.2 (atV (exT a0 40 a1 0).2.2 m0) = p0 at c7 c8 ⊢
      generalize hp1 : pk_ (exT a0 40 a1 0).2.2 (atV (exT a0 40 a1 0).2.2 m1) = p1 at d7 d8 ⊢
      have hs2 : IntKind.wrap .i64 ((p0 : Int) - (p1 : Int)) = (p0 : Int) - (p1 : Int) := wrap_i64 (by omega) (by omega)
      have hsg : sgn ((p0 : Int) - (p1 : Int)) = sgn ((m0 : Int) - (m1 : Int)) := by
        unfold sgn
        by_cases q1 : m0 < m1
        · have := hT5 m0 m1 q1 hm1
          rw [hp0, hp1] at this
          rw [if_pos (by omega), if_pos (by omega)]
        · by_cases q2 : m1 < m0
          · have := hT5 m1 m0 q2 hm0
            rw [hp0, hp1] at this
            rw [if_neg (by omega), if_pos (by omega), if_neg (by omega), if_pos (by omega)]
          · have : m0 = m1 := by omega
            subst this
            rw [hp0] at hp1
            subst hp1
            rw [Int.sub_self, Int.sub_self]
      rw [ub8]
      simp only [h22, Bool.false_eq_true, if_false, ur9 a0 hl hld, ua0, vu4 _ c6, vu4 _ d6, pB, pA', rA', beq_self_eq_true, if_true, hs1, hs2, ww6, hsg]
      rw [if_pos (by simpa using hask)]
    · rw [if_pos (by simpa using h0), ur9 a0 hl hld]
      simp only [ua0]
      have := u92 hl hok htl hv0 hv0
      have he : vErr a0 a1 ⟨ug3, 0, []⟩ = uk3 a0 a1 := by unfold vErr; rw [if_neg h0]
      rw [he, if_neg h0] at this
      rw [show uj4 (.start a0 a1.Kind a1.Value a1.Name a1.Parts (⟨#[]⟩ : ByteArray) 0 [] (⟨#[]⟩ : ByteArray) 0 []) = _ from this]
      simp only [ua0, beq_self_eq_true, if_true]
end Go.Proofs.YtaennkkcnhfglaaGreatDoor.Ev.F
