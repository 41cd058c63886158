/- A part of the proof. -/
import Derived.Test.YtaennkkcnhfglaaGreatDoorKPA
import Derived.Test.YtaennkkcnhfglaaGreatDoorKPA
set_option linter.unusedVariables false
set_option linter.unusedSimpArgs false
set_option linter.unnecessarySimpa false
namespace Go.Proofs.YtaennkkcnhfglaaGreatDoor.Ev.F
open Go.Proofs.YtaennkkcnhfglaaGreatDoor.Ev
abbrev Ex : Type := Int × Nat × ua5
def ud7 (f : ua1 → Nat → Ex) : List ua6 → Nat → Int × Nat × List (Option ua5)
 | [], c => (0, c, [])
 | x :: r, c => if (f x.Type_ c).1 = 0 then ((ud7 f r (f x.Type_ c).2.1).1, (ud7 f r (f x.Type_ c).2.1).2.1, some (f x.Type_ c).2.2 :: (ud7 f r (f x.Type_ c).2.1).2.2) else ((f x.Type_ c).1, 0, [])
def uf6 (f : ua1 → Nat → Ex) : List ua0 → Nat → Int × Nat × List data_variant
 | [], c => (0, c, [])
 | x :: r, c => if (ud7 f x.Fields c).1 = 0 then ((uf6 f r (ud7 f x.Fields c).2.1).1, (uf6 f r (ud7 f x.Fields c).2.1).2.1, ⟨x.Name, x.Fields, some (ud7 f x.Fields c).2.2⟩ :: (uf6 f r (ud7 f x.Fields c).2.1).2.2) else ((ud7 f x.Fields c).1, 0, [])
def junk : ua5 := ⟨0, none⟩
def exS (l : List ua2) (deep : Bool) (f : ua1 → Nat → Ex) (t : ua1) (c : Nat) : Ex :=
  if tree t = true then
    if t.Kind = 2 then (26, 0, junk)
    else if t.Name = sBit then
      match t.Parts with
      | p :: _ => (um2 [if p.Kind = 2 then 0 else 26, if 1 ≤ p.Value ∧ p.Value ≤ 16 then 0 else 25, if c + 1 ≤ 200 ∧ deep = true then 0 else 8], c + 1, ⟨p.Value, none⟩)
      | [] => (0, 0, junk)
    else if c + 1 ≤ 200 ∧ deep = true then ((uf6 f (uc9 l t) (c + 1)).1, (uf6 f (uc9 l t) (c + 1)).2.1, ⟨0, some (uf6 f (uc9 l t) (c + 1)).2.2⟩)
    else (8, 0, junk)
  else (8, 0, junk)
def exT (l : List ua2) : Nat → ua1 → Nat → Ex
 | 0 => exS l false fun _ _ => (8, 0, junk)
 | n + 1 => exS l true (exT l n)
structure Ty (l : List ua2) (t : ua1) : Prop where
  sz : tsz t ≤ 1000000
  ok : ur2 l [] t = 0
theorem Ty.kind {l : List ua2} {t : ua1} (h : Ty l t) : t.Kind = 1 ∨ t.Kind = 2 := by
  obtain ⟨k, v, s, ts⟩ := t
  have := (uJ9.1 h.ok).1
  unfold uE0 at this
  by_cases h0 : k = 0
  · rw [if_pos h0] at this; cases this
  · by_cases h1 : k = 1
    · exact .inl h1
    · by_cases h2 : k = 2
      · exact .inr h2
      · rw [if_neg h0, if_neg h1, if_neg h2] at this; cases this
theorem Ty.con {l : List ua2} (hp : ug0 l) {t : ua1} (h : Ty l t) (hk : t.Kind = 1) : (t.Name = sBit → ∃ p, t.Parts = [p]) ∧ (∀ d, dat l t.Name = some d → d.Params.length = t.Parts.length) ∧ (t.Name ≠ sBit → t.Name ≠ uL5 → dat l t.Name ≠ none) ∧ ∀ p ∈ t.Parts, ur2 l [] p = 0 := by
  obtain ⟨k, v, s, ts⟩ := t
  obtain ⟨h1, h2, _, h4⟩ := uJ9.1 h.ok
  simp only at hk ⊢
  subst hk
  unfold uE0 at h1 h2
  rw [if_neg (by decide), if_pos rfl] at h1 h2
  refine ⟨fun e => ?_, fun d hd => ?_, fun e1 e2 hn => ?_, h4⟩
  · rw [uJ5 hp (.inl e)] at h2
    simp only at h2
    rw [if_pos e] at h2
    match ts, h2 with
    | [p], _ => exact ⟨p, rfl⟩
    | [], h => simp at h
    | _ :: _ :: _, h => simp at h; omega
  · rw [hd] at h2
    simp only at h2
    omega
  · rw [hn] at h1
    simp only at h1
    rw [if_neg e1, if_neg e2] at h1
    cases h1
theorem uV0 {t p : ua1} (h : p ∈ t.Parts) : tsz p ≤ tsz t := by
  obtain ⟨k, v, s, ts⟩ := t
  have hts : tsz ⟨k, v, s, ts⟩ = 1 + tszs ts := by rw [tsz]
  have := uQ7 h
  simp only at this
  omega
theorem un3 {l : List ua2} (hv : uR2 l) {t : ua1} (h : Ty l t) (ht : tree t = true) (hk : t.Kind = 1) : (0 < (uc9 l t).length ∧ (uc9 l t).length ≤ 16) ∧ ∀ c ∈ uc9 l t, c.Fields.length ≤ 8 ∧ ∀ f ∈ c.Fields, Ty l f.Type_ := by
  have hc := h.con hv.plain hk
  unfold uc9
  cases hd : dat l t.Name with
  | none => exact ⟨by simp, fun c hc => by simp at hc; rcases hc with rfl | rfl <;> exact ⟨by simp, fun f hf => by cases hf⟩⟩
  | some d =>
    obtain ⟨hm, _⟩ := vT5 hd
    obtain ⟨h1, h2, _⟩ := hv.cons d hm
    refine ⟨by simp only [List.length_map]; exact ⟨h1, h2⟩, fun c hcm => ?_⟩
    obtain ⟨c0, hc0, rfl⟩ := List.mem_map.1 hcm
    obtain ⟨l0, hb, hf0⟩ := hv.fields d hm
    obtain ⟨m1, m2⟩ := hf0 c0 hc0
    refine ⟨by simp only [List.length_map]; exact m1, fun f hf => ?_⟩
    obtain ⟨f0, hf0, rfl⟩ := List.mem_map.1 hf
    obtain ⟨e1, e2⟩ := m2 f0 hf0
    have s1 := ur6 e1
    have s2 := ur6 ht
    have hsz := x56 (ps := d.Params) (args := t.Parts) (M := 200) (by decide) (fun a ha => by have := uV0 ha; omega) f0.Type_
    refine ⟨?_, w93 hb hv.plain (hc.2.1 d hd) hc.2.2.2 _ e2⟩
    have : tsz f0.Type_ * 200 ≤ 200 * 200 := Nat.mul_le_mul_right _ s1.1
    show tsz (rep d.Params t.Parts f0.Type_) ≤ 1000000
    omega
def wU6 (l : List ua2) (deep : Int) (f : ua1 → Nat → Ex) : Prop := ∀ t c, Ty l t → c ≤ 200 → ((f t c).1 = 0 → (f t c).2.1 ≤ 200) ∧ ∃ o c'', uc6 (.start l [] t.Kind t.Value t.Name t.Parts deep (c : Int)) = some ((o, ((f t c).1, ())), ((c'', ()), ())) ∧ ((f t c).1 = 0 → o = some (f t c).2.2 ∧ c'' = ((f t c).2.1 : Int))
theorem x47 {l : List ua2} {deep : Nat} (hdeep : deep ≤ 100) {f : ua1 → Nat → Ex} (hf : wU6 l ((deep + 1 : Nat) : Int) f) (B : List data_variant) (i n : Nat) (hi : i < B.length) (fs : List ua6) (hl : fs.length ≤ 12) (hok : ∀ x ∈ fs, Ty l x.Type_) :
    ∀ {k}, k ≤ fs.length → ∀ (c : Nat) (acc : List (Option ua5)), c ≤ 200 → acc.length = k → ((ud7 f (fs.drop k) c).1 = 0 → (ud7 f (fs.drop k) c).2.1 ≤ 200) ∧
      ((ud7 f (fs.drop k) c).1 ≠ 0 → ∃ c'', uc6 (.p4188572 (deep : Int) (i : Int) (n : Int) (i : Int) fs (List.length fs : Int) (k : Int) (c : Int) l [] 0 (B, i) acc) = some ((none, ((ud7 f (fs.drop k) c).1, ())), ((c'', ()), ()))) ∧
      ((ud7 f (fs.drop k) c).1 = 0 → uc6 (.p4188572 (deep : Int) (i : Int) (n : Int) (i : Int) fs (List.length fs : Int) (k : Int) (c : Int) l [] 0 (B, i) acc) = uc6 (.p8180 (deep : Int) (n : Int) (IntKind.wrap .i64 ((i : Int) + 1)) ((ud7 f (fs.drop k) c).2.1 : Int) l [] 0 (B.modify i fun y => ⟨y.name, y.fields, some (acc ++ (ud7 f (fs.drop k) c).2.2)⟩))) := by
  refine ub3 fs (P := fun k => ∀ (c : Nat) (acc : List (Option ua5)), c ≤ 200 → acc.length = k → ((ud7 f (fs.drop k) c).1 = 0 → (ud7 f (fs.drop k) c).2.1 ≤ 200) ∧
      ((ud7 f (fs.drop k) c).1 ≠ 0 → ∃ c'', uc6 (.p4188572 (deep : Int) (i : Int) (n : Int) (i : Int) fs (List.length fs : Int) (k : Int) (c : Int) l [] 0 (B, i) acc) = some ((none, ((ud7 f (fs.drop k) c).1, ())), ((c'', ()), ()))) ∧
      ((ud7 f (fs.drop k) c).1 = 0 → uc6 (.p4188572 (deep : Int) (i : Int) (n : Int) (i : Int) fs (List.length fs : Int) (k : Int) (c : Int) l [] 0 (B, i) acc) = uc6 (.p8180 (deep : Int) (n : Int) (IntKind.wrap .i64 ((i : Int) + 1)) ((ud7 f (fs.drop k) c).2.1 : Int) l [] 0 (B.modify i fun y => ⟨y.name, y.fields, some (acc ++ (ud7 f (fs.drop k) c).2.2)⟩)))) ?_ ?_
  · intro c acc hc _
    rw [List.drop_length]
    refine ⟨fun _ => hc, fun h => absurd rfl h, fun _ => ?_⟩
    conv => lhs; rw [uc6]
    simp only [lt_f, Bool.false_eq_true, if_false, ud7, List.append_nil]
  · intro k hk ih c acc hc hacc
    rw [ub6 hk]
    obtain ⟨g0, o, c'', e1, e2⟩ := hf fs[k].Type_ c (hok _ (List.getElem_mem hk)) hc
    have hw : IntKind.wrap .i64 ((deep : Int) + 1) = ((deep + 1 : Nat) : Int) := uq1 (by omega)
    have hstep : uc6 (.p4188572 (deep : Int) (i : Int) (n : Int) (i : Int) fs (List.length fs : Int) (k : Int) (c : Int) l [] 0 (B, i) acc) = if ((f fs[k].Type_ c).1 != (0 : Int)) = true then some ((none, ((f fs[k].Type_ c).1, ())), ((c'', ()), ())) else uc6 (.p4188572 (deep : Int) (i : Int) (n : Int) (i : Int) fs (List.length fs : Int) ((k + 1 : Nat) : Int) c'' l [] 0 (B, i) (acc ++ [o])) := by
      conv => lhs; rw [uc6]
      simp only [lt_t hk, if_true, ub5 hk, ua3, hw, e1, List.getElem?_eq_getElem hi]
      rw [if_pos (uh4 (by simp only [List.length_cons, List.length_nil]; omega)), ub1 hk (by omega)]
    by_cases h0 : (f fs[k].Type_ c).1 = 0
    · obtain ⟨e3, e4⟩ := e2 h0
      rw [if_neg (by rw [h0]; decide), e3, e4] at hstep
      obtain ⟨i1, i2, i3⟩ := ih (f fs[k].Type_ c).2.1 (acc ++ [some (f fs[k].Type_ c).2.2]) (g0 h0) (by rw [List.length_append, hacc]; rfl)
      rw [hstep]
      simp only [ud7, if_pos h0]
      refine ⟨i1, i2, fun h => ?_⟩
      rw [i3 h, List.append_assoc]
      rfl
    · rw [if_pos (by simpa using h0)] at hstep
      rw [hstep]
      simp only [ud7, if_neg h0]
      exact ⟨fun h => absurd h h0, fun _ => ⟨c'', rfl⟩, fun h => absurd h h0⟩
theorem uS7 {α : Type} (f : α → α) : ∀ (a : List α) (x : α) (b : List α), (a ++ x :: b).modify a.length f = a ++ f x :: b
 | [], x, b => by simp
 | y :: a, x, b => by simp [uS7 f a x b]
theorem xH3 {l : List ua2} {deep : Nat} (hdeep : deep ≤ 100) {f : ua1 → Nat → Ex} (hf : wU6 l ((deep + 1 : Nat) : Int) f) (n : Nat) : ∀ (cs : List ua0) (vs : List data_variant) (c : Nat), n = vs.length + cs.length → n ≤ 20 → (∀ x ∈ cs, x.Fields.length ≤ 8 ∧ ∀ y ∈ x.Fields, Ty l y.Type_) → c ≤ 200 → ((uf6 f cs c).1 = 0 → (uf6 f cs c).2.1 ≤ 200) ∧
    ∃ o c'', uc6 (.p8180 (deep : Int) (n : Int) (vs.length : Int) (c : Int) l [] 0 (vs ++ cs.map rawV)) = some ((o, ((uf6 f cs c).1, ())), ((c'', ()), ())) ∧ ((uf6 f cs c).1 = 0 → o = some ⟨0, some (vs ++ (uf6 f cs c).2.2)⟩ ∧ c'' = ((uf6 f cs c).2.1 : Int))
 | [], vs, c, hn, _, _, hc => by
   refine ⟨fun _ => hc, some ⟨0, some vs⟩, (c : Int), ?_, fun _ => ⟨by simp [uf6], rfl⟩⟩
   rw [uc6]
   obtain rfl : n = vs.length := by simpa using hn
   simp only [lt_f, Bool.false_eq_true, if_false, List.map_nil, List.append_nil, uf6]
 | x :: r, vs, c, hn, h20, hok, hc => by
   obtain ⟨x1, x2⟩ := hok x (List.mem_cons_self ..)
   have hlt : vs.length < n := by rw [hn, List.length_cons]; omega
   have hB : vs.length < (vs ++ (x :: r).map rawV).length := by simp
   have hget : (vs ++ (x :: r).map rawV)[vs.length]? = some (rawV x) := by simp
   have hget' : (vs ++ (x :: r).map rawV)[vs.length] = rawV x := Option.some.inj ((List.getElem?_eq_getElem hB).symm.trans hget)
   have hstep : uc6 (.p8180 (deep : Int) (n : Int) (vs.length : Int) (c : Int) l [] 0 (vs ++ (x :: r).map rawV)) = uc6 (.p4188572 (deep : Int) (vs.length : Int) (n : Int) (vs.length : Int) x.Fields (List.length x.Fields : Int) 0 (c : Int) l [] 0 (vs ++ (x :: r).map rawV, vs.length) []) := by
     conv => lhs; rw [uc6]
     rw [lt_t hlt, if_pos rfl, if_pos (by simp; omega), ub5 hB, hget']
     simp only [ua3]
     rw [if_pos (by rfl), Int.toNat_natCast, hget, if_pos rfl]
     rfl
   obtain ⟨i1, i2, i3⟩ := x47 hdeep hf (vs ++ (x :: r).map rawV) vs.length n hB x.Fields (by omega) x2 (Nat.zero_le _) c [] hc rfl
   rw [List.drop_zero] at i1 i2 i3
   rw [hstep]
   by_cases h0 : (ud7 f x.Fields c).1 = 0
   · have i3' := i3 h0
     rw [List.map_cons, uS7, uq1 (by omega), List.nil_append] at i3'
     rw [show ((0 : Nat) : Int) = 0 from rfl] at i3'
     rw [List.map_cons, i3']
     simp only [uf6, if_pos h0]
     have := xH3 hdeep hf n r (vs ++ [⟨x.Name, x.Fields, some (ud7 f x.Fields c).2.2⟩]) (ud7 f x.Fields c).2.1 (by rw [hn]; simp only [List.length_append, List.length_cons, List.length_nil]; omega) h20 (fun y hy => hok y (List.mem_cons_of_mem _ hy)) (i1 h0)
     rw [List.length_append, List.append_assoc] at this
     obtain ⟨j1, o, c'', j2, j3⟩ := this
     refine ⟨j1, o, c'', j2, fun h => ⟨?_, (j3 h).2⟩⟩
     rw [(j3 h).1, List.append_assoc]
     rfl
   · obtain ⟨c'', hc''⟩ := i2 h0
     rw [show ((0 : Nat) : Int) = 0 from rfl] at hc''
     simp only [uf6, if_neg h0]
     exact ⟨fun h => absurd h h0, none, c'', hc'', fun h => absurd h h0⟩
theorem x45 {l : List ua2} (hv : uR2 l) (deep : Nat) (hdeep : deep ≤ 100) {f : ua1 → Nat → Ex} (hf : deep ≤ 40 → wU6 l ((deep + 1 : Nat) : Int) f) : wU6 l (deep : Int) (exS l (decide (deep ≤ 40)) f) := by
  intro t c ht hc
  have hlb : l.length ≤ big := by have := hv.len; unfold big; omega
  have hlen : lenOk t := vs0 t (by have := ht.sz; unfold big; omega)
  have hstart : uc6 (.start l [] t.Kind t.Value t.Name t.Parts (deep : Int) (c : Int)) = if tree t = true then uc6 (.p31 (deep : Int) (if c + 1 ≤ 200 ∧ deep ≤ 40 then 0 else 8) ((c + 1 : Nat) : Int) l [] t.Kind t.Value t.Name t.Parts) else some ((none, ((8 : Int), ())), (((c : Int), ()), ())) := by
    conv => lhs; rw [uc6]
    simp only [xH5 t hlen, ua3, uq1 (show c ≤ 4611686018427387904 by omega), uY8]
    cases tree t with
    | false => rfl
    | true =>
      rw [if_pos rfl, if_neg (by decide), if_pos rfl]
      by_cases h2 : c + 1 ≤ 200
      · rw [if_pos (by simp; omega)]
        by_cases h4 : deep ≤ 40
        · rw [if_pos (show c + 1 ≤ 200 ∧ deep ≤ 40 from ⟨h2, h4⟩), if_pos (by simp; omega)]
        · rw [if_neg (show ¬ (c + 1 ≤ 200 ∧ deep ≤ 40) from fun h => h4 h.2), if_neg (by simp; omega)]
      · rw [if_neg (show ¬ (c + 1 ≤ 200 ∧ deep ≤ 40) from fun h => h2 h.1), if_neg (by simp; omega), if_neg (by simp)]
  rw [hstart]
  have hdec : (c + 1 ≤ 200 ∧ decide (deep ≤ 40) = true) ↔ (c + 1 ≤ 200 ∧ deep ≤ 40) := by simp
  cases htr : tree t with
  | false =>
    have e : exS l (decide (deep ≤ 40)) f t c = (8, 0, junk) := by unfold exS; rw [htr]; rfl
    rw [e]
    exact ⟨fun h => (by cases h), none, (c : Int), rfl, fun h => (by cases h)⟩
  | true =>
    rw [if_pos rfl, uc6]
    by_cases hk2 : t.Kind = 2
    · have e : exS l (decide (deep ≤ 40)) f t c = (26, 0, junk) := by unfold exS; rw [htr, if_pos rfl, if_pos hk2]
      rw [e, if_pos (by simpa using hk2)]
      exact ⟨fun h => (by cases h), none, _, rfl, fun h => (by cases h)⟩
    · have hk1 : t.Kind = 1 := ht.kind.resolve_right hk2
      obtain ⟨hc1, hc2, hc3, hc4⟩ := ht.con hv.plain hk1
      rw [if_neg (by simpa using hk2)]
      simp only [uh9]
      by_cases hb : t.Name = sBit
      · obtain ⟨p, hp⟩ := hc1 hb
        have e : exS l (decide (deep ≤ 40)) f t c = (um2 [if p.Kind = 2 then 0 else 26, if 1 ≤ p.Value ∧ p.Value ≤ 16 then 0 else 25, if c + 1 ≤ 200 ∧ deep ≤ 40 then 0 else 8], c + 1, ⟨p.Value, none⟩) := by
          unfold exS
          rw [htr, if_pos rfl, if_neg hk2, if_pos hb, hp]
          simp only [hdec]
        have hbt : decide (t.Name = sBit) = true := by simpa using hb
        rw [e, if_pos hbt, hp]
        simp only [show idx [p] (0 : Int) = some p from rfl, ua3, uY8, vx7]
        rw [vH1 _ (by simp [big])]
        simp only [ua3]
        have e1 : (if (p.Kind == (2 : Int)) = true then (0 : Int) else 26) = if p.Kind = 2 then 0 else 26 := by
          by_cases h : p.Kind = 2 <;> simp [h]
        have e2 : (if decide (1 ≤ p.Value ∧ p.Value ≤ 16) = true then (0 : Int) else 25) = if 1 ≤ p.Value ∧ p.Value ≤ 16 then 0 else 25 := by
          by_cases h : 1 ≤ p.Value ∧ p.Value ≤ 16
          · rw [decide_eq_true h, if_pos rfl, if_pos h]
          · rw [decide_eq_false h, if_neg (by simp), if_neg h]
        rw [e1, e2]
        refine ⟨fun h => ?_, _, _, rfl, fun _ => ⟨rfl, rfl⟩⟩
        have h3 := (ug6 (ug6 (ug6 h).2).2).1
        by_cases hh : c + 1 ≤ 200 ∧ deep ≤ 40
        · exact hh.1
        · rw [if_neg hh] at h3; cases h3
      · rw [if_neg (by simpa using hb)]
        by_cases hh : c + 1 ≤ 200 ∧ deep ≤ 40
        · have e : exS l (decide (deep ≤ 40)) f t c = ((uf6 f (uc9 l t) (c + 1)).1, (uf6 f (uc9 l t) (c + 1)).2.1, ⟨0, some (uf6 f (uc9 l t) (c + 1)).2.2⟩) := by
            unfold exS
            rw [htr, if_pos rfl, if_neg hk2, if_neg hb, if_pos (hdec.2 hh)]
          rw [e, if_pos hh, if_neg (by decide)]
          have hs := ur6 htr
          rw [xV0 hlb hv.light t.Kind t.Value t.Name t.Parts hc2 (fun a ha => by have := uV0 ha; omega), us6]
          simp only [ua3, List.length_map]
          obtain ⟨⟨_, m1⟩, m2⟩ := un3 hv ht htr hk1
          have := xH3 hdeep (hf hh.2) (uc9 l t).length (uc9 l t) [] (c + 1) (by simp) (by omega) m2 hh.1
          simp only [List.length_nil, List.nil_append] at this
          exact this
        · have e : exS l (decide (deep ≤ 40)) f t c = (8, 0, junk) := by
            unfold exS
            rw [htr, if_pos rfl, if_neg hk2, if_neg hb, if_neg (fun h => hh (hdec.1 h))]
          rw [e, if_neg hh, if_pos (by decide)]
          exact ⟨fun h => (by cases h), none, _, rfl, fun h => (by cases h)⟩
theorem x46 {l : List ua2} (hv : uR2 l) : ∀ n, n ≤ 40 → wU6 l ((41 - n : Nat) : Int) (exT l n)
 | 0, _ => by
   have := x45 hv 41 (by omega) (f := fun _ _ => (8, 0, junk)) (fun h => by omega)
   exact this
 | n + 1, h => by
   have := x45 hv (41 - (n + 1)) (by omega) (f := exT l n) (fun _ => by rw [show 41 - (n + 1) + 1 = 41 - n by omega]; exact x46 hv n (by omega))
   rw [decide_eq_true (by omega)] at this
   exact this
end Go.Proofs.YtaennkkcnhfglaaGreatDoor.Ev.F
namespace Go.Proofs.YtaennkkcnhfglaaGreatDoor.Ev.F
open Go.Proofs.YtaennkkcnhfglaaGreatDoor.Ev
def ExpR (l : List ua2) (depth : Nat) (f : ua1 → Nat → Ex) : Prop := ∀ (t : ua1) (c : Nat), Ty l t → c ≤ 200 → ∃ c'', uc1 (.start l t.Kind t.Value t.Name t.Parts (c : Int) 0 (depth : Int)) = some (((c'', ((f t c).1, ((depth : Int), ()))), ()), ()) ∧ ((f t c).1 = 0 → c'' = ((f t c).2.1 : Int) ∧ (f t c).2.1 ≤ 200)
theorem vf4 (t : ua1) : uD2 (.start t.Kind t.Value t.Name t.Parts) = some ((decide (t.Kind = 1 ∧ t.Name = sBit), ()), ()) := by
  rw [uD2]
  by_cases h : t.Kind = 1
  · rw [if_pos (by simpa using h), uh9]
    by_cases h2 : t.Name = sBit <;> simp [h, h2]
  · rw [if_neg (by simpa using h)]
    simp [h]
theorem wk5 (n : Int) : u04 (.start n) = some ((decide (1 ≤ n ∧ n ≤ 16), ()), ()) := by
  rw [u04, v07]
  simp only [ua3]
theorem x60 {l : List ua2} {d : Nat} (hd : d ≤ 100) {f : ua1 → Nat → Ex} (hf : ExpR l (d + 1) f) (all : List ua0) (hal : all.length ≤ 20) (i : Nat) (hi : i < all.length) (b0 b1 b2 : Int) (hl : all[i].Fields.length ≤ 12) (hok : ∀ x ∈ all[i].Fields, Ty l x.Type_) :
    ∀ {k}, k ≤ all[i].Fields.length → ∀ (c : Nat), c ≤ 200 → ((ud7 f (all[i].Fields.drop k) c).1 = 0 → (ud7 f (all[i].Fields.drop k) c).2.1 ≤ 200) ∧
      ((ud7 f (all[i].Fields.drop k) c).1 ≠ 0 → ∃ c'', uc1 (.p523556 l all (i : Int) (k : Int) b0 b1 b2 (c : Int) 0 (d : Int)) = some (((c'', ((ud7 f (all[i].Fields.drop k) c).1, ((d : Int), ()))), ()), ())) ∧
      ((ud7 f (all[i].Fields.drop k) c).1 = 0 → uc1 (.p523556 l all (i : Int) (k : Int) b0 b1 b2 (c : Int) 0 (d : Int)) = uc1 (.p8180 l all ((i + 1 : Nat) : Int) b0 b1 b2 ((ud7 f (all[i].Fields.drop k) c).2.1 : Int) 0 (d : Int))) := by
  refine ub3 all[i].Fields (P := fun k => ∀ (c : Nat), c ≤ 200 → ((ud7 f (all[i].Fields.drop k) c).1 = 0 → (ud7 f (all[i].Fields.drop k) c).2.1 ≤ 200) ∧
      ((ud7 f (all[i].Fields.drop k) c).1 ≠ 0 → ∃ c'', uc1 (.p523556 l all (i : Int) (k : Int) b0 b1 b2 (c : Int) 0 (d : Int)) = some (((c'', ((ud7 f (all[i].Fields.drop k) c).1, ((d : Int), ()))), ()), ())) ∧
      ((ud7 f (all[i].Fields.drop k) c).1 = 0 → uc1 (.p523556 l all (i : Int) (k : Int) b0 b1 b2 (c : Int) 0 (d : Int)) = uc1 (.p8180 l all ((i + 1 : Nat) : Int) b0 b1 b2 ((ud7 f (all[i].Fields.drop k) c).2.1 : Int) 0 (d : Int)))) ?_ ?_
  · intro c hc
    rw [List.drop_length]
    refine ⟨fun _ => hc, fun h => absurd rfl h, fun _ => ?_⟩
    conv => lhs; rw [uc1]
    simp only [ub5 hi, ua3, lt_f, Bool.false_eq_true, if_false, ud7]
    rw [ub1 hi (by omega)]
  · intro k hk ih c hc
    rw [ub6 hk]
    obtain ⟨c'', e1, e2⟩ := hf all[i].Fields[k].Type_ c (hok _ (List.getElem_mem hk)) hc
    have hstep : uc1 (.p523556 l all (i : Int) (k : Int) b0 b1 b2 (c : Int) 0 (d : Int)) = if ((f all[i].Fields[k].Type_ c).1 != (0 : Int)) = true then some (((c'', ((f all[i].Fields[k].Type_ c).1, ((d : Int), ()))), ()), ()) else uc1 (.p523556 l all (i : Int) ((k + 1 : Nat) : Int) b0 b1 b2 c'' (f all[i].Fields[k].Type_ c).1 (d : Int)) := by
      conv => lhs; rw [uc1]
      simp only [ub5 hi, ua3, lt_t hk, if_true, ub5 hk]
      rw [uq1 (show d ≤ 4611686018427387904 by omega), e1]
      simp only [ua3]
      rw [ub1 hk (by omega)]
    by_cases h0 : (f all[i].Fields[k].Type_ c).1 = 0
    · obtain ⟨e3, e4⟩ := e2 h0
      rw [if_neg (by rw [h0]; decide), e3, h0] at hstep
      obtain ⟨i1, i2, i3⟩ := ih (f all[i].Fields[k].Type_ c).2.1 e4
      rw [hstep]
      simp only [ud7, if_pos h0]
      exact ⟨i1, i2, i3⟩
    · rw [if_pos (by simpa using h0)] at hstep
      rw [hstep]
      simp only [ud7, if_neg h0]
      exact ⟨fun h => absurd h h0, fun _ => ⟨c'', rfl⟩, fun h => absurd h h0⟩
theorem x59 {l : List ua2} {d : Nat} (hd : d ≤ 100) {f : ua1 → Nat → Ex} (hf : ExpR l (d + 1) f) (all : List ua0) (hal : all.length ≤ 20) (b0 b1 b2 : Int) (hok : ∀ x ∈ all, x.Fields.length ≤ 8 ∧ ∀ y ∈ x.Fields, Ty l y.Type_) :
    ∀ {i}, i ≤ all.length → ∀ c : Nat, c ≤ 200 → ∃ c'', uc1 (.p8180 l all (i : Int) b0 b1 b2 (c : Int) 0 (d : Int)) = some (((c'', ((uf6 f (all.drop i) c).1, ((d : Int), ()))), ()), ()) ∧ ((uf6 f (all.drop i) c).1 = 0 → c'' = ((uf6 f (all.drop i) c).2.1 : Int) ∧ (uf6 f (all.drop i) c).2.1 ≤ 200) := by
  refine ub3 all (P := fun i => ∀ c : Nat, c ≤ 200 → ∃ c'', uc1 (.p8180 l all (i : Int) b0 b1 b2 (c : Int) 0 (d : Int)) = some (((c'', ((uf6 f (all.drop i) c).1, ((d : Int), ()))), ()), ()) ∧ ((uf6 f (all.drop i) c).1 = 0 → c'' = ((uf6 f (all.drop i) c).2.1 : Int) ∧ (uf6 f (all.drop i) c).2.1 ≤ 200)) ?_ ?_
  · intro c hc
    rw [List.drop_length]
    refine ⟨(c : Int), ?_, fun _ => ⟨rfl, hc⟩⟩
    rw [uc1]
    simp only [lt_f, Bool.false_eq_true, if_false, uf6]
  · intro i hi ih c hc
    obtain ⟨m1, m2⟩ := hok _ (List.getElem_mem hi)
    obtain ⟨i1, i2, i3⟩ := x60 hd hf all hal i hi b0 b1 b2 (by omega) m2 (Nat.zero_le _) c hc
    rw [List.drop_zero] at i1 i2 i3
    have hstep : uc1 (.p8180 l all (i : Int) b0 b1 b2 (c : Int) 0 (d : Int)) = uc1 (.p523556 l all (i : Int) ((0 : Nat) : Int) b0 b1 b2 (c : Int) 0 (d : Int)) := by
      conv => lhs; rw [uc1]
      simp only [lt_t hi, if_true]
      rfl
    rw [ub6 hi, hstep]
    by_cases h0 : (ud7 f all[i].Fields c).1 = 0
    · rw [i3 h0]
      simp only [uf6, if_pos h0]
      exact ih _ (i1 h0)
    · obtain ⟨c'', e⟩ := i2 h0
      rw [e]
      simp only [uf6, if_neg h0]
      exact ⟨c'', rfl, fun h => absurd h h0⟩
theorem x57 {l : List ua2} (hv : uR2 l) (d : Nat) (hd : d ≤ 100) {f : ua1 → Nat → Ex} (hf : d < 40 → ExpR l (d + 1) f) : ExpR l d (exS l (decide (d < 40)) f) := by
  intro t c ht hc
  have hlb : l.length ≤ big := by have := hv.len; unfold big; omega
  have hdec : (c + 1 ≤ 200 ∧ decide (d < 40) = true) ↔ (c + 1 ≤ 200 ∧ d < 40) := by simp
  rw [uc1]
  simp only [xW5, ua3, uq1 (show c ≤ 4611686018427387904 by omega)]
  cases htr : tree t with
  | false =>
    have e : exS l (decide (d < 40)) f t c = (8, 0, junk) := by unfold exS; rw [htr]; rfl
    rw [e]
    exact ⟨_, rfl, fun h => (by cases h)⟩
  | true =>
    simp only [Bool.not_true, Bool.false_eq_true, if_false]
    by_cases hk2 : t.Kind = 2
    · have e : exS l (decide (d < 40)) f t c = (26, 0, junk) := by unfold exS; rw [htr, if_pos rfl, if_pos hk2]
      rw [e, if_pos (by simpa using hk2)]
      exact ⟨_, rfl, fun h => (by cases h)⟩
    · have hk1 : t.Kind = 1 := ht.kind.resolve_right hk2
      obtain ⟨hc1, hc2, hc3, hc4⟩ := ht.con hv.plain hk1
      rw [if_neg (by simpa using hk2), vf4]
      simp only [ua3]
      have h63 : ∀ b0 b1 b2 : Int, uc1 (.p63 l t.Kind t.Value t.Name t.Parts b0 b1 b2 ((c + 1 : Nat) : Int) 0 (d : Int)) = if c + 1 ≤ 200 ∧ d < 40 then uc1 (.p127 l t.Kind t.Value t.Name t.Parts b0 b1 b2 ((c + 1 : Nat) : Int) 0 (d : Int)) else some (((((c + 1 : Nat) : Int), ((8 : Int), ((d : Int), ()))), ()), ()) := by
        intro b0 b1 b2
        conv => lhs; rw [uc1]
        by_cases h2 : c + 1 ≤ 200
        · rw [decide_eq_false (by omega), if_neg (by simp)]
          by_cases h4 : d < 40
          · rw [decide_eq_false (by omega), if_neg (by simp), if_pos ⟨h2, h4⟩]
          · rw [decide_eq_true (by omega), if_pos rfl, if_neg (fun h => h4 h.2)]
        · rw [decide_eq_true (by omega), if_pos rfl, if_neg (fun h => h2 h.1)]
      by_cases hb : t.Name = sBit
      · obtain ⟨p, hp⟩ := hc1 hb
        have e : exS l (decide (d < 40)) f t c = (um2 [if p.Kind = 2 then 0 else 26, if 1 ≤ p.Value ∧ p.Value ≤ 16 then 0 else 25, if c + 1 ≤ 200 ∧ d < 40 then 0 else 8], c + 1, ⟨p.Value, none⟩) := by
          unfold exS
          rw [htr, if_pos rfl, if_neg hk2, if_pos hb, hp]
          simp only [hdec]
        have hbt : decide (t.Kind = 1 ∧ t.Name = sBit) = true := decide_eq_true ⟨hk1, hb⟩
        have h127 : ∀ b0 b1 b2 : Int, uc1 (.p127 l t.Kind t.Value t.Name t.Parts b0 b1 b2 ((c + 1 : Nat) : Int) 0 (d : Int)) = some (((((c + 1 : Nat) : Int), ((0 : Int), ((d : Int), ()))), ()), ()) := by
          intro b0 b1 b2
          rw [uc1, vf4]
          simp only [ua3, hbt, if_true]
        rw [hbt, if_pos rfl]
        rw [e]
        rw [show idx t.Parts (0 : Int) = some p by rw [hp]; rfl]
        simp only [ua3]
        by_cases q1 : p.Kind = 2
        · rw [if_neg (by simpa using q1), uc1, vf4]
          simp only [ua3, hbt, if_true]
          rw [show idx t.Parts (0 : Int) = some p by rw [hp]; rfl]
          simp only [ua3, wk5, if_pos q1]
          by_cases q2 : 1 ≤ p.Value ∧ p.Value ≤ 16
          · rw [decide_eq_true q2]
            simp only [Bool.not_true, Bool.false_eq_true, if_false, if_pos q2, h63, h127]
            by_cases q3 : c + 1 ≤ 200 ∧ d < 40
            · simp only [if_pos q3]
              exact ⟨_, rfl, fun _ => ⟨rfl, q3.1⟩⟩
            · simp only [if_neg q3]
              exact ⟨_, rfl, fun h => (by cases h)⟩
          · rw [decide_eq_false q2]
            simp only [Bool.not_false, if_true, if_neg q2]
            exact ⟨_, rfl, fun h => (by cases h)⟩
        · rw [if_pos (by simpa using q1)]
          simp only [if_neg q1]
          exact ⟨_, rfl, fun h => (by cases h)⟩
      · have hbf : decide (t.Kind = 1 ∧ t.Name = sBit) = false := decide_eq_false fun h => hb h.2
        have h31 : ∀ b0 b1 b2 : Int, uc1 (.p31 l t.Kind t.Value t.Name t.Parts b0 b1 b2 ((c + 1 : Nat) : Int) 0 (d : Int)) = uc1 (.p63 l t.Kind t.Value t.Name t.Parts b0 b1 b2 ((c + 1 : Nat) : Int) 0 (d : Int)) := by
          intro b0 b1 b2
          conv => lhs; rw [uc1]
          rw [vf4]
          simp only [ua3, hbf, Bool.false_eq_true, if_false]
        rw [hbf, if_neg (by simp), h31, h63]
        by_cases q3 : c + 1 ≤ 200 ∧ d < 40
        · have e : exS l (decide (d < 40)) f t c = ((uf6 f (uc9 l t) (c + 1)).1, (uf6 f (uc9 l t) (c + 1)).2.1, ⟨0, some (uf6 f (uc9 l t) (c + 1)).2.2⟩) := by
            unfold exS
            rw [htr, if_pos rfl, if_neg hk2, if_neg hb, if_pos (hdec.2 q3)]
          have hs := ur6 htr
          obtain ⟨⟨_, m1⟩, m2⟩ := un3 hv ht htr hk1
          rw [if_pos q3, e, uc1, vf4]
          simp only [ua3, hbf, Bool.false_eq_true, if_false]
          rw [w70 hlb hv.plain hv.light t.Kind t.Value t.Name t.Parts hc2 (fun a ha => by have := uV0 ha; omega) (hc3 hb), us6]
          simp only [ua3]
          have := x59 hd (hf q3.2) (uc9 l t) (by omega) 0 0 0 m2 (Nat.zero_le _) (c + 1) q3.1
          rw [List.drop_zero] at this
          exact this
        · have e : exS l (decide (d < 40)) f t c = (8, 0, junk) := by
            unfold exS
            rw [htr, if_pos rfl, if_neg hk2, if_neg hb, if_neg (fun h => q3 (hdec.1 h))]
          rw [e, if_neg q3]
          exact ⟨_, rfl, fun h => (by cases h)⟩
theorem x58 {l : List ua2} (hv : uR2 l) : ∀ n, n ≤ 40 → ExpR l (40 - n) (exT l n)
 | 0, _ => by
   have := x57 hv 40 (by omega) (f := fun _ _ => (8, 0, junk)) (fun h => by omega)
   exact this
 | n + 1, h => by
   have := x57 hv (40 - (n + 1)) (by omega) (f := exT l n) (fun _ => by rw [show 40 - (n + 1) + 1 = 40 - n by omega]; exact x58 hv n (by omega))
   rw [decide_eq_true (by omega)] at this
   exact this
end Go.Proofs.YtaennkkcnhfglaaGreatDoor.Ev.F
namespace Go.Proofs.YtaennkkcnhfglaaGreatDoor.Ev.F
open Go.Proofs.YtaennkkcnhfglaaGreatDoor.Ev
def tagN (n : Nat) : Nat := if n ≤ 1 then 0 else if n ≤ 2 then 1 else if n ≤ 4 then 2 else if n ≤ 8 then 3 else 4
mutual
def nds : ua5 → Nat
 | ⟨_, none⟩ => 1
 | ⟨_, some vs⟩ => 1 + ndsV vs
def ndsV : List data_variant → Nat
 | [] => 0
 | v :: r => ndsW v + ndsV r
def ndsW : data_variant → Nat
 | ⟨_, _, none⟩ => 0
 | ⟨_, _, some ps⟩ => ndsP ps
def ndsP : List (Option ua5) → Nat
 | [] => 0
 | none :: r => ndsP r
 | some x :: r => nds x + ndsP r
end
mutual
def wid : ua5 → Nat
 | ⟨b, none⟩ => b.toNat
 | ⟨_, some vs⟩ => tagN vs.length + rooms vs
def rooms : List data_variant → Nat
 | [] => 0
 | v :: r => max (roomV v) (rooms r)
def roomV : data_variant → Nat
 | ⟨_, _, none⟩ => 0
 | ⟨_, _, some ps⟩ => roomP ps
def roomP : List (Option ua5) → Nat
 | [] => 0
 | none :: r => roomP r
 | some x :: r => wid x + roomP r
end
inductive All2 {α β : Type} (R : α → β → Prop) : List α → List β → Prop
 | nil : All2 R [] []
 | cons {a : α} {b : β} {l : List α} {m : List β} (h : R a b) (t : All2 R l m) : All2 R (a :: l) (b :: m)
theorem All2.len {α β : Type} {R : α → β → Prop} {l : List α} {m : List β} (h : All2 R l m) : l.length = m.length := by
  induction h with
  | nil => rfl
  | cons _ _ ih => rw [List.length_cons, List.length_cons, ih]
theorem All2.get {α β : Type} {R : α → β → Prop} {l : List α} {m : List β} (h : All2 R l m) : ∀ (i : Nat) (h1 : i < l.length) (h2 : i < m.length), R l[i] m[i] := by
  induction h with
  | nil => intro i h1; simp at h1
  | cons h t ih =>
    intro i h1 h2
    cases i with
    | zero => exact h
    | succ i => exact ih i (by simpa using h1) (by simpa using h2)
theorem All2.memR {α β : Type} {R : α → β → Prop} {l : List α} {m : List β} (h : All2 R l m) : ∀ b ∈ m, ∃ a ∈ l, R a b := by
  induction h with
  | nil => intro b hb; cases hb
  | cons h t ih =>
    intro b hb
    rcases List.mem_cons.1 hb with rfl | hb
    · exact ⟨_, List.mem_cons_self .., h⟩
    · obtain ⟨a, ha, hr⟩ := ih b hb
      exact ⟨a, List.mem_cons_of_mem _ ha, hr⟩
def BitR (t : ua1) (x : ua5) : Prop := t.Kind = 1 ∧ t.Name = sBit ∧ ∃ p, t.Parts = [p] ∧ 1 ≤ p.Value ∧ p.Value ≤ 16 ∧ x = ⟨p.Value, none⟩
def FR (R : ua1 → ua5 → Prop) (f : ua6) (p : Option ua5) : Prop := ∃ x, p = some x ∧ R f.Type_ x
def VR (R : ua1 → ua5 → Prop) (c : ua0) (v : data_variant) : Prop := ∃ ps, v = ⟨c.Name, c.Fields, some ps⟩ ∧ All2 (FR R) c.Fields ps
def ConR (l : List ua2) (R : ua1 → ua5 → Prop) (t : ua1) (x : ua5) : Prop := t.Kind = 1 ∧ t.Name ≠ sBit ∧ Ty l t ∧ tree t = true ∧ ∃ vs, x = ⟨0, some vs⟩ ∧ All2 (VR R) (uc9 l t) vs
def SR (l : List ua2) : Nat → ua1 → ua5 → Prop
 | 0, _, _ => False
 | n + 1, t, x => BitR t x ∨ ConR l (SR l n) t x
def ExOk (l : List ua2) (R : ua1 → ua5 → Prop) (f : ua1 → Nat → Ex) : Prop := ∀ (t : ua1) (c : Nat), Ty l t → c ≤ 200 → (f t c).1 = 0 → R t (f t c).2.2 ∧ (f t c).2.1 = c + nds (f t c).2.2 ∧ (f t c).2.1 ≤ 200
theorem wi4 {l : List ua2} {R : ua1 → ua5 → Prop} {f : ua1 → Nat → Ex} (hf : ExOk l R f) : ∀ (fs : List ua6) (c : Nat), (∀ x ∈ fs, Ty l x.Type_) → c ≤ 200 → (ud7 f fs c).1 = 0 → All2 (FR R) fs (ud7 f fs c).2.2 ∧ (ud7 f fs c).2.1 = c + ndsP (ud7 f fs c).2.2 ∧ (ud7 f fs c).2.1 ≤ 200
 | [], c, _, hc, _ => ⟨.nil, by unfold ud7; simp only; rw [ndsP]; rfl, hc⟩
 | x :: r, c, hok, hc, h => by
   by_cases h0 : (f x.Type_ c).1 = 0
   · obtain ⟨a1, a2, a3⟩ := hf x.Type_ c (hok x (List.mem_cons_self ..)) hc h0
     simp only [ud7, if_pos h0] at h ⊢
     obtain ⟨b1, b2, b3⟩ := wi4 hf r _ (fun y hy => hok y (List.mem_cons_of_mem _ hy)) a3 h
     refine ⟨.cons ⟨_, rfl, a1⟩ b1, ?_, b3⟩
     rw [b2, ndsP, a2]
     omega
   · simp only [ud7, if_neg h0] at h
     exact absurd h h0
theorem wi3 {l : List ua2} {R : ua1 → ua5 → Prop} {f : ua1 → Nat → Ex} (hf : ExOk l R f) : ∀ (cs : List ua0) (c : Nat), (∀ x ∈ cs, ∀ y ∈ x.Fields, Ty l y.Type_) → c ≤ 200 → (uf6 f cs c).1 = 0 → All2 (VR R) cs (uf6 f cs c).2.2 ∧ (uf6 f cs c).2.1 = c + ndsV (uf6 f cs c).2.2 ∧ (uf6 f cs c).2.1 ≤ 200
 | [], c, _, hc, _ => ⟨.nil, by unfold uf6; simp only; rw [ndsV]; rfl, hc⟩
 | x :: r, c, hok, hc, h => by
   by_cases h0 : (ud7 f x.Fields c).1 = 0
   · obtain ⟨a1, a2, a3⟩ := wi4 hf x.Fields c (hok x (List.mem_cons_self ..)) hc h0
     simp only [uf6, if_pos h0] at h ⊢
     obtain ⟨b1, b2, b3⟩ := wi3 hf r _ (fun y hy => hok y (List.mem_cons_of_mem _ hy)) a3 h
     refine ⟨.cons ⟨_, rfl, a1⟩ b1, ?_, b3⟩
     rw [b2, ndsV, ndsW, a2]
     omega
   · simp only [uf6, if_neg h0] at h
     exact absurd h h0
theorem w40 {l : List ua2} {b : Bool} {f : ua1 → Nat → Ex} {t : ua1} {c : Nat} (hv : uR2 l) (ht : Ty l t) (h : (exS l b f t c).1 = 0) : b = true ∧ c + 1 ≤ 200 ∧ tree t = true ∧ t.Kind = 1 ∧ ((BitR t (exS l b f t c).2.2 ∧ (exS l b f t c).2.1 = c + 1) ∨ (t.Name ≠ sBit ∧ exS l b f t c = ((uf6 f (uc9 l t) (c + 1)).1, (uf6 f (uc9 l t) (c + 1)).2.1, ⟨0, some (uf6 f (uc9 l t) (c + 1)).2.2⟩))) := by
  cases htr : tree t with
  | false => unfold exS at h; rw [htr] at h; simp at h
  | true =>
    by_cases hk2 : t.Kind = 2
    · unfold exS at h; rw [htr, if_pos rfl, if_pos hk2] at h; cases h
    · have hk1 := ht.kind.resolve_right hk2
      obtain ⟨hc1, _⟩ := ht.con hv.plain hk1
      by_cases hb : t.Name = sBit
      · obtain ⟨p, hp⟩ := hc1 hb
        have e : exS l b f t c = (um2 [if p.Kind = 2 then 0 else 26, if 1 ≤ p.Value ∧ p.Value ≤ 16 then 0 else 25, if c + 1 ≤ 200 ∧ b = true then 0 else 8], c + 1, ⟨p.Value, none⟩) := by
          unfold exS
          rw [htr, if_pos rfl, if_neg hk2, if_pos hb, hp]
        rw [e] at h ⊢
        obtain ⟨_, h⟩ := ug6 h
        obtain ⟨h2, h⟩ := ug6 h
        obtain ⟨h3, _⟩ := ug6 h
        by_cases q3 : c + 1 ≤ 200 ∧ b = true
        · by_cases q2 : 1 ≤ p.Value ∧ p.Value ≤ 16
          · exact ⟨q3.2, q3.1, rfl, hk1, .inl ⟨⟨hk1, hb, p, hp, q2.1, q2.2, rfl⟩, rfl⟩⟩
          · rw [if_neg q2] at h2; cases h2
        · rw [if_neg q3] at h3; cases h3
      · by_cases q3 : c + 1 ≤ 200 ∧ b = true
        · refine ⟨q3.2, q3.1, rfl, hk1, .inr ⟨hb, ?_⟩⟩
          unfold exS
          rw [htr, if_pos rfl, if_neg hk2, if_neg hb, if_pos q3]
        · unfold exS at h
          rw [htr, if_pos rfl, if_neg hk2, if_neg hb, if_neg q3] at h; cases h
theorem w64 (b : Int) : nds ⟨b, none⟩ = 1 := by rw [nds]
theorem vx2 (b : Int) (vs : List data_variant) : nds ⟨b, some vs⟩ = 1 + ndsV vs := by rw [nds]
theorem wi1 {l : List ua2} (hv : uR2 l) : ∀ n, ExOk l (SR l n) (exT l n)
 | 0 => fun t c ht hc h => by
   have := (w40 hv ht h).1
   cases this
 | n + 1 => fun t c ht hc h => by
   have h' : (exS l true (exT l n) t c).1 = 0 := h
   obtain ⟨_, h200, htr, hk1, hh⟩ := w40 hv ht h'
   show SR l (n + 1) t (exS l true (exT l n) t c).2.2 ∧ (exS l true (exT l n) t c).2.1 = c + nds (exS l true (exT l n) t c).2.2 ∧ (exS l true (exT l n) t c).2.1 ≤ 200
   rcases hh with ⟨hb, e⟩ | ⟨hb, e⟩
   · rw [e]
     obtain ⟨q1, q2, p, q3, q4, q5, q6⟩ := id hb
     refine ⟨.inl hb, ?_, h200⟩
     rw [q6, w64]
   · rw [e] at h' ⊢
     obtain ⟨_, m2⟩ := un3 hv ht htr hk1
     obtain ⟨b1, b2, b3⟩ := wi3 (wi1 hv n) (uc9 l t) (c + 1) (fun x hx => (m2 x hx).2) h200 h'
     refine ⟨.inr ⟨hk1, hb, ht, htr, _, rfl, b1⟩, ?_, b3⟩
     simp only
     rw [vx2, b2]
     omega
end Go.Proofs.YtaennkkcnhfglaaGreatDoor.Ev.F
namespace Go.Proofs.YtaennkkcnhfglaaGreatDoor.Ev.F
open Go.Proofs.YtaennkkcnhfglaaGreatDoor.Ev
theorem x49 (m : Nat) (h : m < 16) : uj5 (.start (m : Int)) = some (((tagN (m + 1) : Int), ()), ()) := by
  rw [uj5]
  rw [if_neg (by simp; omega), uj5]
  rw [if_neg (by simp; omega), uj5]
  rw [if_neg (by simp; omega), uj5]
  have hm : m = 0 ∨ m = 1 ∨ m = 2 ∨ m = 3 ∨ m = 4 ∨ m = 5 ∨ m = 6 ∨ m = 7 ∨ m = 8 ∨ m = 9 ∨ m = 10 ∨ m = 11 ∨ m = 12 ∨ m = 13 ∨ m = 14 ∨ m = 15 := by omega
  rcases hm with rfl | rfl | rfl | rfl | rfl | rfl | rfl | rfl | rfl | rfl | rfl | rfl | rfl | rfl | rfl | rfl <;> rfl
theorem ptag (b : Int) (vs : List data_variant) (h1 : 0 < vs.length) (h2 : vs.length ≤ 16) : uQ2 (.start (some ⟨b, some vs⟩)) = some (((tagN vs.length : Int), ()), ()) := by
  rw [uQ2]
  simp only [ua3, Option.getD_some]
  rw [show (List.length vs : Int) - 1 = ((vs.length - 1 : Nat) : Int) by omega, wrap_i64 (by omega) (by omega)]
  rw [show IntKind.wrap .u64 ((vs.length - 1 : Nat) : Int) = ((vs.length - 1 : Nat) : Int) by simp [IntKind.wrap, IntKind.bits, IntKind.signed]; omega]
  rw [uZ9, x49 _ (by omega)]
  simp only [ua3]
  rw [show vs.length - 1 + 1 = vs.length by omega]
theorem x62 (k : Nat) (h : k ≤ 62) : vh2 (.start (k : Int)) = some ((((2 ^ k : Nat) : Int), ()), ()) := by
  rw [vh2, if_pos (by simp), xX7 (by omega)]
  simp [pw]
theorem uT5 (c : Int) (k : Nat) (h : k ≤ 10) : uv1 (.p56 c (k : Int)) = if ((2 ^ k : Nat) : Int) < c then uv1 (.p56 c ((k + 1 : Nat) : Int)) else some (((k : Int), ()), ()) := by
  conv => lhs; rw [uv1]
  rw [x62 k (by omega)]
  simp only [ua3, uq1 (show k ≤ 4611686018427387904 by omega)]
  by_cases h : ((2 ^ k : Nat) : Int) < c
  · rw [decide_eq_true h, if_pos rfl, if_pos h]
  · rw [decide_eq_false h, if_neg (by simp), if_neg h]
theorem rtag (n : Nat) (h : n ≤ 16) : uv1 (.start (n : Int)) = some (((tagN n : Int), ()), ()) := by
  rw [uv1, show ((0 : Int)) = ((0 : Nat) : Int) from rfl]
  unfold tagN
  rw [uT5 _ 0 (by omega)]
  by_cases h1 : n ≤ 1
  · rw [if_neg (by simp; omega), if_pos h1]
  · rw [if_pos (by simp; omega), if_neg h1, uT5 _ 1 (by omega)]
    by_cases h2 : n ≤ 2
    · rw [if_neg (by simp; omega), if_pos h2]
    · rw [if_pos (by simp; omega), if_neg h2, uT5 _ 2 (by omega)]
      by_cases h4 : n ≤ 4
      · rw [if_neg (by simp; omega), if_pos h4]
      · rw [if_pos (by simp; omega), if_neg h4, uT5 _ 3 (by omega)]
        by_cases h8 : n ≤ 8
        · rw [if_neg (by simp; omega), if_pos h8]
        · rw [if_pos (by simp; omega), if_neg h8, uT5 _ 4 (by omega)]
          rw [if_neg (by simp; omega)]
theorem xY1 (n : Nat) : tagN n ≤ 4 := by
  unfold tagN
  split
  · omega
  · split
    · omega
    · split
      · omega
      · split <;> omega
theorem xp1 (b : Int) : wid ⟨b, none⟩ = b.toNat := by rw [wid]
theorem wc6 (b : Int) (vs : List data_variant) : wid ⟨b, some vs⟩ = tagN vs.length + rooms vs := by rw [wid]
theorem uZ1 (v : data_variant) (r : List data_variant) : rooms (v :: r) = max (roomV v) (rooms r) := by rw [rooms]
theorem vf6 : rooms [] = 0 := by rw [rooms]
theorem uZ0 (n : ByteArray) (fs : List ua6) (ps : List (Option ua5)) : roomV ⟨n, fs, some ps⟩ = roomP ps := by rw [roomV]
theorem vf5 : roomP [] = 0 := by rw [roomP]
theorem uY9 (x : ua5) (r : List (Option ua5)) : roomP (some x :: r) = wid x + roomP r := by rw [roomP]
theorem x83 : ndsV [] = 0 := by rw [ndsV]
theorem u84 (v : data_variant) (r : List data_variant) : ndsV (v :: r) = ndsW v + ndsV r := by rw [ndsV]
theorem uS9 (n : ByteArray) (fs : List ua6) (ps : List (Option ua5)) : ndsW ⟨n, fs, some ps⟩ = ndsP ps := by rw [ndsW]
theorem x82 : ndsP [] = 0 := by rw [ndsP]
theorem uS8 (x : ua5) (r : List (Option ua5)) : ndsP (some x :: r) = nds x + ndsP r := by rw [ndsP]
def AllP (Q : ua5 → Prop) (ps : List (Option ua5)) : Prop := ∀ p ∈ ps, ∃ x, p = some x ∧ Q x
def AllV (Q : ua5 → Prop) (vs : List data_variant) : Prop := ∀ v ∈ vs, ∃ n fs ps, v = ⟨n, fs, some ps⟩ ∧ fs.length = ps.length ∧ ps.length ≤ 8 ∧ AllP Q ps
theorem AllP.tail {Q : ua5 → Prop} {p : Option ua5} {r : List (Option ua5)} (h : AllP Q (p :: r)) : AllP Q r := fun x hx => h x (List.mem_cons_of_mem _ hx)
theorem AllV.tail {Q : ua5 → Prop} {p : data_variant} {r : List data_variant} (h : AllV Q (p :: r)) : AllV Q r := fun x hx => h x (List.mem_cons_of_mem _ hx)
theorem AllP.mono {Q R : ua5 → Prop} (hq : ∀ x, Q x → R x) {ps : List (Option ua5)} (h : AllP Q ps) : AllP R ps := fun p hp => by
  obtain ⟨x, hx, hx2⟩ := h p hp
  exact ⟨x, hx, hq x hx2⟩
theorem AllV.mono {Q R : ua5 → Prop} (hq : ∀ x, Q x → R x) {vs : List data_variant} (h : AllV Q vs) : AllV R vs := fun v hv => by
  obtain ⟨n, fs, ps, h1, h2, h3, h4⟩ := h v hv
  exact ⟨n, fs, ps, h1, h2, h3, h4.mono hq⟩
theorem AllP.of {R : ua1 → ua5 → Prop} {Q : ua5 → Prop} (hq : ∀ t x, R t x → Q x) {fs : List ua6} {ps : List (Option ua5)} (h : All2 (FR R) fs ps) : AllP Q ps := fun p hp => by
  obtain ⟨f, _, x, e, hr⟩ := h.memR p hp
  exact ⟨x, e, hq _ _ hr⟩
theorem AllV.of {R : ua1 → ua5 → Prop} {Q : ua5 → Prop} (hq : ∀ t x, R t x → Q x) {cs : List ua0} (hc : ∀ c ∈ cs, c.Fields.length ≤ 8) {vs : List data_variant} (h : All2 (VR R) cs vs) : AllV Q vs := fun v hv => by
  obtain ⟨c, hcm, ps, e, hr⟩ := h.memR v hv
  exact ⟨c.Name, c.Fields, ps, e, hr.len, by rw [← hr.len]; exact hc c hcm, AllP.of hq hr⟩
theorem vU5 {ps : List (Option ua5)} {x : ua5} (h : some x ∈ ps) : nds x ≤ ndsP ps := by
  induction ps with
  | nil => cases h
  | cons p r ih =>
    rcases List.mem_cons.1 h with rfl | h
    · rw [uS8]; omega
    · have := ih h
      cases p with
      | none => rw [ndsP]; exact this
      | some y => rw [uS8]; omega
theorem wi7 {vs : List data_variant} {v : data_variant} (h : v ∈ vs) : ndsW v ≤ ndsV vs := by
  induction vs with
  | nil => cases h
  | cons p r ih =>
    rw [u84]
    rcases List.mem_cons.1 h with rfl | h
    · omega
    · have := ih h; omega
def PW (x : ua5) : Prop := nds x ≤ 200 → run_z41 (.start (some x)) = some (((wid x : Int), ()), ()) ∧ wid x ≤ 16 * nds x
theorem vy0 {ps : List (Option ua5)} (h : AllP PW ps) (hn : ndsP ps ≤ 200) : roomP ps ≤ 16 * ndsP ps := by
  induction ps with
  | nil => rw [vf5]; omega
  | cons p r ih =>
    obtain ⟨x, rfl, hx⟩ := h p (List.mem_cons_self ..)
    rw [uS8] at hn
    rw [uY9, uS8]
    have := (hx (by omega)).2
    have := ih h.tail (by omega)
    omega
theorem xD9 {vs : List data_variant} (h : AllV PW vs) (hn : ndsV vs ≤ 200) : rooms vs ≤ 16 * ndsV vs := by
  induction vs with
  | nil => rw [vf6]; omega
  | cons v r ih =>
    obtain ⟨n, fs, ps, rfl, _, _, hp⟩ := h v (List.mem_cons_self ..)
    rw [u84, uS9] at hn
    rw [uZ1, u84, uS9, uZ0]
    have := vy0 hp (by omega)
    have := ih h.tail (by omega)
    omega
theorem x51 (n : ByteArray) (fs : List ua6) {ps : List (Option ua5)} (h : AllP PW ps) (hl : ps.length ≤ 8) (hn : ndsP ps ≤ 200) : uj6 (.start n fs (some ps)) = some (((roomP ps : Int), ()), ()) := by
  rw [uj6]
  simp only [Option.getD_some]
  have loop : ∀ {i}, i ≤ ps.length → ∀ s : Nat, s + roomP (ps.drop i) ≤ 100000 → uj6 (.p116 (s : Int) (some ps) (List.length ps : Int) (i : Int)) = some ((((s + roomP (ps.drop i) : Nat) : Int), ()), ()) := by
    refine ub3 ps (P := fun i => ∀ s : Nat, s + roomP (ps.drop i) ≤ 100000 → uj6 (.p116 (s : Int) (some ps) (List.length ps : Int) (i : Int)) = some ((((s + roomP (ps.drop i) : Nat) : Int), ()), ())) ?_ ?_
    · intro s hs
      rw [uj6, List.drop_length, vf5]
      simp only [lt_f, Bool.false_eq_true, if_false]
      rfl
    · intro i hi ih s hs
      obtain ⟨x, hx, hq⟩ := h ps[i] (List.getElem_mem hi)
      have hm : nds x ≤ ndsP ps := vU5 (hx ▸ List.getElem_mem hi)
      rw [uj6]
      simp only [lt_t hi, if_true, Option.getD_some, ub5 hi, ua3, hx, (hq (by omega)).1]
      rw [ub6 hi, hx, uY9] at hs ⊢
      rw [ub1 hi (by omega), ← Int.natCast_add, wrap_i64 (by omega) (by omega), ih (s + wid x) (by omega), Nat.add_assoc]
  have hr := vy0 h hn
  have := loop (Nat.zero_le _) 0 (by rw [List.drop_zero]; omega)
  rw [List.drop_zero, Nat.zero_add] at this
  exact this
theorem x97 (b : Int) {vs : List data_variant} (h : AllV PW vs) (hl : vs.length ≤ 16) (hn : ndsV vs ≤ 200) : run_z42 (.start (some ⟨b, some vs⟩)) = some (((rooms vs : Int), ()), ()) := by
  rw [run_z42]
  simp only [ua3, Option.getD_some]
  have loop : ∀ {i}, i ≤ vs.length → ∀ s : Nat, run_z42 (.p116 (s : Int) (some vs) (List.length vs : Int) (i : Int)) = some ((((max s (rooms (vs.drop i)) : Nat) : Int), ()), ()) := by
    refine ub3 vs (P := fun i => ∀ s : Nat, run_z42 (.p116 (s : Int) (some vs) (List.length vs : Int) (i : Int)) = some ((((max s (rooms (vs.drop i)) : Nat) : Int), ()), ())) ?_ ?_
    · intro s
      rw [run_z42, List.drop_length, vf6]
      simp only [lt_f, Bool.false_eq_true, if_false, Nat.max_zero]
    · intro i hi ih s
      obtain ⟨n, fs, ps, hx, _, hpl, hq⟩ := h vs[i] (List.getElem_mem hi)
      have hm := wi7 (List.getElem_mem hi)
      rw [hx, uS9] at hm
      rw [run_z42]
      simp only [lt_t hi, if_true, Option.getD_some, ub5 hi, ua3, hx]
      rw [x51 n fs hq hpl (by omega)]
      simp only [ua3]
      rw [ub6 hi, hx, uZ1, uZ0, ub1 hi (by omega)]
      rw [show (if (roomP ps : Int) > (s : Int) then (roomP ps : Int) else (s : Int)) = ((max s (roomP ps) : Nat) : Int) by
        by_cases hh : (roomP ps : Int) > (s : Int)
        · rw [if_pos hh]; omega
        · rw [if_neg hh]; omega]
      rw [ih, Nat.max_assoc]
  have := loop (Nat.zero_le _) 0
  rw [List.drop_zero, Nat.zero_max] at this
  exact this
def SOkN : Nat → ua5 → Prop
 | 0, _ => False
 | n + 1, x => (∃ b : Int, 1 ≤ b ∧ b ≤ 16 ∧ x = ⟨b, none⟩) ∨ (∃ vs : List data_variant, 0 < vs.length ∧ vs.length ≤ 16 ∧ AllV (SOkN n) vs ∧ x = ⟨0, some vs⟩)
def SOk (x : ua5) : Prop := ∃ n, SOkN n x
theorem sokN {l : List ua2} (hv : uR2 l) : ∀ n t x, SR l n t x → SOkN n x
 | 0, t, x, h => h.elim
 | n + 1, t, x, h => by
   rcases h with ⟨_, _, p, _, h1, h2, rfl⟩ | ⟨hk, hb, ht, htr, vs, rfl, hr⟩
   · exact .inl ⟨_, h1, h2, rfl⟩
   · obtain ⟨⟨m0, m1⟩, m2⟩ := un3 hv ht htr hk
     have hlen := hr.len
     exact .inr ⟨vs, by omega, by omega, AllV.of (fun t x h => sokN hv n t x h) (fun c hc => (m2 c hc).1) hr, rfl⟩
theorem sok {l : List ua2} (hv : uR2 l) {n : Nat} {t : ua1} {x : ua5} (h : SR l n t x) : SOk x := ⟨n, sokN hv n t x h⟩
theorem xD3 (b : Int) : ur3 (.start (some ⟨b, none⟩)) = some ((true, ()), ()) := rfl
theorem xD4 (b : Int) (vs : List data_variant) (h : 0 < vs.length) : ur3 (.start (some ⟨b, some vs⟩)) = some ((false, ()), ()) := by
  cases vs with
  | nil => simp at h
  | cons => rfl
theorem xa3 {Q : ua5 → Prop} (hb : ∀ b : Int, 1 ≤ b → b ≤ 16 → Q ⟨b, none⟩) (hc : ∀ vs : List data_variant, 0 < vs.length → vs.length ≤ 16 → AllV (fun x => SOk x ∧ Q x) vs → Q ⟨0, some vs⟩) : ∀ x, SOk x → Q x := by
  have key : ∀ n x, SOkN n x → Q x := by
    intro n
    induction n with
    | zero => intro x h; exact h.elim
    | succ n ih =>
      intro x h
      rcases h with ⟨b, h1, h2, rfl⟩ | ⟨vs, h0, h1, h, rfl⟩
      · exact hb b h1 h2
      · exact hc vs h0 h1 (h.mono fun x hx => ⟨⟨n, hx⟩, ih x hx⟩)
  exact fun x ⟨n, h⟩ => key n x h
theorem pwid : ∀ x, SOk x → PW x := by
  refine xa3 (fun b h1 h2 => ?_) (fun vs h0 h1 h => ?_)
  · intro _
    rw [run_z41, xD3, xp1, w64]
    simp only [ua3, if_true]
    refine ⟨?_, by omega⟩
    rw [Int.toNat_of_nonneg (by omega)]
  · intro hn
    rw [vx2] at hn ⊢
    have h' : AllV PW vs := h.mono fun x hx => hx.2
    have hr := xD9 h' (by omega)
    have ht := xY1 vs.length
    rw [run_z41, xD4 _ _ h0, wc6]
    simp only [ua3, Bool.false_eq_true, if_false, ptag _ vs h0 h1, x97 0 h' h1 (by omega)]
    rw [← Int.natCast_add, wrap_i64 (by omega) (by omega)]
    exact ⟨rfl, by omega⟩
end Go.Proofs.YtaennkkcnhfglaaGreatDoor.Ev.F
namespace Go.Proofs.YtaennkkcnhfglaaGreatDoor.Ev.F
open Go.Proofs.YtaennkkcnhfglaaGreatDoor.Ev
theorem xa4 {x : ua5} (h : SOk x) (hn : nds x ≤ 200) : wid x ≤ 3200 := by
  have := (pwid x h hn).2
  omega
def RW (l : List ua2) (t : ua1) (x : ua5) : Prop := nds x ≤ 200 → SOk x ∧ run_z99 (.start l t.Kind t.Value t.Name t.Parts) = some (((wid x : Int), ()), ())
theorem xE0 {l : List ua2} (c : ua0) (hl : c.Fields.length ≤ 8) {ps : List (Option ua5)} (h : All2 (FR (RW l)) c.Fields ps) (hn : ndsP ps ≤ 200) : up8 (.start l c.Name c.Fields) = some (((roomP ps : Int), ()), ()) := by
  rw [up8]
  have hlen := h.len
  have hP : AllP (fun x => nds x ≤ 200 → SOk x) ps := AllP.of (fun t x hx hn => (hx hn).1) h
  have hW : AllP PW ps := fun p hp => by
    obtain ⟨x, e, hx⟩ := hP p hp
    have : nds x ≤ ndsP ps := vU5 (e ▸ hp)
    exact ⟨x, e, pwid x (hx (by omega))⟩
  have hr := vy0 hW hn
  have loop : ∀ {i}, i ≤ c.Fields.length → ∀ s : Nat, s + roomP (ps.drop i) ≤ 100000 → up8 (.p116 l (s : Int) (i : Int) c.Name c.Fields) = some ((((s + roomP (ps.drop i) : Nat) : Int), ()), ()) := by
    refine ub3 c.Fields (P := fun i => ∀ s : Nat, s + roomP (ps.drop i) ≤ 100000 → up8 (.p116 l (s : Int) (i : Int) c.Name c.Fields) = some ((((s + roomP (ps.drop i) : Nat) : Int), ()), ())) ?_ ?_
    · intro s hs
      rw [up8, hlen, List.drop_length, vf5]
      simp only [lt_f, Bool.false_eq_true, if_false]
      rfl
    · intro i hi ih s hs
      have hi2 : i < ps.length := by omega
      obtain ⟨x, hx, hq⟩ := h.get i hi hi2
      have hm : nds x ≤ ndsP ps := vU5 (hx ▸ List.getElem_mem hi2)
      rw [up8]
      simp only [lt_t hi, if_true, ub5 hi, ua3, (hq (by omega)).2]
      rw [ub6 hi2, hx, uY9] at hs ⊢
      rw [ub1 hi (by omega), ← Int.natCast_add, wrap_i64 (by omega) (by omega), ih (s + wid x) (by omega), Nat.add_assoc]
  have := loop (Nat.zero_le _) 0 (by rw [List.drop_zero]; omega)
  rw [List.drop_zero, Nat.zero_add] at this
  exact this
theorem xV9 {l : List ua2} (hv : uR2 l) {t : ua1} (hk : t.Kind = 1) (hb : t.Name ≠ sBit) (ht : Ty l t) (htr : tree t = true) : uf4 (.start l t.Kind t.Value t.Name t.Parts) = some ((uc9 l t, ()), ()) := by
  obtain ⟨hc1, hc2, hc3, hc4⟩ := ht.con hv.plain hk
  have hs := ur6 htr
  have := w70 (show l.length ≤ big by have := hv.len; unfold big; omega) hv.plain hv.light t.Kind t.Value t.Name t.Parts hc2 (fun a ha => by have := uV0 ha; omega) (hc3 hb)
  rw [us6] at this
  exact this
theorem ya5 {l : List ua2} (hv : uR2 l) {t : ua1} (hk : t.Kind = 1) (hb : t.Name ≠ sBit) (ht : Ty l t) (htr : tree t = true) {vs : List data_variant} (h : All2 (VR (RW l)) (uc9 l t) vs) (hn : ndsV vs ≤ 200) : run_z100 (.start l t.Kind t.Value t.Name t.Parts) = some (((rooms vs : Int), ()), ()) := by
  rw [run_z100, xV9 hv hk hb ht htr]
  simp only [ua3]
  obtain ⟨⟨m0, m1⟩, m2⟩ := un3 hv ht htr hk
  have hlen := h.len
  have loop : ∀ {i}, i ≤ (uc9 l t).length → ∀ s : Nat, run_z100 (.p116 l (uc9 l t) (s : Int) (i : Int)) = some ((((max s (rooms (vs.drop i)) : Nat) : Int), ()), ()) := by
    refine ub3 (uc9 l t) (P := fun i => ∀ s : Nat, run_z100 (.p116 l (uc9 l t) (s : Int) (i : Int)) = some ((((max s (rooms (vs.drop i)) : Nat) : Int), ()), ())) ?_ ?_
    · intro s
      rw [run_z100, hlen, List.drop_length, vf6]
      simp only [lt_f, Bool.false_eq_true, if_false, Nat.max_zero]
    · intro i hi ih s
      have hi2 : i < vs.length := by omega
      obtain ⟨ps, hx, hq⟩ := h.get i hi hi2
      have hm := wi7 (List.getElem_mem hi2)
      rw [hx, uS9] at hm
      rw [run_z100]
      simp only [lt_t hi, if_true, ub5 hi, ua3, xE0 _ (m2 _ (List.getElem_mem hi)).1 hq (by omega)]
      rw [ub6 hi2, hx, uZ1, uZ0, ub1 hi (by omega)]
      rw [show (if (roomP ps : Int) > (s : Int) then (roomP ps : Int) else (s : Int)) = ((max s (roomP ps) : Nat) : Int) by
        by_cases hh : (roomP ps : Int) > (s : Int)
        · rw [if_pos hh]; omega
        · rw [if_neg hh]; omega]
      rw [ih, Nat.max_assoc]
  have := loop (Nat.zero_le _) 0
  rw [List.drop_zero, Nat.zero_max] at this
  exact this
theorem All2.mono {α β : Type} {R R' : α → β → Prop} (hr : ∀ a b, R a b → R' a b) {l : List α} {m : List β} (h : All2 R l m) : All2 R' l m := by
  induction h with
  | nil => exact .nil
  | cons h t ih => exact .cons (hr _ _ h) ih
theorem VR.mono {R R' : ua1 → ua5 → Prop} (hr : ∀ t x, R t x → R' t x) {c : ua0} {v : data_variant} (h : VR R c v) : VR R' c v := by
  obtain ⟨ps, e, h⟩ := h
  exact ⟨ps, e, h.mono fun f p ⟨x, e, hx⟩ => ⟨x, e, hr _ _ hx⟩⟩
theorem rwid {l : List ua2} (hv : uR2 l) : ∀ n t x, SR l n t x → RW l t x
 | 0, t, x, h => h.elim
 | n + 1, t, x, h => fun hn => by
   have hsok := sok hv h
   refine ⟨hsok, ?_⟩
   rw [run_z99, vf4]
   rcases h with ⟨hk, hb, p, hp, h1, h2, rfl⟩ | ⟨hk, hb, ht, htr, vs, rfl, hr⟩
   · rw [decide_eq_true (show t.Kind = 1 ∧ t.Name = sBit from ⟨hk, hb⟩), hp, xp1]
     simp only [ua3, if_true, show idx [p] (0 : Int) = some p from rfl]
     rw [Int.toNat_of_nonneg (by omega)]
   · rw [decide_eq_false (fun h => hb h.2)]
     rw [vx2] at hn
     obtain ⟨⟨m0, m1⟩, m2⟩ := un3 hv ht htr hk
     have hr' : All2 (VR (RW l)) (uc9 l t) vs := hr.mono fun c v h => h.mono fun t x h => rwid hv n t x h
     have hlen := hr.len
     simp only [ua3, Bool.false_eq_true, if_false, xV9 hv hk hb ht htr, rtag _ m1, ya5 hv hk hb ht htr hr' (by omega)]
     rw [wc6, hlen]
     have := xa4 hsok (by rw [vx2]; omega)
     rw [wc6] at this
     rw [← Int.natCast_add, wrap_i64 (by omega) (by omega)]
def wu8 (l : List ua2) (t : ua1) : Int := if ur7 l [] t = 0 then (if (exT l 40 t 0).1 = 0 then (if 1 ≤ wid (exT l 40 t 0).2.2 ∧ wid (exT l 40 t 0).2.2 ≤ 16 then 0 else 25) else (exT l 40 t 0).1) else ur7 l [] t
def u22 (l : List ua2) (t : ua1) : Int := if (uW5 l).2 = 0 then wu8 l t else (uW5 l).2
structure xZ7 (l : List ua2) (t : ua1) (x : ua5) : Prop where
  valid : uR2 l
  ty : Ty l t
  tree : tree t = true
  sr : SR l 40 t x
  nds : nds x ≤ 200
  w1 : 1 ≤ wid x
  w16 : wid x ≤ 16
theorem ux9.light {d : ua2} (h : ux9 d) : ut1 d := ⟨h.plen, h.clen, fun c hc => ⟨(h.cs c hc).len, fun f hf => ((h.cs c hc).fs f hf).tree⟩⟩
theorem vG7 {l : List ua2} (hd : ∀ d ∈ l, ut1 d) {t : ua1} (h : u22 l t = 0) : xZ7 l t (exT l 40 t 0).2.2 := by
  unfold u22 at h
  by_cases h0 : (uW5 l).2 = 0
  · rw [if_pos h0] at h
    have hv := vA9 hd h0
    unfold wu8 at h
    by_cases h1 : ur7 l [] t = 0
    · rw [if_pos h1] at h
      obtain ⟨htr, hn⟩ := uL3 h1
      have hs := ur6 htr
      have hty : Ty l t := ⟨by omega, hn⟩
      by_cases h2 : (exT l 40 t 0).1 = 0
      · rw [if_pos h2] at h
        obtain ⟨a1, a2, a3⟩ := wi1 hv 40 t 0 hty (by omega) h2
        by_cases h3 : 1 ≤ wid (exT l 40 t 0).2.2 ∧ wid (exT l 40 t 0).2.2 ≤ 16
        · exact ⟨hv, hty, htr, a1, by omega, h3.1, h3.2⟩
        · rw [if_neg h3] at h; cases h
      · rw [if_neg h2] at h; exact absurd h h2
    · rw [if_neg h1] at h; exact absurd h h1
  · rw [if_neg h0] at h; exact absurd h h0
theorem x96 {l : List ua2} (hl : l.length ≤ 24) (hd : ∀ d ∈ l, ux9 d) {t : ua1} (ht : lenOk t) : ∃ o, ur4 (.start l t.Kind t.Value t.Name t.Parts) = some ((o, ((l, ((), ())), (u22 l t, ()))), ()) ∧ (u22 l t = 0 → o = some (exT l 40 t 0).2.2) := by
  rw [ur4, xH2 l hl hd]
  simp only [ua3]
  unfold u22
  by_cases h0 : (uW5 l).2 = 0
  · have hv := vA9 (fun d h => (hd d h).light) h0
    rw [if_neg (by simpa using h0), if_pos h0, xH7 (by unfold big; omega) (by simp) t ht]
    simp only [ua3]
    unfold wu8
    by_cases h1 : ur7 l [] t = 0
    · rw [h1, if_neg (by decide), if_pos rfl]
      obtain ⟨htr, hn⟩ := uL3 h1
      have hs := ur6 htr
      have hty : Ty l t := ⟨by omega, hn⟩
      obtain ⟨_, o, c'', e1, e2⟩ := x46 hv 40 (by omega) t 0 hty (by omega)
      rw [show ((41 - 40 : Nat) : Int) = 1 from rfl, show ((0 : Nat) : Int) = 0 from rfl] at e1
      rw [e1]
      simp only [ua3]
      by_cases h2 : (exT l 40 t 0).1 = 0
      · obtain ⟨a1, a2, a3⟩ := wi1 hv 40 t 0 hty (by omega) h2
        rw [h2, if_pos (by decide), if_pos rfl, (e2 h2).1, (pwid _ (sok hv a1) (by omega)).1]
        simp only [ua3, vx7]
        by_cases h3 : 1 ≤ wid (exT l 40 t 0).2.2 ∧ wid (exT l 40 t 0).2.2 ≤ 16
        · rw [decide_eq_true (by omega), if_neg (by simp), if_pos h3]
          exact ⟨_, rfl, fun _ => rfl⟩
        · rw [decide_eq_false (by omega), if_pos (by simp), if_neg h3]
          exact ⟨_, rfl, fun h => (by cases h)⟩
      · rw [if_neg (by simpa using h2), if_neg h2]
        exact ⟨_, rfl, fun h => absurd h h2⟩
    · rw [if_pos (by simpa using h1), if_neg h1]
      exact ⟨_, rfl, fun h => absurd h h1⟩
  · rw [if_pos (by simpa using h0), if_neg h0]
    exact ⟨_, rfl, fun h => absurd h h0⟩
theorem x55 {l : List ua2} (hl : l.length ≤ 24) (hd : ∀ d ∈ l, ux9 d) {t : ua1} (ht : lenOk t) : uL0 (.start l t.Kind t.Value t.Name t.Parts) = some ((u22 l t, ()), ()) := by
  rw [uL0, vA0, xH8 l hl hd]
  simp only [ua3]
  unfold u22
  by_cases h0 : (uW5 l).2 = 0
  · have hv := vA9 (fun d h => (hd d h).light) h0
    rw [if_neg (by simpa using h0), if_pos h0, u40, xI2 (by unfold big; omega) (by simp) hv.plain t ht]
    simp only [ua3]
    unfold wu8
    by_cases h1 : ur7 l [] t = 0
    · rw [h1, if_neg (by decide), if_pos rfl]
      obtain ⟨htr, hn⟩ := uL3 h1
      have hs := ur6 htr
      have hty : Ty l t := ⟨by omega, hn⟩
      obtain ⟨c'', e1, e2⟩ := x58 hv 40 (by omega) t 0 hty (by omega)
      rw [show ((40 - 40 : Nat) : Int) = 0 from rfl] at e1
      rw [e1]
      simp only [ua3]
      by_cases h2 : (exT l 40 t 0).1 = 0
      · obtain ⟨a1, a2, a3⟩ := wi1 hv 40 t 0 hty (by omega) h2
        rw [h2, if_neg (by decide), if_pos rfl, (rwid hv 40 t _ a1 (by omega)).2]
        simp only [ua3, wk5]
        by_cases h3 : 1 ≤ wid (exT l 40 t 0).2.2 ∧ wid (exT l 40 t 0).2.2 ≤ 16
        · rw [decide_eq_true (by omega), if_neg (by simp), if_pos h3]
          simp only [ua3]
        · rw [decide_eq_false (by omega), if_pos (by simp), if_neg h3]
          simp only [ua3]
      · rw [if_pos (by simpa using h2), if_neg h2]
        simp only [ua3]
    · rw [if_pos (by simpa using h1), if_neg h1]
      simp only [ua3]
  · rw [if_pos (by simpa using h0), if_neg h0]
end Go.Proofs.YtaennkkcnhfglaaGreatDoor.Ev.F
namespace Go.Proofs.YtaennkkcnhfglaaGreatDoor.Ev.F
open Go.Proofs.YtaennkkcnhfglaaGreatDoor.Ev Go.Proofs
def DHyp (a0 : List ua2) : Prop := (a0.length ≤ maxLen ∧ ∀ x ∈ a0, (x.Name.size ≤ maxLen) ∧ (x.Params.length ≤ maxLen ∧ ∀ y ∈ x.Params, y.size ≤ maxLen) ∧ (x.Constructors.length ≤ maxLen ∧ ∀ y ∈ x.Constructors, (y.Name.size ≤ maxLen) ∧ (y.Fields.length ≤ maxLen ∧ ∀ x ∈ y.Fields, (x.Name.size ≤ maxLen) ∧ (ue3 x.Type_) ∧ True) ∧ True) ∧ True)
theorem xZ5 : maxLen = big := rfl
theorem w35 {l : List ua2} (h : DHyp l) (hl : ∀ d ∈ l, ut1 d) : ∀ d ∈ l, ux9 d := by
  intro d hd
  obtain ⟨h1, h2⟩ := h
  obtain ⟨n1, n2, n3, _⟩ := h2 d hd
  have hld := hl d hd
  refine ⟨n1, hld.plen, n2.2, hld.clen, fun c hc => ?_⟩
  obtain ⟨c1, c2, _⟩ := n3.2 c hc
  obtain ⟨m1, m2⟩ := hld.cs c hc
  exact ⟨c1, m1, fun f hf => ⟨(c2.2 f hf).1, m2 f hf⟩⟩
theorem xC7 {t : ua1} (h : ue3 t) : lenOk t := by
  revert h
  refine uk0 (P := fun t => ue3 t → lenOk t) (fun k v s ts ih h => ?_) t
  obtain ⟨_, h0, h1, h2, h3, h4⟩ := h
  exact .mk k v s ts h3 fun p hp => ih p hp (h4 p hp)
theorem xV8 (vs : List data_variant) (s : ByteArray) (hl : vs.length ≤ big) (o : Option (List data_variant)) (ho : o.getD [] = vs) : um9 (.start o s) = some ((ix (fun v => decide (v.name = s)) vs, ()), ((s, ()), ())) := by
  rw [um9, ho]
  have : ∀ {i}, i ≤ vs.length → um9 (.p52 o (List.length vs : Int) (i : Int) s) = some ((ixAt (fun v => decide (v.name = s)) i (vs.drop i), ()), ((s, ()), ())) := by
    refine ub3 vs (P := fun i => um9 (.p52 o (List.length vs : Int) (i : Int) s) = some ((ixAt (fun v => decide (v.name = s)) i (vs.drop i), ()), ((s, ()), ()))) ?_ ?_
    · rw [um9]; simp [ixAt]
    · intro i hi ih
      rw [um9]
      simp only [lt_t hi, if_true, ho, ub5 hi, ua3, uh9, u01]
      rw [ub1 hi hl, ih, ub6 hi]
      simp only [ixAt]
      by_cases h0 : vs[i].name = s <;> simp [h0]
  exact this (Nat.zero_le _)
theorem xV5 (x : ua5) (s : ByteArray) (hl : (x.constructors.getD []).length ≤ big) : uC8 (.start (some x) s) = some ((ix (fun v => decide (v.name = s)) (x.constructors.getD []), ()), ()) := by
  rw [uC8]
  simp only [ua3, xV8 _ s hl _ rfl]
end Go.Proofs.YtaennkkcnhfglaaGreatDoor.Ev.F
namespace Go.Proofs.YtaennkkcnhfglaaGreatDoor.Ev.F
open Go.Proofs.YtaennkkcnhfglaaGreatDoor.Ev Go.Proofs
theorem ya2 (l : List ua0) (s : ByteArray) (hl : l.length ≤ big) : uk5 (.start l s) = some ((ix (fun c => decide (c.Name = s)) l, ()), ()) := by
  rw [uk5]
  have : ∀ {i}, i ≤ l.length → uk5 (.p52 l s (i : Int)) = some ((ixAt (fun c => decide (c.Name = s)) i (l.drop i), ()), ()) := by
    refine ub3 l (P := fun i => uk5 (.p52 l s (i : Int)) = some ((ixAt (fun c => decide (c.Name = s)) i (l.drop i), ()), ())) ?_ ?_
    · rw [uk5]; simp [ixAt]
    · intro i hi ih
      rw [uk5]
      simp only [lt_t hi, if_true, ub5 hi, ua3, uh9]
      rw [ub1 hi hl, ih, ub6 hi]
      simp only [ixAt]
      by_cases h0 : l[i].Name = s <;> simp [h0]
  exact this (Nat.zero_le _)
end Go.Proofs.YtaennkkcnhfglaaGreatDoor.Ev.F
namespace Go.Proofs.YtaennkkcnhfglaaGreatDoor.Ev.F
open Go.Proofs.YtaennkkcnhfglaaGreatDoor.Ev Go.Proofs
theorem w56 {R : ua1 → ua5 → Prop} (s : ByteArray) {cs : List ua0} {vs : List data_variant} (h : All2 (VR R) cs vs) : ∀ i, ixAt (fun v => decide (v.name = s)) i vs = ixAt (fun c => decide (c.Name = s)) i cs := by
  induction h with
  | nil => intro i; rfl
  | cons h t ih =>
    intro i
    obtain ⟨ps, rfl, _⟩ := h
    unfold ixAt
    rw [ih]
theorem w97 : ∀ t, tsz t ≤ big → ug9 (.start t.Kind t.Value t.Name t.Parts t.Kind t.Value t.Name t.Parts) = some ((true, ()), ()) := by
  refine uk0 fun k v s ps ih hsz => ?_
  have hts : tsz ⟨k, v, s, ps⟩ = 1 + tszs ps := by rw [tsz]
  have hl := uL2 ps
  rw [ug9]
  have e1 : (k != k) = false := by simp
  have e2 : (v != v) = false := by simp
  have e4 : ((List.length ps : Int) != (List.length ps : Int)) = false := by simp
  simp only [e1, e2, e4, uh9, decide_true, Bool.not_true, Bool.false_eq_true, if_false]
  rw [ug9]
  have loop : ∀ {i}, i ≤ ps.length → ug9 (.p116 (i : Int) k v s ps k v s ps) = some ((true, ()), ()) := by
    refine ub3 ps (P := fun i => ug9 (.p116 (i : Int) k v s ps k v s ps) = some ((true, ()), ())) ?_ ?_
    · rw [ug9]
      simp only [lt_f, Bool.false_eq_true, if_false]
    · intro i hi ihl
      rw [ug9]
      have hm := uQ7 (List.getElem_mem hi)
      simp only [lt_t hi, if_true, ub5 hi, ua3, ih _ (List.getElem_mem hi) (by omega), Bool.not_true, Bool.false_eq_true, if_false]
      rw [ub1 hi (by unfold big at *; omega)]
      exact ihl
  exact loop (Nat.zero_le _)
theorem vR1 (a0 : List ua2) (a1 : ua1) (a2 : ByteArray) (hd : DHyp a0) (ht : ue3 a1) : uh0 (.start a0 a1.Kind a1.Value a1.Name a1.Parts a2) = some ((true, ()), ()) := by
  rw [uh0, wV3]
  simp only [ua3, Bool.not_true, Bool.false_eq_true, if_false]
  obtain ⟨b, hb, hb2⟩ := x61 a0
  rw [hb]
  simp only [ua3]
  cases b with
  | false => rfl
  | true =>
    obtain ⟨hl, hld⟩ := hb2 rfl
    have hok := w35 hd hld
    have htl := xC7 ht
    simp only [Bool.not_true, Bool.false_eq_true, if_false, w71 a0 hl hld, ua3, xH2 a0 hl hok, xH8 a0 hl hok]
    obtain ⟨o, ho, ho2⟩ := x96 hl hok htl
    rw [vz9, ho]
    simp only [ua3]
    have hF : ∃ all g, vh1 (.start a0 a1.Kind a1.Value a1.Name a1.Parts a2) = some ((all, (g, ())), ()) ∧ (u22 a0 a1 ≠ 0 → all = [] ∧ g = u22 a0 a1) ∧ (u22 a0 a1 = 0 → (ix (fun v => decide (v.name = a2)) ((exT a0 40 a1 0).2.2.constructors.getD []) < 0 → all = [] ∧ g = 6) ∧ (∀ (j : Nat) v, ix (fun v => decide (v.name = a2)) ((exT a0 40 a1 0).2.2.constructors.getD []) = (j : Int) → ((exT a0 40 a1 0).2.2.constructors.getD [])[j]? = some v → all = v.fields ∧ g = 0)) := by
      rw [vh1, ho]
      simp only [ua3]
      by_cases h0 : u22 a0 a1 = 0
      · have hop := vG7 hld h0
        have hso := sok hop.valid hop.sr
        have hcl : ((exT a0 40 a1 0).2.2.constructors.getD []).length ≤ 16 := by
          obtain ⟨n, hn⟩ := hso
          cases n with
          | zero => exact hn.elim
          | succ n =>
            rcases hn with ⟨b, _, _, e⟩ | ⟨vs, _, h2, _, e⟩
            · rw [e]; simp
            · rw [e]; exact h2
        rw [if_neg (by simpa using h0), ho2 h0, xV5 _ a2 (by unfold big; omega)]
        simp only [ua3]
        rcases uX8 (fun v : data_variant => decide (v.name = a2)) ((exT a0 40 a1 0).2.2.constructors.getD []) with ⟨e1, _⟩ | ⟨j, v, e1, e2, _, _⟩
        · rw [e1, if_pos (by decide)]
          refine ⟨[], 6, rfl, fun h => absurd h0 h, fun _ => ⟨fun _ => ⟨rfl, rfl⟩, fun j v h => ?_⟩⟩
          omega
        · rw [e1, if_neg (by simp), uM9, e2]
          simp only [ua3]
          refine ⟨v.fields, 0, rfl, fun h => absurd h0 h, fun _ => ⟨fun h => by omega, fun j' v' hj hv' => ?_⟩⟩
          have : j' = j := by omega
          subst this
          rw [e2] at hv'
          obtain rfl := Option.some.inj hv'
          exact ⟨rfl, rfl⟩
      · rw [if_pos (by simpa using h0)]
        exact ⟨_, _, rfl, fun _ => ⟨rfl, rfl⟩, fun h => absurd h h0⟩
    obtain ⟨all, g, hFr, hF1, hF2⟩ := hF
    rw [hFr]
    simp only [ua3, bne_self_eq_false, Bool.false_eq_true, if_false, x55 hl hok htl]
    rw [uh0, x55 hl hok htl]
    simp only [ua3]
    by_cases h0 : u22 a0 a1 = 0
    · have hop := vG7 hld h0
      obtain ⟨hF2, hF3⟩ := hF2 h0
      rw [if_neg (by simpa using h0), vf4]
      simp only [ua3]
      rcases hop.sr with ⟨hk, hb, p, hp, h1, h2, e⟩ | ⟨hk, hb, hty, htr, vs, e, hr⟩
      · rw [decide_eq_true (show a1.Kind = 1 ∧ a1.Name = sBit from ⟨hk, hb⟩), if_pos rfl]
        obtain ⟨q1, q2⟩ := hF2 (by rw [e]; show (-1 : Int) < 0; decide)
        rw [q1, q2]
        rfl
      · rw [decide_eq_false (fun h => hb h.2), if_neg (by simp), xV9 hop.valid hk hb hty htr]
        obtain ⟨⟨m0, m1⟩, m2⟩ := un3 hop.valid hty htr hk
        simp only [ua3, ya2 _ a2 (show (uc9 a0 a1).length ≤ big by unfold big; omega)]
        have hix : ix (fun v : data_variant => decide (v.name = a2)) ((exT a0 40 a1 0).2.2.constructors.getD []) = ix (fun c => decide (c.Name = a2)) (uc9 a0 a1) := by
          rw [e]; exact w56 a2 hr 0
        rw [hix] at hF2 hF3
        rcases uX8 (fun c : ua0 => decide (c.Name = a2)) (uc9 a0 a1) with ⟨e1, _⟩ | ⟨j, c, e1, e2, _, _⟩
        · obtain ⟨q1, q2⟩ := hF2 (by rw [e1]; decide)
          rw [e1, q1, q2]
          rfl
        · have hj : j < (uc9 a0 a1).length := (List.getElem?_eq_some_iff.1 e2).1
          have hj2 : j < vs.length := by rw [← hr.len]; exact hj
          obtain ⟨ps, ev, hps⟩ := hr.get j hj hj2
          have hv2 : ((exT a0 40 a1 0).2.2.constructors.getD [])[j]? = some vs[j] := by rw [e]; exact List.getElem?_eq_getElem hj2
          obtain ⟨q1, q2⟩ := hF3 j vs[j] e1 hv2
          rw [ev] at q1
          simp only at q1
          have hc2 : (uc9 a0 a1)[j] = c := by rw [List.getElem?_eq_getElem hj] at e2; exact Option.some.inj e2
          rw [hc2] at q1
          obtain ⟨c1, c2⟩ := m2 c (hc2 ▸ List.getElem_mem hj)
          have hcl : c.Fields.length ≤ big := by unfold big; omega
          rw [e1, q2, if_neg (by simp), if_neg (by decide), uM9, e2, q1]
          simp only [ua3, bne_self_eq_false, Bool.false_eq_true, if_false]
          rw [uh0]
          have loop : ∀ {i}, i ≤ c.Fields.length → uh0 (.p524276 c.Fields (uc9 a0 a1) (j : Int) (i : Int)) = some ((true, ()), ()) := by
            refine ub3 c.Fields (P := fun i => uh0 (.p524276 c.Fields (uc9 a0 a1) (j : Int) (i : Int)) = some ((true, ()), ())) ?_ ?_
            · rw [uh0]
              simp only [lt_f, Bool.false_eq_true, if_false]
            · intro i hi ih
              rw [uh0]
              have hty2 := c2 _ (List.getElem_mem hi)
              simp only [lt_t hi, if_true, ub5 hi, ua3, uM9 (uc9 a0 a1) j, e2, uh9, decide_true, Bool.not_true, Bool.false_eq_true, if_false, w97 _ (show tsz c.Fields[i].Type_ ≤ big by have := hty2.sz; unfold big; omega)]
              rw [ub1 hi hcl]
              exact ih
          exact loop (Nat.zero_le _)
    · obtain ⟨q1, q2⟩ := hF1 h0
      rw [if_pos (by simpa using h0), q1, q2, if_pos (by simp)]
      rfl
end Go.Proofs.YtaennkkcnhfglaaGreatDoor.Ev.F
