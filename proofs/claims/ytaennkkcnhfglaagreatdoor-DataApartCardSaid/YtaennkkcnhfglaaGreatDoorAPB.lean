/- A part of the proof. -/
import Derived.Test.YtaennkkcnhfglaaGreatDoorAPA
import Derived.Test.YtaennkkcnhfglaaGreatDoorAPA
set_option linter.unusedVariables false
set_option linter.unusedSimpArgs false
set_option linter.unnecessarySimpa false
namespace Go.Proofs.YtaennkkcnhfglaaGreatDoor.Ev.F
open Go.Proofs.YtaennkkcnhfglaaGreatDoor.Ev
abbrev Ex : Type := Int × Nat × ua4
def ue1 (f : ua0 → Nat → Ex) : List ua6 → Nat → Int × Nat × List (Option ua4)
 | [], c => (0, c, [])
 | x :: r, c => if (f x.Type_ c).1 = 0 then ((ue1 f r (f x.Type_ c).2.1).1, (ue1 f r (f x.Type_ c).2.1).2.1, some (f x.Type_ c).2.2 :: (ue1 f r (f x.Type_ c).2.1).2.2) else ((f x.Type_ c).1, 0, [])
def ug0 (f : ua0 → Nat → Ex) : List ua1 → Nat → Int × Nat × List data_variant
 | [], c => (0, c, [])
 | x :: r, c => if (ue1 f x.Fields c).1 = 0 then ((ug0 f r (ue1 f x.Fields c).2.1).1, (ug0 f r (ue1 f x.Fields c).2.1).2.1, ⟨x.Name, x.Fields, some (ue1 f x.Fields c).2.2⟩ :: (ug0 f r (ue1 f x.Fields c).2.1).2.2) else ((ue1 f x.Fields c).1, 0, [])
def junk : ua4 := ⟨0, none⟩
def exS (l : List ua2) (deep : Bool) (f : ua0 → Nat → Ex) (t : ua0) (c : Nat) : Ex :=
  if tree t = true then
    if t.Kind = 2 then (26, 0, junk)
    else if t.Name = sBit then
      match t.Parts with
      | p :: _ => (um7 [if p.Kind = 2 then 0 else 26, if 1 ≤ p.Value ∧ p.Value ≤ 16 then 0 else 25, if c + 1 ≤ 200 ∧ deep = true then 0 else 8], c + 1, ⟨p.Value, none⟩)
      | [] => (0, 0, junk)
    else if c + 1 ≤ 200 ∧ deep = true then ((ug0 f (ue0 l t) (c + 1)).1, (ug0 f (ue0 l t) (c + 1)).2.1, ⟨0, some (ug0 f (ue0 l t) (c + 1)).2.2⟩)
    else (8, 0, junk)
  else (8, 0, junk)
def exT (l : List ua2) : Nat → ua0 → Nat → Ex
 | 0 => exS l false fun _ _ => (8, 0, junk)
 | n + 1 => exS l true (exT l n)
structure Ty (l : List ua2) (t : ua0) : Prop where
  sz : tsz t ≤ 1000000
  ok : ur4 l [] t = 0
theorem Ty.kind {l : List ua2} {t : ua0} (h : Ty l t) : t.Kind = 1 ∨ t.Kind = 2 := by
  obtain ⟨k, v, s, ts⟩ := t
  have := (uK8.1 h.ok).1
  unfold uE6 at this
  by_cases h0 : k = 0
  · rw [if_pos h0] at this; cases this
  · by_cases h1 : k = 1
    · exact .inl h1
    · by_cases h2 : k = 2
      · exact .inr h2
      · rw [if_neg h0, if_neg h1, if_neg h2] at this; cases this
theorem Ty.con {l : List ua2} (hp : ug5 l) {t : ua0} (h : Ty l t) (hk : t.Kind = 1) : (t.Name = sBit → ∃ p, t.Parts = [p]) ∧ (∀ d, dat l t.Name = some d → d.Params.length = t.Parts.length) ∧ (t.Name ≠ sBit → t.Name ≠ uM4 → dat l t.Name ≠ none) ∧ ∀ p ∈ t.Parts, ur4 l [] p = 0 := by
  obtain ⟨k, v, s, ts⟩ := t
  obtain ⟨h1, h2, _, h4⟩ := uK8.1 h.ok
  simp only at hk ⊢
  subst hk
  unfold uE6 at h1 h2
  rw [if_neg (by decide), if_pos rfl] at h1 h2
  refine ⟨fun e => ?_, fun d hd => ?_, fun e1 e2 hn => ?_, h4⟩
  · rw [uK4 hp (.inl e)] at h2
    simp only at h2
    rw [if_pos e] at h2
    match ts, h2 with
    | [p], _ => exact ⟨p, rfl⟩
    | [], h => simp at h
    | _ :: _ :: _, h => simp at h; omega
  · rw [hd] at h2
    simp only at h2
    omega
  · rw [hn] at h1
    simp only at h1
    rw [if_neg e1, if_neg e2] at h1
    cases h1
theorem uV4 {t p : ua0} (h : p ∈ t.Parts) : tsz p ≤ tsz t := by
  obtain ⟨k, v, s, ts⟩ := t
  have hts : tsz ⟨k, v, s, ts⟩ = 1 + tszs ts := by rw [tsz]
  have := u11 h
  simp only at this
  omega
theorem um0 {l : List ua2} (hv : uM3 l) {t : ua0} (h : Ty l t) (ht : tree t = true) (hk : t.Kind = 1) : (0 < (ue0 l t).length ∧ (ue0 l t).length ≤ 16) ∧ ∀ c ∈ ue0 l t, c.Fields.length ≤ 8 ∧ ∀ f ∈ c.Fields, Ty l f.Type_ := by
  have hc := h.con hv.plain hk
  unfold ue0
  cases hd : dat l t.Name with
  | none => exact ⟨by simp, fun c hc => by simp at hc; rcases hc with rfl | rfl <;> exact ⟨by simp, fun f hf => by cases hf⟩⟩
  | some d =>
    obtain ⟨hm, _⟩ := vU4 hd
    obtain ⟨h1, h2, _⟩ := hv.cons d hm
    refine ⟨by simp only [List.length_map]; exact ⟨h1, h2⟩, fun c hcm => ?_⟩
    obtain ⟨c0, hc0, rfl⟩ := List.mem_map.1 hcm
    obtain ⟨l0, hb, hf0⟩ := hv.fields d hm
    obtain ⟨m1, m2⟩ := hf0 c0 hc0
    refine ⟨by simp only [List.length_map]; exact m1, fun f hf => ?_⟩
    obtain ⟨f0, hf0, rfl⟩ := List.mem_map.1 hf
    obtain ⟨e1, e2⟩ := m2 f0 hf0
    have s1 := ur8 e1
    have s2 := ur8 ht
    have hsz := x56 (ps := d.Params) (args := t.Parts) (M := 200) (by decide) (fun a ha => by have := uV4 ha; omega) f0.Type_
    refine ⟨?_, w95 hb hv.plain (hc.2.1 d hd) hc.2.2.2 _ e2⟩
    have : tsz f0.Type_ * 200 ≤ 200 * 200 := Nat.mul_le_mul_right _ s1.1
    show tsz (rep d.Params t.Parts f0.Type_) ≤ 1000000
    omega
def wV1 (l : List ua2) (deep : Int) (f : ua0 → Nat → Ex) : Prop := ∀ t c, Ty l t → c ≤ 200 → ((f t c).1 = 0 → (f t c).2.1 ≤ 200) ∧ ∃ o c'', uc8 (.start l [] t.Kind t.Value t.Name t.Parts deep (c : Int)) = some ((o, ((f t c).1, ())), ((c'', ()), ())) ∧ ((f t c).1 = 0 → o = some (f t c).2.2 ∧ c'' = ((f t c).2.1 : Int))
theorem x46 {l : List ua2} {deep : Nat} (hdeep : deep ≤ 100) {f : ua0 → Nat → Ex} (hf : wV1 l ((deep + 1 : Nat) : Int) f) (B : List data_variant) (i n : Nat) (hi : i < B.length) (fs : List ua6) (hl : fs.length ≤ 12) (hok : ∀ x ∈ fs, Ty l x.Type_) :
    ∀ {k}, k ≤ fs.length → ∀ (c : Nat) (acc : List (Option ua4)), c ≤ 200 → acc.length = k → ((ue1 f (fs.drop k) c).1 = 0 → (ue1 f (fs.drop k) c).2.1 ≤ 200) ∧
      ((ue1 f (fs.drop k) c).1 ≠ 0 → ∃ c'', uc8 (.p4188572 (deep : Int) (i : Int) (n : Int) (i : Int) fs (List.length fs : Int) (k : Int) (c : Int) l [] 0 (B, i) acc) = some ((none, ((ue1 f (fs.drop k) c).1, ())), ((c'', ()), ()))) ∧
      ((ue1 f (fs.drop k) c).1 = 0 → uc8 (.p4188572 (deep : Int) (i : Int) (n : Int) (i : Int) fs (List.length fs : Int) (k : Int) (c : Int) l [] 0 (B, i) acc) = uc8 (.p8180 (deep : Int) (n : Int) (IntKind.wrap .i64 ((i : Int) + 1)) ((ue1 f (fs.drop k) c).2.1 : Int) l [] 0 (B.modify i fun y => ⟨y.name, y.fields, some (acc ++ (ue1 f (fs.drop k) c).2.2)⟩))) := by
  refine ub4 fs (P := fun k => ∀ (c : Nat) (acc : List (Option ua4)), c ≤ 200 → acc.length = k → ((ue1 f (fs.drop k) c).1 = 0 → (ue1 f (fs.drop k) c).2.1 ≤ 200) ∧
      ((ue1 f (fs.drop k) c).1 ≠ 0 → ∃ c'', uc8 (.p4188572 (deep : Int) (i : Int) (n : Int) (i : Int) fs (List.length fs : Int) (k : Int) (c : Int) l [] 0 (B, i) acc) = some ((none, ((ue1 f (fs.drop k) c).1, ())), ((c'', ()), ()))) ∧
      ((ue1 f (fs.drop k) c).1 = 0 → uc8 (.p4188572 (deep : Int) (i : Int) (n : Int) (i : Int) fs (List.length fs : Int) (k : Int) (c : Int) l [] 0 (B, i) acc) = uc8 (.p8180 (deep : Int) (n : Int) (IntKind.wrap .i64 ((i : Int) + 1)) ((ue1 f (fs.drop k) c).2.1 : Int) l [] 0 (B.modify i fun y => ⟨y.name, y.fields, some (acc ++ (ue1 f (fs.drop k) c).2.2)⟩)))) ?_ ?_
  · intro c acc hc _
    rw [List.drop_length]
    refine ⟨fun _ => hc, fun h => absurd rfl h, fun _ => ?_⟩
    conv => lhs; rw [uc8]
    simp only [lt_f, Bool.false_eq_true, if_false, ue1, List.append_nil]
  · intro k hk ih c acc hc hacc
    rw [ub5 hk]
    obtain ⟨g0, o, c'', e1, e2⟩ := hf fs[k].Type_ c (hok _ (List.getElem_mem hk)) hc
    have hw : IntKind.wrap .i64 ((deep : Int) + 1) = ((deep + 1 : Nat) : Int) := uq4 (by omega)
    have hstep : uc8 (.p4188572 (deep : Int) (i : Int) (n : Int) (i : Int) fs (List.length fs : Int) (k : Int) (c : Int) l [] 0 (B, i) acc) = if ((f fs[k].Type_ c).1 != (0 : Int)) = true then some ((none, ((f fs[k].Type_ c).1, ())), ((c'', ()), ())) else uc8 (.p4188572 (deep : Int) (i : Int) (n : Int) (i : Int) fs (List.length fs : Int) ((k + 1 : Nat) : Int) c'' l [] 0 (B, i) (acc ++ [o])) := by
      conv => lhs; rw [uc8]
      simp only [lt_t hk, if_true, ub7 hk, ua3, hw, e1, List.getElem?_eq_getElem hi]
      rw [if_pos (ug4 (by simp only [List.length_cons, List.length_nil]; omega)), ub1 hk (by omega)]
    by_cases h0 : (f fs[k].Type_ c).1 = 0
    · obtain ⟨e3, e4⟩ := e2 h0
      rw [if_neg (by rw [h0]; decide), e3, e4] at hstep
      obtain ⟨i1, i2, i3⟩ := ih (f fs[k].Type_ c).2.1 (acc ++ [some (f fs[k].Type_ c).2.2]) (g0 h0) (by rw [List.length_append, hacc]; rfl)
      rw [hstep]
      simp only [ue1, if_pos h0]
      refine ⟨i1, i2, fun h => ?_⟩
      rw [i3 h, List.append_assoc]
      rfl
    · rw [if_pos (by simpa using h0)] at hstep
      rw [hstep]
      simp only [ue1, if_neg h0]
      exact ⟨fun h => absurd h h0, fun _ => ⟨c'', rfl⟩, fun h => absurd h h0⟩
theorem uT1 {α : Type} (f : α → α) : ∀ (a : List α) (x : α) (b : List α), (a ++ x :: b).modify a.length f = a ++ f x :: b
 | [], x, b => by simp
 | y :: a, x, b => by simp [uT1 f a x b]
theorem xH2 {l : List ua2} {deep : Nat} (hdeep : deep ≤ 100) {f : ua0 → Nat → Ex} (hf : wV1 l ((deep + 1 : Nat) : Int) f) (n : Nat) : ∀ (cs : List ua1) (vs : List data_variant) (c : Nat), n = vs.length + cs.length → n ≤ 20 → (∀ x ∈ cs, x.Fields.length ≤ 8 ∧ ∀ y ∈ x.Fields, Ty l y.Type_) → c ≤ 200 → ((ug0 f cs c).1 = 0 → (ug0 f cs c).2.1 ≤ 200) ∧
    ∃ o c'', uc8 (.p8180 (deep : Int) (n : Int) (vs.length : Int) (c : Int) l [] 0 (vs ++ cs.map rawV)) = some ((o, ((ug0 f cs c).1, ())), ((c'', ()), ())) ∧ ((ug0 f cs c).1 = 0 → o = some ⟨0, some (vs ++ (ug0 f cs c).2.2)⟩ ∧ c'' = ((ug0 f cs c).2.1 : Int))
 | [], vs, c, hn, _, _, hc => by
   refine ⟨fun _ => hc, some ⟨0, some vs⟩, (c : Int), ?_, fun _ => ⟨by simp [ug0], rfl⟩⟩
   rw [uc8]
   obtain rfl : n = vs.length := by simpa using hn
   simp only [lt_f, Bool.false_eq_true, if_false, List.map_nil, List.append_nil, ug0]
 | x :: r, vs, c, hn, h20, hok, hc => by
   obtain ⟨x1, x2⟩ := hok x (List.mem_cons_self ..)
   have hlt : vs.length < n := by rw [hn, List.length_cons]; omega
   have hB : vs.length < (vs ++ (x :: r).map rawV).length := by simp
   have hget : (vs ++ (x :: r).map rawV)[vs.length]? = some (rawV x) := by simp
   have hget' : (vs ++ (x :: r).map rawV)[vs.length] = rawV x := Option.some.inj ((List.getElem?_eq_getElem hB).symm.trans hget)
   have hstep : uc8 (.p8180 (deep : Int) (n : Int) (vs.length : Int) (c : Int) l [] 0 (vs ++ (x :: r).map rawV)) = uc8 (.p4188572 (deep : Int) (vs.length : Int) (n : Int) (vs.length : Int) x.Fields (List.length x.Fields : Int) 0 (c : Int) l [] 0 (vs ++ (x :: r).map rawV, vs.length) []) := by
     conv => lhs; rw [uc8]
     rw [lt_t hlt, if_pos rfl, if_pos (by simp; omega), ub7 hB, hget']
     simp only [ua3]
     rw [if_pos (by rfl), Int.toNat_natCast, hget, if_pos rfl]
     rfl
   obtain ⟨i1, i2, i3⟩ := x46 hdeep hf (vs ++ (x :: r).map rawV) vs.length n hB x.Fields (by omega) x2 (Nat.zero_le _) c [] hc rfl
   rw [List.drop_zero] at i1 i2 i3
   rw [hstep]
   by_cases h0 : (ue1 f x.Fields c).1 = 0
   · have i3' := i3 h0
     rw [List.map_cons, uT1, uq4 (by omega), List.nil_append] at i3'
     rw [show ((0 : Nat) : Int) = 0 from rfl] at i3'
     rw [List.map_cons, i3']
     simp only [ug0, if_pos h0]
     have := xH2 hdeep hf n r (vs ++ [⟨x.Name, x.Fields, some (ue1 f x.Fields c).2.2⟩]) (ue1 f x.Fields c).2.1 (by rw [hn]; simp only [List.length_append, List.length_cons, List.length_nil]; omega) h20 (fun y hy => hok y (List.mem_cons_of_mem _ hy)) (i1 h0)
     rw [List.length_append, List.append_assoc] at this
     obtain ⟨j1, o, c'', j2, j3⟩ := this
     refine ⟨j1, o, c'', j2, fun h => ⟨?_, (j3 h).2⟩⟩
     rw [(j3 h).1, List.append_assoc]
     rfl
   · obtain ⟨c'', hc''⟩ := i2 h0
     rw [show ((0 : Nat) : Int) = 0 from rfl] at hc''
     simp only [ug0, if_neg h0]
     exact ⟨fun h => absurd h h0, none, c'', hc'', fun h => absurd h h0⟩
theorem x44 {l : List ua2} (hv : uM3 l) (deep : Nat) (hdeep : deep ≤ 100) {f : ua0 → Nat → Ex} (hf : deep ≤ 40 → wV1 l ((deep + 1 : Nat) : Int) f) : wV1 l (deep : Int) (exS l (decide (deep ≤ 40)) f) := by
  intro t c ht hc
  have hlb : l.length ≤ big := by have := hv.len; unfold big; omega
  have hlen : lenOk t := vs9 t (by have := ht.sz; unfold big; omega)
  have hstart : uc8 (.start l [] t.Kind t.Value t.Name t.Parts (deep : Int) (c : Int)) = if tree t = true then uc8 (.p31 (deep : Int) (if c + 1 ≤ 200 ∧ deep ≤ 40 then 0 else 8) ((c + 1 : Nat) : Int) l [] t.Kind t.Value t.Name t.Parts) else some ((none, ((8 : Int), ())), (((c : Int), ()), ())) := by
    conv => lhs; rw [uc8]
    simp only [xH4 t hlen, ua3, uq4 (show c ≤ 4611686018427387904 by omega), uZ6]
    cases tree t with
    | false => rfl
    | true =>
      rw [if_pos rfl, if_neg (by decide), if_pos rfl]
      by_cases h2 : c + 1 ≤ 200
      · rw [if_pos (by simp; omega)]
        by_cases h4 : deep ≤ 40
        · rw [if_pos (show c + 1 ≤ 200 ∧ deep ≤ 40 from ⟨h2, h4⟩), if_pos (by simp; omega)]
        · rw [if_neg (show ¬ (c + 1 ≤ 200 ∧ deep ≤ 40) from fun h => h4 h.2), if_neg (by simp; omega)]
      · rw [if_neg (show ¬ (c + 1 ≤ 200 ∧ deep ≤ 40) from fun h => h2 h.1), if_neg (by simp; omega), if_neg (by simp)]
  rw [hstart]
  have hdec : (c + 1 ≤ 200 ∧ decide (deep ≤ 40) = true) ↔ (c + 1 ≤ 200 ∧ deep ≤ 40) := by simp
  cases htr : tree t with
  | false =>
    have e : exS l (decide (deep ≤ 40)) f t c = (8, 0, junk) := by unfold exS; rw [htr]; rfl
    rw [e]
    exact ⟨fun h => (by cases h), none, (c : Int), rfl, fun h => (by cases h)⟩
  | true =>
    rw [if_pos rfl, uc8]
    by_cases hk2 : t.Kind = 2
    · have e : exS l (decide (deep ≤ 40)) f t c = (26, 0, junk) := by unfold exS; rw [htr, if_pos rfl, if_pos hk2]
      rw [e, if_pos (by simpa using hk2)]
      exact ⟨fun h => (by cases h), none, _, rfl, fun h => (by cases h)⟩
    · have hk1 : t.Kind = 1 := ht.kind.resolve_right hk2
      obtain ⟨hc1, hc2, hc3, hc4⟩ := ht.con hv.plain hk1
      rw [if_neg (by simpa using hk2)]
      simp only [ul6]
      by_cases hb : t.Name = sBit
      · obtain ⟨p, hp⟩ := hc1 hb
        have e : exS l (decide (deep ≤ 40)) f t c = (um7 [if p.Kind = 2 then 0 else 26, if 1 ≤ p.Value ∧ p.Value ≤ 16 then 0 else 25, if c + 1 ≤ 200 ∧ deep ≤ 40 then 0 else 8], c + 1, ⟨p.Value, none⟩) := by
          unfold exS
          rw [htr, if_pos rfl, if_neg hk2, if_pos hb, hp]
          simp only [hdec]
        have hbt : decide (t.Name = sBit) = true := by simpa using hb
        rw [e, if_pos hbt, hp]
        simp only [show idx [p] (0 : Int) = some p from rfl, ua3, uZ6, vz1]
        rw [vI6 _ (by simp [big])]
        simp only [ua3]
        have e1 : (if (p.Kind == (2 : Int)) = true then (0 : Int) else 26) = if p.Kind = 2 then 0 else 26 := by
          by_cases h : p.Kind = 2 <;> simp [h]
        have e2 : (if decide (1 ≤ p.Value ∧ p.Value ≤ 16) = true then (0 : Int) else 25) = if 1 ≤ p.Value ∧ p.Value ≤ 16 then 0 else 25 := by
          by_cases h : 1 ≤ p.Value ∧ p.Value ≤ 16
          · rw [decide_eq_true h, if_pos rfl, if_pos h]
          · rw [decide_eq_false h, if_neg (by simp), if_neg h]
        rw [e1, e2]
        refine ⟨fun h => ?_, _, _, rfl, fun _ => ⟨rfl, rfl⟩⟩
        have h3 := (uh0 (uh0 (uh0 h).2).2).1
        by_cases hh : c + 1 ≤ 200 ∧ deep ≤ 40
        · exact hh.1
        · rw [if_neg hh] at h3; cases h3
      · rw [if_neg (by simpa using hb)]
        by_cases hh : c + 1 ≤ 200 ∧ deep ≤ 40
        · have e : exS l (decide (deep ≤ 40)) f t c = ((ug0 f (ue0 l t) (c + 1)).1, (ug0 f (ue0 l t) (c + 1)).2.1, ⟨0, some (ug0 f (ue0 l t) (c + 1)).2.2⟩) := by
            unfold exS
            rw [htr, if_pos rfl, if_neg hk2, if_neg hb, if_pos (hdec.2 hh)]
          rw [e, if_pos hh, if_neg (by decide)]
          have hs := ur8 htr
          rw [xV1 hlb hv.light t.Kind t.Value t.Name t.Parts hc2 (fun a ha => by have := uV4 ha; omega), us9]
          simp only [ua3, List.length_map]
          obtain ⟨⟨_, m1⟩, m2⟩ := um0 hv ht htr hk1
          have := xH2 hdeep (hf hh.2) (ue0 l t).length (ue0 l t) [] (c + 1) (by simp) (by omega) m2 hh.1
          simp only [List.length_nil, List.nil_append] at this
          exact this
        · have e : exS l (decide (deep ≤ 40)) f t c = (8, 0, junk) := by
            unfold exS
            rw [htr, if_pos rfl, if_neg hk2, if_neg hb, if_neg (fun h => hh (hdec.1 h))]
          rw [e, if_neg hh, if_pos (by decide)]
          exact ⟨fun h => (by cases h), none, _, rfl, fun h => (by cases h)⟩
theorem x45 {l : List ua2} (hv : uM3 l) : ∀ n, n ≤ 40 → wV1 l ((41 - n : Nat) : Int) (exT l n)
 | 0, _ => by
   have := x44 hv 41 (by omega) (f := fun _ _ => (8, 0, junk)) (fun h => by omega)
   exact this
 | n + 1, h => by
   have := x44 hv (41 - (n + 1)) (by omega) (f := exT l n) (fun _ => by rw [show 41 - (n + 1) + 1 = 41 - n by omega]; exact x45 hv n (by omega))
   rw [decide_eq_true (by omega)] at this
   exact this
end Go.Proofs.YtaennkkcnhfglaaGreatDoor.Ev.F
namespace Go.Proofs.YtaennkkcnhfglaaGreatDoor.Ev.F
open Go.Proofs.YtaennkkcnhfglaaGreatDoor.Ev
def ExpR (l : List ua2) (depth : Nat) (f : ua0 → Nat → Ex) : Prop := ∀ (t : ua0) (c : Nat), Ty l t → c ≤ 200 → ∃ c'', uc3 (.start l t.Kind t.Value t.Name t.Parts (c : Int) 0 (depth : Int)) = some (((c'', ((f t c).1, ((depth : Int), ()))), ()), ()) ∧ ((f t c).1 = 0 → c'' = ((f t c).2.1 : Int) ∧ (f t c).2.1 ≤ 200)
theorem vg0 (t : ua0) : uD8 (.start t.Kind t.Value t.Name t.Parts) = some ((decide (t.Kind = 1 ∧ t.Name = sBit), ()), ()) := by
  rw [uD8]
  by_cases h : t.Kind = 1
  · rw [if_pos (by simpa using h), ul6]
    by_cases h2 : t.Name = sBit <;> simp [h, h2]
  · rw [if_neg (by simpa using h)]
    simp [h]
theorem vB4 (n : Int) : uR2 (.start n) = some ((decide (1 ≤ n ∧ n ≤ 16), ()), ()) := by
  rw [uR2, vh5]
  simp only [ua3]
theorem x60 {l : List ua2} {d : Nat} (hd : d ≤ 100) {f : ua0 → Nat → Ex} (hf : ExpR l (d + 1) f) (all : List ua1) (hal : all.length ≤ 20) (i : Nat) (hi : i < all.length) (b0 b1 b2 : Int) (hl : all[i].Fields.length ≤ 12) (hok : ∀ x ∈ all[i].Fields, Ty l x.Type_) :
    ∀ {k}, k ≤ all[i].Fields.length → ∀ (c : Nat), c ≤ 200 → ((ue1 f (all[i].Fields.drop k) c).1 = 0 → (ue1 f (all[i].Fields.drop k) c).2.1 ≤ 200) ∧
      ((ue1 f (all[i].Fields.drop k) c).1 ≠ 0 → ∃ c'', uc3 (.p523556 l all (i : Int) (k : Int) b0 b1 b2 (c : Int) 0 (d : Int)) = some (((c'', ((ue1 f (all[i].Fields.drop k) c).1, ((d : Int), ()))), ()), ())) ∧
      ((ue1 f (all[i].Fields.drop k) c).1 = 0 → uc3 (.p523556 l all (i : Int) (k : Int) b0 b1 b2 (c : Int) 0 (d : Int)) = uc3 (.p8180 l all ((i + 1 : Nat) : Int) b0 b1 b2 ((ue1 f (all[i].Fields.drop k) c).2.1 : Int) 0 (d : Int))) := by
  refine ub4 all[i].Fields (P := fun k => ∀ (c : Nat), c ≤ 200 → ((ue1 f (all[i].Fields.drop k) c).1 = 0 → (ue1 f (all[i].Fields.drop k) c).2.1 ≤ 200) ∧
      ((ue1 f (all[i].Fields.drop k) c).1 ≠ 0 → ∃ c'', uc3 (.p523556 l all (i : Int) (k : Int) b0 b1 b2 (c : Int) 0 (d : Int)) = some (((c'', ((ue1 f (all[i].Fields.drop k) c).1, ((d : Int), ()))), ()), ())) ∧
      ((ue1 f (all[i].Fields.drop k) c).1 = 0 → uc3 (.p523556 l all (i : Int) (k : Int) b0 b1 b2 (c : Int) 0 (d : Int)) = uc3 (.p8180 l all ((i + 1 : Nat) : Int) b0 b1 b2 ((ue1 f (all[i].Fields.drop k) c).2.1 : Int) 0 (d : Int)))) ?_ ?_
  · intro c hc
    rw [List.drop_length]
    refine ⟨fun _ => hc, fun h => absurd rfl h, fun _ => ?_⟩
    conv => lhs; rw [uc3]
    simp only [ub7 hi, ua3, lt_f, Bool.false_eq_true, if_false, ue1]
    rw [ub1 hi (by omega)]
  · intro k hk ih c hc
    rw [ub5 hk]
    obtain ⟨c'', e1, e2⟩ := hf all[i].Fields[k].Type_ c (hok _ (List.getElem_mem hk)) hc
    have hstep : uc3 (.p523556 l all (i : Int) (k : Int) b0 b1 b2 (c : Int) 0 (d : Int)) = if ((f all[i].Fields[k].Type_ c).1 != (0 : Int)) = true then some (((c'', ((f all[i].Fields[k].Type_ c).1, ((d : Int), ()))), ()), ()) else uc3 (.p523556 l all (i : Int) ((k + 1 : Nat) : Int) b0 b1 b2 c'' (f all[i].Fields[k].Type_ c).1 (d : Int)) := by
      conv => lhs; rw [uc3]
      simp only [ub7 hi, ua3, lt_t hk, if_true, ub7 hk]
      rw [uq4 (show d ≤ 4611686018427387904 by omega), e1]
      simp only [ua3]
      rw [ub1 hk (by omega)]
    by_cases h0 : (f all[i].Fields[k].Type_ c).1 = 0
    · obtain ⟨e3, e4⟩ := e2 h0
      rw [if_neg (by rw [h0]; decide), e3, h0] at hstep
      obtain ⟨i1, i2, i3⟩ := ih (f all[i].Fields[k].Type_ c).2.1 e4
      rw [hstep]
      simp only [ue1, if_pos h0]
      exact ⟨i1, i2, i3⟩
    · rw [if_pos (by simpa using h0)] at hstep
      rw [hstep]
      simp only [ue1, if_neg h0]
      exact ⟨fun h => absurd h h0, fun _ => ⟨c'', rfl⟩, fun h => absurd h h0⟩
theorem x59 {l : List ua2} {d : Nat} (hd : d ≤ 100) {f : ua0 → Nat → Ex} (hf : ExpR l (d + 1) f) (all : List ua1) (hal : all.length ≤ 20) (b0 b1 b2 : Int) (hok : ∀ x ∈ all, x.Fields.length ≤ 8 ∧ ∀ y ∈ x.Fields, Ty l y.Type_) :
    ∀ {i}, i ≤ all.length → ∀ c : Nat, c ≤ 200 → ∃ c'', uc3 (.p8180 l all (i : Int) b0 b1 b2 (c : Int) 0 (d : Int)) = some (((c'', ((ug0 f (all.drop i) c).1, ((d : Int), ()))), ()), ()) ∧ ((ug0 f (all.drop i) c).1 = 0 → c'' = ((ug0 f (all.drop i) c).2.1 : Int) ∧ (ug0 f (all.drop i) c).2.1 ≤ 200) := by
  refine ub4 all (P := fun i => ∀ c : Nat, c ≤ 200 → ∃ c'', uc3 (.p8180 l all (i : Int) b0 b1 b2 (c : Int) 0 (d : Int)) = some (((c'', ((ug0 f (all.drop i) c).1, ((d : Int), ()))), ()), ()) ∧ ((ug0 f (all.drop i) c).1 = 0 → c'' = ((ug0 f (all.drop i) c).2.1 : Int) ∧ (ug0 f (all.drop i) c).2.1 ≤ 200)) ?_ ?_
  · intro c hc
    rw [List.drop_length]
    refine ⟨(c : Int), ?_, fun _ => ⟨rfl, hc⟩⟩
    rw [uc3]
    simp only [lt_f, Bool.false_eq_true, if_false, ug0]
  · intro i hi ih c hc
    obtain ⟨m1, m2⟩ := hok _ (List.getElem_mem hi)
    obtain ⟨i1, i2, i3⟩ := x60 hd hf all hal i hi b0 b1 b2 (by omega) m2 (Nat.zero_le _) c hc
    rw [List.drop_zero] at i1 i2 i3
    have hstep : uc3 (.p8180 l all (i : Int) b0 b1 b2 (c : Int) 0 (d : Int)) = uc3 (.p523556 l all (i : Int) ((0 : Nat) : Int) b0 b1 b2 (c : Int) 0 (d : Int)) := by
      conv => lhs; rw [uc3]
      simp only [lt_t hi, if_true]
      rfl
    rw [ub5 hi, hstep]
    by_cases h0 : (ue1 f all[i].Fields c).1 = 0
    · rw [i3 h0]
      simp only [ug0, if_pos h0]
      exact ih _ (i1 h0)
    · obtain ⟨c'', e⟩ := i2 h0
      rw [e]
      simp only [ug0, if_neg h0]
      exact ⟨c'', rfl, fun h => absurd h h0⟩
theorem x57 {l : List ua2} (hv : uM3 l) (d : Nat) (hd : d ≤ 100) {f : ua0 → Nat → Ex} (hf : d < 40 → ExpR l (d + 1) f) : ExpR l d (exS l (decide (d < 40)) f) := by
  intro t c ht hc
  have hlb : l.length ≤ big := by have := hv.len; unfold big; omega
  have hdec : (c + 1 ≤ 200 ∧ decide (d < 40) = true) ↔ (c + 1 ≤ 200 ∧ d < 40) := by simp
  rw [uc3]
  simp only [xW6, ua3, uq4 (show c ≤ 4611686018427387904 by omega)]
  cases htr : tree t with
  | false =>
    have e : exS l (decide (d < 40)) f t c = (8, 0, junk) := by unfold exS; rw [htr]; rfl
    rw [e]
    exact ⟨_, rfl, fun h => (by cases h)⟩
  | true =>
    simp only [Bool.not_true, Bool.false_eq_true, if_false]
    by_cases hk2 : t.Kind = 2
    · have e : exS l (decide (d < 40)) f t c = (26, 0, junk) := by unfold exS; rw [htr, if_pos rfl, if_pos hk2]
      rw [e, if_pos (by simpa using hk2)]
      exact ⟨_, rfl, fun h => (by cases h)⟩
    · have hk1 : t.Kind = 1 := ht.kind.resolve_right hk2
      obtain ⟨hc1, hc2, hc3, hc4⟩ := ht.con hv.plain hk1
      rw [if_neg (by simpa using hk2), vg0]
      simp only [ua3]
      have h63 : ∀ b0 b1 b2 : Int, uc3 (.p63 l t.Kind t.Value t.Name t.Parts b0 b1 b2 ((c + 1 : Nat) : Int) 0 (d : Int)) = if c + 1 ≤ 200 ∧ d < 40 then uc3 (.p127 l t.Kind t.Value t.Name t.Parts b0 b1 b2 ((c + 1 : Nat) : Int) 0 (d : Int)) else some (((((c + 1 : Nat) : Int), ((8 : Int), ((d : Int), ()))), ()), ()) := by
        intro b0 b1 b2
        conv => lhs; rw [uc3]
        by_cases h2 : c + 1 ≤ 200
        · rw [decide_eq_false (by omega), if_neg (by simp)]
          by_cases h4 : d < 40
          · rw [decide_eq_false (by omega), if_neg (by simp), if_pos ⟨h2, h4⟩]
          · rw [decide_eq_true (by omega), if_pos rfl, if_neg (fun h => h4 h.2)]
        · rw [decide_eq_true (by omega), if_pos rfl, if_neg (fun h => h2 h.1)]
      by_cases hb : t.Name = sBit
      · obtain ⟨p, hp⟩ := hc1 hb
        have e : exS l (decide (d < 40)) f t c = (um7 [if p.Kind = 2 then 0 else 26, if 1 ≤ p.Value ∧ p.Value ≤ 16 then 0 else 25, if c + 1 ≤ 200 ∧ d < 40 then 0 else 8], c + 1, ⟨p.Value, none⟩) := by
          unfold exS
          rw [htr, if_pos rfl, if_neg hk2, if_pos hb, hp]
          simp only [hdec]
        have hbt : decide (t.Kind = 1 ∧ t.Name = sBit) = true := decide_eq_true ⟨hk1, hb⟩
        have h127 : ∀ b0 b1 b2 : Int, uc3 (.p127 l t.Kind t.Value t.Name t.Parts b0 b1 b2 ((c + 1 : Nat) : Int) 0 (d : Int)) = some (((((c + 1 : Nat) : Int), ((0 : Int), ((d : Int), ()))), ()), ()) := by
          intro b0 b1 b2
          rw [uc3, vg0]
          simp only [ua3, hbt, if_true]
        rw [hbt, if_pos rfl]
        rw [e]
        rw [show idx t.Parts (0 : Int) = some p by rw [hp]; rfl]
        simp only [ua3]
        by_cases q1 : p.Kind = 2
        · rw [if_neg (by simpa using q1), uc3, vg0]
          simp only [ua3, hbt, if_true]
          rw [show idx t.Parts (0 : Int) = some p by rw [hp]; rfl]
          simp only [ua3, vB4, if_pos q1]
          by_cases q2 : 1 ≤ p.Value ∧ p.Value ≤ 16
          · rw [decide_eq_true q2]
            simp only [Bool.not_true, Bool.false_eq_true, if_false, if_pos q2, h63, h127]
            by_cases q3 : c + 1 ≤ 200 ∧ d < 40
            · simp only [if_pos q3]
              exact ⟨_, rfl, fun _ => ⟨rfl, q3.1⟩⟩
            · simp only [if_neg q3]
              exact ⟨_, rfl, fun h => (by cases h)⟩
          · rw [decide_eq_false q2]
            simp only [Bool.not_false, if_true, if_neg q2]
            exact ⟨_, rfl, fun h => (by cases h)⟩
        · rw [if_pos (by simpa using q1)]
          simp only [if_neg q1]
          exact ⟨_, rfl, fun h => (by cases h)⟩
      · have hbf : decide (t.Kind = 1 ∧ t.Name = sBit) = false := decide_eq_false fun h => hb h.2
        have h31 : ∀ b0 b1 b2 : Int, uc3 (.p31 l t.Kind t.Value t.Name t.Parts b0 b1 b2 ((c + 1 : Nat) : Int) 0 (d : Int)) = uc3 (.p63 l t.Kind t.Value t.Name t.Parts b0 b1 b2 ((c + 1 : Nat) : Int) 0 (d : Int)) := by
          intro b0 b1 b2
          conv => lhs; rw [uc3]
          rw [vg0]
          simp only [ua3, hbf, Bool.false_eq_true, if_false]
        rw [hbf, if_neg (by simp), h31, h63]
        by_cases q3 : c + 1 ≤ 200 ∧ d < 40
        · have e : exS l (decide (d < 40)) f t c = ((ug0 f (ue0 l t) (c + 1)).1, (ug0 f (ue0 l t) (c + 1)).2.1, ⟨0, some (ug0 f (ue0 l t) (c + 1)).2.2⟩) := by
            unfold exS
            rw [htr, if_pos rfl, if_neg hk2, if_neg hb, if_pos (hdec.2 q3)]
          have hs := ur8 htr
          obtain ⟨⟨_, m1⟩, m2⟩ := um0 hv ht htr hk1
          rw [if_pos q3, e, uc3, vg0]
          simp only [ua3, hbf, Bool.false_eq_true, if_false]
          rw [w72 hlb hv.plain hv.light t.Kind t.Value t.Name t.Parts hc2 (fun a ha => by have := uV4 ha; omega) (hc3 hb), us9]
          simp only [ua3]
          have := x59 hd (hf q3.2) (ue0 l t) (by omega) 0 0 0 m2 (Nat.zero_le _) (c + 1) q3.1
          rw [List.drop_zero] at this
          exact this
        · have e : exS l (decide (d < 40)) f t c = (8, 0, junk) := by
            unfold exS
            rw [htr, if_pos rfl, if_neg hk2, if_neg hb, if_neg (fun h => q3 (hdec.1 h))]
          rw [e, if_neg q3]
          exact ⟨_, rfl, fun h => (by cases h)⟩
theorem x58 {l : List ua2} (hv : uM3 l) : ∀ n, n ≤ 40 → ExpR l (40 - n) (exT l n)
 | 0, _ => by
   have := x57 hv 40 (by omega) (f := fun _ _ => (8, 0, junk)) (fun h => by omega)
   exact this
 | n + 1, h => by
   have := x57 hv (40 - (n + 1)) (by omega) (f := exT l n) (fun _ => by rw [show 40 - (n + 1) + 1 = 40 - n by omega]; exact x58 hv n (by omega))
   rw [decide_eq_true (by omega)] at this
   exact this
end Go.Proofs.YtaennkkcnhfglaaGreatDoor.Ev.F
namespace Go.Proofs.YtaennkkcnhfglaaGreatDoor.Ev.F
open Go.Proofs.YtaennkkcnhfglaaGreatDoor.Ev
def tagN (n : Nat) : Nat := if n ≤ 1 then 0 else if n ≤ 2 then 1 else if n ≤ 4 then 2 else if n ≤ 8 then 3 else 4
mutual
def nds : ua4 → Nat
 | ⟨_, none⟩ => 1
 | ⟨_, some vs⟩ => 1 + ndsV vs
def ndsV : List data_variant → Nat
 | [] => 0
 | v :: r => ndsW v + ndsV r
def ndsW : data_variant → Nat
 | ⟨_, _, none⟩ => 0
 | ⟨_, _, some ps⟩ => ndsP ps
def ndsP : List (Option ua4) → Nat
 | [] => 0
 | none :: r => ndsP r
 | some x :: r => nds x + ndsP r
end
mutual
def wid : ua4 → Nat
 | ⟨b, none⟩ => b.toNat
 | ⟨_, some vs⟩ => tagN vs.length + rooms vs
def rooms : List data_variant → Nat
 | [] => 0
 | v :: r => max (roomV v) (rooms r)
def roomV : data_variant → Nat
 | ⟨_, _, none⟩ => 0
 | ⟨_, _, some ps⟩ => roomP ps
def roomP : List (Option ua4) → Nat
 | [] => 0
 | none :: r => roomP r
 | some x :: r => wid x + roomP r
end
inductive All2 {α β : Type} (R : α → β → Prop) : List α → List β → Prop
 | nil : All2 R [] []
 | cons {a : α} {b : β} {l : List α} {m : List β} (h : R a b) (t : All2 R l m) : All2 R (a :: l) (b :: m)
theorem All2.len {α β : Type} {R : α → β → Prop} {l : List α} {m : List β} (h : All2 R l m) : l.length = m.length := by
  induction h with
  | nil => rfl
  | cons _ _ ih => rw [List.length_cons, List.length_cons, ih]
theorem All2.get {α β : Type} {R : α → β → Prop} {l : List α} {m : List β} (h : All2 R l m) : ∀ (i : Nat) (h1 : i < l.length) (h2 : i < m.length), R l[i] m[i] := by
  induction h with
  | nil => intro i h1; simp at h1
  | cons h t ih =>
    intro i h1 h2
    cases i with
    | zero => exact h
    | succ i => exact ih i (by simpa using h1) (by simpa using h2)
theorem All2.memR {α β : Type} {R : α → β → Prop} {l : List α} {m : List β} (h : All2 R l m) : ∀ b ∈ m, ∃ a ∈ l, R a b := by
  induction h with
  | nil => intro b hb; cases hb
  | cons h t ih =>
    intro b hb
    rcases List.mem_cons.1 hb with rfl | hb
    · exact ⟨_, List.mem_cons_self .., h⟩
    · obtain ⟨a, ha, hr⟩ := ih b hb
      exact ⟨a, List.mem_cons_of_mem _ ha, hr⟩
def BitR (t : ua0) (x : ua4) : Prop := t.Kind = 1 ∧ t.Name = sBit ∧ ∃ p, t.Parts = [p] ∧ 1 ≤ p.Value ∧ p.Value ≤ 16 ∧ x = ⟨p.Value, none⟩
def FR (R : ua0 → ua4 → Prop) (f : ua6) (p : Option ua4) : Prop := ∃ x, p = some x ∧ R f.Type_ x
def VR (R : ua0 → ua4 → Prop) (c : ua1) (v : data_variant) : Prop := ∃ ps, v = ⟨c.Name, c.Fields, some ps⟩ ∧ All2 (FR R) c.Fields ps
def ConR (l : List ua2) (R : ua0 → ua4 → Prop) (t : ua0) (x : ua4) : Prop := t.Kind = 1 ∧ t.Name ≠ sBit ∧ Ty l t ∧ tree t = true ∧ ∃ vs, x = ⟨0, some vs⟩ ∧ All2 (VR R) (ue0 l t) vs
def SR (l : List ua2) : Nat → ua0 → ua4 → Prop
 | 0, _, _ => False
 | n + 1, t, x => BitR t x ∨ ConR l (SR l n) t x
def ExOk (l : List ua2) (R : ua0 → ua4 → Prop) (f : ua0 → Nat → Ex) : Prop := ∀ (t : ua0) (c : Nat), Ty l t → c ≤ 200 → (f t c).1 = 0 → R t (f t c).2.2 ∧ (f t c).2.1 = c + nds (f t c).2.2 ∧ (f t c).2.1 ≤ 200
theorem wj1 {l : List ua2} {R : ua0 → ua4 → Prop} {f : ua0 → Nat → Ex} (hf : ExOk l R f) : ∀ (fs : List ua6) (c : Nat), (∀ x ∈ fs, Ty l x.Type_) → c ≤ 200 → (ue1 f fs c).1 = 0 → All2 (FR R) fs (ue1 f fs c).2.2 ∧ (ue1 f fs c).2.1 = c + ndsP (ue1 f fs c).2.2 ∧ (ue1 f fs c).2.1 ≤ 200
 | [], c, _, hc, _ => ⟨.nil, by unfold ue1; simp only; rw [ndsP]; rfl, hc⟩
 | x :: r, c, hok, hc, h => by
   by_cases h0 : (f x.Type_ c).1 = 0
   · obtain ⟨a1, a2, a3⟩ := hf x.Type_ c (hok x (List.mem_cons_self ..)) hc h0
     simp only [ue1, if_pos h0] at h ⊢
     obtain ⟨b1, b2, b3⟩ := wj1 hf r _ (fun y hy => hok y (List.mem_cons_of_mem _ hy)) a3 h
     refine ⟨.cons ⟨_, rfl, a1⟩ b1, ?_, b3⟩
     rw [b2, ndsP, a2]
     omega
   · simp only [ue1, if_neg h0] at h
     exact absurd h h0
theorem wj0 {l : List ua2} {R : ua0 → ua4 → Prop} {f : ua0 → Nat → Ex} (hf : ExOk l R f) : ∀ (cs : List ua1) (c : Nat), (∀ x ∈ cs, ∀ y ∈ x.Fields, Ty l y.Type_) → c ≤ 200 → (ug0 f cs c).1 = 0 → All2 (VR R) cs (ug0 f cs c).2.2 ∧ (ug0 f cs c).2.1 = c + ndsV (ug0 f cs c).2.2 ∧ (ug0 f cs c).2.1 ≤ 200
 | [], c, _, hc, _ => ⟨.nil, by unfold ug0; simp only; rw [ndsV]; rfl, hc⟩
 | x :: r, c, hok, hc, h => by
   by_cases h0 : (ue1 f x.Fields c).1 = 0
   · obtain ⟨a1, a2, a3⟩ := wj1 hf x.Fields c (hok x (List.mem_cons_self ..)) hc h0
     simp only [ug0, if_pos h0] at h ⊢
     obtain ⟨b1, b2, b3⟩ := wj0 hf r _ (fun y hy => hok y (List.mem_cons_of_mem _ hy)) a3 h
     refine ⟨.cons ⟨_, rfl, a1⟩ b1, ?_, b3⟩
     rw [b2, ndsV, ndsW, a2]
     omega
   · simp only [ug0, if_neg h0] at h
     exact absurd h h0
theorem w45 {l : List ua2} {b : Bool} {f : ua0 → Nat → Ex} {t : ua0} {c : Nat} (hv : uM3 l) (ht : Ty l t) (h : (exS l b f t c).1 = 0) : b = true ∧ c + 1 ≤ 200 ∧ tree t = true ∧ t.Kind = 1 ∧ ((BitR t (exS l b f t c).2.2 ∧ (exS l b f t c).2.1 = c + 1) ∨ (t.Name ≠ sBit ∧ exS l b f t c = ((ug0 f (ue0 l t) (c + 1)).1, (ug0 f (ue0 l t) (c + 1)).2.1, ⟨0, some (ug0 f (ue0 l t) (c + 1)).2.2⟩))) := by
  cases htr : tree t with
  | false => unfold exS at h; rw [htr] at h; simp at h
  | true =>
    by_cases hk2 : t.Kind = 2
    · unfold exS at h; rw [htr, if_pos rfl, if_pos hk2] at h; cases h
    · have hk1 := ht.kind.resolve_right hk2
      obtain ⟨hc1, _⟩ := ht.con hv.plain hk1
      by_cases hb : t.Name = sBit
      · obtain ⟨p, hp⟩ := hc1 hb
        have e : exS l b f t c = (um7 [if p.Kind = 2 then 0 else 26, if 1 ≤ p.Value ∧ p.Value ≤ 16 then 0 else 25, if c + 1 ≤ 200 ∧ b = true then 0 else 8], c + 1, ⟨p.Value, none⟩) := by
          unfold exS
          rw [htr, if_pos rfl, if_neg hk2, if_pos hb, hp]
        rw [e] at h ⊢
        obtain ⟨_, h⟩ := uh0 h
        obtain ⟨h2, h⟩ := uh0 h
        obtain ⟨h3, _⟩ := uh0 h
        by_cases q3 : c + 1 ≤ 200 ∧ b = true
        · by_cases q2 : 1 ≤ p.Value ∧ p.Value ≤ 16
          · exact ⟨q3.2, q3.1, rfl, hk1, .inl ⟨⟨hk1, hb, p, hp, q2.1, q2.2, rfl⟩, rfl⟩⟩
          · rw [if_neg q2] at h2; cases h2
        · rw [if_neg q3] at h3; cases h3
      · by_cases q3 : c + 1 ≤ 200 ∧ b = true
        · refine ⟨q3.2, q3.1, rfl, hk1, .inr ⟨hb, ?_⟩⟩
          unfold exS
          rw [htr, if_pos rfl, if_neg hk2, if_neg hb, if_pos q3]
        · unfold exS at h
          rw [htr, if_pos rfl, if_neg hk2, if_neg hb, if_neg q3] at h; cases h
theorem w66 (b : Int) : nds ⟨b, none⟩ = 1 := by rw [nds]
theorem u91 (b : Int) (vs : List data_variant) : nds ⟨b, some vs⟩ = 1 + ndsV vs := by rw [nds]
theorem wi8 {l : List ua2} (hv : uM3 l) : ∀ n, ExOk l (SR l n) (exT l n)
 | 0 => fun t c ht hc h => by
   have := (w45 hv ht h).1
   cases this
 | n + 1 => fun t c ht hc h => by
   have h' : (exS l true (exT l n) t c).1 = 0 := h
   obtain ⟨_, h200, htr, hk1, hh⟩ := w45 hv ht h'
   show SR l (n + 1) t (exS l true (exT l n) t c).2.2 ∧ (exS l true (exT l n) t c).2.1 = c + nds (exS l true (exT l n) t c).2.2 ∧ (exS l true (exT l n) t c).2.1 ≤ 200
   rcases hh with ⟨hb, e⟩ | ⟨hb, e⟩
   · rw [e]
     obtain ⟨q1, q2, p, q3, q4, q5, q6⟩ := id hb
     refine ⟨.inl hb, ?_, h200⟩
     rw [q6, w66]
   · rw [e] at h' ⊢
     obtain ⟨_, m2⟩ := um0 hv ht htr hk1
     obtain ⟨b1, b2, b3⟩ := wj0 (wi8 hv n) (ue0 l t) (c + 1) (fun x hx => (m2 x hx).2) h200 h'
     refine ⟨.inr ⟨hk1, hb, ht, htr, _, rfl, b1⟩, ?_, b3⟩
     simp only
     rw [u91, b2]
     omega
end Go.Proofs.YtaennkkcnhfglaaGreatDoor.Ev.F
namespace Go.Proofs.YtaennkkcnhfglaaGreatDoor.Ev.F
open Go.Proofs.YtaennkkcnhfglaaGreatDoor.Ev
theorem x48 (m : Nat) (h : m < 16) : uj8 (.start (m : Int)) = some (((tagN (m + 1) : Int), ()), ()) := by
  rw [uj8]
  rw [if_neg (by simp; omega), uj8]
  rw [if_neg (by simp; omega), uj8]
  rw [if_neg (by simp; omega), uj8]
  have hm : m = 0 ∨ m = 1 ∨ m = 2 ∨ m = 3 ∨ m = 4 ∨ m = 5 ∨ m = 6 ∨ m = 7 ∨ m = 8 ∨ m = 9 ∨ m = 10 ∨ m = 11 ∨ m = 12 ∨ m = 13 ∨ m = 14 ∨ m = 15 := by omega
  rcases hm with rfl | rfl | rfl | rfl | rfl | rfl | rfl | rfl | rfl | rfl | rfl | rfl | rfl | rfl | rfl | rfl <;> rfl
theorem ptag (b : Int) (vs : List data_variant) (h1 : 0 < vs.length) (h2 : vs.length ≤ 16) : uI0 (.start (some ⟨b, some vs⟩)) = some (((tagN vs.length : Int), ()), ()) := by
  rw [uI0]
  simp only [ua3, Option.getD_some]
  rw [show (List.length vs : Int) - 1 = ((vs.length - 1 : Nat) : Int) by omega, wrap_i64 (by omega) (by omega)]
  rw [show IntKind.wrap .u64 ((vs.length - 1 : Nat) : Int) = ((vs.length - 1 : Nat) : Int) by simp [IntKind.wrap, IntKind.bits, IntKind.signed]; omega]
  rw [u04, x48 _ (by omega)]
  simp only [ua3]
  rw [show vs.length - 1 + 1 = vs.length by omega]
theorem xI1 (k : Nat) (h : k ≤ 62) : u09 (.start (k : Int)) = some ((((2 ^ k : Nat) : Int), ()), ()) := by
  rw [u09, if_pos (by simp), xa7 (by omega)]
  simp [pw]
theorem uT8 (c : Int) (k : Nat) (h : k ≤ 10) : uv6 (.p56 c (k : Int)) = if ((2 ^ k : Nat) : Int) < c then uv6 (.p56 c ((k + 1 : Nat) : Int)) else some (((k : Int), ()), ()) := by
  conv => lhs; rw [uv6]
  rw [xI1 k (by omega)]
  simp only [ua3, uq4 (show k ≤ 4611686018427387904 by omega)]
  by_cases h : ((2 ^ k : Nat) : Int) < c
  · rw [decide_eq_true h, if_pos rfl, if_pos h]
  · rw [decide_eq_false h, if_neg (by simp), if_neg h]
theorem rtag (n : Nat) (h : n ≤ 16) : uv6 (.start (n : Int)) = some (((tagN n : Int), ()), ()) := by
  rw [uv6, show ((0 : Int)) = ((0 : Nat) : Int) from rfl]
  unfold tagN
  rw [uT8 _ 0 (by omega)]
  by_cases h1 : n ≤ 1
  · rw [if_neg (by simp; omega), if_pos h1]
  · rw [if_pos (by simp; omega), if_neg h1, uT8 _ 1 (by omega)]
    by_cases h2 : n ≤ 2
    · rw [if_neg (by simp; omega), if_pos h2]
    · rw [if_pos (by simp; omega), if_neg h2, uT8 _ 2 (by omega)]
      by_cases h4 : n ≤ 4
      · rw [if_neg (by simp; omega), if_pos h4]
      · rw [if_pos (by simp; omega), if_neg h4, uT8 _ 3 (by omega)]
        by_cases h8 : n ≤ 8
        · rw [if_neg (by simp; omega), if_pos h8]
        · rw [if_pos (by simp; omega), if_neg h8, uT8 _ 4 (by omega)]
          rw [if_neg (by simp; omega)]
theorem xo8 (n : Nat) : tagN n ≤ 4 := by
  unfold tagN
  split
  · omega
  · split
    · omega
    · split
      · omega
      · split <;> omega
theorem wd3 (b : Int) : wid ⟨b, none⟩ = b.toNat := by rw [wid]
theorem u12 (b : Int) (vs : List data_variant) : wid ⟨b, some vs⟩ = tagN vs.length + rooms vs := by rw [wid]
theorem ut5 (v : data_variant) (r : List data_variant) : rooms (v :: r) = max (roomV v) (rooms r) := by rw [rooms]
theorem uT7 : rooms [] = 0 := by rw [rooms]
theorem ut4 (n : ByteArray) (fs : List ua6) (ps : List (Option ua4)) : roomV ⟨n, fs, some ps⟩ = roomP ps := by rw [roomV]
theorem uH2 : roomP [] = 0 := by rw [roomP]
theorem uh6 (x : ua4) (r : List (Option ua4)) : roomP (some x :: r) = wid x + roomP r := by rw [roomP]
theorem x82 : ndsV [] = 0 := by rw [ndsV]
theorem u90 (v : data_variant) (r : List data_variant) : ndsV (v :: r) = ndsW v + ndsV r := by rw [ndsV]
theorem uF3 (n : ByteArray) (fs : List ua6) (ps : List (Option ua4)) : ndsW ⟨n, fs, some ps⟩ = ndsP ps := by rw [ndsW]
theorem x81 : ndsP [] = 0 := by rw [ndsP]
theorem uT2 (x : ua4) (r : List (Option ua4)) : ndsP (some x :: r) = nds x + ndsP r := by rw [ndsP]
def AllP (Q : ua4 → Prop) (ps : List (Option ua4)) : Prop := ∀ p ∈ ps, ∃ x, p = some x ∧ Q x
def AllV (Q : ua4 → Prop) (vs : List data_variant) : Prop := ∀ v ∈ vs, ∃ n fs ps, v = ⟨n, fs, some ps⟩ ∧ fs.length = ps.length ∧ ps.length ≤ 8 ∧ AllP Q ps
theorem AllP.tail {Q : ua4 → Prop} {p : Option ua4} {r : List (Option ua4)} (h : AllP Q (p :: r)) : AllP Q r := fun x hx => h x (List.mem_cons_of_mem _ hx)
theorem AllV.tail {Q : ua4 → Prop} {p : data_variant} {r : List data_variant} (h : AllV Q (p :: r)) : AllV Q r := fun x hx => h x (List.mem_cons_of_mem _ hx)
theorem AllP.mono {Q R : ua4 → Prop} (hq : ∀ x, Q x → R x) {ps : List (Option ua4)} (h : AllP Q ps) : AllP R ps := fun p hp => by
  obtain ⟨x, hx, hx2⟩ := h p hp
  exact ⟨x, hx, hq x hx2⟩
theorem AllV.mono {Q R : ua4 → Prop} (hq : ∀ x, Q x → R x) {vs : List data_variant} (h : AllV Q vs) : AllV R vs := fun v hv => by
  obtain ⟨n, fs, ps, h1, h2, h3, h4⟩ := h v hv
  exact ⟨n, fs, ps, h1, h2, h3, h4.mono hq⟩
theorem AllP.of {R : ua0 → ua4 → Prop} {Q : ua4 → Prop} (hq : ∀ t x, R t x → Q x) {fs : List ua6} {ps : List (Option ua4)} (h : All2 (FR R) fs ps) : AllP Q ps := fun p hp => by
  obtain ⟨f, _, x, e, hr⟩ := h.memR p hp
  exact ⟨x, e, hq _ _ hr⟩
theorem AllV.of {R : ua0 → ua4 → Prop} {Q : ua4 → Prop} (hq : ∀ t x, R t x → Q x) {cs : List ua1} (hc : ∀ c ∈ cs, c.Fields.length ≤ 8) {vs : List data_variant} (h : All2 (VR R) cs vs) : AllV Q vs := fun v hv => by
  obtain ⟨c, hcm, ps, e, hr⟩ := h.memR v hv
  exact ⟨c.Name, c.Fields, ps, e, hr.len, by rw [← hr.len]; exact hc c hcm, AllP.of hq hr⟩
theorem vy6 {ps : List (Option ua4)} {x : ua4} (h : some x ∈ ps) : nds x ≤ ndsP ps := by
  induction ps with
  | nil => cases h
  | cons p r ih =>
    rcases List.mem_cons.1 h with rfl | h
    · rw [uT2]; omega
    · have := ih h
      cases p with
      | none => rw [ndsP]; exact this
      | some y => rw [uT2]; omega
theorem vy5 {vs : List data_variant} {v : data_variant} (h : v ∈ vs) : ndsW v ≤ ndsV vs := by
  induction vs with
  | nil => cases h
  | cons p r ih =>
    rw [u90]
    rcases List.mem_cons.1 h with rfl | h
    · omega
    · have := ih h; omega
def PW (x : ua4) : Prop := nds x ≤ 200 → run_z41 (.start (some x)) = some (((wid x : Int), ()), ()) ∧ wid x ≤ 16 * nds x
theorem vz3 {ps : List (Option ua4)} (h : AllP PW ps) (hn : ndsP ps ≤ 200) : roomP ps ≤ 16 * ndsP ps := by
  induction ps with
  | nil => rw [uH2]; omega
  | cons p r ih =>
    obtain ⟨x, rfl, hx⟩ := h p (List.mem_cons_self ..)
    rw [uT2] at hn
    rw [uh6, uT2]
    have := (hx (by omega)).2
    have := ih h.tail (by omega)
    omega
theorem xD9 {vs : List data_variant} (h : AllV PW vs) (hn : ndsV vs ≤ 200) : rooms vs ≤ 16 * ndsV vs := by
  induction vs with
  | nil => rw [uT7]; omega
  | cons v r ih =>
    obtain ⟨n, fs, ps, rfl, _, _, hp⟩ := h v (List.mem_cons_self ..)
    rw [u90, uF3] at hn
    rw [ut5, u90, uF3, ut4]
    have := vz3 hp (by omega)
    have := ih h.tail (by omega)
    omega
theorem xH5 (n : ByteArray) (fs : List ua6) {ps : List (Option ua4)} (h : AllP PW ps) (hl : ps.length ≤ 8) (hn : ndsP ps ≤ 200) : uh9 (.start n fs (some ps)) = some (((roomP ps : Int), ()), ()) := by
  rw [uh9]
  simp only [Option.getD_some]
  have loop : ∀ {i}, i ≤ ps.length → ∀ s : Nat, s + roomP (ps.drop i) ≤ 100000 → uh9 (.p116 (s : Int) (some ps) (List.length ps : Int) (i : Int)) = some ((((s + roomP (ps.drop i) : Nat) : Int), ()), ()) := by
    refine ub4 ps (P := fun i => ∀ s : Nat, s + roomP (ps.drop i) ≤ 100000 → uh9 (.p116 (s : Int) (some ps) (List.length ps : Int) (i : Int)) = some ((((s + roomP (ps.drop i) : Nat) : Int), ()), ())) ?_ ?_
    · intro s hs
      rw [uh9, List.drop_length, uH2]
      simp only [lt_f, Bool.false_eq_true, if_false]
      rfl
    · intro i hi ih s hs
      obtain ⟨x, hx, hq⟩ := h ps[i] (List.getElem_mem hi)
      have hm : nds x ≤ ndsP ps := vy6 (hx ▸ List.getElem_mem hi)
      rw [uh9]
      simp only [lt_t hi, if_true, Option.getD_some, ub7 hi, ua3, hx, (hq (by omega)).1]
      rw [ub5 hi, hx, uh6] at hs ⊢
      rw [ub1 hi (by omega), ← Int.natCast_add, wrap_i64 (by omega) (by omega), ih (s + wid x) (by omega), Nat.add_assoc]
  have hr := vz3 h hn
  have := loop (Nat.zero_le _) 0 (by rw [List.drop_zero]; omega)
  rw [List.drop_zero, Nat.zero_add] at this
  exact this
theorem x50 (b : Int) {vs : List data_variant} (h : AllV PW vs) (hl : vs.length ≤ 16) (hn : ndsV vs ≤ 200) : run_z42 (.start (some ⟨b, some vs⟩)) = some (((rooms vs : Int), ()), ()) := by
  rw [run_z42]
  simp only [ua3, Option.getD_some]
  have loop : ∀ {i}, i ≤ vs.length → ∀ s : Nat, run_z42 (.p116 (s : Int) (some vs) (List.length vs : Int) (i : Int)) = some ((((max s (rooms (vs.drop i)) : Nat) : Int), ()), ()) := by
    refine ub4 vs (P := fun i => ∀ s : Nat, run_z42 (.p116 (s : Int) (some vs) (List.length vs : Int) (i : Int)) = some ((((max s (rooms (vs.drop i)) : Nat) : Int), ()), ())) ?_ ?_
    · intro s
      rw [run_z42, List.drop_length, uT7]
      simp only [lt_f, Bool.false_eq_true, if_false, Nat.max_zero]
    · intro i hi ih s
      obtain ⟨n, fs, ps, hx, _, hpl, hq⟩ := h vs[i] (List.getElem_mem hi)
      have hm := vy5 (List.getElem_mem hi)
      rw [hx, uF3] at hm
      rw [run_z42]
      simp only [lt_t hi, if_true, Option.getD_some, ub7 hi, ua3, hx]
      rw [xH5 n fs hq hpl (by omega)]
      simp only [ua3]
      rw [ub5 hi, hx, ut5, ut4, ub1 hi (by omega)]
      rw [show (if (roomP ps : Int) > (s : Int) then (roomP ps : Int) else (s : Int)) = ((max s (roomP ps) : Nat) : Int) by
        by_cases hh : (roomP ps : Int) > (s : Int)
        · rw [if_pos hh]; omega
        · rw [if_neg hh]; omega]
      rw [ih, Nat.max_assoc]
  have := loop (Nat.zero_le _) 0
  rw [List.drop_zero, Nat.zero_max] at this
  exact this
def SOkN : Nat → ua4 → Prop
 | 0, _ => False
 | n + 1, x => (∃ b : Int, 1 ≤ b ∧ b ≤ 16 ∧ x = ⟨b, none⟩) ∨ (∃ vs : List data_variant, 0 < vs.length ∧ vs.length ≤ 16 ∧ AllV (SOkN n) vs ∧ x = ⟨0, some vs⟩)
def SOk (x : ua4) : Prop := ∃ n, SOkN n x
theorem sokN {l : List ua2} (hv : uM3 l) : ∀ n t x, SR l n t x → SOkN n x
 | 0, t, x, h => h.elim
 | n + 1, t, x, h => by
   rcases h with ⟨_, _, p, _, h1, h2, rfl⟩ | ⟨hk, hb, ht, htr, vs, rfl, hr⟩
   · exact .inl ⟨_, h1, h2, rfl⟩
   · obtain ⟨⟨m0, m1⟩, m2⟩ := um0 hv ht htr hk
     have hlen := hr.len
     exact .inr ⟨vs, by omega, by omega, AllV.of (fun t x h => sokN hv n t x h) (fun c hc => (m2 c hc).1) hr, rfl⟩
theorem sok {l : List ua2} (hv : uM3 l) {n : Nat} {t : ua0} {x : ua4} (h : SR l n t x) : SOk x := ⟨n, sokN hv n t x h⟩
theorem u38 (b : Int) : un4 (.start (some ⟨b, none⟩)) = some ((true, ()), ()) := rfl
theorem u39 (b : Int) (vs : List data_variant) (h : 0 < vs.length) : un4 (.start (some ⟨b, some vs⟩)) = some ((false, ()), ()) := by
  cases vs with
  | nil => simp at h
  | cons => rfl
theorem vh7 {Q : ua4 → Prop} (hb : ∀ b : Int, 1 ≤ b → b ≤ 16 → Q ⟨b, none⟩) (hc : ∀ vs : List data_variant, 0 < vs.length → vs.length ≤ 16 → AllV (fun x => SOk x ∧ Q x) vs → Q ⟨0, some vs⟩) : ∀ x, SOk x → Q x := by
  have key : ∀ n x, SOkN n x → Q x := by
    intro n
    induction n with
    | zero => intro x h; exact h.elim
    | succ n ih =>
      intro x h
      rcases h with ⟨b, h1, h2, rfl⟩ | ⟨vs, h0, h1, h, rfl⟩
      · exact hb b h1 h2
      · exact hc vs h0 h1 (h.mono fun x hx => ⟨⟨n, hx⟩, ih x hx⟩)
  exact fun x ⟨n, h⟩ => key n x h
theorem pwid : ∀ x, SOk x → PW x := by
  refine vh7 (fun b h1 h2 => ?_) (fun vs h0 h1 h => ?_)
  · intro _
    rw [run_z41, u38, wd3, w66]
    simp only [ua3, if_true]
    refine ⟨?_, by omega⟩
    rw [Int.toNat_of_nonneg (by omega)]
  · intro hn
    rw [u91] at hn ⊢
    have h' : AllV PW vs := h.mono fun x hx => hx.2
    have hr := xD9 h' (by omega)
    have ht := xo8 vs.length
    rw [run_z41, u39 _ _ h0, u12]
    simp only [ua3, Bool.false_eq_true, if_false, ptag _ vs h0 h1, x50 0 h' h1 (by omega)]
    rw [← Int.natCast_add, wrap_i64 (by omega) (by omega)]
    exact ⟨rfl, by omega⟩
end Go.Proofs.YtaennkkcnhfglaaGreatDoor.Ev.F
namespace Go.Proofs.YtaennkkcnhfglaaGreatDoor.Ev.F
open Go.Proofs.YtaennkkcnhfglaaGreatDoor.Ev
theorem xa6 {x : ua4} (h : SOk x) (hn : nds x ≤ 200) : wid x ≤ 3200 := by
  have := (pwid x h hn).2
  omega
def RW (l : List ua2) (t : ua0) (x : ua4) : Prop := nds x ≤ 200 → SOk x ∧ run_z94 (.start l t.Kind t.Value t.Name t.Parts) = some (((wid x : Int), ()), ())
theorem xE0 {l : List ua2} (c : ua1) (hl : c.Fields.length ≤ 8) {ps : List (Option ua4)} (h : All2 (FR (RW l)) c.Fields ps) (hn : ndsP ps ≤ 200) : uq1 (.start l c.Name c.Fields) = some (((roomP ps : Int), ()), ()) := by
  rw [uq1]
  have hlen := h.len
  have hP : AllP (fun x => nds x ≤ 200 → SOk x) ps := AllP.of (fun t x hx hn => (hx hn).1) h
  have hW : AllP PW ps := fun p hp => by
    obtain ⟨x, e, hx⟩ := hP p hp
    have : nds x ≤ ndsP ps := vy6 (e ▸ hp)
    exact ⟨x, e, pwid x (hx (by omega))⟩
  have hr := vz3 hW hn
  have loop : ∀ {i}, i ≤ c.Fields.length → ∀ s : Nat, s + roomP (ps.drop i) ≤ 100000 → uq1 (.p116 l (s : Int) (i : Int) c.Name c.Fields) = some ((((s + roomP (ps.drop i) : Nat) : Int), ()), ()) := by
    refine ub4 c.Fields (P := fun i => ∀ s : Nat, s + roomP (ps.drop i) ≤ 100000 → uq1 (.p116 l (s : Int) (i : Int) c.Name c.Fields) = some ((((s + roomP (ps.drop i) : Nat) : Int), ()), ())) ?_ ?_
    · intro s hs
      rw [uq1, hlen, List.drop_length, uH2]
      simp only [lt_f, Bool.false_eq_true, if_false]
      rfl
    · intro i hi ih s hs
      have hi2 : i < ps.length := by omega
      obtain ⟨x, hx, hq⟩ := h.get i hi hi2
      have hm : nds x ≤ ndsP ps := vy6 (hx ▸ List.getElem_mem hi2)
      rw [uq1]
      simp only [lt_t hi, if_true, ub7 hi, ua3, (hq (by omega)).2]
      rw [ub5 hi2, hx, uh6] at hs ⊢
      rw [ub1 hi (by omega), ← Int.natCast_add, wrap_i64 (by omega) (by omega), ih (s + wid x) (by omega), Nat.add_assoc]
  have := loop (Nat.zero_le _) 0 (by rw [List.drop_zero]; omega)
  rw [List.drop_zero, Nat.zero_add] at this
  exact this
theorem x55 {l : List ua2} (hv : uM3 l) {t : ua0} (hk : t.Kind = 1) (hb : t.Name ≠ sBit) (ht : Ty l t) (htr : tree t = true) : ug2 (.start l t.Kind t.Value t.Name t.Parts) = some ((ue0 l t, ()), ()) := by
  obtain ⟨hc1, hc2, hc3, hc4⟩ := ht.con hv.plain hk
  have hs := ur8 htr
  have := w72 (show l.length ≤ big by have := hv.len; unfold big; omega) hv.plain hv.light t.Kind t.Value t.Name t.Parts hc2 (fun a ha => by have := uV4 ha; omega) (hc3 hb)
  rw [us9] at this
  exact this
theorem ya7 {l : List ua2} (hv : uM3 l) {t : ua0} (hk : t.Kind = 1) (hb : t.Name ≠ sBit) (ht : Ty l t) (htr : tree t = true) {vs : List data_variant} (h : All2 (VR (RW l)) (ue0 l t) vs) (hn : ndsV vs ≤ 200) : run_z95 (.start l t.Kind t.Value t.Name t.Parts) = some (((rooms vs : Int), ()), ()) := by
  rw [run_z95, x55 hv hk hb ht htr]
  simp only [ua3]
  obtain ⟨⟨m0, m1⟩, m2⟩ := um0 hv ht htr hk
  have hlen := h.len
  have loop : ∀ {i}, i ≤ (ue0 l t).length → ∀ s : Nat, run_z95 (.p116 l (ue0 l t) (s : Int) (i : Int)) = some ((((max s (rooms (vs.drop i)) : Nat) : Int), ()), ()) := by
    refine ub4 (ue0 l t) (P := fun i => ∀ s : Nat, run_z95 (.p116 l (ue0 l t) (s : Int) (i : Int)) = some ((((max s (rooms (vs.drop i)) : Nat) : Int), ()), ())) ?_ ?_
    · intro s
      rw [run_z95, hlen, List.drop_length, uT7]
      simp only [lt_f, Bool.false_eq_true, if_false, Nat.max_zero]
    · intro i hi ih s
      have hi2 : i < vs.length := by omega
      obtain ⟨ps, hx, hq⟩ := h.get i hi hi2
      have hm := vy5 (List.getElem_mem hi2)
      rw [hx, uF3] at hm
      rw [run_z95]
      simp only [lt_t hi, if_true, ub7 hi, ua3, xE0 _ (m2 _ (List.getElem_mem hi)).1 hq (by omega)]
      rw [ub5 hi2, hx, ut5, ut4, ub1 hi (by omega)]
      rw [show (if (roomP ps : Int) > (s : Int) then (roomP ps : Int) else (s : Int)) = ((max s (roomP ps) : Nat) : Int) by
        by_cases hh : (roomP ps : Int) > (s : Int)
        · rw [if_pos hh]; omega
        · rw [if_neg hh]; omega]
      rw [ih, Nat.max_assoc]
  have := loop (Nat.zero_le _) 0
  rw [List.drop_zero, Nat.zero_max] at this
  exact this
theorem All2.mono {α β : Type} {R R' : α → β → Prop} (hr : ∀ a b, R a b → R' a b) {l : List α} {m : List β} (h : All2 R l m) : All2 R' l m := by
  induction h with
  | nil => exact .nil
  | cons h t ih => exact .cons (hr _ _ h) ih
theorem VR.mono {R R' : ua0 → ua4 → Prop} (hr : ∀ t x, R t x → R' t x) {c : ua1} {v : data_variant} (h : VR R c v) : VR R' c v := by
  obtain ⟨ps, e, h⟩ := h
  exact ⟨ps, e, h.mono fun f p ⟨x, e, hx⟩ => ⟨x, e, hr _ _ hx⟩⟩
theorem rwid {l : List ua2} (hv : uM3 l) : ∀ n t x, SR l n t x → RW l t x
 | 0, t, x, h => h.elim
 | n + 1, t, x, h => fun hn => by
   have hsok := sok hv h
   refine ⟨hsok, ?_⟩
   rw [run_z94, vg0]
   rcases h with ⟨hk, hb, p, hp, h1, h2, rfl⟩ | ⟨hk, hb, ht, htr, vs, rfl, hr⟩
   · rw [decide_eq_true (show t.Kind = 1 ∧ t.Name = sBit from ⟨hk, hb⟩), hp, wd3]
     simp only [ua3, if_true, show idx [p] (0 : Int) = some p from rfl]
     rw [Int.toNat_of_nonneg (by omega)]
   · rw [decide_eq_false (fun h => hb h.2)]
     rw [u91] at hn
     obtain ⟨⟨m0, m1⟩, m2⟩ := um0 hv ht htr hk
     have hr' : All2 (VR (RW l)) (ue0 l t) vs := hr.mono fun c v h => h.mono fun t x h => rwid hv n t x h
     have hlen := hr.len
     simp only [ua3, Bool.false_eq_true, if_false, x55 hv hk hb ht htr, rtag _ m1, ya7 hv hk hb ht htr hr' (by omega)]
     rw [u12, hlen]
     have := xa6 hsok (by rw [u91]; omega)
     rw [u12] at this
     rw [← Int.natCast_add, wrap_i64 (by omega) (by omega)]
def wv4 (l : List ua2) (t : ua0) : Int := if ur9 l [] t = 0 then (if (exT l 40 t 0).1 = 0 then (if 1 ≤ wid (exT l 40 t 0).2.2 ∧ wid (exT l 40 t 0).2.2 ≤ 16 then 0 else 25) else (exT l 40 t 0).1) else ur9 l [] t
def uA3 (l : List ua2) (t : ua0) : Int := if (uX0 l).2 = 0 then wv4 l t else (uX0 l).2
structure wV4 (l : List ua2) (t : ua0) (x : ua4) : Prop where
  valid : uM3 l
  ty : Ty l t
  tree : tree t = true
  sr : SR l 40 t x
  nds : nds x ≤ 200
  w1 : 1 ≤ wid x
  w16 : wid x ≤ 16
theorem ul8.light {d : ua2} (h : ul8 d) : ut6 d := ⟨h.plen, h.clen, fun c hc => ⟨(h.cs c hc).len, fun f hf => ((h.cs c hc).fs f hf).tree⟩⟩
theorem u94 {l : List ua2} (hd : ∀ d ∈ l, ut6 d) {t : ua0} (h : uA3 l t = 0) : wV4 l t (exT l 40 t 0).2.2 := by
  unfold uA3 at h
  by_cases h0 : (uX0 l).2 = 0
  · rw [if_pos h0] at h
    have hv := vC3 hd h0
    unfold wv4 at h
    by_cases h1 : ur9 l [] t = 0
    · rw [if_pos h1] at h
      obtain ⟨htr, hn⟩ := uM1 h1
      have hs := ur8 htr
      have hty : Ty l t := ⟨by omega, hn⟩
      by_cases h2 : (exT l 40 t 0).1 = 0
      · rw [if_pos h2] at h
        obtain ⟨a1, a2, a3⟩ := wi8 hv 40 t 0 hty (by omega) h2
        by_cases h3 : 1 ≤ wid (exT l 40 t 0).2.2 ∧ wid (exT l 40 t 0).2.2 ≤ 16
        · exact ⟨hv, hty, htr, a1, by omega, h3.1, h3.2⟩
        · rw [if_neg h3] at h; cases h
      · rw [if_neg h2] at h; exact absurd h h2
    · rw [if_neg h1] at h; exact absurd h h1
  · rw [if_neg h0] at h; exact absurd h h0
theorem vV5 {l : List ua2} (hl : l.length ≤ 24) (hd : ∀ d ∈ l, ul8 d) {t : ua0} (ht : lenOk t) : ∃ o, ur5 (.start l t.Kind t.Value t.Name t.Parts) = some ((o, ((l, ((), ())), (uA3 l t, ()))), ()) ∧ (uA3 l t = 0 → o = some (exT l 40 t 0).2.2) := by
  rw [ur5, x43 l hl hd]
  simp only [ua3]
  unfold uA3
  by_cases h0 : (uX0 l).2 = 0
  · have hv := vC3 (fun d h => (hd d h).light) h0
    rw [if_neg (by simpa using h0), if_pos h0, xH7 (by unfold big; omega) (by simp) t ht]
    simp only [ua3]
    unfold wv4
    by_cases h1 : ur9 l [] t = 0
    · rw [h1, if_neg (by decide), if_pos rfl]
      obtain ⟨htr, hn⟩ := uM1 h1
      have hs := ur8 htr
      have hty : Ty l t := ⟨by omega, hn⟩
      obtain ⟨_, o, c'', e1, e2⟩ := x45 hv 40 (by omega) t 0 hty (by omega)
      rw [show ((41 - 40 : Nat) : Int) = 1 from rfl, show ((0 : Nat) : Int) = 0 from rfl] at e1
      rw [e1]
      simp only [ua3]
      by_cases h2 : (exT l 40 t 0).1 = 0
      · obtain ⟨a1, a2, a3⟩ := wi8 hv 40 t 0 hty (by omega) h2
        rw [h2, if_pos (by decide), if_pos rfl, (e2 h2).1, (pwid _ (sok hv a1) (by omega)).1]
        simp only [ua3, vz1]
        by_cases h3 : 1 ≤ wid (exT l 40 t 0).2.2 ∧ wid (exT l 40 t 0).2.2 ≤ 16
        · rw [decide_eq_true (by omega), if_neg (by simp), if_pos h3]
          exact ⟨_, rfl, fun _ => rfl⟩
        · rw [decide_eq_false (by omega), if_pos (by simp), if_neg h3]
          exact ⟨_, rfl, fun h => (by cases h)⟩
      · rw [if_neg (by simpa using h2), if_neg h2]
        exact ⟨_, rfl, fun h => absurd h h2⟩
    · rw [if_pos (by simpa using h1), if_neg h1]
      exact ⟨_, rfl, fun h => absurd h h1⟩
  · rw [if_pos (by simpa using h0), if_neg h0]
    exact ⟨_, rfl, fun h => absurd h h0⟩
theorem ya2 {l : List ua2} (hl : l.length ≤ 24) (hd : ∀ d ∈ l, ul8 d) {t : ua0} (ht : lenOk t) : vh4 (.start l t.Kind t.Value t.Name t.Parts) = some ((uA3 l t, ()), ()) := by
  rw [vh4, vB1, x54 l hl hd]
  simp only [ua3]
  unfold uA3
  by_cases h0 : (uX0 l).2 = 0
  · have hv := vC3 (fun d h => (hd d h).light) h0
    rw [if_neg (by simpa using h0), if_pos h0, vB2, xI2 (by unfold big; omega) (by simp) hv.plain t ht]
    simp only [ua3]
    unfold wv4
    by_cases h1 : ur9 l [] t = 0
    · rw [h1, if_neg (by decide), if_pos rfl]
      obtain ⟨htr, hn⟩ := uM1 h1
      have hs := ur8 htr
      have hty : Ty l t := ⟨by omega, hn⟩
      obtain ⟨c'', e1, e2⟩ := x58 hv 40 (by omega) t 0 hty (by omega)
      rw [show ((40 - 40 : Nat) : Int) = 0 from rfl] at e1
      rw [e1]
      simp only [ua3]
      by_cases h2 : (exT l 40 t 0).1 = 0
      · obtain ⟨a1, a2, a3⟩ := wi8 hv 40 t 0 hty (by omega) h2
        rw [h2, if_neg (by decide), if_pos rfl, (rwid hv 40 t _ a1 (by omega)).2]
        simp only [ua3, vB4]
        by_cases h3 : 1 ≤ wid (exT l 40 t 0).2.2 ∧ wid (exT l 40 t 0).2.2 ≤ 16
        · rw [decide_eq_true (by omega), if_neg (by simp), if_pos h3]
          simp only [ua3]
        · rw [decide_eq_false (by omega), if_pos (by simp), if_neg h3]
          simp only [ua3]
      · rw [if_pos (by simpa using h2), if_neg h2]
        simp only [ua3]
    · rw [if_pos (by simpa using h1), if_neg h1]
      simp only [ua3]
  · rw [if_pos (by simpa using h0), if_neg h0]
end Go.Proofs.YtaennkkcnhfglaaGreatDoor.Ev.F
namespace Go.Proofs.YtaennkkcnhfglaaGreatDoor.Ev.F
open Go.Proofs.YtaennkkcnhfglaaGreatDoor.Ev Go.Proofs
def DHyp (a0 : List ua2) : Prop := (a0.length ≤ maxLen ∧ ∀ x ∈ a0, (x.Name.size ≤ maxLen) ∧ (x.Params.length ≤ maxLen ∧ ∀ y ∈ x.Params, y.size ≤ maxLen) ∧ (x.Constructors.length ≤ maxLen ∧ ∀ y ∈ x.Constructors, (y.Name.size ≤ maxLen) ∧ (y.Fields.length ≤ maxLen ∧ ∀ x ∈ y.Fields, (x.Name.size ≤ maxLen) ∧ (ue8 x.Type_) ∧ True) ∧ True) ∧ True)
theorem xZ5 : maxLen = big := rfl
theorem w40 {l : List ua2} (h : DHyp l) (hl : ∀ d ∈ l, ut6 d) : ∀ d ∈ l, ul8 d := by
  intro d hd
  obtain ⟨h1, h2⟩ := h
  obtain ⟨n1, n2, n3, _⟩ := h2 d hd
  have hld := hl d hd
  refine ⟨n1, hld.plen, n2.2, hld.clen, fun c hc => ?_⟩
  obtain ⟨c1, c2, _⟩ := n3.2 c hc
  obtain ⟨m1, m2⟩ := hld.cs c hc
  exact ⟨c1, m1, fun f hf => ⟨(c2.2 f hf).1, m2 f hf⟩⟩
theorem xC8 {t : ua0} (h : ue8 t) : lenOk t := by
  revert h
  refine uk6 (P := fun t => ue8 t → lenOk t) (fun k v s ts ih h => ?_) t
  obtain ⟨_, h0, h1, h2, h3, h4⟩ := h
  exact .mk k v s ts h3 fun p hp => ih p hp (h4 p hp)
theorem xV9 (vs : List data_variant) (s : ByteArray) (hl : vs.length ≤ big) (o : Option (List data_variant)) (ho : o.getD [] = vs) : un5 (.start o s) = some ((ix (fun v => decide (v.name = s)) vs, ()), ((s, ()), ())) := by
  rw [un5, ho]
  have : ∀ {i}, i ≤ vs.length → un5 (.p52 o (List.length vs : Int) (i : Int) s) = some ((ixAt (fun v => decide (v.name = s)) i (vs.drop i), ()), ((s, ()), ())) := by
    refine ub4 vs (P := fun i => un5 (.p52 o (List.length vs : Int) (i : Int) s) = some ((ixAt (fun v => decide (v.name = s)) i (vs.drop i), ()), ((s, ()), ()))) ?_ ?_
    · rw [un5]; simp [ixAt]
    · intro i hi ih
      rw [un5]
      simp only [lt_t hi, if_true, ho, ub7 hi, ua3, ul6, u06]
      rw [ub1 hi hl, ih, ub5 hi]
      simp only [ixAt]
      by_cases h0 : vs[i].name = s <;> simp [h0]
  exact this (Nat.zero_le _)
theorem x98 (x : ua4) (s : ByteArray) (hl : (x.constructors.getD []).length ≤ big) : uI2 (.start (some x) s) = some ((ix (fun v => decide (v.name = s)) (x.constructors.getD []), ()), ()) := by
  rw [uI2]
  simp only [ua3, xV9 _ s hl _ rfl]
end Go.Proofs.YtaennkkcnhfglaaGreatDoor.Ev.F
namespace Go.Proofs.YtaennkkcnhfglaaGreatDoor.Ev.F
open Go.Proofs.YtaennkkcnhfglaaGreatDoor.Ev Go.Proofs
def Sm (x : ua4) : Prop := nds x ≤ 200 ∧ wid x ≤ 16
theorem w98 {ps : List (Option ua4)} {x : ua4} (h : some x ∈ ps) : wid x ≤ roomP ps := by
  induction ps with
  | nil => cases h
  | cons p r ih =>
    rcases List.mem_cons.1 h with rfl | h
    · rw [uh6]; omega
    · have := ih h
      cases p with
      | none => rw [roomP]; exact this
      | some y => rw [uh6]; omega
theorem w99 {vs : List data_variant} {v : data_variant} (h : v ∈ vs) : roomV v ≤ rooms vs := by
  induction vs with
  | nil => cases h
  | cons p r ih =>
    rw [ut5]
    rcases List.mem_cons.1 h with rfl | h
    · exact Nat.le_max_left _ _
    · exact Nat.le_trans (ih h) (Nat.le_max_right _ _)
theorem wl3 {b : Int} {vs : List data_variant} (h : Sm ⟨b, some vs⟩) : ndsV vs ≤ 199 ∧ tagN vs.length + rooms vs ≤ 16 := by
  obtain ⟨h1, h2⟩ := h
  rw [u91] at h1
  rw [u12] at h2
  exact ⟨by omega, h2⟩
theorem uV2 {vs : List data_variant} (h1 : ndsV vs ≤ 199) (h2 : tagN vs.length + rooms vs ≤ 16) {n : ByteArray} {fs : List ua6} {ps : List (Option ua4)} (hv : ⟨n, fs, some ps⟩ ∈ vs) : ndsP ps ≤ 199 ∧ roomP ps ≤ rooms vs ∧ ∀ x, some x ∈ ps → Sm x := by
  have h3 := vy5 hv
  have h4 := w99 hv
  rw [uF3] at h3
  rw [ut4] at h4
  refine ⟨by omega, h4, fun x hx => ?_⟩
  have h5 := vy6 hx
  have h6 := w98 hx
  exact ⟨by omega, by omega⟩
theorem xa9 {Q : ua4 → Prop} (hb : ∀ b : Int, 1 ≤ b → b ≤ 16 → Q ⟨b, none⟩)
    (hc : ∀ vs : List data_variant, 0 < vs.length → vs.length ≤ 16 → ndsV vs ≤ 199 → tagN vs.length + rooms vs ≤ 16 → AllV (fun x => SOk x ∧ Sm x ∧ Q x) vs → Q ⟨0, some vs⟩) : ∀ x, SOk x → Sm x → Q x := by
  refine vh7 (Q := fun x => Sm x → Q x) (fun b h1 h2 _ => hb b h1 h2) (fun vs h0 h1 h hs => ?_)
  obtain ⟨s1, s2⟩ := wl3 hs
  refine hc vs h0 h1 s1 s2 fun v hv => ?_
  obtain ⟨n, fs, ps, rfl, l1, l2, hp⟩ := h v hv
  obtain ⟨_, _, k3⟩ := uV2 s1 s2 hv
  refine ⟨n, fs, ps, rfl, l1, l2, fun p hpm => ?_⟩
  obtain ⟨x, rfl, hx1, hx2⟩ := hp p hpm
  exact ⟨x, rfl, hx1, k3 x hpm, hx2 (k3 x hpm)⟩
structure ConC (l : List ua2) (t : ua0) (vs : List data_variant) : Prop where
  kind : t.Kind = 1
  name : t.Name ≠ sBit
  ty : Ty l t
  tree : tree t = true
  pos : 0 < vs.length
  len : vs.length ≤ 16
  nds : ndsV vs ≤ 199
  wid : tagN vs.length + rooms vs ≤ 16
  fs : ∀ c ∈ ue0 l t, c.Fields.length ≤ 8
theorem All2.withMem {α β : Type} {R : α → β → Prop} {l : List α} {m : List β} (h : All2 R l m) : All2 (fun a b => (a ∈ l ∧ b ∈ m) ∧ R a b) l m := by
  induction h with
  | nil => exact .nil
  | cons h t ih => exact .cons ⟨⟨List.mem_cons_self .., List.mem_cons_self ..⟩, h⟩ (ih.mono fun a b ⟨⟨h1, h2⟩, h3⟩ => ⟨⟨List.mem_cons_of_mem _ h1, List.mem_cons_of_mem _ h2⟩, h3⟩)
theorem xW0 {l : List ua2} (hv : uM3 l) {Q : ua0 → ua4 → Prop} (hb : ∀ t p, t.Kind = 1 → t.Name = sBit → t.Parts = [p] → 1 ≤ p.Value → p.Value ≤ 16 → Q t ⟨p.Value, none⟩)
    (hc : ∀ t vs, ConC l t vs → All2 (VR (fun t x => SOk x ∧ Sm x ∧ Q t x)) (ue0 l t) vs → Q t ⟨0, some vs⟩) : ∀ n t x, SR l n t x → Sm x → Q t x
 | 0, t, x, h, _ => h.elim
 | n + 1, t, x, h, hs => by
   rcases h with ⟨hk, hb', p, hp, h1, h2, rfl⟩ | ⟨hk, hb', ht, htr, vs, rfl, hr⟩
   · exact hb t p hk hb' hp h1 h2
   · obtain ⟨⟨m0, m1⟩, m2⟩ := um0 hv ht htr hk
     have hlen := hr.len
     obtain ⟨s1, s2⟩ := wl3 hs
     refine hc t vs ⟨hk, hb', ht, htr, by omega, by omega, s1, s2, fun c hc => (m2 c hc).1⟩ (hr.withMem.mono fun c v h => ?_)
     obtain ⟨⟨hcm, hvm⟩, ps, rfl, hps⟩ := h
     obtain ⟨_, _, k3⟩ := uV2 s1 s2 hvm
     refine ⟨ps, rfl, hps.withMem.mono fun f p h => ?_⟩
     obtain ⟨⟨hf, hpm⟩, x, rfl, hx⟩ := h
     exact ⟨x, rfl, sok hv hx, k3 x hpm, xW0 hv hb hc n _ _ hx (k3 x hpm)⟩
mutual
def cnt : ua4 → Nat
 | ⟨b, none⟩ => 2 ^ b.toNat
 | ⟨_, some vs⟩ => cntVs vs
def cntVs : List data_variant → Nat
 | [] => 0
 | v :: r => cntV v + cntVs r
def cntV : data_variant → Nat
 | ⟨_, _, none⟩ => 1
 | ⟨_, _, some ps⟩ => cntP ps
def cntP : List (Option ua4) → Nat
 | [] => 1
 | none :: r => cntP r
 | some x :: r => cnt x * cntP r
end
theorem wW4 (b : Int) : cnt ⟨b, none⟩ = 2 ^ b.toNat := by rw [cnt]
theorem wW5 (b : Int) (vs : List data_variant) : cnt ⟨b, some vs⟩ = cntVs vs := by rw [cnt]
theorem vF9 : cntVs [] = 0 := by rw [cntVs]
theorem vn4 (v : data_variant) (r : List data_variant) : cntVs (v :: r) = cntV v + cntVs r := by rw [cntVs]
theorem vF8 (n : ByteArray) (fs : List ua6) (ps : List (Option ua4)) : cntV ⟨n, fs, some ps⟩ = cntP ps := by rw [cntV]
theorem we8 : cntP [] = 1 := by rw [cntP]
theorem vF7 (x : ua4) (r : List (Option ua4)) : cntP (some x :: r) = cnt x * cntP r := by rw [cntP]
theorem wv1 (n : Nat) (h : n ≤ 16) : n ≤ 2 ^ tagN n := by
  unfold tagN
  split
  · omega
  · split
    · omega
    · split
      · omega
      · split <;> omega
def CB (x : ua4) : Prop := 1 ≤ cnt x ∧ cnt x ≤ 2 ^ wid x
theorem uX1 {ps : List (Option ua4)} (h : AllP CB ps) : 1 ≤ cntP ps ∧ cntP ps ≤ 2 ^ roomP ps := by
  induction ps with
  | nil => rw [we8, uH2]; decide
  | cons p r ih =>
    obtain ⟨x, rfl, h1, h2⟩ := h p (List.mem_cons_self ..)
    obtain ⟨k1, k2⟩ := ih h.tail
    rw [vF7, uh6, Nat.pow_add]
    exact ⟨Nat.mul_le_mul h1 k1, Nat.mul_le_mul h2 k2⟩
theorem u63 {vs : List data_variant} (h : AllV CB vs) : vs.length ≤ cntVs vs ∧ cntVs vs ≤ vs.length * 2 ^ rooms vs := by
  induction vs with
  | nil => rw [vF9]; simp
  | cons v r ih =>
    obtain ⟨n, fs, ps, rfl, _, _, hp⟩ := h v (List.mem_cons_self ..)
    obtain ⟨k1, k2⟩ := ih h.tail
    obtain ⟨p1, p2⟩ := uX1 hp
    rw [vn4, vF8, ut5, ut4, List.length_cons, Nat.add_mul]
    have m1 : 2 ^ roomP ps ≤ 2 ^ max (roomP ps) (rooms r) := Nat.pow_le_pow_right (by decide) (Nat.le_max_left _ _)
    have m2 : 2 ^ rooms r ≤ 2 ^ max (roomP ps) (rooms r) := Nat.pow_le_pow_right (by decide) (Nat.le_max_right _ _)
    have m3 : r.length * 2 ^ rooms r ≤ r.length * 2 ^ max (roomP ps) (rooms r) := Nat.mul_le_mul_left _ m2
    omega
theorem u65 : ∀ x, SOk x → CB x := by
  refine vh7 (fun b h1 h2 => ?_) (fun vs h0 h1 h => ?_)
  · unfold CB
    rw [wW4, wd3]
    exact ⟨Nat.one_le_two_pow, Nat.le_refl _⟩
  · unfold CB
    obtain ⟨k1, k2⟩ := u63 (h.mono fun x hx => hx.2)
    rw [wW5, u12, Nat.pow_add]
    have := wv1 vs.length h1
    exact ⟨by omega, Nat.le_trans k2 (Nat.mul_le_mul_right _ this)⟩
theorem wk7 {n : Nat} (h : n ≤ 16) : 2 ^ n ≤ 65536 := Nat.le_trans (Nat.pow_le_pow_right (by decide) h) (by decide)
def PC (x : ua4) : Prop := run_z61 (.start (some x)) = some (((cnt x : Int), ()), ())
theorem x93 (n : ByteArray) (fs : List ua6) {ps : List (Option ua4)} (h : AllP (fun x => SOk x ∧ Sm x ∧ PC x) ps) (hl : ps.length ≤ 8) (hr : roomP ps ≤ 16) : uj9 (.start n fs (some ps)) = some (((cntP ps : Int), ()), ()) := by
  rw [uj9]
  simp only [Option.getD_some]
  have loop : ∀ {i}, i ≤ ps.length → ∀ s : Nat, s * cntP (ps.drop i) ≤ 65536 → uj9 (.p116 (s : Int) (some ps) (List.length ps : Int) (i : Int)) = some ((((s * cntP (ps.drop i) : Nat) : Int), ()), ()) := by
    refine ub4 ps (P := fun i => ∀ s : Nat, s * cntP (ps.drop i) ≤ 65536 → uj9 (.p116 (s : Int) (some ps) (List.length ps : Int) (i : Int)) = some ((((s * cntP (ps.drop i) : Nat) : Int), ()), ())) ?_ ?_
    · intro s hs
      rw [uj9, List.drop_length, we8]
      simp only [lt_f, Bool.false_eq_true, if_false, Nat.mul_one]
    · intro i hi ih s hs
      obtain ⟨x, hx, hq1, hq2, hq3⟩ := h ps[i] (List.getElem_mem hi)
      rw [uj9]
      simp only [lt_t hi, if_true, Option.getD_some, ub7 hi, ua3, hx, show run_z61 (.start (some x)) = _ from hq3]
      rw [ub5 hi, hx, vF7] at hs ⊢
      have hrest : AllP CB (ps.drop (i + 1)) := fun p hp => by
        obtain ⟨y, e, hy, _⟩ := h p (List.mem_of_mem_drop hp)
        exact ⟨y, e, u65 y hy⟩
      have h1 := (uX1 hrest).1
      rw [← Nat.mul_assoc] at hs ⊢
      have h2 : s * cnt x * 1 ≤ s * cnt x * cntP (ps.drop (i + 1)) := Nat.mul_le_mul_left _ h1
      rw [ub1 hi (by omega), ← Int.natCast_mul, wrap_i64 (by omega) (by omega), ih (s * cnt x) hs]
  have hb := (uX1 (h.mono fun x hx => u65 x hx.1)).2
  have hp := wk7 hr
  have := loop (Nat.zero_le _) 1 (by rw [List.drop_zero]; omega)
  rw [List.drop_zero, Nat.one_mul] at this
  exact this
theorem yb0 : ∀ x, SOk x → Sm x → PC x := by
  refine xa9 (fun b h1 h2 => ?_) (fun vs h0 h1 hn hw h => ?_)
  · unfold PC
    rw [run_z61, u38]
    simp only [ua3, if_true]
    rw [decide_eq_true (by omega), if_pos rfl, xa7 (by omega), wW4]
    unfold pw
    simp
  · unfold PC
    rw [run_z61, u39 _ _ h0]
    simp only [ua3, Bool.false_eq_true, if_false, Option.getD_some]
    have hCB := h.mono fun x hx => u65 x hx.1
    have loop : ∀ {i}, i ≤ vs.length → ∀ s : Nat, s + cntVs (vs.drop i) ≤ 10000000 → run_z61 (.p244 (s : Int) (some vs) (List.length vs : Int) (i : Int)) = some ((((s + cntVs (vs.drop i) : Nat) : Int), ()), ()) := by
      refine ub4 vs (P := fun i => ∀ s : Nat, s + cntVs (vs.drop i) ≤ 10000000 → run_z61 (.p244 (s : Int) (some vs) (List.length vs : Int) (i : Int)) = some ((((s + cntVs (vs.drop i) : Nat) : Int), ()), ())) ?_ ?_
      · intro s hs
        rw [run_z61, List.drop_length, vF9]
        simp only [lt_f, Bool.false_eq_true, if_false, Nat.add_zero]
      · intro i hi ih s hs
        obtain ⟨n, fs, ps, hx, _, hpl, hq⟩ := h vs[i] (List.getElem_mem hi)
        have hm := hx ▸ List.getElem_mem hi
        obtain ⟨_, k2, _⟩ := uV2 hn hw hm
        rw [run_z61]
        simp only [lt_t hi, if_true, Option.getD_some, ub7 hi, ua3, hx]
        rw [x93 n fs hq hpl (by omega)]
        simp only [ua3]
        rw [ub5 hi, hx, vn4, vF8] at hs ⊢
        rw [ub1 hi (by omega), ← Int.natCast_add, wrap_i64 (by omega) (by omega), ih (s + cntP ps) (by omega), Nat.add_assoc]
    have hb := (u63 hCB).2
    have hp := wk7 (show rooms vs ≤ 16 by omega)
    have : vs.length * 2 ^ rooms vs ≤ 16 * 65536 := Nat.mul_le_mul h1 hp
    have := loop (Nat.zero_le _) 0 (by rw [List.drop_zero]; omega)
    rw [List.drop_zero, Nat.zero_add] at this
    rw [wW5]
    exact this
end Go.Proofs.YtaennkkcnhfglaaGreatDoor.Ev.F
namespace Go.Proofs.YtaennkkcnhfglaaGreatDoor.Ev.F
open Go.Proofs.YtaennkkcnhfglaaGreatDoor.Ev Go.Proofs
theorem xD5 {l : List ua2} (hl : l.length ≤ 24) (hd : ∀ d ∈ l, ul8 d) {t : ua0} (ht : lenOk t) : uI1 (.start l t.Kind t.Value t.Name t.Parts) = some ((if uA3 l t = 0 then (((wid (exT l 40 t 0).2.2 : Int)), ((0 : Int), ())) else ((0 : Int), (uA3 l t, ()))), ()) := by
  obtain ⟨o, ho, ho2⟩ := vV5 hl hd ht
  rw [uI1, ho]
  simp only [ua3]
  by_cases h0 : uA3 l t = 0
  · have hop := u94 (fun d h => (hd d h).light) h0
    rw [if_neg (by simpa using h0), if_pos h0, ho2 h0, (pwid _ (sok hop.valid hop.sr) hop.nds).1]
    simp only [ua3]
  · rw [if_pos (by simpa using h0), if_neg h0]
theorem wV4.cases {l : List ua2} {t : ua0} {x : ua4} (h : wV4 l t x) : (t.Kind = 1 ∧ t.Name = sBit ∧ ∃ p, t.Parts = [p] ∧ 1 ≤ p.Value ∧ p.Value ≤ 16 ∧ x = ⟨p.Value, none⟩) ∨ ∃ vs, x = ⟨0, some vs⟩ ∧ ConC l t vs ∧ All2 (VR (SR l 39)) (ue0 l t) vs := by
  rcases h.sr with hb | ⟨hk, hb, hty, htr, vs, e, hr⟩
  · exact .inl hb
  · refine .inr ⟨vs, e, ?_, hr⟩
    obtain ⟨⟨m0, m1⟩, m2⟩ := um0 h.valid hty htr hk
    have hlen := hr.len
    have hs : Sm ⟨0, some vs⟩ := by rw [← e]; exact ⟨h.nds, h.w16⟩
    obtain ⟨s1, s2⟩ := wl3 hs
    exact ⟨hk, hb, hty, htr, by omega, by omega, s1, s2, fun c hc => (m2 c hc).1⟩
theorem xR5 {l : List ua2} (hv : uM3 l) {t : ua0} {vs : List data_variant} (hc : ConC l t vs) {n : Nat} (hr : All2 (VR (SR l n)) (ue0 l t) vs) : AllV SOk vs := AllV.of (fun t x h => sok hv h) hc.fs hr
end Go.Proofs.YtaennkkcnhfglaaGreatDoor.Ev.F
namespace Go.Proofs.YtaennkkcnhfglaaGreatDoor.Ev.F
open Go.Proofs.YtaennkkcnhfglaaGreatDoor.Ev Go.Proofs
def uz0 : List ua6 → List (Option ua4) → List uc9
 | f :: fs, some x :: r => ⟨f.Name, (roomP r : Int), (wid x : Int)⟩ :: uz0 fs r
 | _, _ => []
def layV (i : Nat) : data_variant → ub2
 | ⟨n, fs, some ps⟩ => ⟨n, (i : Int), uz0 fs ps⟩
 | ⟨n, _, none⟩ => ⟨n, (i : Int), []⟩
def layL : Nat → List data_variant → List ub2
 | i, v :: r => layV i v :: layL (i + 1) r
 | _, [] => []
theorem uO3 (f : ua6) (fs : List ua6) (x : ua4) (r : List (Option ua4)) : uz0 (f :: fs) (some x :: r) = ⟨f.Name, (roomP r : Int), (wid x : Int)⟩ :: uz0 fs r := rfl
theorem xV4 (l : List ua2) (hl : l.length ≤ 24) (hd : ∀ d ∈ l, ul8 d) {t : ua0} (ht : lenOk t) {vs : List data_variant} (h0 : uA3 l t = 0) (he : (exT l 40 t 0).2.2 = ⟨0, some vs⟩) : ud5 (.start l t.Kind t.Value t.Name t.Parts) = some (((), ((0 : Int), ())), (layL 0 vs, ())) := by
  obtain ⟨o, ho, ho2⟩ := vV5 hl hd ht
  have hop := u94 (fun d h => (hd d h).light) h0
  have hso := sok hop.valid hop.sr
  rw [he] at hso
  have hsm : Sm ⟨0, some vs⟩ := by rw [← he]; exact ⟨hop.nds, hop.w16⟩
  obtain ⟨s1, s2⟩ := wl3 hsm
  obtain ⟨n, hn⟩ := hso
  cases n with
  | zero => exact hn.elim
  | succ n =>
    rcases hn with ⟨b, _, _, e⟩ | ⟨vs', p0, p1, hV, e⟩
    · cases e
    · obtain rfl : vs = vs' := by injection e with _ e; exact Option.some.inj e
      have hV' : AllV SOk vs := hV.mono fun x h => ⟨n, h⟩
      have hPW : AllV PW vs := hV'.mono fun x h => pwid x h
      rw [ud5, ho]
      simp only [ua3]
      rw [if_neg (by simpa using h0), ho2 h0, he, u39 _ _ p0]
      simp only [ua3, Bool.false_eq_true, if_false, Option.getD_some]
      have loop : ∀ {i}, i ≤ vs.length → ∀ B : List ub2, B.length = i → ud5 (.p1012 (some vs) (List.length vs : Int) (i : Int) B) = some (((), ((0 : Int), ())), (B ++ layL i (vs.drop i), ())) := by
        refine ub4 vs (P := fun i => ∀ B : List ub2, B.length = i → ud5 (.p1012 (some vs) (List.length vs : Int) (i : Int) B) = some (((), ((0 : Int), ())), (B ++ layL i (vs.drop i), ()))) ?_ ?_
        · intro B _
          rw [ud5, List.drop_length]
          simp only [lt_f, Bool.false_eq_true, if_false, layL, List.append_nil]
        · intro i hi ih B hB
          obtain ⟨nm, fs, ps, hx, hfl, hpl, hq⟩ := hPW vs[i] (List.getElem_mem hi)
          have hm := hx ▸ List.getElem_mem hi
          obtain ⟨k1, k2, k3⟩ := uV2 s1 s2 hm
          rw [ud5]
          simp only [lt_t hi, if_true, Option.getD_some, ub7 hi, ua3, hx, xH5 nm fs hq hpl (by omega)]
          have inner : ∀ {j}, j ≤ ps.length → ∀ P : List uc9, P.length = j → ud5 (.p2074228 (roomP (ps.drop j) : Int) (some vs) (List.length vs : Int) (i : Int) (some ps) (List.length ps : Int) (j : Int) B nm fs (some ps) nm (i : Int) P) = some (((), ((0 : Int), ())), (B ++ (⟨nm, (i : Int), P ++ uz0 (fs.drop j) (ps.drop j)⟩ :: layL (i + 1) (vs.drop (i + 1))), ())) := by
            refine ub4 ps (P := fun j => ∀ P : List uc9, P.length = j → ud5 (.p2074228 (roomP (ps.drop j) : Int) (some vs) (List.length vs : Int) (i : Int) (some ps) (List.length ps : Int) (j : Int) B nm fs (some ps) nm (i : Int) P) = some (((), ((0 : Int), ())), (B ++ (⟨nm, (i : Int), P ++ uz0 (fs.drop j) (ps.drop j)⟩ :: layL (i + 1) (vs.drop (i + 1))), ()))) ?_ ?_
            · intro P _
              rw [ud5]
              simp only [lt_f, Bool.false_eq_true, if_false]
              rw [if_pos (ug4 (by simp only [List.length_cons, List.length_nil]; omega)), ub1 hi (by omega), ih _ (by rw [List.length_append, hB]; rfl), List.append_assoc]
              rw [show uz0 (fs.drop ps.length) (ps.drop ps.length) = [] by rw [List.drop_length, List.drop_of_length_le (by omega)]; rfl, List.append_nil]
              rfl
            · intro j hj ihj P hP
              obtain ⟨x, hpx, hqx⟩ := hq ps[j] (List.getElem_mem hj)
              have hsx := k3 x (hpx ▸ List.getElem_mem hj)
              have hjf : j < fs.length := by omega
              have hrp : roomP (ps.drop j) = wid x + roomP (ps.drop (j + 1)) := by rw [ub5 hj, hpx, uh6]
              have hwx := hsx.2
              have hrb : roomP (ps.drop (j + 1)) ≤ roomP ps := by
                have : ∀ (q : List (Option ua4)) (k : Nat), AllP PW q → roomP (q.drop k) ≤ roomP q := by
                  intro q
                  induction q with
                  | nil => intro k _; rw [List.drop_nil]; exact Nat.le_refl _
                  | cons p r ihq =>
                    intro k hP
                    cases k with
                    | zero => exact Nat.le_refl _
                    | succ k =>
                      obtain ⟨y, rfl, _⟩ := hP p (List.mem_cons_self ..)
                      rw [uh6]
                      have := ihq k hP.tail
                      simp only [List.drop_succ_cons]
                      omega
                exact this ps (j + 1) hq
              rw [ud5]
              simp only [lt_t hj, if_true, Option.getD_some, ub7 hj, ua3, hpx, (hqx hsx.1).1, ub7 hjf]
              rw [hrp, wrap_i64 (by omega) (by omega), show ((wid x + roomP (ps.drop (j + 1)) : Nat) : Int) - (wid x : Int) = (roomP (ps.drop (j + 1)) : Int) by omega]
              rw [if_pos (ug4 (by simp only [List.length_cons, List.length_nil]; omega)), ub1 hj (by omega), ihj _ (by rw [List.length_append, hP]; rfl)]
              rw [ub5 hjf, ub5 hj, hpx, uO3, List.append_assoc]
              rfl
          have := inner (Nat.zero_le _) [] rfl
          rw [List.drop_zero, List.drop_zero] at this
          rw [ub5 hi, show layL i (vs[i] :: vs.drop (i + 1)) = layV i vs[i] :: layL (i + 1) (vs.drop (i + 1)) from rfl, hx]
          exact this
      have := loop (Nat.zero_le _) [] rfl
      rw [List.drop_zero] at this
      exact this
theorem x85 {l : List ua2} (hl : l.length ≤ 24) (hd : ∀ d ∈ l, ul8 d) {t : ua0} (ht : lenOk t) (h0 : uA3 l t ≠ 0) : ud5 (.start l t.Kind t.Value t.Name t.Parts) = some (((), (uA3 l t, ())), (([] : List ub2), ())) := by
  obtain ⟨o, ho, ho2⟩ := vV5 hl hd ht
  rw [ud5, ho]
  simp only [ua3]
  rw [if_pos (by simpa using h0)]
theorem x84 {l : List ua2} (hl : l.length ≤ 24) (hd : ∀ d ∈ l, ul8 d) {t : ua0} (ht : lenOk t) (h0 : uA3 l t = 0) {b : Int} (he : (exT l 40 t 0).2.2 = ⟨b, none⟩) : ud5 (.start l t.Kind t.Value t.Name t.Parts) = some (((), ((15 : Int), ())), (([] : List ub2), ())) := by
  obtain ⟨o, ho, ho2⟩ := vV5 hl hd ht
  rw [ud5, ho]
  simp only [ua3]
  rw [if_neg (by simpa using h0), ho2 h0, he, u38]
  simp only [ua3, if_true]
theorem yb5 {l : List ua2} (hl : l.length ≤ 24) (hd : ∀ d ∈ l, ul8 d) {t : ua0} (ht : lenOk t) (h0 : uA3 l t ≠ 0) : us7 (.start l t.Kind t.Value t.Name t.Parts) = some ((((⟨#[]⟩ : ByteArray), ((0 : Int), ((0 : Int), ()))), (uA3 l t, ())), ()) := by
  obtain ⟨o, ho, ho2⟩ := vV5 hl hd ht
  rw [us7, ho]
  simp only [ua3]
  rw [if_pos (by simpa using h0)]
theorem yb4 {l : List ua2} (hl : l.length ≤ 24) (hd : ∀ d ∈ l, ul8 d) {t : ua0} (ht : lenOk t) (h0 : uA3 l t = 0) {b : Int} (he : (exT l 40 t 0).2.2 = ⟨b, none⟩) : us7 (.start l t.Kind t.Value t.Name t.Parts) = some ((((⟨#[]⟩ : ByteArray), ((0 : Int), ((0 : Int), ()))), ((15 : Int), ())), ()) := by
  obtain ⟨o, ho, ho2⟩ := vV5 hl hd ht
  rw [us7, ho]
  simp only [ua3]
  rw [if_neg (by simpa using h0), ho2 h0, he, u38]
  simp only [ua3, if_true]
theorem x99 {l : List ua2} (hl : l.length ≤ 24) (hd : ∀ d ∈ l, ul8 d) {t : ua0} (ht : lenOk t) (h0 : uA3 l t = 0) {vs : List data_variant} (he : (exT l 40 t 0).2.2 = ⟨0, some vs⟩) (hc : ConC l t vs) (hV : AllV SOk vs) : us7 (.start l t.Kind t.Value t.Name t.Parts) = some ((((⟨#[]⟩ : ByteArray), ((rooms vs : Int), ((tagN vs.length : Int), ()))), ((0 : Int), ())), ()) := by
  obtain ⟨o, ho, ho2⟩ := vV5 hl hd ht
  rw [us7, ho]
  simp only [ua3]
  have hn := hc.nds
  rw [if_neg (by simpa using h0), ho2 h0, he, u39 _ _ hc.pos, ptag _ _ hc.pos hc.len, x50 0 (hV.mono fun x h => pwid x h) hc.len (by omega)]
  simp only [ua3, Bool.false_eq_true, if_false]
theorem u35 : ∀ (i : Nat) (vs : List data_variant), (layL i vs).length = vs.length
 | _, [] => rfl
 | i, v :: r => by unfold layL; rw [List.length_cons, List.length_cons, u35 (i + 1) r]
theorem wH1 : ∀ (fs : List ua6) (ps : List (Option ua4)), (uz0 fs ps).length ≤ ps.length
 | [], ps => Nat.zero_le _
 | f :: fs, [] => Nat.zero_le _
 | f :: fs, none :: r => Nat.zero_le _
 | f :: fs, some x :: r => by rw [uO3, List.length_cons, List.length_cons]; have := wH1 fs r; omega
theorem xC7 : ∀ (vs : List data_variant) (i : Nat) (y : ub2), y ∈ layL i vs → ∃ j v, v ∈ vs ∧ y = layV j v
 | [], i, y, h => by cases h
 | v :: r, i, y, h => by
   rcases List.mem_cons.1 h with rfl | h
   · exact ⟨i, v, List.mem_cons_self .., rfl⟩
   · obtain ⟨j, u, hu, e⟩ := xC7 r (i + 1) y h
     exact ⟨j, u, List.mem_cons_of_mem _ hu, e⟩
end Go.Proofs.YtaennkkcnhfglaaGreatDoor.Ev.F
namespace Go.Proofs.YtaennkkcnhfglaaGreatDoor.Ev.F
open Go.Proofs.YtaennkkcnhfglaaGreatDoor.Ev Go.Proofs
theorem wj4 : ∀ (vs : List data_variant) (k i : Nat) (h : i < vs.length), (layL k vs)[i]? = some (layV (k + i) vs[i])
 | [], k, i, h => by simp at h
 | v :: r, k, 0, h => rfl
 | v :: r, k, i + 1, h => by
   show (layL (k + 1) r)[i]? = _
   rw [wj4 r (k + 1) i (by simpa using h)]
   congr 2
   omega
theorem vq1 {Q : ua4 → Prop} : ∀ (fs : List ua6) (ps : List (Option ua4)), fs.length = ps.length → AllP Q ps → (uz0 fs ps).length = ps.length ∧ ∀ (k : Nat) (h : k < ps.length), ∃ x nm, ps[k] = some x ∧ (uz0 fs ps)[k]? = some ⟨nm, (roomP (ps.drop (k + 1)) : Int), (wid x : Int)⟩
 | [], [], _, _ => ⟨rfl, fun k h => by simp at h⟩
 | [], _ :: _, h, _ => by simp at h
 | _ :: _, [], h, _ => by simp at h
 | f :: fs, p :: r, h, hp => by
   obtain ⟨x, rfl, hx⟩ := hp p (List.mem_cons_self ..)
   obtain ⟨h1, h2⟩ := vq1 fs r (by simpa using h) hp.tail
   refine ⟨by rw [uO3, List.length_cons, h1, List.length_cons], fun k hk => ?_⟩
   cases k with
   | zero => exact ⟨x, f.Name, rfl, rfl⟩
   | succ k =>
     obtain ⟨y, nm, e1, e2⟩ := h2 k (by simpa using hk)
     exact ⟨y, nm, e1, e2⟩
theorem uK9 {Q : ua4 → Prop} : ∀ (ps : List (Option ua4)), AllP Q ps → ∀ j k : Nat, j ≤ k → roomP (ps.drop k) ≤ roomP (ps.drop j)
 | [], _, j, k, _ => by rw [List.drop_nil, List.drop_nil]; exact Nat.le_refl _
 | p :: r, hp, 0, 0, _ => Nat.le_refl _
 | p :: r, hp, 0, k + 1, _ => by
   obtain ⟨x, rfl, _⟩ := hp p (List.mem_cons_self ..)
   have := uK9 r hp.tail 0 k (Nat.zero_le _)
   rw [List.drop_zero] at this ⊢
   rw [uh6, List.drop_succ_cons]
   omega
 | p :: r, hp, j + 1, 0, h => by omega
 | p :: r, hp, j + 1, k + 1, h => by
   rw [List.drop_succ_cons, List.drop_succ_cons]
   exact uK9 r hp.tail j k (by omega)
theorem wz6 (a0 : List ua2) (a1 : ua0) (hd : DHyp a0) (ht : ue8 a1) : uc2 (.start a0 a1.Kind a1.Value a1.Name a1.Parts) = some ((true, ()), ()) := by
  rw [uc2, wV9]
  simp only [ua3, Bool.not_true, Bool.false_eq_true, if_false]
  obtain ⟨b, hb, hb2⟩ := x61 a0
  rw [hb]
  simp only [ua3]
  cases b with
  | false => rfl
  | true =>
    obtain ⟨hl, hld⟩ := hb2 rfl
    have hok := w40 hd hld
    have htl := xC8 ht
    simp only [Bool.not_true, Bool.false_eq_true, if_false, ua3, ya2 hl hok htl, vg0]
    by_cases h0 : uA3 a0 a1 = 0
    · have hop := u94 hld h0
      rw [if_neg (by simpa using h0)]
      rcases hop.cases with ⟨hk, hn, p, hp, p1, p2, e⟩ | ⟨vs, e, hc, hr⟩
      · rw [decide_eq_true (show a1.Kind = 1 ∧ a1.Name = sBit from ⟨hk, hn⟩), if_pos rfl]
      · have hV := xR5 hop.valid hc hr
        have hw1 := hop.w1
        have hw16 := hop.w16
        have hpos := hc.pos
        have hvl := hc.len
        rw [decide_eq_false (fun h => hc.name h.2), if_neg (by simp), uc2]
        simp only [w73 a0 hl hld, ua3, xD5 hl hok htl, if_pos h0, xV4 a0 hl hok htl h0 e, x99 hl hok htl h0 e hc hV, bne_self_eq_false, Bool.false_eq_true, if_false, vB4, vh5]
        have hwid : wid (exT a0 40 a1 0).2.2 = tagN vs.length + rooms vs := by rw [e, u12]
        rw [hwid] at hw1 hw16 ⊢
        generalize hW : tagN vs.length + rooms vs = W at hw1 hw16 ⊢
        rw [decide_eq_true (show 1 ≤ (W : Int) ∧ (W : Int) ≤ 16 by omega), if_neg (by simp)]
        rw [decide_eq_true (show 0 ≤ (tagN vs.length : Int) ∧ (tagN vs.length : Int) ≤ (W : Int) by omega), if_neg (by simp)]
        have ht4 := xo8 vs.length
        rw [wrap_i64 (by omega) (by omega), if_neg (by simp; omega), xI1 _ (by omega)]
        simp only [ua3]
        have htp := wv1 vs.length hvl
        rw [u35, decide_eq_false (by omega), if_neg (by simp), uc2]
        have loop : ∀ {i}, i ≤ vs.length → ∀ fills : Bool, (0 < tagN vs.length ∨ fills = true ∨ i = 0) → uc2 (.p8180 (W : Int) fills (i : Int) (layL 0 vs) (⟨#[]⟩ : ByteArray) (rooms vs : Int) (tagN vs.length : Int)) = some ((true, ()), ()) := by
          refine ub4 vs (P := fun i => ∀ fills : Bool, (0 < tagN vs.length ∨ fills = true ∨ i = 0) → uc2 (.p8180 (W : Int) fills (i : Int) (layL 0 vs) (⟨#[]⟩ : ByteArray) (rooms vs : Int) (tagN vs.length : Int)) = some ((true, ()), ())) ?_ ?_
          · intro fills hf
            rw [uc2, u35]
            simp only [lt_f, Bool.false_eq_true, if_false]
            by_cases h1 : 0 < tagN vs.length
            · rw [decide_eq_true (by omega), if_pos rfl]
            · rw [decide_eq_false (by omega), if_neg (by simp)]
              rcases hf with h | h | h
              · exact absurd h h1
              · rw [h]
              · omega
          · intro i hi ih fills hf
            obtain ⟨nm, fs, ps, hx, q1, q2, hq⟩ := hV vs[i] (List.getElem_mem hi)
            have hm := hx ▸ List.getElem_mem hi
            obtain ⟨k1, k2, k3⟩ := uV2 hc.nds hc.wid hm
            obtain ⟨pl, pg⟩ := vq1 (Q := SOk) fs ps q1 hq
            have hget : idx (layL 0 vs) (i : Int) = some ⟨nm, (i : Int), uz0 fs ps⟩ := by
              rw [uN7, wj4 vs 0 i hi, hx, Nat.zero_add]; rfl
            have h0i : decide ((0 : Int) ≤ (i : Int)) = true := by simp
            have hlt : decide ((i : Int) < (List.length (layL 0 vs) : Int)) = true := by rw [u35]; exact lt_t hi
            rw [uc2]
            simp only [h0i, hlt, Bool.and_self, hget, if_true, ua3, bne_self_eq_false, Bool.false_eq_true, if_false, pl]
            rw [if_neg (by simp; omega), uc2]
            have inner : ∀ {k}, k ≤ ps.length → uc2 (.p4188468 (W : Int) fills (i : Int) ((roomP ps - roomP (ps.drop k) : Nat) : Int) (k : Int) (layL 0 vs) (⟨#[]⟩ : ByteArray) (rooms vs : Int) (tagN vs.length : Int)) = some ((true, ()), ()) := by
              refine ub4 ps (P := fun k => uc2 (.p4188468 (W : Int) fills (i : Int) ((roomP ps - roomP (ps.drop k) : Nat) : Int) (k : Int) (layL 0 vs) (⟨#[]⟩ : ByteArray) (rooms vs : Int) (tagN vs.length : Int)) = some ((true, ()), ())) ?_ ?_
              · rw [uc2]
                simp only [h0i, hlt, Bool.and_self, hget, if_true, ua3, pl, lt_f, Bool.false_eq_true, if_false]
                rw [ub1 hi (by omega)]
                cases fills with
                | true => exact ih true (.inr (.inl rfl))
                | false =>
                  simp only [Bool.false_eq_true, if_false]
                  refine ih _ ?_
                  by_cases h1 : 0 < tagN vs.length
                  · exact .inl h1
                  · right; left
                    have hl1 : vs.length = 1 := by
                      unfold tagN at h1
                      by_cases h2 : vs.length ≤ 1
                      · omega
                      · rw [if_neg h2] at h1
                        split at h1
                        · omega
                        · split at h1
                          · omega
                          · split at h1 <;> omega
                    have hv1 : vs = [⟨nm, fs, some ps⟩] := by
                      obtain ⟨v, hv⟩ := List.length_eq_one_iff.1 hl1
                      subst hv
                      obtain rfl : i = 0 := by simp at hi; exact hi
                      simp at hx
                      rw [hx]
                    have : W = roomP ps := by
                      rw [← hW, hv1, ut5, uT7, ut4]
                      have : tagN vs.length = 0 := by omega
                      rw [hv1] at this
                      rw [this]
                      omega
                    rw [List.drop_length, uH2, this]
                    simp
              · intro k hk ihk
                obtain ⟨x, nm2, e1, e2⟩ := pg k hk
                have hsx := k3 x (e1 ▸ List.getElem_mem hk)
                have hdrop : roomP (ps.drop k) = wid x + roomP (ps.drop (k + 1)) := by rw [ub5 hk, e1, uh6]
                have hle := uK9 ps hq 0 k (Nat.zero_le _)
                rw [List.drop_zero] at hle
                rw [uc2]
                simp only [h0i, hlt, Bool.and_self, hget, if_true, ua3, pl, lt_t hk, uN7 (uz0 fs ps) k, e2, vh5]
                rw [decide_eq_true (show 0 ≤ (wid x : Int) ∧ (wid x : Int) ≤ (W : Int) by omega), if_neg (by simp)]
                rw [wrap_i64 (by omega) (by omega), decide_eq_true (show 0 ≤ (roomP (ps.drop (k + 1)) : Int) ∧ (roomP (ps.drop (k + 1)) : Int) ≤ (W : Int) - (wid x : Int) by omega), if_neg (by simp)]
                rw [wrap_i64 (by omega) (by omega), decide_eq_false (by omega), if_neg (by simp), uc2]
                have inn : ∀ m j : Nat, j + m = k → uc2 (.p2144495924 (W : Int) fills (i : Int) ((roomP ps - roomP (ps.drop k) : Nat) : Int) (k : Int) (j : Int) (layL 0 vs) (⟨#[]⟩ : ByteArray) (rooms vs : Int) (tagN vs.length : Int) nm2 (roomP (ps.drop (k + 1)) : Int) (wid x : Int)) = some ((true, ()), ()) := by
                  intro m
                  induction m with
                  | zero =>
                    intro j hj
                    obtain rfl : j = k := by omega
                    rw [uc2]
                    simp only [lt_f, Bool.false_eq_true, if_false]
                    rw [ub1 hk (by omega), wrap_i64 (by omega) (by omega)]
                    rw [show ((roomP ps - roomP (ps.drop j) : Nat) : Int) + (wid x : Int) = ((roomP ps - roomP (ps.drop (j + 1)) : Nat) : Int) by omega]
                    exact ihk
                  | succ m ihm =>
                    intro j hj
                    have hjk : j < k := by omega
                    have hjp : j < ps.length := by omega
                    obtain ⟨y, nm3, f1, f2⟩ := pg j hjp
                    have hle2 := uK9 ps hq (j + 1) k (by omega)
                    rw [uc2]
                    simp only [lt_t hjk, h0i, hlt, Bool.and_self, hget, if_true, ua3, uN7 (uz0 fs ps) j, f2]
                    rw [wrap_i64 (by omega) (by omega), decide_eq_false (show ¬ ((roomP (ps.drop (j + 1)) : Int) < (roomP (ps.drop (k + 1)) : Int) + (wid x : Int)) by omega), if_neg (by simp), ub1 hjp (by omega)]
                    exact ihm (j + 1) (by omega)
                exact inn k 0 (by omega)
            have := inner (Nat.zero_le _)
            rw [List.drop_zero, Nat.sub_self] at this
            exact this
        exact loop (Nat.zero_le _) false (.inr (.inr rfl))
    · rw [if_pos (by simpa using h0)]
end Go.Proofs.YtaennkkcnhfglaaGreatDoor.Ev.F
