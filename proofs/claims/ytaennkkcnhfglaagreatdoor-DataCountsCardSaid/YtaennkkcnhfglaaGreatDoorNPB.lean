/- A part of the proof. -/
import Derived.Test.YtaennkkcnhfglaaGreatDoorNPA
import Derived.Test.YtaennkkcnhfglaaGreatDoorNPA
set_option linter.unusedVariables false
set_option linter.unusedSimpArgs false
set_option linter.unnecessarySimpa false
namespace Go.Proofs.YtaennkkcnhfglaaGreatDoor.Ev.F
open Go.Proofs.YtaennkkcnhfglaaGreatDoor.Ev
abbrev Ex : Type := Int × Nat × ua4
def ud8 (f : ua0 → Nat → Ex) : List ua6 → Nat → Int × Nat × List (Option ua4)
 | [], c => (0, c, [])
 | x :: r, c => if (f x.Type_ c).1 = 0 then ((ud8 f r (f x.Type_ c).2.1).1, (ud8 f r (f x.Type_ c).2.1).2.1, some (f x.Type_ c).2.2 :: (ud8 f r (f x.Type_ c).2.1).2.2) else ((f x.Type_ c).1, 0, [])
def uf8 (f : ua0 → Nat → Ex) : List ua1 → Nat → Int × Nat × List data_variant
 | [], c => (0, c, [])
 | x :: r, c => if (ud8 f x.Fields c).1 = 0 then ((uf8 f r (ud8 f x.Fields c).2.1).1, (uf8 f r (ud8 f x.Fields c).2.1).2.1, ⟨x.Name, x.Fields, some (ud8 f x.Fields c).2.2⟩ :: (uf8 f r (ud8 f x.Fields c).2.1).2.2) else ((ud8 f x.Fields c).1, 0, [])
def junk : ua4 := ⟨0, none⟩
def exS (l : List ua3) (deep : Bool) (f : ua0 → Nat → Ex) (t : ua0) (c : Nat) : Ex :=
  if tree t = true then
    if t.Kind = 2 then (26, 0, junk)
    else if t.Name = sBit then
      match t.Parts with
      | p :: _ => (uh3 [if p.Kind = 2 then 0 else 26, if 1 ≤ p.Value ∧ p.Value ≤ 16 then 0 else 25, if c + 1 ≤ 200 ∧ deep = true then 0 else 8], c + 1, ⟨p.Value, none⟩)
      | [] => (0, 0, junk)
    else if c + 1 ≤ 200 ∧ deep = true then ((uf8 f (uc7 l t) (c + 1)).1, (uf8 f (uc7 l t) (c + 1)).2.1, ⟨0, some (uf8 f (uc7 l t) (c + 1)).2.2⟩)
    else (8, 0, junk)
  else (8, 0, junk)
def exT (l : List ua3) : Nat → ua0 → Nat → Ex
 | 0 => exS l false fun _ _ => (8, 0, junk)
 | n + 1 => exS l true (exT l n)
structure Ty (l : List ua3) (t : ua0) : Prop where
  sz : tsz t ≤ 1000000
  ok : ur4 l [] t = 0
theorem Ty.kind {l : List ua3} {t : ua0} (h : Ty l t) : t.Kind = 1 ∨ t.Kind = 2 := by
  obtain ⟨k, v, s, ts⟩ := t
  have := (uL2.1 h.ok).1
  unfold uE2 at this
  by_cases h0 : k = 0
  · rw [if_pos h0] at this; cases this
  · by_cases h1 : k = 1
    · exact .inl h1
    · by_cases h2 : k = 2
      · exact .inr h2
      · rw [if_neg h0, if_neg h1, if_neg h2] at this; cases this
theorem Ty.con {l : List ua3} (hp : ug5 l) {t : ua0} (h : Ty l t) (hk : t.Kind = 1) : (t.Name = sBit → ∃ p, t.Parts = [p]) ∧ (∀ d, dat l t.Name = some d → d.Params.length = t.Parts.length) ∧ (t.Name ≠ sBit → t.Name ≠ uM6 → dat l t.Name ≠ none) ∧ ∀ p ∈ t.Parts, ur4 l [] p = 0 := by
  obtain ⟨k, v, s, ts⟩ := t
  obtain ⟨h1, h2, _, h4⟩ := uL2.1 h.ok
  simp only at hk ⊢
  subst hk
  unfold uE2 at h1 h2
  rw [if_neg (by decide), if_pos rfl] at h1 h2
  refine ⟨fun e => ?_, fun d hd => ?_, fun e1 e2 hn => ?_, h4⟩
  · rw [uK8 hp (.inl e)] at h2
    simp only at h2
    rw [if_pos e] at h2
    match ts, h2 with
    | [p], _ => exact ⟨p, rfl⟩
    | [], h => simp at h
    | _ :: _ :: _, h => simp at h; omega
  · rw [hd] at h2
    simp only at h2
    omega
  · rw [hn] at h1
    simp only at h1
    rw [if_neg e1, if_neg e2] at h1
    cases h1
theorem uW9 {t p : ua0} (h : p ∈ t.Parts) : tsz p ≤ tsz t := by
  obtain ⟨k, v, s, ts⟩ := t
  have hts : tsz ⟨k, v, s, ts⟩ = 1 + tszs ts := by rw [tsz]
  have := u31 h
  simp only at this
  omega
theorem ul6 {l : List ua3} (hv : ux1 l) {t : ua0} (h : Ty l t) (ht : tree t = true) (hk : t.Kind = 1) : (0 < (uc7 l t).length ∧ (uc7 l t).length ≤ 16) ∧ ∀ c ∈ uc7 l t, c.Fields.length ≤ 8 ∧ ∀ f ∈ c.Fields, Ty l f.Type_ := by
  have hc := h.con hv.plain hk
  unfold uc7
  cases hd : dat l t.Name with
  | none => exact ⟨by simp, fun c hc => by simp at hc; rcases hc with rfl | rfl <;> exact ⟨by simp, fun f hf => by cases hf⟩⟩
  | some d =>
    obtain ⟨hm, _⟩ := vA1 hd
    obtain ⟨h1, h2, _⟩ := hv.cons d hm
    refine ⟨by simp only [List.length_map]; exact ⟨h1, h2⟩, fun c hcm => ?_⟩
    obtain ⟨c0, hc0, rfl⟩ := List.mem_map.1 hcm
    obtain ⟨l0, hb, hf0⟩ := hv.fields d hm
    obtain ⟨m1, m2⟩ := hf0 c0 hc0
    refine ⟨by simp only [List.length_map]; exact m1, fun f hf => ?_⟩
    obtain ⟨f0, hf0, rfl⟩ := List.mem_map.1 hf
    obtain ⟨e1, e2⟩ := m2 f0 hf0
    have s1 := ur9 e1
    have s2 := ur9 ht
    have hsz := x72 (ps := d.Params) (args := t.Parts) (M := 200) (by decide) (fun a ha => by have := uW9 ha; omega) f0.Type_
    refine ⟨?_, xf7 hb hv.plain (hc.2.1 d hd) hc.2.2.2 _ e2⟩
    have : tsz f0.Type_ * 200 ≤ 200 * 200 := Nat.mul_le_mul_right _ s1.1
    show tsz (rep d.Params t.Parts f0.Type_) ≤ 1000000
    omega
def w12 (l : List ua3) (deep : Int) (f : ua0 → Nat → Ex) : Prop := ∀ t c, Ty l t → c ≤ 200 → ((f t c).1 = 0 → (f t c).2.1 ≤ 200) ∧ ∃ o c'', uc6 (.start l [] t.Kind t.Value t.Name t.Parts deep (c : Int)) = some ((o, ((f t c).1, ())), ((c'', ()), ())) ∧ ((f t c).1 = 0 → o = some (f t c).2.2 ∧ c'' = ((f t c).2.1 : Int))
theorem x61 {l : List ua3} {deep : Nat} (hdeep : deep ≤ 100) {f : ua0 → Nat → Ex} (hf : w12 l ((deep + 1 : Nat) : Int) f) (B : List data_variant) (i n : Nat) (hi : i < B.length) (fs : List ua6) (hl : fs.length ≤ 12) (hok : ∀ x ∈ fs, Ty l x.Type_) :
    ∀ {k}, k ≤ fs.length → ∀ (c : Nat) (acc : List (Option ua4)), c ≤ 200 → acc.length = k → ((ud8 f (fs.drop k) c).1 = 0 → (ud8 f (fs.drop k) c).2.1 ≤ 200) ∧
      ((ud8 f (fs.drop k) c).1 ≠ 0 → ∃ c'', uc6 (.p4188572 (deep : Int) (i : Int) (n : Int) (i : Int) fs (List.length fs : Int) (k : Int) (c : Int) l [] 0 (B, i) acc) = some ((none, ((ud8 f (fs.drop k) c).1, ())), ((c'', ()), ()))) ∧
      ((ud8 f (fs.drop k) c).1 = 0 → uc6 (.p4188572 (deep : Int) (i : Int) (n : Int) (i : Int) fs (List.length fs : Int) (k : Int) (c : Int) l [] 0 (B, i) acc) = uc6 (.p8180 (deep : Int) (n : Int) (IntKind.wrap .i64 ((i : Int) + 1)) ((ud8 f (fs.drop k) c).2.1 : Int) l [] 0 (B.modify i fun y => ⟨y.name, y.fields, some (acc ++ (ud8 f (fs.drop k) c).2.2)⟩))) := by
  refine ub3 fs (P := fun k => ∀ (c : Nat) (acc : List (Option ua4)), c ≤ 200 → acc.length = k → ((ud8 f (fs.drop k) c).1 = 0 → (ud8 f (fs.drop k) c).2.1 ≤ 200) ∧
      ((ud8 f (fs.drop k) c).1 ≠ 0 → ∃ c'', uc6 (.p4188572 (deep : Int) (i : Int) (n : Int) (i : Int) fs (List.length fs : Int) (k : Int) (c : Int) l [] 0 (B, i) acc) = some ((none, ((ud8 f (fs.drop k) c).1, ())), ((c'', ()), ()))) ∧
      ((ud8 f (fs.drop k) c).1 = 0 → uc6 (.p4188572 (deep : Int) (i : Int) (n : Int) (i : Int) fs (List.length fs : Int) (k : Int) (c : Int) l [] 0 (B, i) acc) = uc6 (.p8180 (deep : Int) (n : Int) (IntKind.wrap .i64 ((i : Int) + 1)) ((ud8 f (fs.drop k) c).2.1 : Int) l [] 0 (B.modify i fun y => ⟨y.name, y.fields, some (acc ++ (ud8 f (fs.drop k) c).2.2)⟩)))) ?_ ?_
  · intro c acc hc _
    rw [List.drop_length]
    refine ⟨fun _ => hc, fun h => absurd rfl h, fun _ => ?_⟩
    conv => lhs; rw [uc6]
    simp only [lt_f, Bool.false_eq_true, if_false, ud8, List.append_nil]
  · intro k hk ih c acc hc hacc
    rw [ub2 hk]
    obtain ⟨g0, o, c'', e1, e2⟩ := hf fs[k].Type_ c (hok _ (List.getElem_mem hk)) hc
    have hw : IntKind.wrap .i64 ((deep : Int) + 1) = ((deep + 1 : Nat) : Int) := ug1 (by omega)
    have hstep : uc6 (.p4188572 (deep : Int) (i : Int) (n : Int) (i : Int) fs (List.length fs : Int) (k : Int) (c : Int) l [] 0 (B, i) acc) = if ((f fs[k].Type_ c).1 != (0 : Int)) = true then some ((none, ((f fs[k].Type_ c).1, ())), ((c'', ()), ())) else uc6 (.p4188572 (deep : Int) (i : Int) (n : Int) (i : Int) fs (List.length fs : Int) ((k + 1 : Nat) : Int) c'' l [] 0 (B, i) (acc ++ [o])) := by
      conv => lhs; rw [uc6]
      simp only [lt_t hk, if_true, ub4 hk, ua2, hw, e1, List.getElem?_eq_getElem hi]
      rw [if_pos (ug4 (by simp only [List.length_cons, List.length_nil]; omega)), ub1 hk (by omega)]
    by_cases h0 : (f fs[k].Type_ c).1 = 0
    · obtain ⟨e3, e4⟩ := e2 h0
      rw [if_neg (by rw [h0]; decide), e3, e4] at hstep
      obtain ⟨i1, i2, i3⟩ := ih (f fs[k].Type_ c).2.1 (acc ++ [some (f fs[k].Type_ c).2.2]) (g0 h0) (by rw [List.length_append, hacc]; rfl)
      rw [hstep]
      simp only [ud8, if_pos h0]
      refine ⟨i1, i2, fun h => ?_⟩
      rw [i3 h, List.append_assoc]
      rfl
    · rw [if_pos (by simpa using h0)] at hstep
      rw [hstep]
      simp only [ud8, if_neg h0]
      exact ⟨fun h => absurd h h0, fun _ => ⟨c'', rfl⟩, fun h => absurd h h0⟩
theorem uT8 {α : Type} (f : α → α) : ∀ (a : List α) (x : α) (b : List α), (a ++ x :: b).modify a.length f = a ++ f x :: b
 | [], x, b => by simp
 | y :: a, x, b => by simp [uT8 f a x b]
theorem xM6 {l : List ua3} {deep : Nat} (hdeep : deep ≤ 100) {f : ua0 → Nat → Ex} (hf : w12 l ((deep + 1 : Nat) : Int) f) (n : Nat) : ∀ (cs : List ua1) (vs : List data_variant) (c : Nat), n = vs.length + cs.length → n ≤ 20 → (∀ x ∈ cs, x.Fields.length ≤ 8 ∧ ∀ y ∈ x.Fields, Ty l y.Type_) → c ≤ 200 → ((uf8 f cs c).1 = 0 → (uf8 f cs c).2.1 ≤ 200) ∧
    ∃ o c'', uc6 (.p8180 (deep : Int) (n : Int) (vs.length : Int) (c : Int) l [] 0 (vs ++ cs.map rawV)) = some ((o, ((uf8 f cs c).1, ())), ((c'', ()), ())) ∧ ((uf8 f cs c).1 = 0 → o = some ⟨0, some (vs ++ (uf8 f cs c).2.2)⟩ ∧ c'' = ((uf8 f cs c).2.1 : Int))
 | [], vs, c, hn, _, _, hc => by
   refine ⟨fun _ => hc, some ⟨0, some vs⟩, (c : Int), ?_, fun _ => ⟨by simp [uf8], rfl⟩⟩
   rw [uc6]
   obtain rfl : n = vs.length := by simpa using hn
   simp only [lt_f, Bool.false_eq_true, if_false, List.map_nil, List.append_nil, uf8]
 | x :: r, vs, c, hn, h20, hok, hc => by
   obtain ⟨x1, x2⟩ := hok x (List.mem_cons_self ..)
   have hlt : vs.length < n := by rw [hn, List.length_cons]; omega
   have hB : vs.length < (vs ++ (x :: r).map rawV).length := by simp
   have hget : (vs ++ (x :: r).map rawV)[vs.length]? = some (rawV x) := by simp
   have hget' : (vs ++ (x :: r).map rawV)[vs.length] = rawV x := Option.some.inj ((List.getElem?_eq_getElem hB).symm.trans hget)
   have hstep : uc6 (.p8180 (deep : Int) (n : Int) (vs.length : Int) (c : Int) l [] 0 (vs ++ (x :: r).map rawV)) = uc6 (.p4188572 (deep : Int) (vs.length : Int) (n : Int) (vs.length : Int) x.Fields (List.length x.Fields : Int) 0 (c : Int) l [] 0 (vs ++ (x :: r).map rawV, vs.length) []) := by
     conv => lhs; rw [uc6]
     rw [lt_t hlt, if_pos rfl, if_pos (by simp; omega), ub4 hB, hget']
     simp only [ua2]
     rw [if_pos (by rfl), Int.toNat_natCast, hget, if_pos rfl]
     rfl
   obtain ⟨i1, i2, i3⟩ := x61 hdeep hf (vs ++ (x :: r).map rawV) vs.length n hB x.Fields (by omega) x2 (Nat.zero_le _) c [] hc rfl
   rw [List.drop_zero] at i1 i2 i3
   rw [hstep]
   by_cases h0 : (ud8 f x.Fields c).1 = 0
   · have i3' := i3 h0
     rw [List.map_cons, uT8, ug1 (by omega), List.nil_append] at i3'
     rw [show ((0 : Nat) : Int) = 0 from rfl] at i3'
     rw [List.map_cons, i3']
     simp only [uf8, if_pos h0]
     have := xM6 hdeep hf n r (vs ++ [⟨x.Name, x.Fields, some (ud8 f x.Fields c).2.2⟩]) (ud8 f x.Fields c).2.1 (by rw [hn]; simp only [List.length_append, List.length_cons, List.length_nil]; omega) h20 (fun y hy => hok y (List.mem_cons_of_mem _ hy)) (i1 h0)
     rw [List.length_append, List.append_assoc] at this
     obtain ⟨j1, o, c'', j2, j3⟩ := this
     refine ⟨j1, o, c'', j2, fun h => ⟨?_, (j3 h).2⟩⟩
     rw [(j3 h).1, List.append_assoc]
     rfl
   · obtain ⟨c'', hc''⟩ := i2 h0
     rw [show ((0 : Nat) : Int) = 0 from rfl] at hc''
     simp only [uf8, if_neg h0]
     exact ⟨fun h => absurd h h0, none, c'', hc'', fun h => absurd h h0⟩
theorem x59 {l : List ua3} (hv : ux1 l) (deep : Nat) (hdeep : deep ≤ 100) {f : ua0 → Nat → Ex} (hf : deep ≤ 40 → w12 l ((deep + 1 : Nat) : Int) f) : w12 l (deep : Int) (exS l (decide (deep ≤ 40)) f) := by
  intro t c ht hc
  have hlb : l.length ≤ big := by have := hv.len; unfold big; omega
  have hlen : lenOk t := vv3 t (by have := ht.sz; unfold big; omega)
  have hstart : uc6 (.start l [] t.Kind t.Value t.Name t.Parts (deep : Int) (c : Int)) = if tree t = true then uc6 (.p31 (deep : Int) (if c + 1 ≤ 200 ∧ deep ≤ 40 then 0 else 8) ((c + 1 : Nat) : Int) l [] t.Kind t.Value t.Name t.Parts) else some ((none, ((8 : Int), ())), (((c : Int), ()), ())) := by
    conv => lhs; rw [uc6]
    simp only [xM8 t hlen, ua2, ug1 (show c ≤ 4611686018427387904 by omega), uB7]
    cases tree t with
    | false => rfl
    | true =>
      rw [if_pos rfl, if_neg (by decide), if_pos rfl]
      by_cases h2 : c + 1 ≤ 200
      · rw [if_pos (by simp; omega)]
        by_cases h4 : deep ≤ 40
        · rw [if_pos (show c + 1 ≤ 200 ∧ deep ≤ 40 from ⟨h2, h4⟩), if_pos (by simp; omega)]
        · rw [if_neg (show ¬ (c + 1 ≤ 200 ∧ deep ≤ 40) from fun h => h4 h.2), if_neg (by simp; omega)]
      · rw [if_neg (show ¬ (c + 1 ≤ 200 ∧ deep ≤ 40) from fun h => h2 h.1), if_neg (by simp; omega), if_neg (by simp)]
  rw [hstart]
  have hdec : (c + 1 ≤ 200 ∧ decide (deep ≤ 40) = true) ↔ (c + 1 ≤ 200 ∧ deep ≤ 40) := by simp
  cases htr : tree t with
  | false =>
    have e : exS l (decide (deep ≤ 40)) f t c = (8, 0, junk) := by unfold exS; rw [htr]; rfl
    rw [e]
    exact ⟨fun h => (by cases h), none, (c : Int), rfl, fun h => (by cases h)⟩
  | true =>
    rw [if_pos rfl, uc6]
    by_cases hk2 : t.Kind = 2
    · have e : exS l (decide (deep ≤ 40)) f t c = (26, 0, junk) := by unfold exS; rw [htr, if_pos rfl, if_pos hk2]
      rw [e, if_pos (by simpa using hk2)]
      exact ⟨fun h => (by cases h), none, _, rfl, fun h => (by cases h)⟩
    · have hk1 : t.Kind = 1 := ht.kind.resolve_right hk2
      obtain ⟨hc1, hc2, hc3, hc4⟩ := ht.con hv.plain hk1
      rw [if_neg (by simpa using hk2)]
      simp only [uk3]
      by_cases hb : t.Name = sBit
      · obtain ⟨p, hp⟩ := hc1 hb
        have e : exS l (decide (deep ≤ 40)) f t c = (uh3 [if p.Kind = 2 then 0 else 26, if 1 ≤ p.Value ∧ p.Value ≤ 16 then 0 else 25, if c + 1 ≤ 200 ∧ deep ≤ 40 then 0 else 8], c + 1, ⟨p.Value, none⟩) := by
          unfold exS
          rw [htr, if_pos rfl, if_neg hk2, if_pos hb, hp]
          simp only [hdec]
        have hbt : decide (t.Name = sBit) = true := by simpa using hb
        rw [e, if_pos hbt, hp]
        simp only [show idx [p] (0 : Int) = some p from rfl, ua2, uB7, u13]
        rw [uU0 _ (by simp [big])]
        simp only [ua2]
        have e1 : (if (p.Kind == (2 : Int)) = true then (0 : Int) else 26) = if p.Kind = 2 then 0 else 26 := by
          by_cases h : p.Kind = 2 <;> simp [h]
        have e2 : (if decide (1 ≤ p.Value ∧ p.Value ≤ 16) = true then (0 : Int) else 25) = if 1 ≤ p.Value ∧ p.Value ≤ 16 then 0 else 25 := by
          by_cases h : 1 ≤ p.Value ∧ p.Value ≤ 16
          · rw [decide_eq_true h, if_pos rfl, if_pos h]
          · rw [decide_eq_false h, if_neg (by simp), if_neg h]
        rw [e1, e2]
        refine ⟨fun h => ?_, _, _, rfl, fun _ => ⟨rfl, rfl⟩⟩
        have h3 := (ud0 (ud0 (ud0 h).2).2).1
        by_cases hh : c + 1 ≤ 200 ∧ deep ≤ 40
        · exact hh.1
        · rw [if_neg hh] at h3; cases h3
      · rw [if_neg (by simpa using hb)]
        by_cases hh : c + 1 ≤ 200 ∧ deep ≤ 40
        · have e : exS l (decide (deep ≤ 40)) f t c = ((uf8 f (uc7 l t) (c + 1)).1, (uf8 f (uc7 l t) (c + 1)).2.1, ⟨0, some (uf8 f (uc7 l t) (c + 1)).2.2⟩) := by
            unfold exS
            rw [htr, if_pos rfl, if_neg hk2, if_neg hb, if_pos (hdec.2 hh)]
          rw [e, if_pos hh, if_neg (by decide)]
          have hs := ur9 htr
          rw [xZ1 hlb hv.light t.Kind t.Value t.Name t.Parts hc2 (fun a ha => by have := uW9 ha; omega), ut0]
          simp only [ua2, List.length_map]
          obtain ⟨⟨_, m1⟩, m2⟩ := ul6 hv ht htr hk1
          have := xM6 hdeep (hf hh.2) (uc7 l t).length (uc7 l t) [] (c + 1) (by simp) (by omega) m2 hh.1
          simp only [List.length_nil, List.nil_append] at this
          exact this
        · have e : exS l (decide (deep ≤ 40)) f t c = (8, 0, junk) := by
            unfold exS
            rw [htr, if_pos rfl, if_neg hk2, if_neg hb, if_neg (fun h => hh (hdec.1 h))]
          rw [e, if_neg hh, if_pos (by decide)]
          exact ⟨fun h => (by cases h), none, _, rfl, fun h => (by cases h)⟩
theorem x60 {l : List ua3} (hv : ux1 l) : ∀ n, n ≤ 40 → w12 l ((41 - n : Nat) : Int) (exT l n)
 | 0, _ => by
   have := x59 hv 41 (by omega) (f := fun _ _ => (8, 0, junk)) (fun h => by omega)
   exact this
 | n + 1, h => by
   have := x59 hv (41 - (n + 1)) (by omega) (f := exT l n) (fun _ => by rw [show 41 - (n + 1) + 1 = 41 - n by omega]; exact x60 hv n (by omega))
   rw [decide_eq_true (by omega)] at this
   exact this
end Go.Proofs.YtaennkkcnhfglaaGreatDoor.Ev.F
namespace Go.Proofs.YtaennkkcnhfglaaGreatDoor.Ev.F
open Go.Proofs.YtaennkkcnhfglaaGreatDoor.Ev
def ExpR (l : List ua3) (depth : Nat) (f : ua0 → Nat → Ex) : Prop := ∀ (t : ua0) (c : Nat), Ty l t → c ≤ 200 → ∃ c'', uc1 (.start l t.Kind t.Value t.Name t.Parts (c : Int) 0 (depth : Int)) = some (((c'', ((f t c).1, ((depth : Int), ()))), ()), ()) ∧ ((f t c).1 = 0 → c'' = ((f t c).2.1 : Int) ∧ (f t c).2.1 ≤ 200)
theorem vt6 (t : ua0) : uI2 (.start t.Kind t.Value t.Name t.Parts) = some ((decide (t.Kind = 1 ∧ t.Name = sBit), ()), ()) := by
  rw [uI2]
  by_cases h : t.Kind = 1
  · rw [if_pos (by simpa using h), uk3]
    by_cases h2 : t.Name = sBit <;> simp [h, h2]
  · rw [if_neg (by simpa using h)]
    simp [h]
theorem wr1 (n : Int) : u28 (.start n) = some ((decide (1 ≤ n ∧ n ≤ 16), ()), ()) := by
  rw [u28, vE4]
  simp only [ua2]
theorem x76 {l : List ua3} {d : Nat} (hd : d ≤ 100) {f : ua0 → Nat → Ex} (hf : ExpR l (d + 1) f) (all : List ua1) (hal : all.length ≤ 20) (i : Nat) (hi : i < all.length) (b0 b1 b2 : Int) (hl : all[i].Fields.length ≤ 12) (hok : ∀ x ∈ all[i].Fields, Ty l x.Type_) :
    ∀ {k}, k ≤ all[i].Fields.length → ∀ (c : Nat), c ≤ 200 → ((ud8 f (all[i].Fields.drop k) c).1 = 0 → (ud8 f (all[i].Fields.drop k) c).2.1 ≤ 200) ∧
      ((ud8 f (all[i].Fields.drop k) c).1 ≠ 0 → ∃ c'', uc1 (.p523556 l all (i : Int) (k : Int) b0 b1 b2 (c : Int) 0 (d : Int)) = some (((c'', ((ud8 f (all[i].Fields.drop k) c).1, ((d : Int), ()))), ()), ())) ∧
      ((ud8 f (all[i].Fields.drop k) c).1 = 0 → uc1 (.p523556 l all (i : Int) (k : Int) b0 b1 b2 (c : Int) 0 (d : Int)) = uc1 (.p8180 l all ((i + 1 : Nat) : Int) b0 b1 b2 ((ud8 f (all[i].Fields.drop k) c).2.1 : Int) 0 (d : Int))) := by
  refine ub3 all[i].Fields (P := fun k => ∀ (c : Nat), c ≤ 200 → ((ud8 f (all[i].Fields.drop k) c).1 = 0 → (ud8 f (all[i].Fields.drop k) c).2.1 ≤ 200) ∧
      ((ud8 f (all[i].Fields.drop k) c).1 ≠ 0 → ∃ c'', uc1 (.p523556 l all (i : Int) (k : Int) b0 b1 b2 (c : Int) 0 (d : Int)) = some (((c'', ((ud8 f (all[i].Fields.drop k) c).1, ((d : Int), ()))), ()), ())) ∧
      ((ud8 f (all[i].Fields.drop k) c).1 = 0 → uc1 (.p523556 l all (i : Int) (k : Int) b0 b1 b2 (c : Int) 0 (d : Int)) = uc1 (.p8180 l all ((i + 1 : Nat) : Int) b0 b1 b2 ((ud8 f (all[i].Fields.drop k) c).2.1 : Int) 0 (d : Int)))) ?_ ?_
  · intro c hc
    rw [List.drop_length]
    refine ⟨fun _ => hc, fun h => absurd rfl h, fun _ => ?_⟩
    conv => lhs; rw [uc1]
    simp only [ub4 hi, ua2, lt_f, Bool.false_eq_true, if_false, ud8]
    rw [ub1 hi (by omega)]
  · intro k hk ih c hc
    rw [ub2 hk]
    obtain ⟨c'', e1, e2⟩ := hf all[i].Fields[k].Type_ c (hok _ (List.getElem_mem hk)) hc
    have hstep : uc1 (.p523556 l all (i : Int) (k : Int) b0 b1 b2 (c : Int) 0 (d : Int)) = if ((f all[i].Fields[k].Type_ c).1 != (0 : Int)) = true then some (((c'', ((f all[i].Fields[k].Type_ c).1, ((d : Int), ()))), ()), ()) else uc1 (.p523556 l all (i : Int) ((k + 1 : Nat) : Int) b0 b1 b2 c'' (f all[i].Fields[k].Type_ c).1 (d : Int)) := by
      conv => lhs; rw [uc1]
      simp only [ub4 hi, ua2, lt_t hk, if_true, ub4 hk]
      rw [ug1 (show d ≤ 4611686018427387904 by omega), e1]
      simp only [ua2]
      rw [ub1 hk (by omega)]
    by_cases h0 : (f all[i].Fields[k].Type_ c).1 = 0
    · obtain ⟨e3, e4⟩ := e2 h0
      rw [if_neg (by rw [h0]; decide), e3, h0] at hstep
      obtain ⟨i1, i2, i3⟩ := ih (f all[i].Fields[k].Type_ c).2.1 e4
      rw [hstep]
      simp only [ud8, if_pos h0]
      exact ⟨i1, i2, i3⟩
    · rw [if_pos (by simpa using h0)] at hstep
      rw [hstep]
      simp only [ud8, if_neg h0]
      exact ⟨fun h => absurd h h0, fun _ => ⟨c'', rfl⟩, fun h => absurd h h0⟩
theorem x75 {l : List ua3} {d : Nat} (hd : d ≤ 100) {f : ua0 → Nat → Ex} (hf : ExpR l (d + 1) f) (all : List ua1) (hal : all.length ≤ 20) (b0 b1 b2 : Int) (hok : ∀ x ∈ all, x.Fields.length ≤ 8 ∧ ∀ y ∈ x.Fields, Ty l y.Type_) :
    ∀ {i}, i ≤ all.length → ∀ c : Nat, c ≤ 200 → ∃ c'', uc1 (.p8180 l all (i : Int) b0 b1 b2 (c : Int) 0 (d : Int)) = some (((c'', ((uf8 f (all.drop i) c).1, ((d : Int), ()))), ()), ()) ∧ ((uf8 f (all.drop i) c).1 = 0 → c'' = ((uf8 f (all.drop i) c).2.1 : Int) ∧ (uf8 f (all.drop i) c).2.1 ≤ 200) := by
  refine ub3 all (P := fun i => ∀ c : Nat, c ≤ 200 → ∃ c'', uc1 (.p8180 l all (i : Int) b0 b1 b2 (c : Int) 0 (d : Int)) = some (((c'', ((uf8 f (all.drop i) c).1, ((d : Int), ()))), ()), ()) ∧ ((uf8 f (all.drop i) c).1 = 0 → c'' = ((uf8 f (all.drop i) c).2.1 : Int) ∧ (uf8 f (all.drop i) c).2.1 ≤ 200)) ?_ ?_
  · intro c hc
    rw [List.drop_length]
    refine ⟨(c : Int), ?_, fun _ => ⟨rfl, hc⟩⟩
    rw [uc1]
    simp only [lt_f, Bool.false_eq_true, if_false, uf8]
  · intro i hi ih c hc
    obtain ⟨m1, m2⟩ := hok _ (List.getElem_mem hi)
    obtain ⟨i1, i2, i3⟩ := x76 hd hf all hal i hi b0 b1 b2 (by omega) m2 (Nat.zero_le _) c hc
    rw [List.drop_zero] at i1 i2 i3
    have hstep : uc1 (.p8180 l all (i : Int) b0 b1 b2 (c : Int) 0 (d : Int)) = uc1 (.p523556 l all (i : Int) ((0 : Nat) : Int) b0 b1 b2 (c : Int) 0 (d : Int)) := by
      conv => lhs; rw [uc1]
      simp only [lt_t hi, if_true]
      rfl
    rw [ub2 hi, hstep]
    by_cases h0 : (ud8 f all[i].Fields c).1 = 0
    · rw [i3 h0]
      simp only [uf8, if_pos h0]
      exact ih _ (i1 h0)
    · obtain ⟨c'', e⟩ := i2 h0
      rw [e]
      simp only [uf8, if_neg h0]
      exact ⟨c'', rfl, fun h => absurd h h0⟩
theorem x73 {l : List ua3} (hv : ux1 l) (d : Nat) (hd : d ≤ 100) {f : ua0 → Nat → Ex} (hf : d < 40 → ExpR l (d + 1) f) : ExpR l d (exS l (decide (d < 40)) f) := by
  intro t c ht hc
  have hlb : l.length ≤ big := by have := hv.len; unfold big; omega
  have hdec : (c + 1 ≤ 200 ∧ decide (d < 40) = true) ↔ (c + 1 ≤ 200 ∧ d < 40) := by simp
  rw [uc1]
  simp only [x07, ua2, ug1 (show c ≤ 4611686018427387904 by omega)]
  cases htr : tree t with
  | false =>
    have e : exS l (decide (d < 40)) f t c = (8, 0, junk) := by unfold exS; rw [htr]; rfl
    rw [e]
    exact ⟨_, rfl, fun h => (by cases h)⟩
  | true =>
    simp only [Bool.not_true, Bool.false_eq_true, if_false]
    by_cases hk2 : t.Kind = 2
    · have e : exS l (decide (d < 40)) f t c = (26, 0, junk) := by unfold exS; rw [htr, if_pos rfl, if_pos hk2]
      rw [e, if_pos (by simpa using hk2)]
      exact ⟨_, rfl, fun h => (by cases h)⟩
    · have hk1 : t.Kind = 1 := ht.kind.resolve_right hk2
      obtain ⟨hc1, hc2, hc3, hc4⟩ := ht.con hv.plain hk1
      rw [if_neg (by simpa using hk2), vt6]
      simp only [ua2]
      have h63 : ∀ b0 b1 b2 : Int, uc1 (.p63 l t.Kind t.Value t.Name t.Parts b0 b1 b2 ((c + 1 : Nat) : Int) 0 (d : Int)) = if c + 1 ≤ 200 ∧ d < 40 then uc1 (.p127 l t.Kind t.Value t.Name t.Parts b0 b1 b2 ((c + 1 : Nat) : Int) 0 (d : Int)) else some (((((c + 1 : Nat) : Int), ((8 : Int), ((d : Int), ()))), ()), ()) := by
        intro b0 b1 b2
        conv => lhs; rw [uc1]
        by_cases h2 : c + 1 ≤ 200
        · rw [decide_eq_false (by omega), if_neg (by simp)]
          by_cases h4 : d < 40
          · rw [decide_eq_false (by omega), if_neg (by simp), if_pos ⟨h2, h4⟩]
          · rw [decide_eq_true (by omega), if_pos rfl, if_neg (fun h => h4 h.2)]
        · rw [decide_eq_true (by omega), if_pos rfl, if_neg (fun h => h2 h.1)]
      by_cases hb : t.Name = sBit
      · obtain ⟨p, hp⟩ := hc1 hb
        have e : exS l (decide (d < 40)) f t c = (uh3 [if p.Kind = 2 then 0 else 26, if 1 ≤ p.Value ∧ p.Value ≤ 16 then 0 else 25, if c + 1 ≤ 200 ∧ d < 40 then 0 else 8], c + 1, ⟨p.Value, none⟩) := by
          unfold exS
          rw [htr, if_pos rfl, if_neg hk2, if_pos hb, hp]
          simp only [hdec]
        have hbt : decide (t.Kind = 1 ∧ t.Name = sBit) = true := decide_eq_true ⟨hk1, hb⟩
        have h127 : ∀ b0 b1 b2 : Int, uc1 (.p127 l t.Kind t.Value t.Name t.Parts b0 b1 b2 ((c + 1 : Nat) : Int) 0 (d : Int)) = some (((((c + 1 : Nat) : Int), ((0 : Int), ((d : Int), ()))), ()), ()) := by
          intro b0 b1 b2
          rw [uc1, vt6]
          simp only [ua2, hbt, if_true]
        rw [hbt, if_pos rfl]
        rw [e]
        rw [show idx t.Parts (0 : Int) = some p by rw [hp]; rfl]
        simp only [ua2]
        by_cases q1 : p.Kind = 2
        · rw [if_neg (by simpa using q1), uc1, vt6]
          simp only [ua2, hbt, if_true]
          rw [show idx t.Parts (0 : Int) = some p by rw [hp]; rfl]
          simp only [ua2, wr1, if_pos q1]
          by_cases q2 : 1 ≤ p.Value ∧ p.Value ≤ 16
          · rw [decide_eq_true q2]
            simp only [Bool.not_true, Bool.false_eq_true, if_false, if_pos q2, h63, h127]
            by_cases q3 : c + 1 ≤ 200 ∧ d < 40
            · simp only [if_pos q3]
              exact ⟨_, rfl, fun _ => ⟨rfl, q3.1⟩⟩
            · simp only [if_neg q3]
              exact ⟨_, rfl, fun h => (by cases h)⟩
          · rw [decide_eq_false q2]
            simp only [Bool.not_false, if_true, if_neg q2]
            exact ⟨_, rfl, fun h => (by cases h)⟩
        · rw [if_pos (by simpa using q1)]
          simp only [if_neg q1]
          exact ⟨_, rfl, fun h => (by cases h)⟩
      · have hbf : decide (t.Kind = 1 ∧ t.Name = sBit) = false := decide_eq_false fun h => hb h.2
        have h31 : ∀ b0 b1 b2 : Int, uc1 (.p31 l t.Kind t.Value t.Name t.Parts b0 b1 b2 ((c + 1 : Nat) : Int) 0 (d : Int)) = uc1 (.p63 l t.Kind t.Value t.Name t.Parts b0 b1 b2 ((c + 1 : Nat) : Int) 0 (d : Int)) := by
          intro b0 b1 b2
          conv => lhs; rw [uc1]
          rw [vt6]
          simp only [ua2, hbf, Bool.false_eq_true, if_false]
        rw [hbf, if_neg (by simp), h31, h63]
        by_cases q3 : c + 1 ≤ 200 ∧ d < 40
        · have e : exS l (decide (d < 40)) f t c = ((uf8 f (uc7 l t) (c + 1)).1, (uf8 f (uc7 l t) (c + 1)).2.1, ⟨0, some (uf8 f (uc7 l t) (c + 1)).2.2⟩) := by
            unfold exS
            rw [htr, if_pos rfl, if_neg hk2, if_neg hb, if_pos (hdec.2 q3)]
          have hs := ur9 htr
          obtain ⟨⟨_, m1⟩, m2⟩ := ul6 hv ht htr hk1
          rw [if_pos q3, e, uc1, vt6]
          simp only [ua2, hbf, Bool.false_eq_true, if_false]
          rw [xd4 hlb hv.plain hv.light t.Kind t.Value t.Name t.Parts hc2 (fun a ha => by have := uW9 ha; omega) (hc3 hb), ut0]
          simp only [ua2]
          have := x75 hd (hf q3.2) (uc7 l t) (by omega) 0 0 0 m2 (Nat.zero_le _) (c + 1) q3.1
          rw [List.drop_zero] at this
          exact this
        · have e : exS l (decide (d < 40)) f t c = (8, 0, junk) := by
            unfold exS
            rw [htr, if_pos rfl, if_neg hk2, if_neg hb, if_neg (fun h => q3 (hdec.1 h))]
          rw [e, if_neg q3]
          exact ⟨_, rfl, fun h => (by cases h)⟩
theorem x74 {l : List ua3} (hv : ux1 l) : ∀ n, n ≤ 40 → ExpR l (40 - n) (exT l n)
 | 0, _ => by
   have := x73 hv 40 (by omega) (f := fun _ _ => (8, 0, junk)) (fun h => by omega)
   exact this
 | n + 1, h => by
   have := x73 hv (40 - (n + 1)) (by omega) (f := exT l n) (fun _ => by rw [show 40 - (n + 1) + 1 = 40 - n by omega]; exact x74 hv n (by omega))
   rw [decide_eq_true (by omega)] at this
   exact this
end Go.Proofs.YtaennkkcnhfglaaGreatDoor.Ev.F
namespace Go.Proofs.YtaennkkcnhfglaaGreatDoor.Ev.F
open Go.Proofs.YtaennkkcnhfglaaGreatDoor.Ev
def tagN (n : Nat) : Nat := if n ≤ 1 then 0 else if n ≤ 2 then 1 else if n ≤ 4 then 2 else if n ≤ 8 then 3 else 4
mutual
def nds : ua4 → Nat
 | ⟨_, none⟩ => 1
 | ⟨_, some vs⟩ => 1 + ndsV vs
def ndsV : List data_variant → Nat
 | [] => 0
 | v :: r => ndsW v + ndsV r
def ndsW : data_variant → Nat
 | ⟨_, _, none⟩ => 0
 | ⟨_, _, some ps⟩ => ndsP ps
def ndsP : List (Option ua4) → Nat
 | [] => 0
 | none :: r => ndsP r
 | some x :: r => nds x + ndsP r
end
mutual
def wid : ua4 → Nat
 | ⟨b, none⟩ => b.toNat
 | ⟨_, some vs⟩ => tagN vs.length + rooms vs
def rooms : List data_variant → Nat
 | [] => 0
 | v :: r => max (roomV v) (rooms r)
def roomV : data_variant → Nat
 | ⟨_, _, none⟩ => 0
 | ⟨_, _, some ps⟩ => roomP ps
def roomP : List (Option ua4) → Nat
 | [] => 0
 | none :: r => roomP r
 | some x :: r => wid x + roomP r
end
inductive All2 {α β : Type} (R : α → β → Prop) : List α → List β → Prop
 | nil : All2 R [] []
 | cons {a : α} {b : β} {l : List α} {m : List β} (h : R a b) (t : All2 R l m) : All2 R (a :: l) (b :: m)
theorem All2.len {α β : Type} {R : α → β → Prop} {l : List α} {m : List β} (h : All2 R l m) : l.length = m.length := by
  induction h with
  | nil => rfl
  | cons _ _ ih => rw [List.length_cons, List.length_cons, ih]
theorem All2.get {α β : Type} {R : α → β → Prop} {l : List α} {m : List β} (h : All2 R l m) : ∀ (i : Nat) (h1 : i < l.length) (h2 : i < m.length), R l[i] m[i] := by
  induction h with
  | nil => intro i h1; simp at h1
  | cons h t ih =>
    intro i h1 h2
    cases i with
    | zero => exact h
    | succ i => exact ih i (by simpa using h1) (by simpa using h2)
theorem All2.memR {α β : Type} {R : α → β → Prop} {l : List α} {m : List β} (h : All2 R l m) : ∀ b ∈ m, ∃ a ∈ l, R a b := by
  induction h with
  | nil => intro b hb; cases hb
  | cons h t ih =>
    intro b hb
    rcases List.mem_cons.1 hb with rfl | hb
    · exact ⟨_, List.mem_cons_self .., h⟩
    · obtain ⟨a, ha, hr⟩ := ih b hb
      exact ⟨a, List.mem_cons_of_mem _ ha, hr⟩
def BitR (t : ua0) (x : ua4) : Prop := t.Kind = 1 ∧ t.Name = sBit ∧ ∃ p, t.Parts = [p] ∧ 1 ≤ p.Value ∧ p.Value ≤ 16 ∧ x = ⟨p.Value, none⟩
def FR (R : ua0 → ua4 → Prop) (f : ua6) (p : Option ua4) : Prop := ∃ x, p = some x ∧ R f.Type_ x
def VR (R : ua0 → ua4 → Prop) (c : ua1) (v : data_variant) : Prop := ∃ ps, v = ⟨c.Name, c.Fields, some ps⟩ ∧ All2 (FR R) c.Fields ps
def ConR (l : List ua3) (R : ua0 → ua4 → Prop) (t : ua0) (x : ua4) : Prop := t.Kind = 1 ∧ t.Name ≠ sBit ∧ Ty l t ∧ tree t = true ∧ ∃ vs, x = ⟨0, some vs⟩ ∧ All2 (VR R) (uc7 l t) vs
def SR (l : List ua3) : Nat → ua0 → ua4 → Prop
 | 0, _, _ => False
 | n + 1, t, x => BitR t x ∨ ConR l (SR l n) t x
def ExOk (l : List ua3) (R : ua0 → ua4 → Prop) (f : ua0 → Nat → Ex) : Prop := ∀ (t : ua0) (c : Nat), Ty l t → c ≤ 200 → (f t c).1 = 0 → R t (f t c).2.2 ∧ (f t c).2.1 = c + nds (f t c).2.2 ∧ (f t c).2.1 ≤ 200
theorem wo8 {l : List ua3} {R : ua0 → ua4 → Prop} {f : ua0 → Nat → Ex} (hf : ExOk l R f) : ∀ (fs : List ua6) (c : Nat), (∀ x ∈ fs, Ty l x.Type_) → c ≤ 200 → (ud8 f fs c).1 = 0 → All2 (FR R) fs (ud8 f fs c).2.2 ∧ (ud8 f fs c).2.1 = c + ndsP (ud8 f fs c).2.2 ∧ (ud8 f fs c).2.1 ≤ 200
 | [], c, _, hc, _ => ⟨.nil, by unfold ud8; simp only; rw [ndsP]; rfl, hc⟩
 | x :: r, c, hok, hc, h => by
   by_cases h0 : (f x.Type_ c).1 = 0
   · obtain ⟨a1, a2, a3⟩ := hf x.Type_ c (hok x (List.mem_cons_self ..)) hc h0
     simp only [ud8, if_pos h0] at h ⊢
     obtain ⟨b1, b2, b3⟩ := wo8 hf r _ (fun y hy => hok y (List.mem_cons_of_mem _ hy)) a3 h
     refine ⟨.cons ⟨_, rfl, a1⟩ b1, ?_, b3⟩
     rw [b2, ndsP, a2]
     omega
   · simp only [ud8, if_neg h0] at h
     exact absurd h h0
theorem wo7 {l : List ua3} {R : ua0 → ua4 → Prop} {f : ua0 → Nat → Ex} (hf : ExOk l R f) : ∀ (cs : List ua1) (c : Nat), (∀ x ∈ cs, ∀ y ∈ x.Fields, Ty l y.Type_) → c ≤ 200 → (uf8 f cs c).1 = 0 → All2 (VR R) cs (uf8 f cs c).2.2 ∧ (uf8 f cs c).2.1 = c + ndsV (uf8 f cs c).2.2 ∧ (uf8 f cs c).2.1 ≤ 200
 | [], c, _, hc, _ => ⟨.nil, by unfold uf8; simp only; rw [ndsV]; rfl, hc⟩
 | x :: r, c, hok, hc, h => by
   by_cases h0 : (ud8 f x.Fields c).1 = 0
   · obtain ⟨a1, a2, a3⟩ := wo8 hf x.Fields c (hok x (List.mem_cons_self ..)) hc h0
     simp only [uf8, if_pos h0] at h ⊢
     obtain ⟨b1, b2, b3⟩ := wo7 hf r _ (fun y hy => hok y (List.mem_cons_of_mem _ hy)) a3 h
     refine ⟨.cons ⟨_, rfl, a1⟩ b1, ?_, b3⟩
     rw [b2, ndsV, ndsW, a2]
     omega
   · simp only [uf8, if_neg h0] at h
     exact absurd h h0
theorem xa2 {l : List ua3} {b : Bool} {f : ua0 → Nat → Ex} {t : ua0} {c : Nat} (hv : ux1 l) (ht : Ty l t) (h : (exS l b f t c).1 = 0) : b = true ∧ c + 1 ≤ 200 ∧ tree t = true ∧ t.Kind = 1 ∧ ((BitR t (exS l b f t c).2.2 ∧ (exS l b f t c).2.1 = c + 1) ∨ (t.Name ≠ sBit ∧ exS l b f t c = ((uf8 f (uc7 l t) (c + 1)).1, (uf8 f (uc7 l t) (c + 1)).2.1, ⟨0, some (uf8 f (uc7 l t) (c + 1)).2.2⟩))) := by
  cases htr : tree t with
  | false => unfold exS at h; rw [htr] at h; simp at h
  | true =>
    by_cases hk2 : t.Kind = 2
    · unfold exS at h; rw [htr, if_pos rfl, if_pos hk2] at h; cases h
    · have hk1 := ht.kind.resolve_right hk2
      obtain ⟨hc1, _⟩ := ht.con hv.plain hk1
      by_cases hb : t.Name = sBit
      · obtain ⟨p, hp⟩ := hc1 hb
        have e : exS l b f t c = (uh3 [if p.Kind = 2 then 0 else 26, if 1 ≤ p.Value ∧ p.Value ≤ 16 then 0 else 25, if c + 1 ≤ 200 ∧ b = true then 0 else 8], c + 1, ⟨p.Value, none⟩) := by
          unfold exS
          rw [htr, if_pos rfl, if_neg hk2, if_pos hb, hp]
        rw [e] at h ⊢
        obtain ⟨_, h⟩ := ud0 h
        obtain ⟨h2, h⟩ := ud0 h
        obtain ⟨h3, _⟩ := ud0 h
        by_cases q3 : c + 1 ≤ 200 ∧ b = true
        · by_cases q2 : 1 ≤ p.Value ∧ p.Value ≤ 16
          · exact ⟨q3.2, q3.1, rfl, hk1, .inl ⟨⟨hk1, hb, p, hp, q2.1, q2.2, rfl⟩, rfl⟩⟩
          · rw [if_neg q2] at h2; cases h2
        · rw [if_neg q3] at h3; cases h3
      · by_cases q3 : c + 1 ≤ 200 ∧ b = true
        · refine ⟨q3.2, q3.1, rfl, hk1, .inr ⟨hb, ?_⟩⟩
          unfold exS
          rw [htr, if_pos rfl, if_neg hk2, if_neg hb, if_pos q3]
        · unfold exS at h
          rw [htr, if_pos rfl, if_neg hk2, if_neg hb, if_neg q3] at h; cases h
theorem vB1 (b : Int) : nds ⟨b, none⟩ = 1 := by rw [nds]
theorem u06 (b : Int) (vs : List data_variant) : nds ⟨b, some vs⟩ = 1 + ndsV vs := by rw [nds]
theorem wo5 {l : List ua3} (hv : ux1 l) : ∀ n, ExOk l (SR l n) (exT l n)
 | 0 => fun t c ht hc h => by
   have := (xa2 hv ht h).1
   cases this
 | n + 1 => fun t c ht hc h => by
   have h' : (exS l true (exT l n) t c).1 = 0 := h
   obtain ⟨_, h200, htr, hk1, hh⟩ := xa2 hv ht h'
   show SR l (n + 1) t (exS l true (exT l n) t c).2.2 ∧ (exS l true (exT l n) t c).2.1 = c + nds (exS l true (exT l n) t c).2.2 ∧ (exS l true (exT l n) t c).2.1 ≤ 200
   rcases hh with ⟨hb, e⟩ | ⟨hb, e⟩
   · rw [e]
     obtain ⟨q1, q2, p, q3, q4, q5, q6⟩ := id hb
     refine ⟨.inl hb, ?_, h200⟩
     rw [q6, vB1]
   · rw [e] at h' ⊢
     obtain ⟨_, m2⟩ := ul6 hv ht htr hk1
     obtain ⟨b1, b2, b3⟩ := wo7 (wo5 hv n) (uc7 l t) (c + 1) (fun x hx => (m2 x hx).2) h200 h'
     refine ⟨.inr ⟨hk1, hb, ht, htr, _, rfl, b1⟩, ?_, b3⟩
     simp only
     rw [u06, b2]
     omega
end Go.Proofs.YtaennkkcnhfglaaGreatDoor.Ev.F
namespace Go.Proofs.YtaennkkcnhfglaaGreatDoor.Ev.F
open Go.Proofs.YtaennkkcnhfglaaGreatDoor.Ev
theorem x63 (m : Nat) (h : m < 16) : ui9 (.start (m : Int)) = some (((tagN (m + 1) : Int), ()), ()) := by
  rw [ui9]
  rw [if_neg (by simp; omega), ui9]
  rw [if_neg (by simp; omega), ui9]
  rw [if_neg (by simp; omega), ui9]
  have hm : m = 0 ∨ m = 1 ∨ m = 2 ∨ m = 3 ∨ m = 4 ∨ m = 5 ∨ m = 6 ∨ m = 7 ∨ m = 8 ∨ m = 9 ∨ m = 10 ∨ m = 11 ∨ m = 12 ∨ m = 13 ∨ m = 14 ∨ m = 15 := by omega
  rcases hm with rfl | rfl | rfl | rfl | rfl | rfl | rfl | rfl | rfl | rfl | rfl | rfl | rfl | rfl | rfl | rfl <;> rfl
theorem ptag (b : Int) (vs : List data_variant) (h1 : 0 < vs.length) (h2 : vs.length ≤ 16) : uR0 (.start (some ⟨b, some vs⟩)) = some (((tagN vs.length : Int), ()), ()) := by
  rw [uR0]
  simp only [ua2, Option.getD_some]
  rw [show (List.length vs : Int) - 1 = ((vs.length - 1 : Nat) : Int) by omega, wrap_i64 (by omega) (by omega)]
  rw [show IntKind.wrap .u64 ((vs.length - 1 : Nat) : Int) = ((vs.length - 1 : Nat) : Int) by simp [IntKind.wrap, IntKind.bits, IntKind.signed]; omega]
  rw [u22, x63 _ (by omega)]
  simp only [ua2]
  rw [show vs.length - 1 + 1 = vs.length by omega]
theorem xg2 (k : Nat) (h : k ≤ 62) : u29 (.start (k : Int)) = some ((((2 ^ k : Nat) : Int), ()), ()) := by
  rw [u29, if_pos (by simp), vE9 (by omega)]
  simp [pw]
theorem uU9 (c : Int) (k : Nat) (h : k ≤ 10) : uv2 (.p56 c (k : Int)) = if ((2 ^ k : Nat) : Int) < c then uv2 (.p56 c ((k + 1 : Nat) : Int)) else some (((k : Int), ()), ()) := by
  conv => lhs; rw [uv2]
  rw [xg2 k (by omega)]
  simp only [ua2, ug1 (show k ≤ 4611686018427387904 by omega)]
  by_cases h : ((2 ^ k : Nat) : Int) < c
  · rw [decide_eq_true h, if_pos rfl, if_pos h]
  · rw [decide_eq_false h, if_neg (by simp), if_neg h]
theorem rtag (n : Nat) (h : n ≤ 16) : uv2 (.start (n : Int)) = some (((tagN n : Int), ()), ()) := by
  rw [uv2, show ((0 : Int)) = ((0 : Nat) : Int) from rfl]
  unfold tagN
  rw [uU9 _ 0 (by omega)]
  by_cases h1 : n ≤ 1
  · rw [if_neg (by simp; omega), if_pos h1]
  · rw [if_pos (by simp; omega), if_neg h1, uU9 _ 1 (by omega)]
    by_cases h2 : n ≤ 2
    · rw [if_neg (by simp; omega), if_pos h2]
    · rw [if_pos (by simp; omega), if_neg h2, uU9 _ 2 (by omega)]
      by_cases h4 : n ≤ 4
      · rw [if_neg (by simp; omega), if_pos h4]
      · rw [if_pos (by simp; omega), if_neg h4, uU9 _ 3 (by omega)]
        by_cases h8 : n ≤ 8
        · rw [if_neg (by simp; omega), if_pos h8]
        · rw [if_pos (by simp; omega), if_neg h8, uU9 _ 4 (by omega)]
          rw [if_neg (by simp; omega)]
theorem x15 (n : Nat) : tagN n ≤ 4 := by
  unfold tagN
  split
  · omega
  · split
    · omega
    · split
      · omega
      · split <;> omega
theorem uR4 (b : Int) : wid ⟨b, none⟩ = b.toNat := by rw [wid]
theorem uD7 (b : Int) (vs : List data_variant) : wid ⟨b, some vs⟩ = tagN vs.length + rooms vs := by rw [wid]
theorem up6 (v : data_variant) (r : List data_variant) : rooms (v :: r) = max (roomV v) (rooms r) := by rw [rooms]
theorem vi0 : rooms [] = 0 := by rw [rooms]
theorem up5 (n : ByteArray) (fs : List ua6) (ps : List (Option ua4)) : roomV ⟨n, fs, some ps⟩ = roomP ps := by rw [roomV]
theorem ur0 : roomP [] = 0 := by rw [roomP]
theorem ue7 (x : ua4) (r : List (Option ua4)) : roomP (some x :: r) = wid x + roomP r := by rw [roomP]
theorem uF0 (v : data_variant) (r : List data_variant) : ndsV (v :: r) = ndsW v + ndsV r := by rw [ndsV]
theorem uy4 (n : ByteArray) (fs : List ua6) (ps : List (Option ua4)) : ndsW ⟨n, fs, some ps⟩ = ndsP ps := by rw [ndsW]
theorem uE9 (x : ua4) (r : List (Option ua4)) : ndsP (some x :: r) = nds x + ndsP r := by rw [ndsP]
def AllP (Q : ua4 → Prop) (ps : List (Option ua4)) : Prop := ∀ p ∈ ps, ∃ x, p = some x ∧ Q x
def AllV (Q : ua4 → Prop) (vs : List data_variant) : Prop := ∀ v ∈ vs, ∃ n fs ps, v = ⟨n, fs, some ps⟩ ∧ fs.length = ps.length ∧ ps.length ≤ 8 ∧ AllP Q ps
theorem AllP.tail {Q : ua4 → Prop} {p : Option ua4} {r : List (Option ua4)} (h : AllP Q (p :: r)) : AllP Q r := fun x hx => h x (List.mem_cons_of_mem _ hx)
theorem AllV.tail {Q : ua4 → Prop} {p : data_variant} {r : List data_variant} (h : AllV Q (p :: r)) : AllV Q r := fun x hx => h x (List.mem_cons_of_mem _ hx)
theorem AllP.mono {Q R : ua4 → Prop} (hq : ∀ x, Q x → R x) {ps : List (Option ua4)} (h : AllP Q ps) : AllP R ps := fun p hp => by
  obtain ⟨x, hx, hx2⟩ := h p hp
  exact ⟨x, hx, hq x hx2⟩
theorem AllV.mono {Q R : ua4 → Prop} (hq : ∀ x, Q x → R x) {vs : List data_variant} (h : AllV Q vs) : AllV R vs := fun v hv => by
  obtain ⟨n, fs, ps, h1, h2, h3, h4⟩ := h v hv
  exact ⟨n, fs, ps, h1, h2, h3, h4.mono hq⟩
theorem AllP.of {R : ua0 → ua4 → Prop} {Q : ua4 → Prop} (hq : ∀ t x, R t x → Q x) {fs : List ua6} {ps : List (Option ua4)} (h : All2 (FR R) fs ps) : AllP Q ps := fun p hp => by
  obtain ⟨f, _, x, e, hr⟩ := h.memR p hp
  exact ⟨x, e, hq _ _ hr⟩
theorem AllV.of {R : ua0 → ua4 → Prop} {Q : ua4 → Prop} (hq : ∀ t x, R t x → Q x) {cs : List ua1} (hc : ∀ c ∈ cs, c.Fields.length ≤ 8) {vs : List data_variant} (h : All2 (VR R) cs vs) : AllV Q vs := fun v hv => by
  obtain ⟨c, hcm, ps, e, hr⟩ := h.memR v hv
  exact ⟨c.Name, c.Fields, ps, e, hr.len, by rw [← hr.len]; exact hc c hcm, AllP.of hq hr⟩
theorem vB2 {ps : List (Option ua4)} {x : ua4} (h : some x ∈ ps) : nds x ≤ ndsP ps := by
  induction ps with
  | nil => cases h
  | cons p r ih =>
    rcases List.mem_cons.1 h with rfl | h
    · rw [uE9]; omega
    · have := ih h
      cases p with
      | none => rw [ndsP]; exact this
      | some y => rw [uE9]; omega
theorem vB0 {vs : List data_variant} {v : data_variant} (h : v ∈ vs) : ndsW v ≤ ndsV vs := by
  induction vs with
  | nil => cases h
  | cons p r ih =>
    rw [uF0]
    rcases List.mem_cons.1 h with rfl | h
    · omega
    · have := ih h; omega
def PW (x : ua4) : Prop := nds x ≤ 200 → run_z41 (.start (some x)) = some (((wid x : Int), ()), ()) ∧ wid x ≤ 16 * nds x
theorem vC0 {ps : List (Option ua4)} (h : AllP PW ps) (hn : ndsP ps ≤ 200) : roomP ps ≤ 16 * ndsP ps := by
  induction ps with
  | nil => rw [ur0]; omega
  | cons p r ih =>
    obtain ⟨x, rfl, hx⟩ := h p (List.mem_cons_self ..)
    rw [uE9] at hn
    rw [ue7, uE9]
    have := (hx (by omega)).2
    have := ih h.tail (by omega)
    omega
theorem xJ3 {vs : List data_variant} (h : AllV PW vs) (hn : ndsV vs ≤ 200) : rooms vs ≤ 16 * ndsV vs := by
  induction vs with
  | nil => rw [vi0]; omega
  | cons v r ih =>
    obtain ⟨n, fs, ps, rfl, _, _, hp⟩ := h v (List.mem_cons_self ..)
    rw [uF0, uy4] at hn
    rw [up6, uF0, uy4, up5]
    have := vC0 hp (by omega)
    have := ih h.tail (by omega)
    omega
theorem xM9 (n : ByteArray) (fs : List ua6) {ps : List (Option ua4)} (h : AllP PW ps) (hl : ps.length ≤ 8) (hn : ndsP ps ≤ 200) : uj0 (.start n fs (some ps)) = some (((roomP ps : Int), ()), ()) := by
  rw [uj0]
  simp only [Option.getD_some]
  have loop : ∀ {i}, i ≤ ps.length → ∀ s : Nat, s + roomP (ps.drop i) ≤ 100000 → uj0 (.p116 (s : Int) (some ps) (List.length ps : Int) (i : Int)) = some ((((s + roomP (ps.drop i) : Nat) : Int), ()), ()) := by
    refine ub3 ps (P := fun i => ∀ s : Nat, s + roomP (ps.drop i) ≤ 100000 → uj0 (.p116 (s : Int) (some ps) (List.length ps : Int) (i : Int)) = some ((((s + roomP (ps.drop i) : Nat) : Int), ()), ())) ?_ ?_
    · intro s hs
      rw [uj0, List.drop_length, ur0]
      simp only [lt_f, Bool.false_eq_true, if_false]
      rfl
    · intro i hi ih s hs
      obtain ⟨x, hx, hq⟩ := h ps[i] (List.getElem_mem hi)
      have hm : nds x ≤ ndsP ps := vB2 (hx ▸ List.getElem_mem hi)
      rw [uj0]
      simp only [lt_t hi, if_true, Option.getD_some, ub4 hi, ua2, hx, (hq (by omega)).1]
      rw [ub2 hi, hx, ue7] at hs ⊢
      rw [ub1 hi (by omega), ← Int.natCast_add, wrap_i64 (by omega) (by omega), ih (s + wid x) (by omega), Nat.add_assoc]
  have hr := vC0 h hn
  have := loop (Nat.zero_le _) 0 (by rw [List.drop_zero]; omega)
  rw [List.drop_zero, Nat.zero_add] at this
  exact this
theorem xZ6 (b : Int) {vs : List data_variant} (h : AllV PW vs) (hl : vs.length ≤ 16) (hn : ndsV vs ≤ 200) : run_z42 (.start (some ⟨b, some vs⟩)) = some (((rooms vs : Int), ()), ()) := by
  rw [run_z42]
  simp only [ua2, Option.getD_some]
  have loop : ∀ {i}, i ≤ vs.length → ∀ s : Nat, run_z42 (.p116 (s : Int) (some vs) (List.length vs : Int) (i : Int)) = some ((((max s (rooms (vs.drop i)) : Nat) : Int), ()), ()) := by
    refine ub3 vs (P := fun i => ∀ s : Nat, run_z42 (.p116 (s : Int) (some vs) (List.length vs : Int) (i : Int)) = some ((((max s (rooms (vs.drop i)) : Nat) : Int), ()), ())) ?_ ?_
    · intro s
      rw [run_z42, List.drop_length, vi0]
      simp only [lt_f, Bool.false_eq_true, if_false, Nat.max_zero]
    · intro i hi ih s
      obtain ⟨n, fs, ps, hx, _, hpl, hq⟩ := h vs[i] (List.getElem_mem hi)
      have hm := vB0 (List.getElem_mem hi)
      rw [hx, uy4] at hm
      rw [run_z42]
      simp only [lt_t hi, if_true, Option.getD_some, ub4 hi, ua2, hx]
      rw [xM9 n fs hq hpl (by omega)]
      simp only [ua2]
      rw [ub2 hi, hx, up6, up5, ub1 hi (by omega)]
      rw [show (if (roomP ps : Int) > (s : Int) then (roomP ps : Int) else (s : Int)) = ((max s (roomP ps) : Nat) : Int) by
        by_cases hh : (roomP ps : Int) > (s : Int)
        · rw [if_pos hh]; omega
        · rw [if_neg hh]; omega]
      rw [ih, Nat.max_assoc]
  have := loop (Nat.zero_le _) 0
  rw [List.drop_zero, Nat.zero_max] at this
  exact this
def SOkN : Nat → ua4 → Prop
 | 0, _ => False
 | n + 1, x => (∃ b : Int, 1 ≤ b ∧ b ≤ 16 ∧ x = ⟨b, none⟩) ∨ (∃ vs : List data_variant, 0 < vs.length ∧ vs.length ≤ 16 ∧ AllV (SOkN n) vs ∧ x = ⟨0, some vs⟩)
def SOk (x : ua4) : Prop := ∃ n, SOkN n x
theorem sokN {l : List ua3} (hv : ux1 l) : ∀ n t x, SR l n t x → SOkN n x
 | 0, t, x, h => h.elim
 | n + 1, t, x, h => by
   rcases h with ⟨_, _, p, _, h1, h2, rfl⟩ | ⟨hk, hb, ht, htr, vs, rfl, hr⟩
   · exact .inl ⟨_, h1, h2, rfl⟩
   · obtain ⟨⟨m0, m1⟩, m2⟩ := ul6 hv ht htr hk
     have hlen := hr.len
     exact .inr ⟨vs, by omega, by omega, AllV.of (fun t x h => sokN hv n t x h) (fun c hc => (m2 c hc).1) hr, rfl⟩
theorem sok {l : List ua3} (hv : ux1 l) {n : Nat} {t : ua0} {x : ua4} (h : SR l n t x) : SOk x := ⟨n, sokN hv n t x h⟩
theorem uU3 (b : Int) : ur6 (.start (some ⟨b, none⟩)) = some ((true, ()), ()) := rfl
theorem uU4 (b : Int) (vs : List data_variant) (h : 0 < vs.length) : ur6 (.start (some ⟨b, some vs⟩)) = some ((false, ()), ()) := by
  cases vs with
  | nil => simp at h
  | cons => rfl
theorem vj3 {Q : ua4 → Prop} (hb : ∀ b : Int, 1 ≤ b → b ≤ 16 → Q ⟨b, none⟩) (hc : ∀ vs : List data_variant, 0 < vs.length → vs.length ≤ 16 → AllV (fun x => SOk x ∧ Q x) vs → Q ⟨0, some vs⟩) : ∀ x, SOk x → Q x := by
  have key : ∀ n x, SOkN n x → Q x := by
    intro n
    induction n with
    | zero => intro x h; exact h.elim
    | succ n ih =>
      intro x h
      rcases h with ⟨b, h1, h2, rfl⟩ | ⟨vs, h0, h1, h, rfl⟩
      · exact hb b h1 h2
      · exact hc vs h0 h1 (h.mono fun x hx => ⟨⟨n, hx⟩, ih x hx⟩)
  exact fun x ⟨n, h⟩ => key n x h
theorem pwid : ∀ x, SOk x → PW x := by
  refine vj3 (fun b h1 h2 => ?_) (fun vs h0 h1 h => ?_)
  · intro _
    rw [run_z41, uU3, uR4, vB1]
    simp only [ua2, if_true]
    refine ⟨?_, by omega⟩
    rw [Int.toNat_of_nonneg (by omega)]
  · intro hn
    rw [u06] at hn ⊢
    have h' : AllV PW vs := h.mono fun x hx => hx.2
    have hr := xJ3 h' (by omega)
    have ht := x15 vs.length
    rw [run_z41, uU4 _ _ h0, uD7]
    simp only [ua2, Bool.false_eq_true, if_false, ptag _ vs h0 h1, xZ6 0 h' h1 (by omega)]
    rw [← Int.natCast_add, wrap_i64 (by omega) (by omega)]
    exact ⟨rfl, by omega⟩
end Go.Proofs.YtaennkkcnhfglaaGreatDoor.Ev.F
namespace Go.Proofs.YtaennkkcnhfglaaGreatDoor.Ev.F
open Go.Proofs.YtaennkkcnhfglaaGreatDoor.Ev
theorem xg8 {x : ua4} (h : SOk x) (hn : nds x ≤ 200) : wid x ≤ 3200 := by
  have := (pwid x h hn).2
  omega
def RW (l : List ua3) (t : ua0) (x : ua4) : Prop := nds x ≤ 200 → SOk x ∧ run_z94 (.start l t.Kind t.Value t.Name t.Parts) = some (((wid x : Int), ()), ())
theorem xJ5 {l : List ua3} (c : ua1) (hl : c.Fields.length ≤ 8) {ps : List (Option ua4)} (h : All2 (FR (RW l)) c.Fields ps) (hn : ndsP ps ≤ 200) : uv3 (.start l c.Name c.Fields) = some (((roomP ps : Int), ()), ()) := by
  rw [uv3]
  have hlen := h.len
  have hP : AllP (fun x => nds x ≤ 200 → SOk x) ps := AllP.of (fun t x hx hn => (hx hn).1) h
  have hW : AllP PW ps := fun p hp => by
    obtain ⟨x, e, hx⟩ := hP p hp
    have : nds x ≤ ndsP ps := vB2 (e ▸ hp)
    exact ⟨x, e, pwid x (hx (by omega))⟩
  have hr := vC0 hW hn
  have loop : ∀ {i}, i ≤ c.Fields.length → ∀ s : Nat, s + roomP (ps.drop i) ≤ 100000 → uv3 (.p116 l (s : Int) (i : Int) c.Name c.Fields) = some ((((s + roomP (ps.drop i) : Nat) : Int), ()), ()) := by
    refine ub3 c.Fields (P := fun i => ∀ s : Nat, s + roomP (ps.drop i) ≤ 100000 → uv3 (.p116 l (s : Int) (i : Int) c.Name c.Fields) = some ((((s + roomP (ps.drop i) : Nat) : Int), ()), ())) ?_ ?_
    · intro s hs
      rw [uv3, hlen, List.drop_length, ur0]
      simp only [lt_f, Bool.false_eq_true, if_false]
      rfl
    · intro i hi ih s hs
      have hi2 : i < ps.length := by omega
      obtain ⟨x, hx, hq⟩ := h.get i hi hi2
      have hm : nds x ≤ ndsP ps := vB2 (hx ▸ List.getElem_mem hi2)
      rw [uv3]
      simp only [lt_t hi, if_true, ub4 hi, ua2, (hq (by omega)).2]
      rw [ub2 hi2, hx, ue7] at hs ⊢
      rw [ub1 hi (by omega), ← Int.natCast_add, wrap_i64 (by omega) (by omega), ih (s + wid x) (by omega), Nat.add_assoc]
  have := loop (Nat.zero_le _) 0 (by rw [List.drop_zero]; omega)
  rw [List.drop_zero, Nat.zero_add] at this
  exact this
theorem x70 {l : List ua3} (hv : ux1 l) {t : ua0} (hk : t.Kind = 1) (hb : t.Name ≠ sBit) (ht : Ty l t) (htr : tree t = true) : ug2 (.start l t.Kind t.Value t.Name t.Parts) = some ((uc7 l t, ()), ()) := by
  obtain ⟨hc1, hc2, hc3, hc4⟩ := ht.con hv.plain hk
  have hs := ur9 htr
  have := xd4 (show l.length ≤ big by have := hv.len; unfold big; omega) hv.plain hv.light t.Kind t.Value t.Name t.Parts hc2 (fun a ha => by have := uW9 ha; omega) (hc3 hb)
  rw [ut0] at this
  exact this
theorem yb0 {l : List ua3} (hv : ux1 l) {t : ua0} (hk : t.Kind = 1) (hb : t.Name ≠ sBit) (ht : Ty l t) (htr : tree t = true) {vs : List data_variant} (h : All2 (VR (RW l)) (uc7 l t) vs) (hn : ndsV vs ≤ 200) : run_z95 (.start l t.Kind t.Value t.Name t.Parts) = some (((rooms vs : Int), ()), ()) := by
  rw [run_z95, x70 hv hk hb ht htr]
  simp only [ua2]
  obtain ⟨⟨m0, m1⟩, m2⟩ := ul6 hv ht htr hk
  have hlen := h.len
  have loop : ∀ {i}, i ≤ (uc7 l t).length → ∀ s : Nat, run_z95 (.p116 l (uc7 l t) (s : Int) (i : Int)) = some ((((max s (rooms (vs.drop i)) : Nat) : Int), ()), ()) := by
    refine ub3 (uc7 l t) (P := fun i => ∀ s : Nat, run_z95 (.p116 l (uc7 l t) (s : Int) (i : Int)) = some ((((max s (rooms (vs.drop i)) : Nat) : Int), ()), ())) ?_ ?_
    · intro s
      rw [run_z95, hlen, List.drop_length, vi0]
      simp only [lt_f, Bool.false_eq_true, if_false, Nat.max_zero]
    · intro i hi ih s
      have hi2 : i < vs.length := by omega
      obtain ⟨ps, hx, hq⟩ := h.get i hi hi2
      have hm := vB0 (List.getElem_mem hi2)
      rw [hx, uy4] at hm
      rw [run_z95]
      simp only [lt_t hi, if_true, ub4 hi, ua2, xJ5 _ (m2 _ (List.getElem_mem hi)).1 hq (by omega)]
      rw [ub2 hi2, hx, up6, up5, ub1 hi (by omega)]
      rw [show (if (roomP ps : Int) > (s : Int) then (roomP ps : Int) else (s : Int)) = ((max s (roomP ps) : Nat) : Int) by
        by_cases hh : (roomP ps : Int) > (s : Int)
        · rw [if_pos hh]; omega
        · rw [if_neg hh]; omega]
      rw [ih, Nat.max_assoc]
  have := loop (Nat.zero_le _) 0
  rw [List.drop_zero, Nat.zero_max] at this
  exact this
theorem All2.mono {α β : Type} {R R' : α → β → Prop} (hr : ∀ a b, R a b → R' a b) {l : List α} {m : List β} (h : All2 R l m) : All2 R' l m := by
  induction h with
  | nil => exact .nil
  | cons h t ih => exact .cons (hr _ _ h) ih
theorem VR.mono {R R' : ua0 → ua4 → Prop} (hr : ∀ t x, R t x → R' t x) {c : ua1} {v : data_variant} (h : VR R c v) : VR R' c v := by
  obtain ⟨ps, e, h⟩ := h
  exact ⟨ps, e, h.mono fun f p ⟨x, e, hx⟩ => ⟨x, e, hr _ _ hx⟩⟩
theorem rwid {l : List ua3} (hv : ux1 l) : ∀ n t x, SR l n t x → RW l t x
 | 0, t, x, h => h.elim
 | n + 1, t, x, h => fun hn => by
   have hsok := sok hv h
   refine ⟨hsok, ?_⟩
   rw [run_z94, vt6]
   rcases h with ⟨hk, hb, p, hp, h1, h2, rfl⟩ | ⟨hk, hb, ht, htr, vs, rfl, hr⟩
   · rw [decide_eq_true (show t.Kind = 1 ∧ t.Name = sBit from ⟨hk, hb⟩), hp, uR4]
     simp only [ua2, if_true, show idx [p] (0 : Int) = some p from rfl]
     rw [Int.toNat_of_nonneg (by omega)]
   · rw [decide_eq_false (fun h => hb h.2)]
     rw [u06] at hn
     obtain ⟨⟨m0, m1⟩, m2⟩ := ul6 hv ht htr hk
     have hr' : All2 (VR (RW l)) (uc7 l t) vs := hr.mono fun c v h => h.mono fun t x h => rwid hv n t x h
     have hlen := hr.len
     simp only [ua2, Bool.false_eq_true, if_false, x70 hv hk hb ht htr, rtag _ m1, yb0 hv hk hb ht htr hr' (by omega)]
     rw [uD7, hlen]
     have := xg8 hsok (by rw [u06]; omega)
     rw [uD7] at this
     rw [← Int.natCast_add, wrap_i64 (by omega) (by omega)]
def wB5 (l : List ua3) (t : ua0) : Int := if us0 l [] t = 0 then (if (exT l 40 t 0).1 = 0 then (if 1 ≤ wid (exT l 40 t 0).2.2 ∧ wid (exT l 40 t 0).2.2 ≤ 16 then 0 else 25) else (exT l 40 t 0).1) else us0 l [] t
def ut4 (l : List ua3) (t : ua0) : Int := if (uY5 l).2 = 0 then wB5 l t else (uY5 l).2
structure wi7 (l : List ua3) (t : ua0) (x : ua4) : Prop where
  valid : ux1 l
  ty : Ty l t
  tree : tree t = true
  sr : SR l 40 t x
  nds : nds x ≤ 200
  w1 : 1 ≤ wid x
  w16 : wid x ≤ 16
theorem un1.light {d : ua3} (h : un1 d) : us2 d := ⟨h.plen, h.clen, fun c hc => ⟨(h.cs c hc).len, fun f hf => ((h.cs c hc).fs f hf).tree⟩⟩
theorem ut7 {l : List ua3} (hd : ∀ d ∈ l, us2 d) {t : ua0} (h : ut4 l t = 0) : wi7 l t (exT l 40 t 0).2.2 := by
  unfold ut4 at h
  by_cases h0 : (uY5 l).2 = 0
  · rw [if_pos h0] at h
    have hv := vF6 hd h0
    unfold wB5 at h
    by_cases h1 : us0 l [] t = 0
    · rw [if_pos h1] at h
      obtain ⟨htr, hn⟩ := uM1 h1
      have hs := ur9 htr
      have hty : Ty l t := ⟨by omega, hn⟩
      by_cases h2 : (exT l 40 t 0).1 = 0
      · rw [if_pos h2] at h
        obtain ⟨a1, a2, a3⟩ := wo5 hv 40 t 0 hty (by omega) h2
        by_cases h3 : 1 ≤ wid (exT l 40 t 0).2.2 ∧ wid (exT l 40 t 0).2.2 ≤ 16
        · exact ⟨hv, hty, htr, a1, by omega, h3.1, h3.2⟩
        · rw [if_neg h3] at h; cases h
      · rw [if_neg h2] at h; exact absurd h h2
    · rw [if_neg h1] at h; exact absurd h h1
  · rw [if_neg h0] at h; exact absurd h h0
theorem xI6 {l : List ua3} (hl : l.length ≤ 24) (hd : ∀ d ∈ l, un1 d) {t : ua0} (ht : lenOk t) : ∃ o, uu8 (.start l t.Kind t.Value t.Name t.Parts) = some ((o, ((l, ((), ())), (ut4 l t, ()))), ()) ∧ (ut4 l t = 0 → o = some (exT l 40 t 0).2.2) := by
  rw [uu8, x57 l hl hd]
  simp only [ua2]
  unfold ut4
  by_cases h0 : (uY5 l).2 = 0
  · have hv := vF6 (fun d h => (hd d h).light) h0
    rw [if_neg (by simpa using h0), if_pos h0, xN1 (by unfold big; omega) (by simp) t ht]
    simp only [ua2]
    unfold wB5
    by_cases h1 : us0 l [] t = 0
    · rw [h1, if_neg (by decide), if_pos rfl]
      obtain ⟨htr, hn⟩ := uM1 h1
      have hs := ur9 htr
      have hty : Ty l t := ⟨by omega, hn⟩
      obtain ⟨_, o, c'', e1, e2⟩ := x60 hv 40 (by omega) t 0 hty (by omega)
      rw [show ((41 - 40 : Nat) : Int) = 1 from rfl, show ((0 : Nat) : Int) = 0 from rfl] at e1
      rw [e1]
      simp only [ua2]
      by_cases h2 : (exT l 40 t 0).1 = 0
      · obtain ⟨a1, a2, a3⟩ := wo5 hv 40 t 0 hty (by omega) h2
        rw [h2, if_pos (by decide), if_pos rfl, (e2 h2).1, (pwid _ (sok hv a1) (by omega)).1]
        simp only [ua2, u13]
        by_cases h3 : 1 ≤ wid (exT l 40 t 0).2.2 ∧ wid (exT l 40 t 0).2.2 ≤ 16
        · rw [decide_eq_true (by omega), if_neg (by simp), if_pos h3]
          exact ⟨_, rfl, fun _ => rfl⟩
        · rw [decide_eq_false (by omega), if_pos (by simp), if_neg h3]
          exact ⟨_, rfl, fun h => (by cases h)⟩
      · rw [if_neg (by simpa using h2), if_neg h2]
        exact ⟨_, rfl, fun h => absurd h h2⟩
    · rw [if_pos (by simpa using h1), if_neg h1]
      exact ⟨_, rfl, fun h => absurd h h1⟩
  · rw [if_pos (by simpa using h0), if_neg h0]
    exact ⟨_, rfl, fun h => absurd h h0⟩
theorem ya5 {l : List ua3} (hl : l.length ≤ 24) (hd : ∀ d ∈ l, un1 d) {t : ua0} (ht : lenOk t) : vj1 (.start l t.Kind t.Value t.Name t.Parts) = some ((ut4 l t, ()), ()) := by
  rw [vj1, vE1, x69 l hl hd]
  simp only [ua2]
  unfold ut4
  by_cases h0 : (uY5 l).2 = 0
  · have hv := vF6 (fun d h => (hd d h).light) h0
    rw [if_neg (by simpa using h0), if_pos h0, vE2, xN5 (by unfold big; omega) (by simp) hv.plain t ht]
    simp only [ua2]
    unfold wB5
    by_cases h1 : us0 l [] t = 0
    · rw [h1, if_neg (by decide), if_pos rfl]
      obtain ⟨htr, hn⟩ := uM1 h1
      have hs := ur9 htr
      have hty : Ty l t := ⟨by omega, hn⟩
      obtain ⟨c'', e1, e2⟩ := x74 hv 40 (by omega) t 0 hty (by omega)
      rw [show ((40 - 40 : Nat) : Int) = 0 from rfl] at e1
      rw [e1]
      simp only [ua2]
      by_cases h2 : (exT l 40 t 0).1 = 0
      · obtain ⟨a1, a2, a3⟩ := wo5 hv 40 t 0 hty (by omega) h2
        rw [h2, if_neg (by decide), if_pos rfl, (rwid hv 40 t _ a1 (by omega)).2]
        simp only [ua2, wr1]
        by_cases h3 : 1 ≤ wid (exT l 40 t 0).2.2 ∧ wid (exT l 40 t 0).2.2 ≤ 16
        · rw [decide_eq_true (by omega), if_neg (by simp), if_pos h3]
          simp only [ua2]
        · rw [decide_eq_false (by omega), if_pos (by simp), if_neg h3]
          simp only [ua2]
      · rw [if_pos (by simpa using h2), if_neg h2]
        simp only [ua2]
    · rw [if_pos (by simpa using h1), if_neg h1]
      simp only [ua2]
  · rw [if_pos (by simpa using h0), if_neg h0]
end Go.Proofs.YtaennkkcnhfglaaGreatDoor.Ev.F
namespace Go.Proofs.YtaennkkcnhfglaaGreatDoor.Ev.F
open Go.Proofs.YtaennkkcnhfglaaGreatDoor.Ev Go.Proofs
def DHyp (a0 : List ua3) : Prop := (a0.length ≤ maxLen ∧ ∀ x ∈ a0, (x.Name.size ≤ maxLen) ∧ (x.Params.length ≤ maxLen ∧ ∀ y ∈ x.Params, y.size ≤ maxLen) ∧ (x.Constructors.length ≤ maxLen ∧ ∀ y ∈ x.Constructors, (y.Name.size ≤ maxLen) ∧ (y.Fields.length ≤ maxLen ∧ ∀ x ∈ y.Fields, (x.Name.size ≤ maxLen) ∧ (ue5 x.Type_) ∧ True) ∧ True) ∧ True)
theorem w97 {l : List ua3} (h : DHyp l) (hl : ∀ d ∈ l, us2 d) : ∀ d ∈ l, un1 d := by
  intro d hd
  obtain ⟨h1, h2⟩ := h
  obtain ⟨n1, n2, n3, _⟩ := h2 d hd
  have hld := hl d hd
  refine ⟨n1, hld.plen, n2.2, hld.clen, fun c hc => ?_⟩
  obtain ⟨c1, c2, _⟩ := n3.2 c hc
  obtain ⟨m1, m2⟩ := hld.cs c hc
  exact ⟨c1, m1, fun f hf => ⟨(c2.2 f hf).1, m2 f hf⟩⟩
theorem xH9 {t : ua0} (h : ue5 t) : lenOk t := by
  revert h
  refine uk7 (P := fun t => ue5 t → lenOk t) (fun k v s ts ih h => ?_) t
  obtain ⟨_, h0, h1, h2, h3, h4⟩ := h
  exact .mk k v s ts h3 fun p hp => ih p hp (h4 p hp)
theorem xZ9 (vs : List data_variant) (s : ByteArray) (hl : vs.length ≤ big) (o : Option (List data_variant)) (ho : o.getD [] = vs) : um8 (.start o s) = some ((ix (fun v => decide (v.name = s)) vs, ()), ((s, ()), ())) := by
  rw [um8, ho]
  have : ∀ {i}, i ≤ vs.length → um8 (.p52 o (List.length vs : Int) (i : Int) s) = some ((ixAt (fun v => decide (v.name = s)) i (vs.drop i), ()), ((s, ()), ())) := by
    refine ub3 vs (P := fun i => um8 (.p52 o (List.length vs : Int) (i : Int) s) = some ((ixAt (fun v => decide (v.name = s)) i (vs.drop i), ()), ((s, ()), ()))) ?_ ?_
    · rw [um8]; simp [ixAt]
    · intro i hi ih
      rw [um8]
      simp only [lt_t hi, if_true, ho, ub4 hi, ua2, uk3, u24]
      rw [ub1 hi hl, ih, ub2 hi]
      simp only [ixAt]
      by_cases h0 : vs[i].name = s <;> simp [h0]
  exact this (Nat.zero_le _)
theorem xd2 (x : ua4) (s : ByteArray) (hl : (x.constructors.getD []).length ≤ big) : uH8 (.start (some x) s) = some ((ix (fun v => decide (v.name = s)) (x.constructors.getD []), ()), ()) := by
  rw [uH8]
  simp only [ua2, xZ9 _ s hl _ rfl]
end Go.Proofs.YtaennkkcnhfglaaGreatDoor.Ev.F
namespace Go.Proofs.YtaennkkcnhfglaaGreatDoor.Ev.F
open Go.Proofs.YtaennkkcnhfglaaGreatDoor.Ev Go.Proofs
def Sm (x : ua4) : Prop := nds x ≤ 200 ∧ wid x ≤ 16
theorem vQ8 {ps : List (Option ua4)} {x : ua4} (h : some x ∈ ps) : wid x ≤ roomP ps := by
  induction ps with
  | nil => cases h
  | cons p r ih =>
    rcases List.mem_cons.1 h with rfl | h
    · rw [ue7]; omega
    · have := ih h
      cases p with
      | none => rw [roomP]; exact this
      | some y => rw [ue7]; omega
theorem xg1 {vs : List data_variant} {v : data_variant} (h : v ∈ vs) : roomV v ≤ rooms vs := by
  induction vs with
  | nil => cases h
  | cons p r ih =>
    rw [up6]
    rcases List.mem_cons.1 h with rfl | h
    · exact Nat.le_max_left _ _
    · exact Nat.le_trans (ih h) (Nat.le_max_right _ _)
theorem xh0 {b : Int} {vs : List data_variant} (h : Sm ⟨b, some vs⟩) : ndsV vs ≤ 199 ∧ tagN vs.length + rooms vs ≤ 16 := by
  obtain ⟨h1, h2⟩ := h
  rw [u06] at h1
  rw [uD7] at h2
  exact ⟨by omega, h2⟩
theorem uW7 {vs : List data_variant} (h1 : ndsV vs ≤ 199) (h2 : tagN vs.length + rooms vs ≤ 16) {n : ByteArray} {fs : List ua6} {ps : List (Option ua4)} (hv : ⟨n, fs, some ps⟩ ∈ vs) : ndsP ps ≤ 199 ∧ roomP ps ≤ rooms vs ∧ ∀ x, some x ∈ ps → Sm x := by
  have h3 := vB0 hv
  have h4 := xg1 hv
  rw [uy4] at h3
  rw [up5] at h4
  refine ⟨by omega, h4, fun x hx => ?_⟩
  have h5 := vB2 hx
  have h6 := vQ8 hx
  exact ⟨by omega, by omega⟩
theorem vj6 {Q : ua4 → Prop} (hb : ∀ b : Int, 1 ≤ b → b ≤ 16 → Q ⟨b, none⟩)
    (hc : ∀ vs : List data_variant, 0 < vs.length → vs.length ≤ 16 → ndsV vs ≤ 199 → tagN vs.length + rooms vs ≤ 16 → AllV (fun x => SOk x ∧ Sm x ∧ Q x) vs → Q ⟨0, some vs⟩) : ∀ x, SOk x → Sm x → Q x := by
  refine vj3 (Q := fun x => Sm x → Q x) (fun b h1 h2 _ => hb b h1 h2) (fun vs h0 h1 h hs => ?_)
  obtain ⟨s1, s2⟩ := xh0 hs
  refine hc vs h0 h1 s1 s2 fun v hv => ?_
  obtain ⟨n, fs, ps, rfl, l1, l2, hp⟩ := h v hv
  obtain ⟨_, _, k3⟩ := uW7 s1 s2 hv
  refine ⟨n, fs, ps, rfl, l1, l2, fun p hpm => ?_⟩
  obtain ⟨x, rfl, hx1, hx2⟩ := hp p hpm
  exact ⟨x, rfl, hx1, k3 x hpm, hx2 (k3 x hpm)⟩
structure ConC (l : List ua3) (t : ua0) (vs : List data_variant) : Prop where
  kind : t.Kind = 1
  name : t.Name ≠ sBit
  ty : Ty l t
  tree : tree t = true
  pos : 0 < vs.length
  len : vs.length ≤ 16
  nds : ndsV vs ≤ 199
  wid : tagN vs.length + rooms vs ≤ 16
  fs : ∀ c ∈ uc7 l t, c.Fields.length ≤ 8
theorem All2.withMem {α β : Type} {R : α → β → Prop} {l : List α} {m : List β} (h : All2 R l m) : All2 (fun a b => (a ∈ l ∧ b ∈ m) ∧ R a b) l m := by
  induction h with
  | nil => exact .nil
  | cons h t ih => exact .cons ⟨⟨List.mem_cons_self .., List.mem_cons_self ..⟩, h⟩ (ih.mono fun a b ⟨⟨h1, h2⟩, h3⟩ => ⟨⟨List.mem_cons_of_mem _ h1, List.mem_cons_of_mem _ h2⟩, h3⟩)
theorem xf6 {l : List ua3} (hv : ux1 l) {Q : ua0 → ua4 → Prop} (hb : ∀ t p, t.Kind = 1 → t.Name = sBit → t.Parts = [p] → 1 ≤ p.Value → p.Value ≤ 16 → Q t ⟨p.Value, none⟩)
    (hc : ∀ t vs, ConC l t vs → All2 (VR (fun t x => SOk x ∧ Sm x ∧ Q t x)) (uc7 l t) vs → Q t ⟨0, some vs⟩) : ∀ n t x, SR l n t x → Sm x → Q t x
 | 0, t, x, h, _ => h.elim
 | n + 1, t, x, h, hs => by
   rcases h with ⟨hk, hb', p, hp, h1, h2, rfl⟩ | ⟨hk, hb', ht, htr, vs, rfl, hr⟩
   · exact hb t p hk hb' hp h1 h2
   · obtain ⟨⟨m0, m1⟩, m2⟩ := ul6 hv ht htr hk
     have hlen := hr.len
     obtain ⟨s1, s2⟩ := xh0 hs
     refine hc t vs ⟨hk, hb', ht, htr, by omega, by omega, s1, s2, fun c hc => (m2 c hc).1⟩ (hr.withMem.mono fun c v h => ?_)
     obtain ⟨⟨hcm, hvm⟩, ps, rfl, hps⟩ := h
     obtain ⟨_, _, k3⟩ := uW7 s1 s2 hvm
     refine ⟨ps, rfl, hps.withMem.mono fun f p h => ?_⟩
     obtain ⟨⟨hf, hpm⟩, x, rfl, hx⟩ := h
     exact ⟨x, rfl, sok hv hx, k3 x hpm, xf6 hv hb hc n _ _ hx (k3 x hpm)⟩
mutual
def cnt : ua4 → Nat
 | ⟨b, none⟩ => 2 ^ b.toNat
 | ⟨_, some vs⟩ => cntVs vs
def cntVs : List data_variant → Nat
 | [] => 0
 | v :: r => cntV v + cntVs r
def cntV : data_variant → Nat
 | ⟨_, _, none⟩ => 1
 | ⟨_, _, some ps⟩ => cntP ps
def cntP : List (Option ua4) → Nat
 | [] => 1
 | none :: r => cntP r
 | some x :: r => cnt x * cntP r
end
theorem vW8 (b : Int) : cnt ⟨b, none⟩ = 2 ^ b.toNat := by rw [cnt]
theorem vW9 (b : Int) (vs : List data_variant) : cnt ⟨b, some vs⟩ = cntVs vs := by rw [cnt]
theorem u92 : cntVs [] = 0 := by rw [cntVs]
theorem uY7 (v : data_variant) (r : List data_variant) : cntVs (v :: r) = cntV v + cntVs r := by rw [cntVs]
theorem u90 (n : ByteArray) (fs : List ua6) (ps : List (Option ua4)) : cntV ⟨n, fs, some ps⟩ = cntP ps := by rw [cntV]
theorem vx1 : cntP [] = 1 := by rw [cntP]
theorem u89 (x : ua4) (r : List (Option ua4)) : cntP (some x :: r) = cnt x * cntP r := by rw [cntP]
theorem u72 (n : Nat) (h : n ≤ 16) : n ≤ 2 ^ tagN n := by
  unfold tagN
  split
  · omega
  · split
    · omega
    · split
      · omega
      · split <;> omega
def CB (x : ua4) : Prop := 1 ≤ cnt x ∧ cnt x ≤ 2 ^ wid x
theorem uY6 {ps : List (Option ua4)} (h : AllP CB ps) : 1 ≤ cntP ps ∧ cntP ps ≤ 2 ^ roomP ps := by
  induction ps with
  | nil => rw [vx1, ur0]; decide
  | cons p r ih =>
    obtain ⟨x, rfl, h1, h2⟩ := h p (List.mem_cons_self ..)
    obtain ⟨k1, k2⟩ := ih h.tail
    rw [u89, ue7, Nat.pow_add]
    exact ⟨Nat.mul_le_mul h1 k1, Nat.mul_le_mul h2 k2⟩
theorem u91 {vs : List data_variant} (h : AllV CB vs) : vs.length ≤ cntVs vs ∧ cntVs vs ≤ vs.length * 2 ^ rooms vs := by
  induction vs with
  | nil => rw [u92]; simp
  | cons v r ih =>
    obtain ⟨n, fs, ps, rfl, _, _, hp⟩ := h v (List.mem_cons_self ..)
    obtain ⟨k1, k2⟩ := ih h.tail
    obtain ⟨p1, p2⟩ := uY6 hp
    rw [uY7, u90, up6, up5, List.length_cons, Nat.add_mul]
    have m1 : 2 ^ roomP ps ≤ 2 ^ max (roomP ps) (rooms r) := Nat.pow_le_pow_right (by decide) (Nat.le_max_left _ _)
    have m2 : 2 ^ rooms r ≤ 2 ^ max (roomP ps) (rooms r) := Nat.pow_le_pow_right (by decide) (Nat.le_max_right _ _)
    have m3 : r.length * 2 ^ rooms r ≤ r.length * 2 ^ max (roomP ps) (rooms r) := Nat.mul_le_mul_left _ m2
    omega
theorem u93 : ∀ x, SOk x → CB x := by
  refine vj3 (fun b h1 h2 => ?_) (fun vs h0 h1 h => ?_)
  · unfold CB
    rw [vW8, uR4]
    exact ⟨Nat.one_le_two_pow, Nat.le_refl _⟩
  · unfold CB
    obtain ⟨k1, k2⟩ := u91 (h.mono fun x hx => hx.2)
    rw [vW9, uD7, Nat.pow_add]
    have := u72 vs.length h1
    exact ⟨by omega, Nat.le_trans k2 (Nat.mul_le_mul_right _ this)⟩
theorem uB6 {n : Nat} (h : n ≤ 16) : 2 ^ n ≤ 65536 := Nat.le_trans (Nat.pow_le_pow_right (by decide) h) (by decide)
def PC (x : ua4) : Prop := run_z61 (.start (some x)) = some (((cnt x : Int), ()), ())
theorem x98 (n : ByteArray) (fs : List ua6) {ps : List (Option ua4)} (h : AllP (fun x => SOk x ∧ Sm x ∧ PC x) ps) (hl : ps.length ≤ 8) (hr : roomP ps ≤ 16) : uj2 (.start n fs (some ps)) = some (((cntP ps : Int), ()), ()) := by
  rw [uj2]
  simp only [Option.getD_some]
  have loop : ∀ {i}, i ≤ ps.length → ∀ s : Nat, s * cntP (ps.drop i) ≤ 65536 → uj2 (.p116 (s : Int) (some ps) (List.length ps : Int) (i : Int)) = some ((((s * cntP (ps.drop i) : Nat) : Int), ()), ()) := by
    refine ub3 ps (P := fun i => ∀ s : Nat, s * cntP (ps.drop i) ≤ 65536 → uj2 (.p116 (s : Int) (some ps) (List.length ps : Int) (i : Int)) = some ((((s * cntP (ps.drop i) : Nat) : Int), ()), ())) ?_ ?_
    · intro s hs
      rw [uj2, List.drop_length, vx1]
      simp only [lt_f, Bool.false_eq_true, if_false, Nat.mul_one]
    · intro i hi ih s hs
      obtain ⟨x, hx, hq1, hq2, hq3⟩ := h ps[i] (List.getElem_mem hi)
      rw [uj2]
      simp only [lt_t hi, if_true, Option.getD_some, ub4 hi, ua2, hx, show run_z61 (.start (some x)) = _ from hq3]
      rw [ub2 hi, hx, u89] at hs ⊢
      have hrest : AllP CB (ps.drop (i + 1)) := fun p hp => by
        obtain ⟨y, e, hy, _⟩ := h p (List.mem_of_mem_drop hp)
        exact ⟨y, e, u93 y hy⟩
      have h1 := (uY6 hrest).1
      rw [← Nat.mul_assoc] at hs ⊢
      have h2 : s * cnt x * 1 ≤ s * cnt x * cntP (ps.drop (i + 1)) := Nat.mul_le_mul_left _ h1
      rw [ub1 hi (by omega), ← Int.natCast_mul, wrap_i64 (by omega) (by omega), ih (s * cnt x) hs]
  have hb := (uY6 (h.mono fun x hx => u93 x hx.1)).2
  have hp := uB6 hr
  have := loop (Nat.zero_le _) 1 (by rw [List.drop_zero]; omega)
  rw [List.drop_zero, Nat.one_mul] at this
  exact this
theorem x58 : ∀ x, SOk x → Sm x → PC x := by
  refine vj6 (fun b h1 h2 => ?_) (fun vs h0 h1 hn hw h => ?_)
  · unfold PC
    rw [run_z61, uU3]
    simp only [ua2, if_true]
    rw [decide_eq_true (by omega), if_pos rfl, vE9 (by omega), vW8]
    unfold pw
    simp
  · unfold PC
    rw [run_z61, uU4 _ _ h0]
    simp only [ua2, Bool.false_eq_true, if_false, Option.getD_some]
    have hCB := h.mono fun x hx => u93 x hx.1
    have loop : ∀ {i}, i ≤ vs.length → ∀ s : Nat, s + cntVs (vs.drop i) ≤ 10000000 → run_z61 (.p244 (s : Int) (some vs) (List.length vs : Int) (i : Int)) = some ((((s + cntVs (vs.drop i) : Nat) : Int), ()), ()) := by
      refine ub3 vs (P := fun i => ∀ s : Nat, s + cntVs (vs.drop i) ≤ 10000000 → run_z61 (.p244 (s : Int) (some vs) (List.length vs : Int) (i : Int)) = some ((((s + cntVs (vs.drop i) : Nat) : Int), ()), ())) ?_ ?_
      · intro s hs
        rw [run_z61, List.drop_length, u92]
        simp only [lt_f, Bool.false_eq_true, if_false, Nat.add_zero]
      · intro i hi ih s hs
        obtain ⟨n, fs, ps, hx, _, hpl, hq⟩ := h vs[i] (List.getElem_mem hi)
        have hm := hx ▸ List.getElem_mem hi
        obtain ⟨_, k2, _⟩ := uW7 hn hw hm
        rw [run_z61]
        simp only [lt_t hi, if_true, Option.getD_some, ub4 hi, ua2, hx]
        rw [x98 n fs hq hpl (by omega)]
        simp only [ua2]
        rw [ub2 hi, hx, uY7, u90] at hs ⊢
        rw [ub1 hi (by omega), ← Int.natCast_add, wrap_i64 (by omega) (by omega), ih (s + cntP ps) (by omega), Nat.add_assoc]
    have hb := (u91 hCB).2
    have hp := uB6 (show rooms vs ≤ 16 by omega)
    have : vs.length * 2 ^ rooms vs ≤ 16 * 65536 := Nat.mul_le_mul h1 hp
    have := loop (Nat.zero_le _) 0 (by rw [List.drop_zero]; omega)
    rw [List.drop_zero, Nat.zero_add] at this
    rw [vW9]
    exact this
end Go.Proofs.YtaennkkcnhfglaaGreatDoor.Ev.F
namespace Go.Proofs.YtaennkkcnhfglaaGreatDoor.Ev.F
open Go.Proofs.YtaennkkcnhfglaaGreatDoor.Ev Go.Proofs
theorem xI9 {l : List ua3} (hl : l.length ≤ 24) (hd : ∀ d ∈ l, un1 d) {t : ua0} (ht : lenOk t) : uH6 (.start l t.Kind t.Value t.Name t.Parts) = some ((if ut4 l t = 0 then (((wid (exT l 40 t 0).2.2 : Int)), ((0 : Int), ())) else ((0 : Int), (ut4 l t, ()))), ()) := by
  obtain ⟨o, ho, ho2⟩ := xI6 hl hd ht
  rw [uH6, ho]
  simp only [ua2]
  by_cases h0 : ut4 l t = 0
  · have hop := ut7 (fun d h => (hd d h).light) h0
    rw [if_neg (by simpa using h0), if_pos h0, ho2 h0, (pwid _ (sok hop.valid hop.sr) hop.nds).1]
    simp only [ua2]
  · rw [if_pos (by simpa using h0), if_neg h0]
theorem wi7.cases {l : List ua3} {t : ua0} {x : ua4} (h : wi7 l t x) : (t.Kind = 1 ∧ t.Name = sBit ∧ ∃ p, t.Parts = [p] ∧ 1 ≤ p.Value ∧ p.Value ≤ 16 ∧ x = ⟨p.Value, none⟩) ∨ ∃ vs, x = ⟨0, some vs⟩ ∧ ConC l t vs ∧ All2 (VR (SR l 39)) (uc7 l t) vs := by
  rcases h.sr with hb | ⟨hk, hb, hty, htr, vs, e, hr⟩
  · exact .inl hb
  · refine .inr ⟨vs, e, ?_, hr⟩
    obtain ⟨⟨m0, m1⟩, m2⟩ := ul6 h.valid hty htr hk
    have hlen := hr.len
    have hs : Sm ⟨0, some vs⟩ := by rw [← e]; exact ⟨h.nds, h.w16⟩
    obtain ⟨s1, s2⟩ := xh0 hs
    exact ⟨hk, hb, hty, htr, by omega, by omega, s1, s2, fun c hc => (m2 c hc).1⟩
end Go.Proofs.YtaennkkcnhfglaaGreatDoor.Ev.F
namespace Go.Proofs.YtaennkkcnhfglaaGreatDoor.Ev.F
open Go.Proofs.YtaennkkcnhfglaaGreatDoor.Ev Go.Proofs
theorem xI4 {l : List ua3} (hl : l.length ≤ 24) (hd : ∀ d ∈ l, un1 d) {t : ua0} (ht : lenOk t) : uW2 (.start l t.Kind t.Value t.Name t.Parts) = some ((if ut4 l t = 0 then (((cnt (exT l 40 t 0).2.2 : Int)), ((0 : Int), ())) else ((0 : Int), (ut4 l t, ()))), ()) := by
  obtain ⟨o, ho, ho2⟩ := xI6 hl hd ht
  rw [uW2, ho]
  simp only [ua2]
  by_cases h0 : ut4 l t = 0
  · have hop := ut7 (fun d h => (hd d h).light) h0
    rw [if_neg (by simpa using h0), if_pos h0, ho2 h0, show run_z61 _ = _ from x58 _ (sok hop.valid hop.sr) ⟨hop.nds, hop.w16⟩]
    simp only [ua2]
  · rw [if_pos (by simpa using h0), if_neg h0]
end Go.Proofs.YtaennkkcnhfglaaGreatDoor.Ev.F
namespace Go.Proofs.YtaennkkcnhfglaaGreatDoor.Ev.F
open Go.Proofs.YtaennkkcnhfglaaGreatDoor.Ev
abbrev DV : Type := ua5
abbrev uy5 : ByteArray := ⟨#[]⟩
mutual
def valE : ua4 → DV → Int
 | ⟨b, none⟩, v => uh3 [if v.Name = uy5 ∧ v.Parts.length = 0 then 0 else 3, if 0 ≤ v.Number ∧ v.Number ≤ pw b - 1 then 0 else 2]
 | ⟨_, some vs⟩, v => valVs vs v
def valVs : List data_variant → DV → Int
 | [], _ => 6
 | c :: r, v => if c.name = v.Name then valW c v else valVs r v
def valW : data_variant → DV → Int
 | ⟨_, _, none⟩, _ => 6
 | ⟨_, _, some ps⟩, v => uh3 [if v.Number = 0 then 0 else 3, if v.Parts.length = ps.length then 0 else 10, valP ps v.Parts]
def valP : List (Option ua4) → List DV → Int
 | [], _ => 0
 | none :: r, l => valP r l
 | some x :: r, [] => 0
 | some x :: r, v :: l => if valE x v = 0 then valP r l else valE x v
end
mutual
def pk_ : ua4 → DV → Nat
 | ⟨_, none⟩, v => v.Number.toNat
 | ⟨_, some vs⟩, v => (pkT vs v).1 * 2 ^ rooms vs + (pkT vs v).2
def pkT : List data_variant → DV → Nat × Nat
 | [], _ => (0, 0)
 | c :: r, v => if c.name = v.Name then (0, pkW c v) else ((pkT r v).1 + 1, (pkT r v).2)
def pkW : data_variant → DV → Nat
 | ⟨_, _, none⟩, _ => 0
 | ⟨_, _, some ps⟩, v => pkP ps v.Parts
def pkP : List (Option ua4) → List DV → Nat
 | [], _ => 0
 | none :: r, l => pkP r l
 | some x :: r, [] => 0
 | some x :: r, v :: l => pk_ x v * 2 ^ roomP r + pkP r l
end
mutual
def upk : ua4 → Nat → Option DV
 | ⟨_, none⟩, n => some ⟨uy5, (n : Int), []⟩
 | ⟨_, some vs⟩, n => upkVs vs (n / 2 ^ rooms vs) (n % 2 ^ rooms vs)
def upkVs : List data_variant → Nat → Nat → Option DV
 | [], _, _ => none
 | v :: r, 0, f => upkW v f
 | v :: r, k + 1, f => upkVs r k f
def upkW : data_variant → Nat → Option DV
 | ⟨_, _, none⟩, _ => none
 | ⟨n, _, some ps⟩, f => if f < 2 ^ roomP ps then (upkP ps f).map fun l => ⟨n, 0, l⟩ else none
def upkP : List (Option ua4) → Nat → Option (List DV)
 | [], _ => some []
 | none :: r, f => upkP r f
 | some x :: r, f => match upk x (f / 2 ^ roomP r % 2 ^ wid x), upkP r f with
   | some a, some l => some (a :: l)
   | _, _ => none
end
theorem vF5 (b : Int) (v : DV) : valE ⟨b, none⟩ v = uh3 [if v.Name = uy5 ∧ v.Parts.length = 0 then 0 else 3, if 0 ≤ v.Number ∧ v.Number ≤ pw b - 1 then 0 else 2] := by rw [valE]
theorem uM3 (b : Int) (vs : List data_variant) (v : DV) : valE ⟨b, some vs⟩ v = valVs vs v := by rw [valE]
theorem vl4 (v : DV) : valVs [] v = 6 := by rw [valVs]
theorem uq2 (c : data_variant) (r : List data_variant) (v : DV) : valVs (c :: r) v = if c.name = v.Name then valW c v else valVs r v := by rw [valVs]
theorem vl5 (n : ByteArray) (fs : List ua6) (ps : List (Option ua4)) (v : DV) : valW ⟨n, fs, some ps⟩ v = uh3 [if v.Number = 0 then 0 else 3, if v.Parts.length = ps.length then 0 else 10, valP ps v.Parts] := by rw [valW]
theorem wB8 (l : List DV) : valP [] l = 0 := by rw [valP]
theorem vl2 (x : ua4) (r : List (Option ua4)) (v : DV) (l : List DV) : valP (some x :: r) (v :: l) = if valE x v = 0 then valP r l else valE x v := by rw [valP]
theorem xc9 (b : Int) (v : DV) : pk_ ⟨b, none⟩ v = v.Number.toNat := by rw [pk_]
theorem wp5 (b : Int) (vs : List data_variant) (v : DV) : pk_ ⟨b, some vs⟩ v = (pkT vs v).1 * 2 ^ rooms vs + (pkT vs v).2 := by rw [pk_]
theorem uU2 (c : data_variant) (r : List data_variant) (v : DV) : pkT (c :: r) v = if c.name = v.Name then (0, pkW c v) else ((pkT r v).1 + 1, (pkT r v).2) := by rw [pkT]
theorem vB6 (n : ByteArray) (fs : List ua6) (ps : List (Option ua4)) (v : DV) : pkW ⟨n, fs, some ps⟩ v = pkP ps v.Parts := by rw [pkW]
theorem v08 (l : List DV) : pkP [] l = 0 := by rw [pkP]
theorem vB5 (x : ua4) (r : List (Option ua4)) (v : DV) (l : List DV) : pkP (some x :: r) (v :: l) = pk_ x v * 2 ^ roomP r + pkP r l := by rw [pkP]
theorem vF4 (b : Int) (n : Nat) : upk ⟨b, none⟩ n = some ⟨uy5, (n : Int), []⟩ := by rw [upk]
theorem u32 (b : Int) (vs : List data_variant) (n : Nat) : upk ⟨b, some vs⟩ n = upkVs vs (n / 2 ^ rooms vs) (n % 2 ^ rooms vs) := by rw [upk]
theorem uX3 (k f : Nat) : upkVs [] k f = none := by rw [upkVs]
theorem uA0 (v : data_variant) (r : List data_variant) (f : Nat) : upkVs (v :: r) 0 f = upkW v f := by rw [upkVs]
theorem uz9 (v : data_variant) (r : List data_variant) (k f : Nat) : upkVs (v :: r) (k + 1) f = upkVs r k f := by rw [upkVs]
theorem uI4 (n : ByteArray) (fs : List ua6) (ps : List (Option ua4)) (f : Nat) : upkW ⟨n, fs, some ps⟩ f = if f < 2 ^ roomP ps then (upkP ps f).map fun l => ⟨n, 0, l⟩ else none := by rw [upkW]
theorem uM2 (f : Nat) : upkP [] f = some [] := by rw [upkP]
theorem uz8 (x : ua4) (r : List (Option ua4)) (f : Nat) : upkP (some x :: r) f = match upk x (f / 2 ^ roomP r % 2 ^ wid x), upkP r f with | some a, some l => some (a :: l) | _, _ => none := by rw [upkP]
theorem uj5 (n : Nat) : 0 < 2 ^ n := Nat.pow_pos (by decide)
def uniq : List data_variant → Prop
 | [] => True
 | c :: r => (∀ d ∈ r, c.name ≠ d.name) ∧ uniq r
theorem xv2 {Q : ua4 → Prop} : ∀ {vs : List data_variant}, (∀ (i j : Nat) (c d : data_variant), vs[i]? = some c → vs[j]? = some d → c.name = d.name → i = j) → uniq vs
 | [], _ => trivial
 | c :: r, h => ⟨fun d hd e => by
   obtain ⟨j, hj⟩ := List.getElem?_of_mem hd
   have := h 0 (j + 1) c d rfl hj e
   omega, xv2 (Q := Q) fun i j c d hi hj e => by have := h (i + 1) (j + 1) c d hi hj e; omega⟩
theorem xy7 {l : List ua3} (hv : ux1 l) {t : ua0} {vs : List data_variant} {R : ua0 → ua4 → Prop} (hr : All2 (VR R) (uc7 l t) vs) : uniq vs := by
  refine xv2 (Q := fun _ => True) fun i j c d hi hj e => ?_
  obtain ⟨hi', rfl⟩ := List.getElem?_eq_some_iff.1 hi
  obtain ⟨hj', rfl⟩ := List.getElem?_eq_some_iff.1 hj
  have hlen := hr.len
  obtain ⟨_, e1, _⟩ := hr.get i (by omega) hi'
  obtain ⟨_, e2, _⟩ := hr.get j (by omega) hj'
  rw [e1, e2] at e
  simp only at e
  have h1 : (uc7 l t)[i]? = some (uc7 l t)[i] := List.getElem?_eq_getElem (by omega)
  have h2 : (uc7 l t)[j]? = some (uc7 l t)[j] := List.getElem?_eq_getElem (by omega)
  generalize (uc7 l t)[i] = ci at h1 e
  generalize (uc7 l t)[j] = cj at h2 e
  unfold uc7 at h1 h2
  cases hd : dat l t.Name with
  | none =>
    rw [hd] at h1 h2
    simp only at h1 h2
    have hne : uv4 ≠ uR2 := by decide
    match i, j, h1, h2 with
    | 0, 0, _, _ => rfl
    | 1, 1, _, _ => rfl
    | 0, 1, h1, h2 => simp at h1 h2; subst h1 h2; exact absurd e hne
    | 1, 0, h1, h2 => simp at h1 h2; subst h1 h2; exact absurd e.symm hne
    | i + 2, _, h1, _ => simp at h1
    | _, j + 2, _, h2 => simp at h2
  | some d =>
    rw [hd] at h1 h2
    simp only [List.getElem?_map, Option.map_eq_some_iff] at h1 h2
    obtain ⟨c1, g1, rfl⟩ := h1
    obtain ⟨c2, g2, rfl⟩ := h2
    exact hv.known d (vA1 hd).1 i j c1 c2 g1 g2 e
theorem wr3 {l : List ua3} (hv : ux1 l) {Q : ua4 → Prop} (hb : ∀ b : Int, 1 ≤ b → b ≤ 16 → Q ⟨b, none⟩)
    (hc : ∀ vs : List data_variant, 0 < vs.length → vs.length ≤ 16 → ndsV vs ≤ 199 → tagN vs.length + rooms vs ≤ 16 → uniq vs → AllV (fun x => SOk x ∧ Sm x ∧ Q x) vs → Q ⟨0, some vs⟩) : ∀ n t x, SR l n t x → Sm x → Q x :=
  xf6 hv (Q := fun _ x => Q x) (fun t p _ _ _ h1 h2 => hb _ h1 h2) (fun t vs c h => hc vs c.pos c.len c.nds c.wid (xy7 hv h) (AllV.of (R := fun t x => SOk x ∧ Sm x ∧ Q x) (fun t x hx => hx) c.fs h))
end Go.Proofs.YtaennkkcnhfglaaGreatDoor.Ev.F
namespace Go.Proofs.YtaennkkcnhfglaaGreatDoor.Ev.F
open Go.Proofs.YtaennkkcnhfglaaGreatDoor.Ev Go.Proofs
theorem wq5 {b : Int} (h : 0 ≤ b) : pw b = ((2 ^ b.toNat : Nat) : Int) := by unfold pw; simp
theorem uX2 : ∀ (ps : List (Option ua4)), AllP (fun _ => True) ps → ∀ f, upkP ps f = upkP ps (f % 2 ^ roomP ps)
 | [], _, f => by rw [uM2, uM2]
 | p :: r, h, f => by
   obtain ⟨x, rfl, _⟩ := h p (List.mem_cons_self ..)
   rw [uz8, uz8, ue7]
   have e1 : f % 2 ^ (wid x + roomP r) / 2 ^ roomP r % 2 ^ wid x = f / 2 ^ roomP r % 2 ^ wid x := by
     rw [Nat.add_comm, Nat.pow_add, Nat.mod_mul_right_div_self, Nat.mod_mod]
   have e2 : upkP r (f % 2 ^ (wid x + roomP r)) = upkP r f := by
     rw [uX2 r h.tail, uX2 r h.tail f, Nat.mod_mod_of_dvd _ (Nat.pow_dvd_pow 2 (by omega))]
   rw [e1, e2]
def T3 (x : ua4) : Prop := ∀ v, valE x v = 0 → pk_ x v < 2 ^ wid x ∧ upk x (pk_ x v) = some v
theorem wB7 {x : ua4} {r : List (Option ua4)} {l : List DV} (h : l.length = (some x :: r).length) : ∃ v m, l = v :: m ∧ m.length = r.length := by
  cases l with
  | nil => simp at h
  | cons v m => exact ⟨v, m, rfl, by simpa using h⟩
theorem vl3 {x : ua4} {r : List (Option ua4)} {v : DV} {m : List DV} (h : valP (some x :: r) (v :: m) = 0) : valE x v = 0 ∧ valP r m = 0 := by
  rw [vl2] at h
  by_cases h0 : valE x v = 0
  · rw [if_pos h0] at h; exact ⟨h0, h⟩
  · rw [if_neg h0] at h; exact absurd h h0
theorem vl6 {n : ByteArray} {fs : List ua6} {ps : List (Option ua4)} {v : DV} (h : valW ⟨n, fs, some ps⟩ v = 0) : v.Number = 0 ∧ v.Parts.length = ps.length ∧ valP ps v.Parts = 0 := by
  rw [vl5] at h
  obtain ⟨h1, h⟩ := ud0 h
  obtain ⟨h2, h⟩ := ud0 h
  obtain ⟨h3, _⟩ := ud0 h
  refine ⟨?_, ?_, h3⟩
  · by_cases e : v.Number = 0
    · exact e
    · rw [if_neg e] at h1; cases h1
  · by_cases e : v.Parts.length = ps.length
    · exact e
    · rw [if_neg e] at h2; cases h2
theorem t3P : ∀ (ps : List (Option ua4)), AllP (fun x => SOk x ∧ Sm x ∧ T3 x) ps → ∀ l, l.length = ps.length → valP ps l = 0 → pkP ps l < 2 ^ roomP ps ∧ upkP ps (pkP ps l) = some l
 | [], _, l, hl, _ => by
   have : l = [] := List.length_eq_zero_iff.1 (by simpa using hl)
   subst this
   rw [v08, ur0, uM2]
   exact ⟨by decide, rfl⟩
 | p :: r, h, l, hl, hz => by
   obtain ⟨x, rfl, hs, hm, hx⟩ := h p (List.mem_cons_self ..)
   obtain ⟨v, m, rfl, hml⟩ := wB7 hl
   obtain ⟨z1, z2⟩ := vl3 hz
   obtain ⟨a1, a2⟩ := hx v z1
   obtain ⟨b1, b2⟩ := t3P r h.tail m hml z2
   rw [vB5, ue7, uz8]
   have hp := uj5 (roomP r)
   have e1 : (pk_ x v * 2 ^ roomP r + pkP r m) / 2 ^ roomP r = pk_ x v := by
     rw [Nat.add_comm, Nat.add_mul_div_right _ _ hp, Nat.div_eq_of_lt b1, Nat.zero_add]
   have e2 : (pk_ x v * 2 ^ roomP r + pkP r m) % 2 ^ roomP r = pkP r m := by
     rw [Nat.add_comm, Nat.add_mul_mod_self_right, Nat.mod_eq_of_lt b1]
   refine ⟨?_, ?_⟩
   · rw [Nat.pow_add]
     have : (pk_ x v + 1) * 2 ^ roomP r ≤ 2 ^ wid x * 2 ^ roomP r := Nat.mul_le_mul_right _ a1
     rw [Nat.add_mul] at this
     omega
   · rw [e1, Nat.mod_eq_of_lt a1, a2, uX2 r (h.tail.mono fun _ _ => trivial), e2, b2]
theorem vV0 (v : DV) {n : ByteArray} {k : Int} {l : List DV} (h1 : v.Name = n) (h2 : v.Number = k) (h3 : v.Parts = l) : (⟨n, k, l⟩ : DV) = v := by subst h1 h2 h3; cases v; rfl
theorem t3Vs : ∀ (vs : List data_variant) (R : Nat), rooms vs ≤ R → AllV (fun x => SOk x ∧ Sm x ∧ T3 x) vs → ∀ v, valVs vs v = 0 → (pkT vs v).1 < vs.length ∧ (pkT vs v).2 < 2 ^ R ∧ upkVs vs (pkT vs v).1 (pkT vs v).2 = some v
 | [], R, _, _, v, hz => by rw [vl4] at hz; cases hz
 | c :: r, R, hR, h, v, hz => by
   rw [up6] at hR
   rw [uq2] at hz
   rw [uU2]
   by_cases hn : c.name = v.Name
   · rw [if_pos hn] at hz
     obtain ⟨n, fs, ps, rfl, _, _, hp⟩ := h c (List.mem_cons_self ..)
     obtain ⟨z1, z2, z3⟩ := vl6 hz
     obtain ⟨a1, a2⟩ := t3P ps hp v.Parts z2 z3
     rw [up5] at hR
     have := Nat.pow_le_pow_right (show 0 < 2 by decide) (show roomP ps ≤ R from Nat.le_trans (Nat.le_max_left _ _) hR)
     rw [if_pos hn, vB6]
     simp only
     rw [uA0, uI4, if_pos a1, a2]
     exact ⟨by simp, by omega, by rw [Option.map_some]; congr 1; exact vV0 v hn.symm z1 rfl⟩
   · rw [if_neg hn] at hz
     obtain ⟨a1, a2, a3⟩ := t3Vs r R (Nat.le_trans (Nat.le_max_right _ _) hR) h.tail v hz
     rw [if_neg hn]
     simp only
     rw [uz9]
     exact ⟨by simpa using a1, a2, a3⟩
theorem uD6 {b : Int} {v : DV} (h : valE ⟨b, none⟩ v = 0) : v.Name = uy5 ∧ v.Parts = [] ∧ 0 ≤ v.Number ∧ v.Number ≤ pw b - 1 := by
  rw [vF5] at h
  obtain ⟨h1, h⟩ := ud0 h
  obtain ⟨h2, _⟩ := ud0 h
  by_cases e1 : v.Name = uy5 ∧ v.Parts.length = 0
  · by_cases e2 : 0 ≤ v.Number ∧ v.Number ≤ pw b - 1
    · exact ⟨e1.1, List.length_eq_zero_iff.1 e1.2, e2.1, e2.2⟩
    · rw [if_neg e2] at h2; cases h2
  · rw [if_neg e1] at h1; cases h1
theorem t3 {l : List ua3} (hv : ux1 l) : ∀ n t x, SR l n t x → Sm x → T3 x := by
  refine wr3 hv (fun b h1 h2 v hz => ?_) (fun vs _ hl _ _ hu h v hz => ?_)
  · obtain ⟨z1, z2, z3, z4⟩ := uD6 hz
    rw [wq5 (by omega)] at z4
    rw [xc9, uR4, vF4]
    exact ⟨by omega, by congr 1; exact vV0 v z1 (by omega) z2⟩
  · rw [uM3] at hz
    obtain ⟨a1, a2, a3⟩ := t3Vs vs (rooms vs) (Nat.le_refl _) h v hz
    have hp := uj5 (rooms vs)
    have ht := u72 vs.length hl
    have e1 : ((pkT vs v).1 * 2 ^ rooms vs + (pkT vs v).2) / 2 ^ rooms vs = (pkT vs v).1 := by
      rw [Nat.add_comm, Nat.add_mul_div_right _ _ hp, Nat.div_eq_of_lt a2, Nat.zero_add]
    have e2 : ((pkT vs v).1 * 2 ^ rooms vs + (pkT vs v).2) % 2 ^ rooms vs = (pkT vs v).2 := by
      rw [Nat.add_comm, Nat.add_mul_mod_self_right, Nat.mod_eq_of_lt a2]
    rw [wp5, u32, uD7, Nat.pow_add, e1, e2]
    refine ⟨?_, a3⟩
    have : ((pkT vs v).1 + 1) * 2 ^ rooms vs ≤ 2 ^ tagN vs.length * 2 ^ rooms vs := Nat.mul_le_mul_right _ (by omega)
    rw [Nat.add_mul] at this
    omega
def T4 (x : ua4) : Prop := ∀ n v, n < 2 ^ wid x → upk x n = some v → valE x v = 0 ∧ pk_ x v = n
theorem t4P : ∀ (ps : List (Option ua4)), AllP (fun x => SOk x ∧ Sm x ∧ T4 x) ps → ∀ f l, f < 2 ^ roomP ps → upkP ps f = some l → l.length = ps.length ∧ valP ps l = 0 ∧ pkP ps l = f
 | [], _, f, l, hf, hu => by
   rw [uM2] at hu
   obtain rfl := Option.some.inj hu
   rw [ur0] at hf
   rw [wB8, v08]
   exact ⟨rfl, rfl, by simp at hf; omega⟩
 | p :: r, h, f, l, hf, hu => by
   obtain ⟨x, rfl, hs, hm, hx⟩ := h p (List.mem_cons_self ..)
   rw [uz8] at hu
   rw [ue7, Nat.pow_add] at hf
   have hp := uj5 (roomP r)
   have h1 : f / 2 ^ roomP r < 2 ^ wid x := (Nat.div_lt_iff_lt_mul hp).2 hf
   rw [Nat.mod_eq_of_lt h1] at hu
   split at hu
   · rename_i a m ha hm2
     obtain rfl := Option.some.inj hu
     obtain ⟨a1, a2⟩ := hx _ a h1 ha
     rw [uX2 r (h.tail.mono fun _ _ => trivial)] at hm2
     obtain ⟨b1, b2, b3⟩ := t4P r h.tail _ m (Nat.mod_lt _ hp) hm2
     rw [vl2, vB5, a1, a2, if_pos rfl, b3, List.length_cons, List.length_cons, b1]
     exact ⟨rfl, b2, by rw [Nat.mul_comm]; exact Nat.div_add_mod f _⟩
   · cases hu
theorem vv4 : ∀ (vs : List data_variant) (k f : Nat) (v : DV), AllV (fun _ => True) vs → upkVs vs k f = some v → ∃ d ∈ vs, v.Name = d.name
 | [], k, f, v, _, hu => by rw [uX3] at hu; cases hu
 | c :: r, 0, f, v, h, hu => by
   obtain ⟨n, fs, ps, rfl, _⟩ := h c (List.mem_cons_self ..)
   rw [uA0, uI4] at hu
   by_cases hf : f < 2 ^ roomP ps
   · rw [if_pos hf] at hu
     obtain ⟨l, _, rfl⟩ := Option.map_eq_some_iff.1 hu
     exact ⟨_, List.mem_cons_self .., rfl⟩
   · rw [if_neg hf] at hu; cases hu
 | c :: r, k + 1, f, v, h, hu => by
   rw [uz9] at hu
   obtain ⟨d, hd, e⟩ := vv4 r k f v h.tail hu
   exact ⟨d, List.mem_cons_of_mem _ hd, e⟩
theorem t4Vs : ∀ (vs : List data_variant), uniq vs → AllV (fun x => SOk x ∧ Sm x ∧ T4 x) vs → ∀ k f v, upkVs vs k f = some v → valVs vs v = 0 ∧ pkT vs v = (k, f)
 | [], _, _, k, f, v, hu => by rw [uX3] at hu; cases hu
 | c :: r, hq, h, 0, f, v, hu => by
   obtain ⟨n, fs, ps, rfl, _, _, hp⟩ := h c (List.mem_cons_self ..)
   rw [uA0, uI4] at hu
   by_cases hf : f < 2 ^ roomP ps
   · rw [if_pos hf] at hu
     obtain ⟨l, hl, rfl⟩ := Option.map_eq_some_iff.1 hu
     obtain ⟨b1, b2, b3⟩ := t4P ps hp f l hf hl
     rw [uq2, uU2, if_pos rfl, if_pos rfl, vl5, vB6]
     simp only [b1, b2, b3, if_true]
     exact ⟨rfl, trivial⟩
   · rw [if_neg hf] at hu; cases hu
 | c :: r, hq, h, k + 1, f, v, hu => by
   rw [uz9] at hu
   obtain ⟨d, hd, e⟩ := vv4 r k f v (h.tail.mono fun _ _ => trivial) hu
   have hn : ¬ c.name = v.Name := by rw [e]; exact hq.1 d hd
   obtain ⟨a1, a2⟩ := t4Vs r hq.2 h.tail k f v hu
   rw [uq2, uU2, if_neg hn, if_neg hn, a2]
   exact ⟨a1, rfl⟩
theorem t4 {l : List ua3} (hv : ux1 l) : ∀ n t x, SR l n t x → Sm x → T4 x := by
  refine wr3 hv (fun b h1 h2 n v hn hu => ?_) (fun vs _ hl _ _ hq h n v hn hu => ?_)
  · rw [vF4] at hu
    obtain rfl := Option.some.inj hu
    rw [uR4] at hn
    rw [vF5, xc9, wq5 (by omega)]
    simp only [List.length_nil, and_self, if_true]
    rw [if_pos (by omega)]
    exact ⟨rfl, by simp⟩
  · rw [u32] at hu
    obtain ⟨a1, a2⟩ := t4Vs vs hq h _ _ v hu
    rw [uM3, wp5, a2]
    exact ⟨a1, by rw [Nat.mul_comm]; exact Nat.div_add_mod n _⟩
end Go.Proofs.YtaennkkcnhfglaaGreatDoor.Ev.F
namespace Go.Proofs.YtaennkkcnhfglaaGreatDoor.Ev.F
open Go.Proofs.YtaennkkcnhfglaaGreatDoor.Ev
def cTo (p : Nat → Bool) : Nat → Nat
 | 0 => 0
 | n + 1 => cTo p n + if p n = true then 1 else 0
theorem uS2 {p q : Nat → Bool} : ∀ {n : Nat}, (∀ i, i < n → p i = q i) → cTo p n = cTo q n
 | 0, _ => rfl
 | n + 1, h => by unfold cTo; rw [uS2 fun i hi => h i (by omega), h n (by omega)]
theorem uS3 {p : Nat → Bool} : ∀ {n : Nat}, (∀ i, i < n → p i = false) → cTo p n = 0
 | 0, _ => rfl
 | n + 1, h => by unfold cTo; rw [uS3 fun i hi => h i (by omega), h n (by omega)]; rfl
theorem vx0 {p : Nat → Bool} : ∀ {n : Nat}, (∀ i, i < n → p i = true) → cTo p n = n
 | 0, _ => rfl
 | n + 1, h => by unfold cTo; rw [vx0 fun i hi => h i (by omega), h n (by omega)]; rfl
theorem vw9 (p : Nat → Bool) (m : Nat) : ∀ n, cTo p (m + n) = cTo p m + cTo (fun i => p (m + i)) n
 | 0 => by simp [cTo]
 | n + 1 => by
   rw [← Nat.add_assoc]
   show cTo p (m + n) + _ = _
   rw [vw9 p m n]
   show cTo p m + cTo (fun i => p (m + i)) n + (if p (m + n) = true then 1 else 0) = cTo p m + (cTo (fun i => p (m + i)) n + (if p (m + n) = true then 1 else 0))
   omega
theorem w21 (p : Nat → Bool) {m n : Nat} (h : m ≤ n) : cTo (fun i => decide (i < m) && p i) n = cTo p m := by
  obtain ⟨k, rfl⟩ := Nat.exists_eq_add_of_le h
  rw [vw9, uS2 (q := p) fun i hi => by simp [hi], uS3 (p := fun i => decide (m + i < m) && p (m + i)) fun i hi => by rw [decide_eq_false (by omega), Bool.false_and], Nat.add_zero]
theorem wk2 {p A B : Nat → Bool} (b : Nat) : ∀ {a : Nat}, (∀ t i, t < a → i < b → p (t * b + i) = (A t && B i)) → cTo p (a * b) = cTo A a * cTo B b
 | 0, _ => by simp [cTo]
 | a + 1, h => by
   rw [Nat.add_mul, Nat.one_mul, vw9, wk2 b fun t i ht hi => h t i (by omega) hi]
   show _ = (cTo A a + _) * _
   rw [Nat.add_mul]
   congr 1
   cases hA : A a with
   | true => rw [uS2 (q := B) fun i hi => by rw [h a i (by omega) hi, hA, Bool.true_and]]; simp
   | false => rw [uS3 fun i hi => by rw [h a i (by omega) hi, hA, Bool.false_and]]; simp
def T6 (x : ua4) : Prop := cTo (fun n => (upk x n).isSome) (2 ^ wid x) = cnt x
theorem t6P : ∀ (ps : List (Option ua4)), AllP (fun x => SOk x ∧ Sm x ∧ T6 x) ps → cTo (fun n => (upkP ps n).isSome) (2 ^ roomP ps) = cntP ps
 | [], _ => by
   rw [ur0, vx1]
   exact vx0 (n := 1) fun i hi => by rw [uM2]; rfl
 | p :: r, h => by
   obtain ⟨x, rfl, hs, hm, hx⟩ := h p (List.mem_cons_self ..)
   rw [ue7, u89, Nat.pow_add]
   rw [wk2 (A := fun n => (upk x n).isSome) (B := fun n => (upkP r n).isSome) (2 ^ roomP r), show cTo (fun n => (upk x n).isSome) (2 ^ wid x) = cnt x from hx, t6P r h.tail]
   intro t i ht hi
   have hp := uj5 (roomP r)
   have e1 : (t * 2 ^ roomP r + i) / 2 ^ roomP r = t := by
     rw [Nat.add_comm, Nat.add_mul_div_right _ _ hp, Nat.div_eq_of_lt hi, Nat.zero_add]
   have e2 : (t * 2 ^ roomP r + i) % 2 ^ roomP r = i := by
     rw [Nat.add_comm, Nat.add_mul_mod_self_right, Nat.mod_eq_of_lt hi]
   rw [uz8, e1, Nat.mod_eq_of_lt ht, uX2 r (h.tail.mono fun _ _ => trivial), e2]
   cases upk x t <;> cases upkP r i <;> rfl
theorem t6Vs : ∀ (vs : List data_variant) (R : Nat), rooms vs ≤ R → AllV (fun x => SOk x ∧ Sm x ∧ T6 x) vs → ∀ N, vs.length ≤ N → ∀ p : Nat → Bool, (∀ t i, t < N → i < 2 ^ R → p (t * 2 ^ R + i) = (upkVs vs t i).isSome) → cTo p (N * 2 ^ R) = cntVs vs
 | [], R, _, _, N, _, p, hp => by
   rw [u92]
   refine uS3 fun i hi => ?_
   have h2 := uj5 R
   have := hp (i / 2 ^ R) (i % 2 ^ R) ((Nat.div_lt_iff_lt_mul h2).2 hi) (Nat.mod_lt _ h2)
   rw [Nat.mul_comm, Nat.div_add_mod, uX3] at this
   exact this
 | c :: r, R, hR, h, 0, hN, p, hp => by simp at hN
 | c :: r, R, hR, h, N + 1, hN, p, hp => by
   rw [up6] at hR
   obtain ⟨n, fs, ps, rfl, _, _, hps⟩ := h c (List.mem_cons_self ..)
   rw [up5] at hR
   rw [Nat.add_mul, Nat.one_mul, Nat.add_comm, vw9, uY7, u90]
   have hle : 2 ^ roomP ps ≤ 2 ^ R := Nat.pow_le_pow_right (by decide) (Nat.le_trans (Nat.le_max_left _ _) hR)
   congr 1
   · rw [← t6P ps hps, ← w21 _ hle]
     refine uS2 fun i hi => ?_
     have := hp 0 i (by omega) hi
     rw [Nat.zero_mul, Nat.zero_add] at this
     rw [this, uA0, uI4]
     by_cases hf : i < 2 ^ roomP ps
     · rw [if_pos hf, decide_eq_true hf, Bool.true_and]
       cases upkP ps i <;> rfl
     · rw [if_neg hf, decide_eq_false hf, Bool.false_and]; rfl
   · refine t6Vs r R (Nat.le_trans (Nat.le_max_right _ _) hR) h.tail N (by simpa using hN) _ fun t i ht hi => ?_
     have := hp (t + 1) i (by omega) hi
     rw [uz9] at this
     rw [← this, Nat.add_mul, Nat.one_mul]
     congr 1
     omega
theorem t6 {l : List ua3} (hv : ux1 l) : ∀ n t x, SR l n t x → Sm x → T6 x := by
  refine wr3 hv (fun b h1 h2 => ?_) (fun vs _ hl _ _ hq h => ?_)
  · unfold T6
    rw [uR4, vW8]
    exact vx0 fun i hi => by rw [vF4]; rfl
  · unfold T6
    rw [uD7, vW9, Nat.pow_add]
    refine t6Vs vs (rooms vs) (Nat.le_refl _) h _ (u72 vs.length hl) _ fun t i ht hi => ?_
    have hp := uj5 (rooms vs)
    have e1 : (t * 2 ^ rooms vs + i) / 2 ^ rooms vs = t := by
      rw [Nat.add_comm, Nat.add_mul_div_right _ _ hp, Nat.div_eq_of_lt hi, Nat.zero_add]
    have e2 : (t * 2 ^ rooms vs + i) % 2 ^ rooms vs = i := by
      rw [Nat.add_comm, Nat.add_mul_mod_self_right, Nat.mod_eq_of_lt hi]
    rw [u32, e1, e2]
mutual
def vsz : DV → Nat
 | ⟨_, _, ps⟩ => 1 + vszs ps
def vszs : List DV → Nat
 | [] => 0
 | p :: l => vsz p + vszs l
end
mutual
def vdp : DV → Nat
 | ⟨_, _, ps⟩ => 1 + vdps ps
def vdps : List DV → Nat
 | [] => 0
 | p :: l => max (vdp p) (vdps l)
end
theorem uM4 : vszs [] = 0 := by rw [vszs]
theorem u73 : vdps [] = 0 := by rw [vdps]
theorem uI5 (p : DV) (l : List DV) : vszs (p :: l) = vsz p + vszs l := by rw [vszs]
theorem vl7 (p : DV) (l : List DV) : vdps (p :: l) = max (vdp p) (vdps l) := by rw [vdps]
theorem uX5 (v : DV) : vsz v = 1 + vszs v.Parts := by cases v; rw [vsz]
theorem wB9 (v : DV) : vdp v = 1 + vdps v.Parts := by cases v; rw [vdp]
theorem x18 (t : DV) : 1 ≤ vsz t := by rw [uX5]; omega
theorem u74 (l : List DV) : l.length ≤ vszs l := by
  induction l with
  | nil => simp [uM4]
  | cons a l ih => have := x18 a; rw [uI5, List.length_cons]; omega
theorem vF7 {l : List DV} {t : DV} (h : t ∈ l) : vsz t ≤ vszs l := by
  induction l with
  | nil => cases h
  | cons a l ih =>
    rw [uI5]
    rcases List.mem_cons.1 h with rfl | h
    · omega
    · have := ih h; omega
theorem uX4 {P : DV → Prop} (h : ∀ n k ps, (∀ p ∈ ps, P p) → P ⟨n, k, ps⟩) (v : DV) : P v := by
  generalize hn : vsz v = n
  induction n using Nat.strongRecOn generalizing v with
  | ind n ih =>
    obtain ⟨s, k, ps⟩ := v
    exact h s k ps fun p hp => ih (vsz p) (by have := vF7 hp; rw [uX5] at hn; simp only at hn; omega) p rfl
def vF8 (v : DV) : Bool := decide (vsz v ≤ 200 ∧ vdp v ≤ 40)
def T7 (n : Nat) (x : ua4) : Prop := ∀ v, valE x v = 0 → vsz v ≤ nds x ∧ vdp v ≤ n
theorem t7P {n : Nat} : ∀ (ps : List (Option ua4)), AllP (T7 n) ps → ∀ l, l.length = ps.length → valP ps l = 0 → vszs l ≤ ndsP ps ∧ vdps l ≤ n
 | [], _, l, hl, _ => by
   have : l = [] := List.length_eq_zero_iff.1 (by simpa using hl)
   subst this
   rw [uM4, u73]
   exact ⟨Nat.zero_le _, Nat.zero_le _⟩
 | p :: r, h, l, hl, hz => by
   obtain ⟨x, rfl, hx⟩ := h p (List.mem_cons_self ..)
   obtain ⟨v, m, rfl, hml⟩ := wB7 hl
   obtain ⟨z1, z2⟩ := vl3 hz
   obtain ⟨a1, a2⟩ := hx v z1
   obtain ⟨b1, b2⟩ := t7P r h.tail m hml z2
   rw [uI5, vl7, uE9]
   exact ⟨by omega, Nat.max_le.2 ⟨a2, b2⟩⟩
theorem t7Vs {n : Nat} : ∀ (vs : List data_variant), AllV (T7 n) vs → ∀ v, valVs vs v = 0 → vsz v ≤ 1 + ndsV vs ∧ vdp v ≤ n + 1
 | [], _, v, hz => by rw [vl4] at hz; cases hz
 | c :: r, h, v, hz => by
   rw [uq2] at hz
   by_cases hn : c.name = v.Name
   · rw [if_pos hn] at hz
     obtain ⟨nm, fs, ps, rfl, _, _, hp⟩ := h c (List.mem_cons_self ..)
     obtain ⟨_, z2, z3⟩ := vl6 hz
     obtain ⟨a1, a2⟩ := t7P ps hp v.Parts z2 z3
     rw [uX5, wB9, uF0, uy4]
     exact ⟨by omega, by omega⟩
   · rw [if_neg hn] at hz
     obtain ⟨a1, a2⟩ := t7Vs r h.tail v hz
     rw [uF0]
     exact ⟨by omega, a2⟩
theorem t7 : ∀ n x, SOkN n x → T7 n x
 | 0, x, h => h.elim
 | n + 1, x, h => by
   intro v hz
   rcases h with ⟨b, _, _, rfl⟩ | ⟨vs, _, _, hV, rfl⟩
   · obtain ⟨_, z2, _⟩ := uD6 hz
     rw [uX5, wB9, z2, uM4, u73, vB1]
     exact ⟨by omega, by omega⟩
   · rw [uM3] at hz
     rw [u06]
     exact t7Vs vs (hV.mono fun x hx => t7 n x hx) v hz
theorem u43 {l : List ua3} {t : ua0} {x : ua4} (h : wi7 l t x) {v : DV} (hz : valE x v = 0) : vF8 v = true := by
  obtain ⟨a1, a2⟩ := t7 40 x (sokN h.valid 40 t x h.sr) v hz
  have := h.nds
  exact decide_eq_true ⟨by omega, a2⟩
end Go.Proofs.YtaennkkcnhfglaaGreatDoor.Ev.F
namespace Go.Proofs.YtaennkkcnhfglaaGreatDoor.Ev.F
open Go.Proofs.YtaennkkcnhfglaaGreatDoor.Ev
theorem x55 {a b : Nat} (ha : a < 2 ^ 62) (hb : b < 2 ^ 62) : bits .or .i64 (a : Int) (b : Int) = ((a ||| b : Nat) : Int) := by
  rw [vw8]
  unfold vw7
  show IntKind.wrap .i64 (((BitVec.ofInt 64 (a : Int) ||| BitVec.ofInt 64 (b : Int)).toNat : Nat) : Int) = _
  rw [BitVec.toNat_or, BitVec.ofInt_natCast, BitVec.ofInt_natCast, BitVec.toNat_ofNat, BitVec.toNat_ofNat, Nat.mod_eq_of_lt (by omega), Nat.mod_eq_of_lt (by omega)]
  have := Nat.or_lt_two_pow ha hb
  exact wrap_i64 (by omega) (by omega)
theorem uU6 (k : Nat) : pw (k : Int) = ((2 ^ k : Nat) : Int) := by simp [pw]
theorem xM5 {V k b : Nat} (hV : V < 65536) (hk : k ≤ 16) (hb : b < 2 ^ k) : bits .or .i64 (shl .i64 (V : Int) (k : Int)) (b : Int) = ((V * 2 ^ k + b : Nat) : Int) := by
  have hk2 := uB6 hk
  have hm : V * 2 ^ k ≤ 65536 * 65536 := Nat.mul_le_mul (by omega) hk2
  have e : (V : Int) * pw (k : Int) = ((V * 2 ^ k : Nat) : Int) := by rw [uU6, Int.natCast_mul]
  rw [xN7 (by omega) (by rw [e]; omega) (by rw [e]; omega), e, x55 (by omega) (by omega)]
  rw [← Nat.shiftLeft_eq, ← Nat.shiftLeft_add_eq_or_of_lt hb]
theorem v82 (n k : Nat) (hk : k ≤ 16) : shr .i64 (n : Int) (k : Int) = ((n / 2 ^ k : Nat) : Int) := by
  rw [x82 (by omega), uU6, Int.natCast_ediv]
theorem wp0 (n k : Nat) (hk : k ≤ 16) (hn : n ≤ 10000000) : bits .and .i64 (n : Int) (IntKind.wrap .i64 (shl .i64 1 (k : Int) - 1)) = ((n % 2 ^ k : Nat) : Int) := by
  have hk2 := uB6 hk
  have hp := uj5 k
  rw [vE9 (by omega), uU6, wrap_i64 (by omega) (by omega), ← uU6, xy0 (by omega) (by omega) (by omega) (by omega), uU6, Int.natCast_emod]
theorem wr4 (k : Nat) (hk : k ≤ 16) : IntKind.wrap .i64 (shl .i64 1 (k : Int) - 1) = ((2 ^ k : Nat) : Int) - 1 := by
  have hk2 := uB6 hk
  have hp := uj5 k
  rw [vE9 (by omega), uU6, wrap_i64 (by omega) (by omega)]
inductive vl8 : DV → Prop
 | mk (n : ByteArray) (k : Int) (ps : List DV) (h : ps.length ≤ big) (hs : ∀ p ∈ ps, vl8 p) : vl8 ⟨n, k, ps⟩
theorem wi6 : ∀ v, vsz v ≤ big → vl8 v := by
  refine uX4 fun n k ps ih h => ?_
  rw [uX5] at h
  simp only at h
  exact .mk n k ps (by have := u74 ps; omega) fun p hp => ih p hp (by have := vF7 hp; omega)
def wj3 (t : DV) : Prop := ∀ d n : Nat, 1 ≤ d → d ≤ 41 → n ≤ 200 → ∃ r, uj1 (.start t.Name t.Number t.Parts (d : Int) (n : Int)) = some r ∧ r.1.1 = decide (n + vsz t ≤ 200 ∧ d + vdp t ≤ 41) ∧ (r.1.1 = true → r.2.1.1 = ((n + vsz t : Nat) : Int))
theorem vP7 (ps : List DV) (hps : ∀ p ∈ ps, wj3 p) (hl : ps.length ≤ big) (d : Nat) (h1 : 1 ≤ d) (h2 : d ≤ 40) : ∀ {i}, i ≤ ps.length → ∀ n : Nat, n ≤ 200 → ∃ r, uj1 (.p244 (d : Int) ps (List.length ps : Int) (i : Int) (n : Int)) = some r ∧ r.1.1 = decide (n + vszs (ps.drop i) ≤ 200 ∧ d + vdps (ps.drop i) ≤ 40) ∧ (r.1.1 = true → r.2.1.1 = ((n + vszs (ps.drop i) : Nat) : Int)) := by
  refine ub3 ps (P := fun i => ∀ n : Nat, n ≤ 200 → ∃ r, uj1 (.p244 (d : Int) ps (List.length ps : Int) (i : Int) (n : Int)) = some r ∧ r.1.1 = decide (n + vszs (ps.drop i) ≤ 200 ∧ d + vdps (ps.drop i) ≤ 40) ∧ (r.1.1 = true → r.2.1.1 = ((n + vszs (ps.drop i) : Nat) : Int))) ?_ ?_
  · intro n hn
    rw [uj1]
    refine ⟨_, by simp only [lt_f, Bool.false_eq_true, if_false]; rfl, ?_, ?_⟩
    · rw [List.drop_length, uM4, u73]; simp; omega
    · rw [List.drop_length, uM4]; simp
  · intro i hi ih n hn
    rw [uj1]
    simp only [lt_t hi, if_true, ub4 hi, ua2]
    obtain ⟨r, e1, e2, e3⟩ := hps ps[i] (List.getElem_mem hi) (d + 1) n (by omega) (by omega) hn
    rw [ug1 (by omega), e1]
    simp only [ua2]
    rw [ub2 hi, uI5, vl7]
    cases hb : r.1.1 with
    | false =>
      rw [hb] at e2
      refine ⟨_, by simp only [Bool.not_false, if_true]; rfl, ?_, ?_⟩
      · simp only
        have := of_decide_eq_false e2.symm
        symm
        refine decide_eq_false ?_
        have := Nat.le_max_left (vdp ps[i]) (vdps (ps.drop (i + 1)))
        omega
      · intro h; cases h
    | true =>
      rw [hb] at e2
      have h3 := of_decide_eq_true e2.symm
      obtain ⟨r', f1, f2, f3⟩ := ih (n + vsz ps[i]) h3.1
      refine ⟨r', ?_, ?_, ?_⟩
      · simp only [Bool.not_true, Bool.false_eq_true, if_false]
        rw [e3 hb, ub1 hi hl]
        exact f1
      · rw [f2]
        refine decide_eq_decide.2 ?_
        have := Nat.le_max_left (vdp ps[i]) (vdps (ps.drop (i + 1)))
        have := Nat.le_max_right (vdp ps[i]) (vdps (ps.drop (i + 1)))
        have : max (vdp ps[i]) (vdps (ps.drop (i + 1))) = vdp ps[i] ∨ max (vdp ps[i]) (vdps (ps.drop (i + 1))) = vdps (ps.drop (i + 1)) := by omega
        omega
      · intro h
        rw [f3 h]
        congr 1
        omega
theorem xI8 : ∀ t, vl8 t → wj3 t := by
  refine uX4 fun s k ps ih hok => ?_
  obtain ⟨_, _, _, hl, hs⟩ := hok
  intro d n h1 h2 hn
  have hsz : vsz ⟨s, k, ps⟩ = 1 + vszs ps := uX5 _
  have hdp : vdp ⟨s, k, ps⟩ = 1 + vdps ps := wB9 _
  rw [uj1, hsz, hdp]
  simp only
  rw [ug1 (by omega)]
  by_cases hc : n + 1 > 200
  · refine ⟨_, by rw [if_pos (by simp; omega)], ?_, ?_⟩
    · simp only
      symm
      exact decide_eq_false (by omega)
    · intro h; cases h
  · rw [if_neg (by simp; omega)]
    by_cases hd : d > 40
    · refine ⟨_, by rw [if_pos (by simp; omega)], ?_, ?_⟩
      · simp only
        symm
        exact decide_eq_false (by omega)
      · intro h; cases h
    · rw [if_neg (by simp; omega)]
      rw [uj1]
      simp only [u23, ua2]
      obtain ⟨r, e1, e2, e3⟩ := vP7 ps (fun p hp => ih p hp (hs p hp)) hl d h1 (by omega) (Nat.zero_le _) (n + 1) (by omega)
      refine ⟨r, e1, ?_, ?_⟩
      · rw [e2, List.drop_zero]
        exact decide_eq_decide.2 (by omega)
      · intro h
        rw [e3 h, List.drop_zero]
        congr 1
        omega
theorem x00 (t : DV) (h : vl8 t) : uH7 (.start t.Name t.Number t.Parts) = some ((if vF8 t = true then 0 else 8, ()), ()) := by
  rw [uH7]
  obtain ⟨r, e1, e2, _⟩ := xI8 t h 1 0 (by omega) (by omega) (by omega)
  rw [show ((1 : Int)) = ((1 : Nat) : Int) from rfl, show ((0 : Int)) = ((0 : Nat) : Int) from rfl, e1]
  simp only [ua2, uB7]
  rw [e2]
  have : decide (0 + vsz t ≤ 200 ∧ 1 + vdp t ≤ 41) = vF8 t := decide_eq_decide.2 (by omega)
  rw [this]
  rfl
theorem xJ4 : ∀ (t : DV) (d n : Nat), 1 ≤ d → d ≤ 41 → n ≤ 200 → uf4 (.start t.Name t.Number t.Parts (d : Int) (n : Int)) = some (((if n + vsz t ≤ 200 ∧ d + vdp t ≤ 41 then ((n + vsz t : Nat) : Int) else 201), ()), ()) := by
  refine uX4 fun s k ps ih d n h1 h2 hn => ?_
  have hts : vsz ⟨s, k, ps⟩ = 1 + vszs ps := uX5 _
  have htd : vdp ⟨s, k, ps⟩ = 1 + vdps ps := wB9 _
  rw [uf4, hts, htd]
  simp only
  by_cases hd : d > 40
  · rw [if_pos (by simp; omega), if_neg (by omega)]
  · rw [if_neg (by simp; omega), ug1 (by omega)]
    by_cases hc : n + 1 > 200
    · rw [if_pos (by simp; omega), if_neg (by omega)]
    · rw [if_neg (by simp; omega)]
      by_cases hp : ps.length > 200
      · rw [if_pos (by simp; omega), if_neg (by have := u74 ps; omega)]
      · rw [if_neg (by simp; omega), uf4]
        have loop : ∀ {i}, i ≤ ps.length → ∀ m : Nat, m ≤ 200 → uf4 (.p244 (d : Int) (m : Int) (i : Int) s k ps) = some (((if m + vszs (ps.drop i) ≤ 200 ∧ d + vdps (ps.drop i) ≤ 40 then ((m + vszs (ps.drop i) : Nat) : Int) else 201), ()), ()) := by
          refine ub3 ps (P := fun i => ∀ m : Nat, m ≤ 200 → uf4 (.p244 (d : Int) (m : Int) (i : Int) s k ps) = some (((if m + vszs (ps.drop i) ≤ 200 ∧ d + vdps (ps.drop i) ≤ 40 then ((m + vszs (ps.drop i) : Nat) : Int) else 201), ()), ())) ?_ ?_
          · intro m hm
            rw [uf4]
            simp only [lt_f, Bool.false_eq_true, if_false]
            rw [List.drop_length, uM4, u73]
            rw [if_pos (by omega)]
            rfl
          · intro i hi ihl m hm
            rw [uf4]
            simp only [lt_t hi, if_true, show decide ((m : Int) ≤ 200) = true by simp; omega]
            rw [uf4]
            simp only [ub4 hi, ua2]
            rw [ug1 (by omega), ih ps[i] (List.getElem_mem hi) (d + 1) m (by omega) (by omega) hm]
            simp only [ua2]
            rw [ub1 hi (by omega), ub2 hi, uI5, vl7]
            have m1 := Nat.le_max_left (vdp ps[i]) (vdps (ps.drop (i + 1)))
            have m2 := Nat.le_max_right (vdp ps[i]) (vdps (ps.drop (i + 1)))
            have m3 : max (vdp ps[i]) (vdps (ps.drop (i + 1))) = vdp ps[i] ∨ max (vdp ps[i]) (vdps (ps.drop (i + 1))) = vdps (ps.drop (i + 1)) := by omega
            by_cases hx : m + vsz ps[i] ≤ 200 ∧ d + 1 + vdp ps[i] ≤ 41
            · rw [if_pos hx, ihl _ hx.1]
              by_cases hy : m + vsz ps[i] + vszs (ps.drop (i + 1)) ≤ 200 ∧ d + vdps (ps.drop (i + 1)) ≤ 40
              · rw [if_pos hy, if_pos (by omega)]
                congr 4
                omega
              · rw [if_neg hy, if_neg (by omega)]
            · rw [if_neg hx]
              have hq : decide ((201 : Int) ≤ 200) = false := by decide
              rw [if_neg (by omega)]
              rw [uf4]
              by_cases hz : i + 1 < ps.length
              · simp only [lt_t hz, if_true, hq, Bool.false_eq_true, if_false]
              · have : i + 1 = ps.length := by omega
                rw [this]
                simp only [lt_f, Bool.false_eq_true, if_false]
        have := loop (Nat.zero_le _) (n + 1) (by omega)
        rw [List.drop_zero] at this
        rw [show ((0 : Int)) = ((0 : Nat) : Int) from rfl, this]
        by_cases hy : n + 1 + vszs ps ≤ 200 ∧ d + vdps ps ≤ 40
        · rw [if_pos hy, if_pos (by omega)]
          congr 4
          omega
        · rw [if_neg hy, if_neg (by omega)]
theorem x78 (t : DV) : uW3 (.start t.Name t.Number t.Parts) = some ((vF8 t, ()), ()) := by
  rw [uW3, show ((1 : Int)) = ((1 : Nat) : Int) from rfl, show ((0 : Int)) = ((0 : Nat) : Int) from rfl, xJ4 t 1 0 (by omega) (by omega) (by omega)]
  simp only [ua2]
  unfold vF8
  by_cases h : vsz t ≤ 200 ∧ vdp t ≤ 40
  · rw [if_pos (by omega)]
    simp only [Nat.zero_add]
    rw [show decide (((vsz t : Nat) : Int) ≤ 200) = true by simp; omega, decide_eq_true h]
  · rw [if_neg (by omega), decide_eq_false h]
    rfl
theorem vv5 (v : DV) : (⟨v.Name, v.Number, v.Parts⟩ : DV) = v := by cases v; rfl
theorem x71 : ∀ v, vsz v ≤ 1000000 → uj8 (.start v.Name v.Number v.Parts) = some (((v.Name, (v.Number, (v.Parts, ()))), ()), ()) := by
  refine uX4 fun s k ps ih hsz => ?_
  rw [uX5] at hsz
  simp only at hsz
  have hlen := u74 ps
  rw [uj8]
  have loop : ∀ {i}, i ≤ ps.length → uj8 (.p244 (i : Int) s k ps (⟨#[]⟩ : ByteArray) 0 s k (ps.take i)) = some (((s, (k, (ps, ()))), ()), ()) := by
    refine ub3 ps (P := fun i => uj8 (.p244 (i : Int) s k ps (⟨#[]⟩ : ByteArray) 0 s k (ps.take i)) = some (((s, (k, (ps, ()))), ()), ())) ?_ ?_
    · rw [uj8]
      simp only [lt_f, Bool.false_eq_true, if_false, List.take_length]
    · intro i hi ihl
      rw [uj8]
      have hm := vF7 (List.getElem_mem hi)
      simp only [lt_t hi, if_true, ub4 hi, ua2, ih _ (List.getElem_mem hi) (by omega), vv5]
      rw [if_pos (ug4 (by simp only [List.length_take, List.length_cons, List.length_nil]; omega)), ub1 hi (by omega), ← uc3 hi]
      exact ihl
  exact loop (Nat.zero_le _)
end Go.Proofs.YtaennkkcnhfglaaGreatDoor.Ev.F
namespace Go.Proofs.YtaennkkcnhfglaaGreatDoor.Ev.F
open Go.Proofs.YtaennkkcnhfglaaGreatDoor.Ev
theorem vJ9 : ∀ (vs : List data_variant) (j : Nat) (c : data_variant) (v : DV), vs[j]? = some c → c.name = v.Name → (∀ k b, k < j → vs[k]? = some b → b.name ≠ v.Name) → valVs vs v = valW c v ∧ pkT vs v = (j, pkW c v)
 | [], j, c, v, h, _, _ => by simp at h
 | d :: r, 0, c, v, h, hn, _ => by
   obtain rfl : d = c := by simpa using h
   rw [uq2, uU2, if_pos hn, if_pos hn]
   exact ⟨rfl, rfl⟩
 | d :: r, j + 1, c, v, h, hn, hk => by
   have h0 := hk 0 d (by omega) rfl
   obtain ⟨a1, a2⟩ := vJ9 r j c v (by simpa using h) hn (fun k b hkj hb => hk (k + 1) b (by omega) (by simpa using hb))
   rw [uq2, uU2, if_neg h0, if_neg h0, a1, a2]
   exact ⟨rfl, rfl⟩
theorem xM4 : ∀ (vs : List data_variant) (v : DV), (∀ c ∈ vs, c.name ≠ v.Name) → valVs vs v = 6
 | [], v, _ => vl4 v
 | d :: r, v, h => by
   rw [uq2, if_neg (h d (List.mem_cons_self ..))]
   exact xM4 r v fun c hc => h c (List.mem_cons_of_mem _ hc)
theorem vJ3 (vs : List data_variant) (v : DV) : (ix (fun c => decide (c.name = v.Name)) vs = -1 ∧ valVs vs v = 6) ∨ ∃ (j : Nat) (c : data_variant), ix (fun c => decide (c.name = v.Name)) vs = (j : Int) ∧ vs[j]? = some c ∧ c.name = v.Name ∧ valVs vs v = valW c v ∧ pkT vs v = (j, pkW c v) := by
  rcases va9 (fun c : data_variant => decide (c.name = v.Name)) vs with ⟨e1, e2⟩ | ⟨j, c, e1, e2, e3, e4⟩
  · exact .inl ⟨e1, xM4 vs v fun c hc => of_decide_eq_false (e2 c hc)⟩
  · have hn := of_decide_eq_true e3
    obtain ⟨a1, a2⟩ := vJ9 vs j c v e2 hn fun k b hk hb => of_decide_eq_false (e4 k b hk hb)
    exact .inr ⟨j, c, e1, e2, hn, a1, a2⟩
theorem xY1 {p : Prop} [Decidable p] {a b : Int} : (if decide p = true then a else b) = if p then a else b := by by_cases h : p <;> simp [h]
def PVal (x : ua4) : Prop := ∀ v, vsz v ≤ 200 → run_z53 (.start (some x) v.Name v.Number v.Parts) = some ((valE x v, ()), ())
theorem ya3 (n : ByteArray) (fs : List ua6) {ps : List (Option ua4)} (h : AllP (fun x => SOk x ∧ Sm x ∧ PVal x) ps) (l : List DV) (hl : l.length = ps.length) (hs : vszs l ≤ 200) : ∃ j : Int, run_z54 (.start l n fs (some ps)) = some ((j, (valP ps l, ())), ((n, (fs, (some ps, ()))), ())) := by
  rw [run_z54]
  have hll := u74 l
  have loop : ∀ {i}, i ≤ l.length → ∃ j : Int, run_z54 (.p52 l (List.length l : Int) (i : Int) n fs (some ps)) = some ((j, (valP (ps.drop i) (l.drop i), ())), ((n, (fs, (some ps, ()))), ())) := by
    refine ub3 l (P := fun i => ∃ j : Int, run_z54 (.p52 l (List.length l : Int) (i : Int) n fs (some ps)) = some ((j, (valP (ps.drop i) (l.drop i), ())), ((n, (fs, (some ps, ()))), ()))) ?_ ?_
    · rw [run_z54]
      simp only [lt_f, Bool.false_eq_true, if_false]
      rw [hl, List.drop_length, wB8]
      exact ⟨0, rfl⟩
    · intro i hi ⟨j, hj⟩
      have hi2 : i < ps.length := by omega
      obtain ⟨x, hx, _, _, hq⟩ := h ps[i] (List.getElem_mem hi2)
      have hm := vF7 (List.getElem_mem hi)
      rw [run_z54]
      simp only [lt_t hi, if_true, ub4 hi, ua2]
      rw [u25]
      simp only [Option.getD_some, ub4 hi2, ua2, hx, hq l[i] (by omega)]
      rw [ub2 hi2, ub2 hi, hx, vl2]
      by_cases h0 : valE x l[i] = 0
      · rw [h0, if_neg (by simp), if_pos rfl, ub1 hi (by omega)]
        exact ⟨j, hj⟩
      · rw [if_pos (by simpa using h0), if_neg h0]
        exact ⟨_, rfl⟩
  obtain ⟨j, hj⟩ := loop (Nat.zero_le _)
  rw [List.drop_zero, List.drop_zero] at hj
  exact ⟨j, hj⟩
theorem pval : ∀ x, SOk x → Sm x → PVal x := by
  refine vj6 (fun b h1 h2 v hv => ?_) (fun vs h0 h1 hn hw h v hv => ?_)
  · rw [run_z53, uU3, vF5]
    obtain ⟨k, rfl⟩ := Int.eq_ofNat_of_zero_le (show 0 ≤ b by omega)
    have hk : k ≤ 16 := by omega
    simp only [ua2, if_true, uk3, decide_eq_true (show (0 : Int) ≤ (k : Int) by omega), wr4 k hk, u13, uB7, uU6]
    have e1 : ((List.length v.Parts : Int) == 0) = decide (v.Parts.length = 0) := by
      rw [Bool.eq_iff_iff]; simp
    have e2 : (if decide (0 ≤ v.Number ∧ v.Number ≤ ((2 ^ k : Nat) : Int) - 1) = true then (0 : Int) else 2) = if 0 ≤ v.Number ∧ v.Number ≤ ((2 ^ k : Nat) : Int) - 1 then 0 else 2 := xY1
    by_cases hnm : v.Name = uy5
    · rw [if_pos (by simpa using hnm), uU0 _ (by simp [big]), e1, e2]
      have e3 : (if decide (v.Parts.length = 0) = true then (0 : Int) else 3) = if v.Name = uy5 ∧ v.Parts.length = 0 then 0 else 3 := by
        by_cases hp : v.Parts.length = 0 <;> simp [hp, hnm]
      rw [e3]
      simp only [ua2]
    · rw [if_neg (by simpa using hnm), uU0 _ (by simp [big])]
      have e3 : (if v.Name = uy5 ∧ v.Parts.length = 0 then (0 : Int) else 3) = 3 := if_neg fun hh => hnm hh.1
      rw [e3]
      rfl
  · rw [run_z53, uU4 _ _ h0, uM3]
    simp only [ua2, Bool.false_eq_true, if_false]
    rw [xd2 _ v.Name (by simp only [Option.getD_some]; unfold big; omega)]
    simp only [ua2, Option.getD_some]
    rcases vJ3 vs v with ⟨e1, e2⟩ | ⟨j, c, e1, e2, e3, e4, e5⟩
    · rw [e1, e2, if_pos (by decide)]
    · rw [e1, e4, if_neg (by simp), u02, e2]
      obtain ⟨n, fs, ps, rfl, q1, q2, hp⟩ := h c (List.mem_of_getElem? e2)
      simp only [ua2, uB7, Option.getD_some]
      rw [uU0 _ (by simp [big]), vl5]
      simp only [ua2]
      have f1 : (if (v.Number == (0 : Int)) = true then (0 : Int) else 3) = if v.Number = 0 then 0 else 3 := by by_cases hh : v.Number = 0 <;> simp [hh]
      have f2 : (if ((List.length v.Parts : Int) == (List.length ps : Int)) = true then (0 : Int) else 10) = if v.Parts.length = ps.length then 0 else 10 := by
        by_cases hh : v.Parts.length = ps.length
        · rw [if_pos (by simp [hh]), if_pos hh]
        · rw [if_neg (by simp; omega), if_neg hh]
      rw [f1, f2]
      simp only [uh3]
      by_cases g1 : v.Number = 0
      · by_cases g2 : v.Parts.length = ps.length
        · have hvs : vszs v.Parts ≤ 200 := by rw [uX5] at hv; omega
          obtain ⟨j2, e6⟩ := ya3 n fs hp v.Parts g2 hvs
          simp only [if_pos g1, if_pos g2, if_true, bne_self_eq_false, Bool.false_eq_true, if_false, e6, ua2]
          by_cases g3 : valP ps v.Parts = 0
          · rw [if_pos g3, g3]
          · rw [if_neg g3]
        · simp only [if_pos g1, if_neg g2, if_true]
          rfl
      · simp only [if_neg g1]
        rfl
def PPk (x : ua4) : Prop := T3 x ∧ ∀ v, valE x v = 0 → uk1 (.start (some x) v.Name v.Number v.Parts) = some (((pk_ x v : Int), ()), ())
theorem ppk {l : List ua3} (hv : ux1 l) : ∀ n t x, SR l n t x → Sm x → PPk x := by
  refine wr3 hv (fun b h1 h2 => ?_) (fun vs h0 h1 hn hw hq h => ?_)
  · have hb : BitR ⟨1, 0, sBit, [⟨2, b, uy5, []⟩]⟩ ⟨b, none⟩ := ⟨rfl, rfl, _, rfl, h1, h2, rfl⟩
    refine ⟨t3 hv 1 _ _ (.inl hb) ⟨by rw [vB1]; omega, by rw [uR4]; omega⟩, fun v hz => ?_⟩
    obtain ⟨_, _, z3, _⟩ := uD6 hz
    rw [uk1, uU3, xc9]
    simp only [ua2, if_true]
    rw [Int.toNat_of_nonneg z3]
  · have h3 : AllV (fun x => SOk x ∧ Sm x ∧ T3 x) vs := h.mono fun x hx => ⟨hx.1, hx.2.1, hx.2.2.1⟩
    have hT3 : T3 ⟨0, some vs⟩ := fun v hz => by
      rw [uM3] at hz
      obtain ⟨a1, a2, a3⟩ := t3Vs vs (rooms vs) (Nat.le_refl _) h3 v hz
      have hp := uj5 (rooms vs)
      have ht := u72 vs.length h1
      have e1 : ((pkT vs v).1 * 2 ^ rooms vs + (pkT vs v).2) / 2 ^ rooms vs = (pkT vs v).1 := by
        rw [Nat.add_comm, Nat.add_mul_div_right _ _ hp, Nat.div_eq_of_lt a2, Nat.zero_add]
      have e2 : ((pkT vs v).1 * 2 ^ rooms vs + (pkT vs v).2) % 2 ^ rooms vs = (pkT vs v).2 := by
        rw [Nat.add_comm, Nat.add_mul_mod_self_right, Nat.mod_eq_of_lt a2]
      rw [wp5, u32, uD7, Nat.pow_add, e1, e2]
      refine ⟨?_, a3⟩
      have : ((pkT vs v).1 + 1) * 2 ^ rooms vs ≤ 2 ^ tagN vs.length * 2 ^ rooms vs := Nat.mul_le_mul_right _ (by omega)
      rw [Nat.add_mul] at this
      omega
    refine ⟨hT3, fun v hz => ?_⟩
    have hz' := hz
    rw [uM3] at hz
    obtain ⟨b1, b2, _⟩ := t3Vs vs (rooms vs) (Nat.le_refl _) h3 v hz
    rw [uk1, uU4 _ _ h0]
    simp only [ua2, Bool.false_eq_true, if_false]
    rw [xd2 _ v.Name (by simp only [Option.getD_some]; unfold big; omega)]
    simp only [ua2, Option.getD_some]
    rcases vJ3 vs v with ⟨e1, e2⟩ | ⟨j, c, e1, e2, e3, e4, e5⟩
    · rw [e2] at hz; cases hz
    · rw [e1, u02, e2]
      have hcm := List.mem_of_getElem? e2
      obtain ⟨n, fs, ps, rfl, q1, q2, hp⟩ := h c hcm
      rw [e4] at hz
      obtain ⟨z1, z2, z3⟩ := vl6 hz
      obtain ⟨k1, k2, k3⟩ := uW7 hn hw hcm
      have hPW : AllV PW vs := h.mono fun x hx => pwid x hx.1
      simp only [ua2, Option.getD_some]
      rw [wp5, e5] 
      rw [e5] at b1 b2
      simp only at b1 b2 ⊢
      rw [vB6] at b2 ⊢
      have loop : ∀ {i}, i ≤ ps.length → ∀ a : Nat, (valP (ps.drop i) (v.Parts.drop i) = 0) → a * 2 ^ roomP (ps.drop i) + pkP (ps.drop i) (v.Parts.drop i) < 65536 → uk1 (.p500 (some ⟨0, some vs⟩) (j : Int) (a : Int) (some ps) (List.length ps : Int) (i : Int) v.Name v.Number v.Parts) = some ((((j * 2 ^ rooms vs + (a * 2 ^ roomP (ps.drop i) + pkP (ps.drop i) (v.Parts.drop i)) : Nat) : Int), ()), ()) ∨ ¬ (a * 2 ^ roomP (ps.drop i) + pkP (ps.drop i) (v.Parts.drop i) < 2 ^ rooms vs) := by
        refine ub3 ps (P := fun i => ∀ a : Nat, (valP (ps.drop i) (v.Parts.drop i) = 0) → a * 2 ^ roomP (ps.drop i) + pkP (ps.drop i) (v.Parts.drop i) < 65536 → uk1 (.p500 (some ⟨0, some vs⟩) (j : Int) (a : Int) (some ps) (List.length ps : Int) (i : Int) v.Name v.Number v.Parts) = some ((((j * 2 ^ rooms vs + (a * 2 ^ roomP (ps.drop i) + pkP (ps.drop i) (v.Parts.drop i)) : Nat) : Int), ()), ()) ∨ ¬ (a * 2 ^ roomP (ps.drop i) + pkP (ps.drop i) (v.Parts.drop i) < 2 ^ rooms vs)) ?_ ?_
        · intro a _ ha
          by_cases hlt : a * 2 ^ roomP (ps.drop ps.length) + pkP (ps.drop ps.length) (v.Parts.drop ps.length) < 2 ^ rooms vs
          · left
            rw [List.drop_length, ur0, v08, Nat.pow_zero, Nat.mul_one, Nat.add_zero] at hlt ha ⊢
            rw [uk1]
            simp only [lt_f, Bool.false_eq_true, if_false]
            rw [xZ6 0 hPW h1 (by omega)]
            simp only [ua2]
            rw [if_pos (by simp), xM5 (by omega) (by omega) hlt]
          · exact .inr hlt
        · intro i hi ih a hz4 ha
          have hil : i < v.Parts.length := by omega
          obtain ⟨x, hx, hq1, hq2, hq3, hq4⟩ := hp ps[i] (List.getElem_mem hi)
          rw [ub2 hi, ub2 hil, hx] at hz4 ha ⊢
          obtain ⟨y1, y2⟩ := vl3 hz4
          rw [ue7, vB5, Nat.pow_add] at ha ⊢
          have hpx := (hq3 _ y1).1
          have hwx := hq2.2
          have hpr := uj5 (roomP (ps.drop (i + 1)))
          have hpwx := uj5 (wid x)
          have hsum : a * (2 ^ wid x * 2 ^ roomP (ps.drop (i + 1))) + (pk_ x v.Parts[i] * 2 ^ roomP (ps.drop (i + 1)) + pkP (ps.drop (i + 1)) (v.Parts.drop (i + 1))) = (a * 2 ^ wid x + pk_ x v.Parts[i]) * 2 ^ roomP (ps.drop (i + 1)) + pkP (ps.drop (i + 1)) (v.Parts.drop (i + 1)) := by
            rw [Nat.add_mul, Nat.mul_assoc, Nat.add_assoc]
          rw [hsum] at ha ⊢
          have ha2 : a < 65536 := by
            have u1 : a * 1 ≤ a * 2 ^ wid x := Nat.mul_le_mul_left _ hpwx
            have u2 : (a * 2 ^ wid x + pk_ x v.Parts[i]) * 1 ≤ (a * 2 ^ wid x + pk_ x v.Parts[i]) * 2 ^ roomP (ps.drop (i + 1)) := Nat.mul_le_mul_left _ hpr
            omega
          rcases ih (a * 2 ^ wid x + pk_ x v.Parts[i]) y2 ha with h5 | h5
          · left
            rw [uk1]
            simp only [lt_t hi, if_true, Option.getD_some, ub4 hi, ua2, hx, (pwid x hq1 hq2.1).1, decide_eq_true (show (0 : Int) ≤ (wid x : Int) by omega), ub4 hil, hq4 _ y1]
            rw [xM5 ha2 hwx hpx, ub1 hi (by omega)]
            exact h5
          · exact .inr h5
      have h5 := uB6 (show rooms vs ≤ 16 by omega)
      have := loop (Nat.zero_le _) 0 (by rw [List.drop_zero, List.drop_zero]; exact z3) (by rw [List.drop_zero, List.drop_zero]; omega)
      rw [List.drop_zero, List.drop_zero, Nat.zero_mul, Nat.zero_add] at this
      rcases this with h6 | h6
      · exact h6
      · exact absurd b2 h6
end Go.Proofs.YtaennkkcnhfglaaGreatDoor.Ev.F
namespace Go.Proofs.YtaennkkcnhfglaaGreatDoor.Ev.F
open Go.Proofs.YtaennkkcnhfglaaGreatDoor.Ev
def PU (x : ua4) : Prop := ∀ n : Nat, n < 2 ^ wid x → ∃ r, uk2 (.start (some x) (n : Int)) = some r ∧ r.1.2.1 = (upk x n).isSome ∧ ∀ v, upk x n = some v → r.1.1 = (v.Name, (v.Number, (v.Parts, ())))
theorem vl1 : ∀ (vs : List data_variant) (k f : Nat), upkVs vs k f = match vs[k]? with | some c => upkW c f | none => none
 | [], k, f => by rw [uX3]; rfl
 | v :: r, 0, f => by rw [uA0]; rfl
 | v :: r, k + 1, f => by rw [uz9, vl1 r k f]; rfl
theorem pupk : ∀ x, SOk x → Sm x → PU x := by
  refine vj6 (fun b h1 h2 n hn => ?_) (fun vs h0 h1 hnd hw h n hn => ?_)
  · rw [uk2, uU3, vF4]
    simp only [ua2, if_true]
    exact ⟨_, rfl, rfl, fun v hv => by obtain rfl := Option.some.inj hv; rfl⟩
  · have hPW : AllV PW vs := h.mono fun x hx => pwid x hx.1
    have h16 : rooms vs ≤ 16 := by omega
    have hsz : n < 65536 := by
      rw [uD7] at hn
      have := uB6 hw
      omega
    rw [uk2, uU4 _ _ h0]
    simp only [ua2, Bool.false_eq_true, if_false, xZ6 0 hPW h1 (show ndsV vs ≤ 200 by omega), decide_eq_true (show (0 : Int) ≤ (rooms vs : Int) by omega), if_true, Option.getD_some, v82 n _ h16, wp0 n _ h16 (by omega)]
    by_cases ht : vs.length ≤ n / 2 ^ rooms vs
    · have hU : upk ⟨0, some vs⟩ n = none := by rw [u32, vl1, List.getElem?_eq_none (by omega)]
      rw [decide_eq_true (by omega), if_pos rfl, hU]
      exact ⟨_, rfl, rfl, fun v hv => (by cases hv)⟩
    · rw [decide_eq_false (by omega), if_neg (by simp)]
      have hlt : n / 2 ^ rooms vs < vs.length := by omega
      rw [ub4 hlt]
      obtain ⟨nm, fs, ps, hx, q1, q2, hp⟩ := h _ (List.getElem_mem hlt)
      have hcm := hx ▸ List.getElem_mem hlt
      obtain ⟨k1, k2, k3⟩ := uW7 hnd hw hcm
      have hPP : AllP PW ps := hp.mono fun x hx => pwid x hx.1
      have hU : upk ⟨0, some vs⟩ n = upkW ⟨nm, fs, some ps⟩ (n % 2 ^ rooms vs) := by rw [u32, vl1, List.getElem?_eq_getElem hlt, hx]
      rw [hU]
      generalize hF : n % 2 ^ rooms vs = F
      have hFlt : F < 65536 := by rw [← hF]; exact Nat.lt_of_le_of_lt (Nat.mod_le _ _) hsz
      rw [hx, uI4]
      simp only [ua2, Option.getD_some, xM9 nm fs hPP q2 (show ndsP ps ≤ 200 by omega), decide_eq_true (show (0 : Int) ≤ (roomP ps : Int) by omega), if_true, v82 F _ (show roomP ps ≤ 16 by omega)]
      have hpp := uj5 (roomP ps)
      by_cases hf : F < 2 ^ roomP ps
      · rw [Nat.div_eq_of_lt hf, if_pos hf, if_neg (by simp)]
        have loop : ∀ {i}, i ≤ ps.length → ∀ acc : List DV, acc.length = i → ∃ r, uk2 (.p8180 (F : Int) (roomP (ps.drop i) : Int) (some ps) (List.length ps : Int) (i : Int) nm 0 acc) = some r ∧ r.1.2.1 = (upkP (ps.drop i) F).isSome ∧ ∀ l, upkP (ps.drop i) F = some l → r.1.1 = (nm, (0, (acc ++ l, ()))) := by
          refine ub3 ps (P := fun i => ∀ acc : List DV, acc.length = i → ∃ r, uk2 (.p8180 (F : Int) (roomP (ps.drop i) : Int) (some ps) (List.length ps : Int) (i : Int) nm 0 acc) = some r ∧ r.1.2.1 = (upkP (ps.drop i) F).isSome ∧ ∀ l, upkP (ps.drop i) F = some l → r.1.1 = (nm, (0, (acc ++ l, ())))) ?_ ?_
          · intro acc _
            rw [uk2, List.drop_length, uM2]
            simp only [lt_f, Bool.false_eq_true, if_false]
            exact ⟨_, rfl, rfl, fun l hl => by obtain rfl := Option.some.inj hl; rw [List.append_nil]⟩
          · intro i hi ih acc hacc
            obtain ⟨x, hxi, hq1, hq2, hq3⟩ := hp ps[i] (List.getElem_mem hi)
            have hwx := hq2.2
            have hr := vQ8 (hxi ▸ List.getElem_mem hi)
            have hdrop : roomP (ps.drop i) = wid x + roomP (ps.drop (i + 1)) := by rw [ub2 hi, hxi, ue7]
            have hrb : roomP (ps.drop (i + 1)) ≤ 16 := by
              have : ∀ (q : List (Option ua4)) (k : Nat), roomP (q.drop k) ≤ roomP q := by
                intro q
                induction q with
                | nil => intro k; rw [List.drop_nil]; exact Nat.le_refl _
                | cons p r ihq =>
                  intro k
                  cases k with
                  | zero => exact Nat.le_refl _
                  | succ k =>
                    have := ihq k
                    simp only [List.drop_succ_cons]
                    cases p with
                    | none => rw [roomP]; exact this
                    | some y => rw [ue7]; omega
              have := this ps (i + 1)
              omega
            have hdl : F / 2 ^ roomP (ps.drop (i + 1)) ≤ 10000000 := Nat.le_trans (Nat.div_le_self _ _) (by omega)
            have hml : F / 2 ^ roomP (ps.drop (i + 1)) % 2 ^ wid x < 2 ^ wid x := Nat.mod_lt _ (uj5 _)
            obtain ⟨r1, g1, g2, g3⟩ := hq3 _ hml
            rw [uk2]
            simp only [lt_t hi, if_true, Option.getD_some, ub4 hi, ua2, hxi, (pwid x hq1 hq2.1).1]
            rw [hdrop, wrap_i64 (by omega) (by omega), show ((wid x + roomP (ps.drop (i + 1)) : Nat) : Int) - (wid x : Int) = (roomP (ps.drop (i + 1)) : Int) by omega]
            rw [if_pos (by simp), if_pos (by simp), v82 F _ hrb, wp0 _ _ hwx hdl, g1]
            simp only [ua2]
            rw [ub2 hi, hxi, uz8]
            cases hu : upk x (F / 2 ^ roomP (ps.drop (i + 1)) % 2 ^ wid x) with
            | none =>
              rw [hu] at g2
              rw [g2]
              exact ⟨_, rfl, rfl, fun l hl => (by cases hl)⟩
            | some a =>
              rw [hu] at g2
              rw [g2, g3 a hu]
              simp only [Option.isSome_some, Bool.not_true, Bool.false_eq_true, if_false, vv5]
              obtain ⟨r2, f1, f2, f3⟩ := ih (acc ++ [a]) (by rw [List.length_append, hacc]; rfl)
              rw [if_pos (ug4 (by simp only [List.length_cons, List.length_nil]; omega)), ub1 hi (by omega)]
              refine ⟨r2, f1, ?_, fun l hl => ?_⟩
              · rw [f2]
                cases upkP (ps.drop (i + 1)) F <;> rfl
              · cases hv : upkP (ps.drop (i + 1)) F with
                | none => rw [hv] at hl; cases hl
                | some m =>
                  rw [hv] at hl
                  obtain rfl := Option.some.inj hl
                  rw [f3 m hv, List.append_assoc]
                  rfl
        obtain ⟨r, e1, e2, e3⟩ := loop (Nat.zero_le _) [] rfl
        rw [List.drop_zero] at e1 e2 e3
        refine ⟨r, e1, ?_, fun v hv => ?_⟩
        · rw [e2]
          cases upkP ps F <;> rfl
        · obtain ⟨l, hl, rfl⟩ := Option.map_eq_some_iff.1 hv
          rw [e3 l hl]
          rfl
      · have : F / 2 ^ roomP ps ≠ 0 := fun e => hf ((Nat.div_eq_zero_iff).1 e |>.resolve_left (by omega))
        rw [if_neg hf, if_pos (bne_iff_ne.2 (show ((F / 2 ^ roomP ps : Nat) : Int) ≠ 0 by omega))]
        exact ⟨_, rfl, rfl, fun v hv => (by cases hv)⟩
def vErr (l : List ua3) (t : ua0) (v : DV) : Int := if ut4 l t = 0 then (if vF8 v = true then valE (exT l 40 t 0).2.2 v else 8) else ut4 l t
theorem x65 {l : List ua3} (hl : l.length ≤ 24) (hd : ∀ d ∈ l, un1 d) {t : ua0} (ht : lenOk t) {v : DV} (hv : vl8 v) : ∃ o, uq0 (.start l t.Kind t.Value t.Name t.Parts v.Name v.Number v.Parts) = some ((o, (vErr l t v, ())), ()) ∧ (vErr l t v = 0 → o = some (exT l 40 t 0).2.2) := by
  obtain ⟨o, ho, ho2⟩ := xI6 hl hd ht
  rw [uq0, ho]
  simp only [ua2]
  unfold vErr
  by_cases h0 : ut4 l t = 0
  · have hop := ut7 (fun d h => (hd d h).light) h0
    rw [h0, if_pos (by rfl), if_pos rfl, x00 v hv, ho2 h0]
    simp only [ua2]
    cases hvt : vF8 v with
    | false =>
      rw [uq0]
      exact ⟨_, rfl, fun h => (by cases h)⟩
    | true =>
      rw [uq0, if_pos rfl, if_pos (by rfl), pval _ (sok hop.valid hop.sr) ⟨hop.nds, hop.w16⟩ v (of_decide_eq_true hvt).1]
      simp only [ua2]
      exact ⟨_, rfl, fun _ => rfl⟩
  · rw [if_neg (by simpa using h0), if_neg h0, uq0, if_neg (by simpa using h0)]
    exact ⟨_, rfl, fun h => absurd h h0⟩
theorem xv3 {l : List ua3} {t : ua0} {v : DV} (h : vErr l t v = 0) : ut4 l t = 0 ∧ vF8 v = true ∧ valE (exT l 40 t 0).2.2 v = 0 := by
  unfold vErr at h
  by_cases h0 : ut4 l t = 0
  · rw [if_pos h0] at h
    cases hv : vF8 v with
    | false => rw [hv] at h; simp at h
    | true => rw [hv, if_pos rfl] at h; exact ⟨h0, rfl, h⟩
  · rw [if_neg h0] at h; exact absurd h h0
theorem x17 {l : List ua3} (hd : ∀ d ∈ l, us2 d) {t : ua0} {v : DV} (h0 : ut4 l t = 0) (hz : valE (exT l 40 t 0).2.2 v = 0) : vErr l t v = 0 := by
  unfold vErr
  rw [if_pos h0, u43 (ut7 hd h0) hz, if_pos rfl, hz]
theorem x96 {l : List ua3} (hl : l.length ≤ 24) (hd : ∀ d ∈ l, un1 d) {t : ua0} (ht : lenOk t) {v : DV} (hv : vl8 v) : uH9 (.start l t.Kind t.Value t.Name t.Parts v.Name v.Number v.Parts) = some ((if vErr l t v = 0 then ((pk_ (exT l 40 t 0).2.2 v : Int), ((0 : Int), ())) else (0, (vErr l t v, ()))), ()) := by
  obtain ⟨o, ho, ho2⟩ := x65 hl hd ht hv
  rw [uH9, ho]
  simp only [ua2]
  by_cases h0 : vErr l t v = 0
  · obtain ⟨z1, z2, z3⟩ := xv3 h0
    have hop := ut7 (fun d h => (hd d h).light) z1
    rw [if_neg (by simpa using h0), if_pos h0, ho2 h0, (ppk hop.valid 40 t _ hop.sr ⟨hop.nds, hop.w16⟩).2 v z3]
    simp only [ua2]
  · rw [if_pos (by simpa using h0), if_neg h0]
theorem xY9 {l : List ua3} (hl : l.length ≤ 24) (hd : ∀ d ∈ l, un1 d) {t : ua0} (ht : lenOk t) (n : Int) : uI0 (.start l t.Kind t.Value t.Name t.Parts n) = some ((if ut4 l t = 0 then (if 0 ≤ n ∧ n < pw (wid (exT l 40 t 0).2.2 : Int) then (match upk (exT l 40 t 0).2.2 n.toNat with | some v => ((v.Name, (v.Number, (v.Parts, ()))), ((0 : Int), ())) | none => ((uy5, ((0 : Int), ([], ()))), ((3 : Int), ()))) else ((uy5, ((0 : Int), ([], ()))), ((2 : Int), ()))) else ((uy5, ((0 : Int), ([], ()))), (ut4 l t, ()))), ()) := by
  obtain ⟨o, ho, ho2⟩ := xI6 hl hd ht
  rw [uI0, ho]
  simp only [ua2]
  rw [uU0 _ (by simp [big])]
  simp only [ua2, uh3]
  by_cases h0 : ut4 l t = 0
  · have hop := ut7 (fun d h => (hd d h).light) h0
    have h16 := hop.w16
    have hso := sok hop.valid hop.sr
    simp only [if_pos h0, bne_self_eq_false, Bool.false_eq_true, if_false, ho2 h0, (pwid _ hso hop.nds).1, ua2, decide_eq_true (show (0 : Int) ≤ (wid (exT l 40 t 0).2.2 : Int) by omega), if_true, wr4 _ h16, u13, uU6]
    by_cases hb : 0 ≤ n ∧ n < ((2 ^ wid (exT l 40 t 0).2.2 : Nat) : Int)
    · rw [decide_eq_true (show 0 ≤ n ∧ n ≤ ((2 ^ wid (exT l 40 t 0).2.2 : Nat) : Int) - 1 by omega)]
      obtain ⟨r, e1, e2, e3⟩ := pupk _ hso ⟨hop.nds, h16⟩ n.toNat (by omega)
      rw [Int.toNat_of_nonneg hb.1] at e1
      simp only [Bool.not_true, Bool.false_eq_true, if_false, e1, ua2, if_pos hb]
      cases hu : upk (exT l 40 t 0).2.2 n.toNat with
      | none => rw [e2, hu]; rfl
      | some v => rw [e2, hu, e3 v hu]; rfl
    · rw [decide_eq_false (show ¬ (0 ≤ n ∧ n ≤ ((2 ^ wid (exT l 40 t 0).2.2 : Nat) : Int) - 1) by omega)]
      simp only [Bool.not_false, if_true, if_neg hb]
  · simp only [if_neg h0]
    rw [if_pos (by simpa using h0)]
end Go.Proofs.YtaennkkcnhfglaaGreatDoor.Ev.F
namespace Go.Proofs.YtaennkkcnhfglaaGreatDoor.Ev.F
open Go.Proofs.YtaennkkcnhfglaaGreatDoor.Ev
theorem vZ5 (a0 : List ua3) (a1 : ua0) (hd : DHyp a0) (ht : ue5 a1) : ug0 (.start a0 a1.Kind a1.Value a1.Name a1.Parts) = some ((true, ()), ()) := by
  rw [ug0, w19]
  simp only [ua2, Bool.not_true, Bool.false_eq_true, if_false]
  obtain ⟨b, hb, hb2⟩ := x77 a0
  rw [hb]
  simp only [ua2]
  cases b with
  | false => rfl
  | true =>
    obtain ⟨hl, hld⟩ := hb2 rfl
    have hok := w97 hd hld
    have htl := xH9 ht
    simp only [Bool.not_true, Bool.false_eq_true, if_false, ua2, ya5 hl hok htl]
    by_cases h0 : ut4 a0 a1 = 0
    · have hop := ut7 hld h0
      have hso := sok hop.valid hop.sr
      have hsm : Sm (exT a0 40 a1 0).2.2 := ⟨hop.nds, hop.w16⟩
      have hw1 := hop.w1
      rw [if_neg (by simpa using h0), (rwid hop.valid 40 a1 _ hop.sr hop.nds).2]
      simp only [ua2]
      by_cases h8 : wid (exT a0 40 a1 0).2.2 ≤ 8
      · rw [decide_eq_false (by omega), if_neg (by simp), ug0]
        simp only [ve0 a0 hl hld, ua2, xI9 hl hok htl, xI4 hl hok htl, if_pos h0, bne_self_eq_false, Bool.false_eq_true, if_false, vE4]
        rw [decide_eq_true (show 1 ≤ (wid (exT a0 40 a1 0).2.2 : Int) ∧ (wid (exT a0 40 a1 0).2.2 : Int) ≤ 8 by omega), if_neg (by simp), ug0]
        generalize hx : (exT a0 40 a1 0).2.2 = x at *
        have hp8 : 2 ^ wid x ≤ 256 := Nat.le_trans (Nat.pow_le_pow_right (by decide) h8) (by decide)
        have hT4 := t4 hop.valid 40 a1 x hop.sr hsm
        have hT6 := t6 hop.valid 40 a1 x hop.sr hsm
        have loop : ∀ k i : Nat, i + k = 2 ^ wid x → ug0 (.p4084 a0 (wid x : Int) (cnt x : Int) ((cTo (fun n => (upk x n).isSome) i : Nat) : Int) (i : Int) a1.Kind a1.Value a1.Name a1.Parts) = some ((true, ()), ()) := by
          intro k
          induction k with
          | zero =>
            intro i hi
            have hi' : i = 2 ^ wid x := by omega
            rw [ug0, xg2 _ (by omega)]
            simp only [ua2]
            rw [decide_eq_false (by omega), if_neg (by simp), hi', show cTo (fun n => (upk x n).isSome) (2 ^ wid x) = cnt x from hT6, beq_self_eq_true]
          | succ k ih =>
            intro i hi
            have hc : cTo (fun n => (upk x n).isSome) i ≤ i := by
              have : ∀ n, cTo (fun n => (upk x n).isSome) n ≤ n := by
                intro n
                induction n with
                | zero => exact Nat.le_refl _
                | succ n ihn => show _ + _ ≤ _; split <;> omega
              exact this i
            have hstep : cTo (fun n => (upk x n).isSome) (i + 1) = cTo (fun n => (upk x n).isSome) i + if (upk x i).isSome = true then 1 else 0 := rfl
            have ih' := ih (i + 1) (by omega)
            rw [hstep] at ih'
            rw [ug0, xg2 _ (by omega)]
            simp only [ua2]
            rw [decide_eq_true (by omega), if_pos rfl, ve0 a0 hl hld]
            simp only [ua2]
            rw [xY9 hl hok htl, hx, if_pos h0, if_pos (by rw [uU6]; omega), Int.toNat_natCast]
            cases hu : upk x i with
            | none =>
              rw [hu] at ih'
              simp only [ua2, beq_self_eq_true, if_true]
              rw [ug1 (by omega)]
              exact ih'
            | some v =>
              rw [hu] at ih'
              obtain ⟨z1, z2⟩ := hT4 i v (by omega) hu
              have hvt := u43 hop z1
              have hsz := (of_decide_eq_true hvt).1
              simp only [ua2, bne_self_eq_false, Bool.false_eq_true, if_false, x78 v, hvt, Bool.not_true]
              rw [if_neg (by decide), ug0, ve0 a0 hl hld]
              simp only [ua2, x71 v (show vsz v ≤ 1000000 by omega)]
              rw [x96 hl hok htl (wi6 v (by unfold big; omega)), x17 hld h0 (by rw [hx]; exact z1), if_pos rfl, hx, z2]
              simp only [ua2, bne_self_eq_false, Bool.false_eq_true, if_false]
              rw [ug1 (by omega), ug1 (by omega)]
              exact ih'
        exact loop (2 ^ wid x) 0 (by omega)
      · rw [decide_eq_true (by omega), if_pos rfl]
    · rw [if_pos (by simpa using h0)]
end Go.Proofs.YtaennkkcnhfglaaGreatDoor.Ev.F
