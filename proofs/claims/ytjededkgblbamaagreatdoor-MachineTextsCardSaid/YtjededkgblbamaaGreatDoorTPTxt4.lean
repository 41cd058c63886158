/- A line of a text: the reference's reading of it. -/
import Derived.Test.YtjededkgblbamaaGreatDoorTPTxt3
set_option linter.unusedVariables false
set_option linter.unusedSimpArgs false
set_option linter.unnecessarySimpa false
namespace Go.Proofs.YtjededkgblbamaaGreatDoor.Ev.F
open Go.Proofs.YtjededkgblbamaaGreatDoor.Ev

noncomputable def errF (ld : Bool) (own : ByteArray) (labels : List ByteArray) (lg : Bool) : Int :=
  if ld = true then (if nameOk own = true then (if labels.any (seq · own) = true then 5 else if lg = true then 2 else 0) else 4) else if lg = true then 2 else 0
abbrev RT := Option R_ratchetref31_read
def readT (op a b n : Int) (own jump : ByteArray) (e : Int) : R_ratchetref31_read := ((op, (a, (b, (n, (own, (jump, ())))))), (e, ())) |> fun p => (p, ())

section
variable (labels : List ByteArray) (w : ByteArray) (ws : List ByteArray) (ld : Bool) (op : Int) (B0 B1 B2 B3 : Int) (B4 B5 : ByteArray)
theorem rend (hop : within op 0 9 = true) (lg : Bool) (k : Nat) (hk : (shapeOf op).size = k) (hl : labels.length ≤ 1000) (a b n : Int) (own jump : ByteArray) (ho : own.size ≤ 60010) :
    run_ratchetref31_read (.p65524 labels (w :: ws) ld op lg (k : Int) B0 B1 B2 B3 B4 B5 op a b n own jump) = some (readT op a b n own jump (errF ld own labels lg)) := by
  have h63 : ∀ lg, run_ratchetref31_read (.p16383 lg B0 B1 B2 B3 B4 B5 op a b n own jump) = some (readT op a b n own jump (if lg = true then 2 else 0)) := by
    intro lg
    rw [run_ratchetref31_read]
    cases lg <;> rfl
  rw [run_ratchetref31_read]
  simp only [rshape hop, some_bind', h63]
  rw [if_neg (by rw [hk]; simp)]
  unfold errF
  cases ld with
  | false => rfl
  | true =>
    simp only [if_true, rname ho, rhas labels own hl, some_bind']
    cases nameOk own with
    | false => rfl
    | true =>
      simp only [Bool.not_true, Bool.false_eq_true, if_false, if_true]
      cases labels.any (seq · own) <;> rfl
theorem rstep (hop : within op 0 9 = true) (lg : Bool) (k : Nat) (hk : k < (shapeOf op).size) (c : Nat) (hc : sidx (shapeOf op) (k : Int) = some (c : Int)) (x : ByteArray) (hx : ws[k]? = some x) (a b n : Int) (own jump : ByteArray) :
    run_ratchetref31_read (.p65524 labels (w :: ws) ld op lg (k : Int) B0 B1 B2 B3 B4 B5 op a b n own jump) =
      run_ratchetref31_read (.p8387149 labels (w :: ws) ld op lg (k : Int) x ((c : Int) == 97 || (c : Int) == 98) B0 B1 B2 B3 B4 B5 op a b n own jump) := by
  conv => lhs; rw [run_ratchetref31_read]
  have h2 := shapeOf_size hop
  simp only [rshape hop, some_bind']
  have hw : IntKind.wrap .i64 ((k : Int) + 1) = ((k + 1 : Nat) : Int) := wrap_succ hk (by omega)
  have hi : idx (w :: ws) ((k + 1 : Nat) : Int) = some x := by rw [idx_nat]; exact hx
  rw [if_pos (by simpa using hk), hw, hi]
  simp only [some_bind', hc]
  by_cases h97 : c = 97
  · subst h97; rfl
  · have : ((c : Int) == 97) = false := by simp; omega
    simp only [this, Bool.false_or, Bool.false_eq_true, if_false]
theorem rstepR (hop : within op 0 9 = true) (lg : Bool) (k : Nat) (hk : k < (shapeOf op).size) (c : Nat) (hcc : c = 97 ∨ c = 98) (hc : sidx (shapeOf op) (k : Int) = some (c : Int)) (x : ByteArray) (hx : ws[k]? = some x) (a b n : Int) (own jump : ByteArray) :
    run_ratchetref31_read (.p65524 labels (w :: ws) ld op lg (k : Int) B0 B1 B2 B3 B4 B5 op a b n own jump) =
      if regOk x = true then run_ratchetref31_read (.p65524 labels (w :: ws) ld op lg ((k + 1 : Nat) : Int) B0 B1 B2 B3 B4 B5 op (if c = 97 then regN x else a) (if c = 97 then b else regN x) n own jump)
      else some (readT op a b n own jump 7) := by
  rw [rstep labels w ws ld op B0 B1 B2 B3 B4 B5 hop lg k hk c hc x hx a b n own jump]
  conv => lhs; rw [run_ratchetref31_read]
  have h2 := shapeOf_size hop
  have hw : IntKind.wrap .i64 ((k : Int) + 1) = ((k + 1 : Nat) : Int) := wrap_succ hk (by omega)
  obtain ⟨v, h1, h2⟩ := rreg x
  have e : ((c : Int) == 97 || (c : Int) == 98) = true := by rcases hcc with rfl | rfl <;> rfl
  simp only [e, if_true, h1, some_bind', rshape hop, hc, hw]
  cases hr : regOk x with
  | false => rfl
  | true =>
    simp only [Bool.not_true, Bool.false_eq_true, if_false, if_true]
    rw [h2 hr]
    rcases hcc with rfl | rfl <;> rfl
theorem r268 (pl : Bool) (k : Nat) (hk : k ≤ 2) (v : Int) (h0 : 0 ≤ v) (a b n : Int) (own jump : ByteArray) :
    run_ratchetref31_read (.p268388799 labels (w :: ws) ld op (k : Int) pl v B0 B1 B2 B3 B4 B5 op a b n own jump) =
      run_ratchetref31_read (.p65524 labels (w :: ws) ld op (!within v 0 (if pl = true then 15 else 255)) ((k + 1 : Nat) : Int) B0 B1 B2 B3 B4 B5 op a b v own jump) := by
  conv => lhs; rw [run_ratchetref31_read]
  have hw : IntKind.wrap .i64 ((k : Int) + 1) = ((k + 1 : Nat) : Int) := wrap_succ (n := 10) (by omega) (by omega)
  rw [hw]
  by_cases h : v > 255
  · have : within v 0 (if pl = true then 15 else 255) = false := by unfold within; cases pl <;> simp <;> omega
    rw [if_pos (by simpa using h), this]
    rfl
  · rw [if_neg (by simpa using h)]
    cases pl with
    | false =>
      have : within v 0 255 = true := within_iff.2 (by omega)
      simp only [Bool.false_eq_true, if_false, this]
      rfl
    | true =>
      have : decide (v ≥ 16) = !within v 0 15 := by
        cases hq : within v 0 15 with
        | true => rw [within_iff] at hq; simp; omega
        | false => have : ¬ (within v 0 15 = true) := by rw [hq]; simp
                   rw [within_iff] at this
                   simp; omega
      simp only [if_true, this]
theorem rnumb (pl : Bool) (lg : Bool) (k : Nat) (hk : k ≤ 2) (x : ByteArray) (hx : x.size ≤ 60010) (a b n : Int) (own jump : ByteArray) :
    run_ratchetref31_read (.p134194397 labels (w :: ws) ld op lg (k : Int) x pl false B0 B1 B2 B3 B4 B5 op a b n own jump) =
      if ok3 x = true then run_ratchetref31_read (.p65524 labels (w :: ws) ld op (!within (natN x) 0 (if pl = true then 15 else 255)) ((k + 1 : Nat) : Int) B0 B1 B2 B3 B4 B5 op a b (natN x) own jump)
      else some (readT op a b n own jump 7) := by
  conv => lhs; rw [run_ratchetref31_read]
  obtain ⟨v, ok, h1, h2, h3⟩ := rnum3 x hx
  simp only [Bool.false_eq_true, if_false, h1, some_bind']
  cases hk3 : ok3 x with
  | false =>
    rw [hk3] at h2
    cases ok with
    | false => rfl
    | true =>
      have : v < 0 := by simpa using h2
      simp only [Bool.not_true, Bool.false_eq_true, if_false]
      rw [if_pos (by simpa using this)]
      rfl
  | true =>
    have hv := h3 hk3
    have hn := natN_ge (ok3_nat hk3)
    rw [hk3] at h2
    cases ok with
    | false => cases h2
    | true =>
      simp only [Bool.not_true, Bool.false_eq_true, if_false, if_true]
      rw [if_neg (by simp; omega), hv, r268 labels w ws ld op B0 B1 B2 B3 B4 B5 pl k hk _ hn]
theorem rstepN (hop : within op 0 9 = true) (lg : Bool) (k : Nat) (hk : k < (shapeOf op).size) (hc : sidx (shapeOf op) (k : Int) = some ((110 : Nat) : Int)) (x : ByteArray) (hx : ws[k]? = some x) (hxs : x.size ≤ 60010) (a b n : Int) (own jump : ByteArray) :
    run_ratchetref31_read (.p65524 labels (w :: ws) ld op lg (k : Int) B0 B1 B2 B3 B4 B5 op a b n own jump) =
      if ok3 x = true then run_ratchetref31_read (.p65524 labels (w :: ws) ld op (!within (natN x) 0 255) ((k + 1 : Nat) : Int) B0 B1 B2 B3 B4 B5 op a b (natN x) own jump)
      else some (readT op a b n own jump 7) := by
  have h2 := shapeOf_size hop
  rw [rstep labels w ws ld op B0 B1 B2 B3 B4 B5 hop lg k hk 110 hc x hx a b n own jump]
  conv => lhs; rw [run_ratchetref31_read]
  simp only [rshape hop, some_bind', hc]
  exact rnumb labels w ws ld op B0 B1 B2 B3 B4 B5 false lg k (by omega) x hxs a b n own jump
theorem nameOk_first {x : ByteArray} (h : nameOk x = true) : 0 < x.size ∧ letter (bt x 0) = true := by
  unfold nameOk at h
  rw [Bool.and_eq_true, within_iff] at h
  have hp : 0 < x.size := by omega
  refine ⟨hp, ?_⟩
  have hd := strB_drop hp
  rw [List.drop_zero] at hd
  rw [hd] at h
  have := h.1
  simp [nmC] at this
  exact this.1
theorem rstepP (hop : within op 0 9 = true) (lg : Bool) (k : Nat) (hk : k < (shapeOf op).size) (hc : sidx (shapeOf op) (k : Int) = some ((112 : Nat) : Int)) (x : ByteArray) (hx : ws[k]? = some x) (hxs : x.size ≤ 60010) (hx0 : 0 < x.size) (a b n : Int) (own jump : ByteArray) :
    run_ratchetref31_read (.p65524 labels (w :: ws) ld op lg (k : Int) B0 B1 B2 B3 B4 B5 op a b n own jump) =
      if nameOk x = true then run_ratchetref31_read (.p65524 labels (w :: ws) ld op lg ((k + 1 : Nat) : Int) B0 B1 B2 B3 B4 B5 op a b n own x)
      else if ok3 x = true then run_ratchetref31_read (.p65524 labels (w :: ws) ld op (!within (natN x) 0 15) ((k + 1 : Nat) : Int) B0 B1 B2 B3 B4 B5 op a b (natN x) own jump)
      else some (readT op a b n own jump 7) := by
  have h2 := shapeOf_size hop
  have hw : IntKind.wrap .i64 ((k : Int) + 1) = ((k + 1 : Nat) : Int) := wrap_succ hk (by omega)
  have hnum : run_ratchetref31_isNumeric (.start x) = some ((isDig (bt x 0) || bt x 0 == 45, ()), ()) := by
    rw [run_ratchetref31_isNumeric, show (0 : Int) = ((0 : Nat) : Int) from rfl, sidx_nat hx0]
    simp only [some_bind']
    unfold isDig
    by_cases h1 : 48 ≤ bt x 0
    · by_cases h2 : bt x 0 ≤ 57 <;> simp [h1, h2]
    · simp [h1]
  rw [rstep labels w ws ld op B0 B1 B2 B3 B4 B5 hop lg k hk 112 hc x hx a b n own jump]
  conv => lhs; rw [run_ratchetref31_read]
  simp only [rshape hop, some_bind', hc]
  have e1 : (((112 : Nat) : Int) == 97 || ((112 : Nat) : Int) == 98) = false := rfl
  have e2 : (((112 : Nat) : Int) == (112 : Int)) = true := rfl
  simp only [e1, e2, Bool.false_eq_true, if_false, if_true, hnum, some_bind']
  cases hd : (isDig (bt x 0) || bt x 0 == 45) with
  | true =>
    have hno : nameOk x = false := by
      cases hn : nameOk x with
      | false => rfl
      | true =>
        have := (nameOk_first hn).2
        unfold letter at this
        unfold isDig at hd
        simp at this hd
        omega
    rw [hno]
    simp only [Bool.not_true, Bool.false_eq_true, if_false]
    exact rnumb labels w ws ld op B0 B1 B2 B3 B4 B5 true lg k (by omega) x hxs a b n own jump
  | false =>
    have hno : ok3 x = false := ok3_no (natOk_false_dig (by
      cases h : isDig (bt x 0) with
      | false => rfl
      | true => rw [h] at hd; cases hd))
    rw [hno]
    simp only [Bool.not_false]
    conv => lhs; rw [run_ratchetref31_read]
    simp only [if_true, rname hxs, some_bind', hw]
    cases nameOk x <;> rfl
end
end Go.Proofs.YtjededkgblbamaaGreatDoor.Ev.F
