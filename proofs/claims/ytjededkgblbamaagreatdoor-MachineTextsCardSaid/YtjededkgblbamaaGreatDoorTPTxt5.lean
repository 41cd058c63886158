/- A line of a text: the reference's reading of it, whole. -/
import Derived.Test.YtjededkgblbamaaGreatDoorTPTxt4
set_option linter.unusedVariables false
set_option linter.unusedSimpArgs false
set_option linter.unnecessarySimpa false
namespace Go.Proofs.YtjededkgblbamaaGreatDoor.Ev.F
open Go.Proofs.YtjededkgblbamaaGreatDoor.Ev

def RdOk (r : RT) (v : Option (Int × Int × Int × ByteArray)) (op : Int) (ld : Bool) (own : ByteArray) (labels : List ByteArray) : Prop :=
  ∃ t, r = some t ∧ match v with
    | none => t.1.2.1 = 7
    | some (a, b, n, tg) => t = readT op a b n own tg (errF ld own labels (!within n 0 (mostN op)))
theorem opnd_ff (jm : Bool) : opnd false false false jm [] = some (0, 0, 0, NB) := rfl
theorem opnd_ab (jm : Bool) (x y : ByteArray) : opnd true true false jm [x, y] = if regOk x = true then (if regOk y = true then some (regN x, regN y, 0, NB) else none) else none := by
  cases h1 : regOk x <;> cases h2 : regOk y <;> simp [opnd, tk, opndN, regV, h1, h2]
theorem opnd_an (x y : ByteArray) : opnd true false true false [x, y] = if regOk x = true then (if ok3 y = true then some (regN x, 0, natN y, NB) else none) else none := by
  cases h1 : regOk x <;> cases h2 : ok3 y <;> simp [opnd, tk, opndN, regV, numV3, h1, h2]
theorem opnd_p (x : ByteArray) : opnd false false true true [x] = if nameOk x = true then some (0, 0, 0, x) else if ok3 x = true then some (0, 0, natN x, NB) else none := by
  cases h1 : nameOk x <;> cases h2 : ok3 x <;> simp [opnd, tk, opndN, placeV, numV3, h1, h2]
theorem opnd_ap (x y : ByteArray) : opnd true false true true [x, y] = if regOk x = true then (if nameOk y = true then some (regN x, 0, 0, y) else if ok3 y = true then some (regN x, 0, natN y, NB) else none) else none := by
  cases h1 : regOk x <;> cases h2 : nameOk y <;> cases h3 : ok3 y <;> simp [opnd, tk, opndN, regV, placeV, numV3, h1, h2, h3]

section
variable (labels : List ByteArray) (w : ByteArray) (ws : List ByteArray) (ld : Bool) (op : Int) (B0 B1 B2 B3 : Int) (B4 B5 : ByteArray)
theorem cls_ab (hop : within op 0 9 = true) (hsz : (shapeOf op).size = 2) (h0 : sidx (shapeOf op) ((0 : Nat) : Int) = some ((97 : Nat) : Int)) (h1 : sidx (shapeOf op) ((1 : Nat) : Int) = some ((98 : Nat) : Int))
    (hA : useA op = true) (hB : useB op = true) (hN : useN op = false) (hM : mostN op = 255) (x y : ByteArray) (own : ByteArray) (ho : own.size ≤ 60010) (hl : labels.length ≤ 1000) :
    RdOk (run_ratchetref31_read (.p65524 labels [w, x, y] ld op false ((0 : Nat) : Int) B0 B1 B2 B3 B4 B5 op 0 0 0 own NB)) (opnd (useA op) (useB op) (useN op) (jmp op) [x, y]) op ld own labels := by
  rw [hA, hB, hN, opnd_ab, rstepR labels w [x, y] ld op B0 B1 B2 B3 B4 B5 hop false 0 (by omega) 97 (.inl rfl) h0 x rfl 0 0 0 own NB]
  cases regOk x with
  | false => exact ⟨_, rfl, rfl⟩
  | true =>
    simp only [if_true]
    rw [rstepR labels w [x, y] ld op B0 B1 B2 B3 B4 B5 hop false 1 (by omega) 98 (.inr rfl) h1 y rfl]
    cases regOk y with
    | false => exact ⟨_, rfl, rfl⟩
    | true =>
      simp only [if_true]
      rw [rend labels w [x, y] ld op B0 B1 B2 B3 B4 B5 hop false 2 hsz hl _ _ _ _ _ ho]
      refine ⟨_, rfl, ?_⟩
      have : within 0 0 (mostN op) = true := by rw [hM]; rfl
      show _ = readT _ _ _ _ _ _ (errF _ _ _ (!within 0 0 (mostN op)))
      rw [this]
      rfl
theorem cls_an (hop : within op 0 9 = true) (hsz : (shapeOf op).size = 2) (h0 : sidx (shapeOf op) ((0 : Nat) : Int) = some ((97 : Nat) : Int)) (h1 : sidx (shapeOf op) ((1 : Nat) : Int) = some ((110 : Nat) : Int))
    (hA : useA op = true) (hB : useB op = false) (hN : useN op = true) (hJ : jmp op = false) (hM : mostN op = 255) (x y : ByteArray) (hy : y.size ≤ 60010) (own : ByteArray) (ho : own.size ≤ 60010) (hl : labels.length ≤ 1000) :
    RdOk (run_ratchetref31_read (.p65524 labels [w, x, y] ld op false ((0 : Nat) : Int) B0 B1 B2 B3 B4 B5 op 0 0 0 own NB)) (opnd (useA op) (useB op) (useN op) (jmp op) [x, y]) op ld own labels := by
  rw [hA, hB, hN, hJ, opnd_an, rstepR labels w [x, y] ld op B0 B1 B2 B3 B4 B5 hop false 0 (by omega) 97 (.inl rfl) h0 x rfl 0 0 0 own NB]
  cases regOk x with
  | false => exact ⟨_, rfl, rfl⟩
  | true =>
    simp only [if_true]
    rw [rstepN labels w [x, y] ld op B0 B1 B2 B3 B4 B5 hop false 1 (by omega) h1 y rfl hy]
    cases ok3 y with
    | false => exact ⟨_, rfl, rfl⟩
    | true =>
      simp only [if_true]
      rw [rend labels w [x, y] ld op B0 B1 B2 B3 B4 B5 hop _ 2 hsz hl _ _ _ _ _ ho]
      refine ⟨_, rfl, ?_⟩
      show _ = readT _ _ _ _ _ _ (errF _ _ _ (!within _ 0 (mostN op)))
      rw [hM]
theorem cls_ap (hop : within op 0 9 = true) (hsz : (shapeOf op).size = 2) (h0 : sidx (shapeOf op) ((0 : Nat) : Int) = some ((97 : Nat) : Int)) (h1 : sidx (shapeOf op) ((1 : Nat) : Int) = some ((112 : Nat) : Int))
    (hA : useA op = true) (hB : useB op = false) (hN : useN op = true) (hJ : jmp op = true) (hM : mostN op = 15) (x y : ByteArray) (hy : y.size ≤ 60010) (hy0 : 0 < y.size) (own : ByteArray) (ho : own.size ≤ 60010) (hl : labels.length ≤ 1000) :
    RdOk (run_ratchetref31_read (.p65524 labels [w, x, y] ld op false ((0 : Nat) : Int) B0 B1 B2 B3 B4 B5 op 0 0 0 own NB)) (opnd (useA op) (useB op) (useN op) (jmp op) [x, y]) op ld own labels := by
  rw [hA, hB, hN, hJ, opnd_ap, rstepR labels w [x, y] ld op B0 B1 B2 B3 B4 B5 hop false 0 (by omega) 97 (.inl rfl) h0 x rfl 0 0 0 own NB]
  cases regOk x with
  | false => exact ⟨_, rfl, rfl⟩
  | true =>
    simp only [if_true]
    rw [rstepP labels w [x, y] ld op B0 B1 B2 B3 B4 B5 hop false 1 (by omega) h1 y rfl hy hy0]
    cases nameOk y with
    | true =>
      simp only [if_true]
      rw [rend labels w [x, y] ld op B0 B1 B2 B3 B4 B5 hop _ 2 hsz hl _ _ _ _ _ ho]
      refine ⟨_, rfl, ?_⟩
      show _ = readT _ _ _ _ _ _ (errF _ _ _ (!within _ 0 (mostN op)))
      rw [hM]
      rfl
    | false =>
      simp only [Bool.false_eq_true, if_false]
      cases ok3 y with
      | false => exact ⟨_, rfl, rfl⟩
      | true =>
        simp only [if_true]
        rw [rend labels w [x, y] ld op B0 B1 B2 B3 B4 B5 hop _ 2 hsz hl _ _ _ _ _ ho]
        refine ⟨_, rfl, ?_⟩
        show _ = readT _ _ _ _ _ _ (errF _ _ _ (!within _ 0 (mostN op)))
        rw [hM]
theorem cls_p (hop : within op 0 9 = true) (hsz : (shapeOf op).size = 1) (h0 : sidx (shapeOf op) ((0 : Nat) : Int) = some ((112 : Nat) : Int))
    (hA : useA op = false) (hB : useB op = false) (hN : useN op = true) (hJ : jmp op = true) (hM : mostN op = 15) (y : ByteArray) (hy : y.size ≤ 60010) (hy0 : 0 < y.size) (own : ByteArray) (ho : own.size ≤ 60010) (hl : labels.length ≤ 1000) :
    RdOk (run_ratchetref31_read (.p65524 labels [w, y] ld op false ((0 : Nat) : Int) B0 B1 B2 B3 B4 B5 op 0 0 0 own NB)) (opnd (useA op) (useB op) (useN op) (jmp op) [y]) op ld own labels := by
  rw [hA, hB, hN, hJ, opnd_p]
  rw [rstepP labels w [y] ld op B0 B1 B2 B3 B4 B5 hop false 0 (by omega) h0 y rfl hy hy0]
  cases nameOk y with
  | true =>
    simp only [if_true]
    rw [rend labels w [y] ld op B0 B1 B2 B3 B4 B5 hop _ 1 hsz hl _ _ _ _ _ ho]
    refine ⟨_, rfl, ?_⟩
    show _ = readT _ _ _ _ _ _ (errF _ _ _ (!within _ 0 (mostN op)))
    rw [hM]
    rfl
  | false =>
    simp only [Bool.false_eq_true, if_false]
    cases ok3 y with
    | false => exact ⟨_, rfl, rfl⟩
    | true =>
      simp only [if_true]
      rw [rend labels w [y] ld op B0 B1 B2 B3 B4 B5 hop _ 1 hsz hl _ _ _ _ _ ho]
      refine ⟨_, rfl, ?_⟩
      show _ = readT _ _ _ _ _ _ (errF _ _ _ (!within _ 0 (mostN op)))
      rw [hM]
theorem cls_0 (own : ByteArray) (ho : own.size ≤ 60010) (hl : labels.length ≤ 1000) :
    RdOk (run_ratchetref31_read (.p65524 labels [w] ld 0 false ((0 : Nat) : Int) B0 B1 B2 B3 B4 B5 0 0 0 0 own NB)) (opnd (useA 0) (useB 0) (useN 0) (jmp 0) []) 0 ld own labels := by
  have : opnd (useA 0) (useB 0) (useN 0) (jmp 0) [] = some (0, 0, 0, NB) := rfl
  rw [this, rend labels w [] ld 0 B0 B1 B2 B3 B4 B5 rfl false 0 rfl hl 0 0 0 own NB ho]
  exact ⟨_, rfl, rfl⟩
theorem len_two {α : Type} {l : List α} (h : l.length = 2) : ∃ x y, l = [x, y] := by
  match l, h with
  | [x, y], _ => exact ⟨x, y, rfl⟩
theorem len_one {α : Type} {l : List α} (h : l.length = 1) : ∃ x, l = [x] := by
  match l, h with
  | [x], _ => exact ⟨x, rfl⟩
theorem ropnds (j : Nat) (hj : j < 10) (hlen : ws.length = (shapeOf (j : Int)).size) (hws : ∀ x ∈ ws, x.size ≤ 60010 ∧ 0 < x.size) (own : ByteArray) (ho : own.size ≤ 60010) (hl : labels.length ≤ 1000) :
    RdOk (run_ratchetref31_read (.p65524 labels (w :: ws) ld (j : Int) false (0 : Int) B0 B1 B2 B3 B4 B5 (j : Int) 0 0 0 own NB)) (opnd (useA j) (useB j) (useN j) (jmp j) ws) (j : Int) ld own labels := by
  have ab : ∀ op : Int, within op 0 9 = true → ws.length = (shapeOf op).size → (shapeOf op).size = 2 → sidx (shapeOf op) ((0 : Nat) : Int) = some ((97 : Nat) : Int) → sidx (shapeOf op) ((1 : Nat) : Int) = some ((98 : Nat) : Int) → useA op = true → useB op = true → useN op = false → mostN op = 255 →
      RdOk (run_ratchetref31_read (.p65524 labels (w :: ws) ld op false (0 : Int) B0 B1 B2 B3 B4 B5 op 0 0 0 own NB)) (opnd (useA op) (useB op) (useN op) (jmp op) ws) op ld own labels := by
    intro op hop hlen hsz h0 h1 hA hB hN hM
    obtain ⟨x, y, rfl⟩ := len_two (hlen.trans hsz)
    exact cls_ab labels w ld op B0 B1 B2 B3 B4 B5 hop hsz h0 h1 hA hB hN hM x y own ho hl
  match j, hj with
  | 0, _ =>
    have : ws = [] := List.eq_nil_of_length_eq_zero hlen
    subst this
    exact cls_0 labels w ld B0 B1 B2 B3 B4 B5 own ho hl
  | 1, _ =>
    obtain ⟨x, y, rfl⟩ := len_two (hlen.trans rfl)
    exact cls_an labels w ld 1 B0 B1 B2 B3 B4 B5 rfl rfl rfl rfl rfl rfl rfl rfl rfl x y (hws y (by simp)).1 own ho hl
  | 2, _ => exact ab 2 rfl hlen rfl rfl rfl rfl rfl rfl rfl
  | 3, _ => exact ab 3 rfl hlen rfl rfl rfl rfl rfl rfl rfl
  | 4, _ => exact ab 4 rfl hlen rfl rfl rfl rfl rfl rfl rfl
  | 5, _ => exact ab 5 rfl hlen rfl rfl rfl rfl rfl rfl rfl
  | 6, _ => exact ab 6 rfl hlen rfl rfl rfl rfl rfl rfl rfl
  | 7, _ => exact ab 7 rfl hlen rfl rfl rfl rfl rfl rfl rfl
  | 8, _ =>
    obtain ⟨y, rfl⟩ := len_one (hlen.trans rfl)
    exact cls_p labels w ld 8 B0 B1 B2 B3 B4 B5 rfl rfl rfl rfl rfl rfl rfl rfl y (hws y (by simp)).1 (hws y (by simp)).2 own ho hl
  | 9, _ =>
    obtain ⟨x, y, rfl⟩ := len_two (hlen.trans rfl)
    exact cls_ap labels w ld 9 B0 B1 B2 B3 B4 B5 rfl rfl rfl rfl rfl rfl rfl rfl rfl x y (hws y (by simp)).1 (hws y (by simp)).2 own ho hl
end

/-! ### so many words -/
theorem tk_len {α : Type} {b : Bool} {f : ByteArray → Option α} {d v : α} {ws r : List ByteArray} (h : tk b f d ws = some (v, r)) : ws.length = r.length + b.toNat ∧ (b = true → ∃ x, ws = x :: r ∧ f x = some v) ∧ (b = false → ws = r ∧ v = d) := by
  unfold tk at h
  cases b with
  | false =>
    simp only [Bool.false_eq_true, if_false] at h
    obtain ⟨rfl, rfl⟩ := Prod.mk.inj (Option.some.inj h)
    exact ⟨rfl, fun h => (Bool.noConfusion h), fun _ => ⟨rfl, rfl⟩⟩
  | true =>
    simp only [if_true] at h
    cases ws with
    | nil => cases h
    | cons x r' =>
      simp only at h
      cases hf : f x with
      | none => rw [hf] at h; cases h
      | some v' =>
        rw [hf] at h
        obtain ⟨rfl, rfl⟩ := Prod.mk.inj (Option.some.inj h)
        exact ⟨rfl, fun _ => ⟨x, rfl, hf⟩, fun h => (Bool.noConfusion h)⟩
theorem tk_ne {α : Type} {b : Bool} {f : ByteArray → Option α} {d v : α} {ws r : List ByteArray} (h : tk b f d ws = some (v, r)) (hf : ∀ x, (f x).isSome = true → 0 < x.size) (hr : ∀ x ∈ r, 0 < x.size) : ∀ x ∈ ws, 0 < x.size := by
  obtain ⟨_, h1, h2⟩ := tk_len h
  cases b with
  | false => rw [(h2 rfl).1]; exact hr
  | true =>
    obtain ⟨x, rfl, hx⟩ := h1 rfl
    intro y hy
    rcases List.mem_cons.1 hy with rfl | hy
    · exact hf _ (by rw [hx]; rfl)
    · exact hr _ hy
theorem regV_ne (x : ByteArray) (h : (regV x).isSome = true) : 0 < x.size := by
  unfold regV at h
  cases hr : regOk x with
  | false => rw [hr] at h; cases h
  | true => unfold regOk at hr; simp at hr; omega
theorem numV3_ne (x : ByteArray) (h : (numV3 x).isSome = true) : 0 < x.size := by
  unfold numV3 at h
  cases hr : ok3 x with
  | false => rw [hr] at h; cases h
  | true =>
    have h1 := (natOk_dig (ok3_nat hr)).2.1
    by_cases h0 : x.size = 0
    · have : bt x 0 = 0 := by
        unfold bt
        rw [List.getD, List.getElem?_eq_none (by rw [sizeL]; omega)]
        rfl
      rw [this] at h1
      cases h1
    · omega
theorem placeV_ne (x : ByteArray) (h : (placeV x).isSome = true) : 0 < x.size := by
  unfold placeV at h
  cases hr : nameOk x with
  | true => exact (nameOk_first hr).1
  | false => rw [hr] at h; exact numV3_ne x h
theorem opnd_some {ua ub un jm : Bool} {ws : List ByteArray} {q : Int × Int × Int × ByteArray} (h : opnd ua ub un jm ws = some q) : ws.length = ua.toNat + ub.toNat + un.toNat ∧ ∀ x ∈ ws, 0 < x.size := by
  unfold opnd at h
  cases h1 : tk ua regV 0 ws with
  | none => rw [h1] at h; cases h
  | some t1 =>
    rw [h1] at h
    simp only [Option.bind_some] at h
    cases h2 : tk ub regV 0 t1.2 with
    | none => rw [h2] at h; cases h
    | some t2 =>
      rw [h2] at h
      simp only [Option.bind_some] at h
      unfold opndN at h
      cases h3 : tk un (if jm = true then placeV else numV3) (0, ⟨#[]⟩) t2.2 with
      | none => rw [h3] at h; cases h
      | some t3 =>
        rw [h3] at h
        simp only [Option.bind_some] at h
        split at h
        case isFalse => cases h
        rename_i h0
        have e1 := (tk_len h1).1
        have e2 := (tk_len h2).1
        have e3 := (tk_len h3).1
        refine ⟨by omega, tk_ne h1 regV_ne (tk_ne h2 regV_ne (tk_ne h3 (fun x hx => ?_) ?_))⟩
        · cases jm with
          | true => exact placeV_ne x hx
          | false => exact numV3_ne x hx
        · rw [List.eq_nil_of_length_eq_zero h0]; simp
theorem shape_size {j : Nat} (hj : j < 10) : (shapeOf (j : Int)).size = (useA j).toNat + (useB j).toNat + (useN j).toNat := by
  match j, hj with
  | 0, _ => rfl
  | 1, _ => rfl
  | 2, _ => rfl
  | 3, _ => rfl
  | 4, _ => rfl
  | 5, _ => rfl
  | 6, _ => rfl
  | 7, _ => rfl
  | 8, _ => rfl
  | 9, _ => rfl
theorem words10_ne : ∀ x ∈ words10, 0 < x.size := by decide
theorem restW_ne {W : List ByteArray} {q : Nat × Int × Int × Int × ByteArray} (h : restW W = some q) : ∀ x ∈ W, 0 < x.size := by
  cases W with
  | nil => cases h
  | cons x ws =>
    simp only [restW, opOf] at h
    cases ho : findW x words10 0 with
    | none => rw [ho] at h; cases h
    | some j =>
      rw [ho] at h
      simp only [Option.bind_some] at h
      cases hv : opnd (useA j) (useB j) (useN j) (jmp j) ws with
      | none => rw [hv] at h; cases h
      | some q' =>
        intro y hy
        rcases List.mem_cons.1 hy with rfl | hy
        · exact words10_ne _ (List.mem_of_getElem? (findW_lt _ _ _ _ ho).2.2)
        · exact (opnd_some hv).2 y hy
theorem parse_ne {W : List ByteArray} {q : PL} (h : parse W = some q) : ∀ x ∈ W, 0 < x.size := by
  unfold parse at h
  cases hr : restW (labW W).2 with
  | none => rw [hr] at h; cases h
  | some r =>
    have := restW_ne hr
    cases W with
    | nil => simp
    | cons x ws =>
      have hl : labW (x :: ws) = if 0 < x.size ∧ bt x (x.size - 1) = 58 then (some (x.extract 0 (x.size - 1)), ws) else (none, x :: ws) := rfl
      rw [hl] at this
      split at this
      · rename_i hc
        intro y hy
        rcases List.mem_cons.1 hy with rfl | hy
        · exact hc.1
        · exact this y hy
      · exact this

/-! ### the whole line -/
def lastW (w : ByteArray) : List ByteArray → Nat → Int → Int
 | [], _, op => op
 | x :: l, i, op => lastW w l (i + 1) (if seq x w = true then (i : Int) else op)
theorem last_find (w : ByteArray) : lastW w words10 0 (-1) = match findW w words10 0 with | some j => ((j : Nat) : Int) | none => -1 := by
  unfold words10
  by_cases h0 : seq (⟨#[104, 97, 108, 116]⟩ : ByteArray) w = true
  · rw [← seq_iff.1 h0]; rfl
  by_cases h1 : seq (⟨#[115, 101, 116]⟩ : ByteArray) w = true
  · rw [← seq_iff.1 h1]; rfl
  by_cases h2 : seq (⟨#[109, 111, 118, 101]⟩ : ByteArray) w = true
  · rw [← seq_iff.1 h2]; rfl
  by_cases h3 : seq (⟨#[97, 100, 100]⟩ : ByteArray) w = true
  · rw [← seq_iff.1 h3]; rfl
  by_cases h4 : seq (⟨#[115, 117, 98]⟩ : ByteArray) w = true
  · rw [← seq_iff.1 h4]; rfl
  by_cases h5 : seq (⟨#[97, 110, 100]⟩ : ByteArray) w = true
  · rw [← seq_iff.1 h5]; rfl
  by_cases h6 : seq (⟨#[108, 111, 97, 100]⟩ : ByteArray) w = true
  · rw [← seq_iff.1 h6]; rfl
  by_cases h7 : seq (⟨#[115, 116, 111, 114, 101]⟩ : ByteArray) w = true
  · rw [← seq_iff.1 h7]; rfl
  by_cases h8 : seq (⟨#[106, 117, 109, 112]⟩ : ByteArray) w = true
  · rw [← seq_iff.1 h8]; rfl
  by_cases h9 : seq (⟨#[122, 101, 114, 111]⟩ : ByteArray) w = true
  · rw [← seq_iff.1 h9]; rfl
  simp only [lastW, findW]
  rw [if_neg h0, if_neg h1, if_neg h2, if_neg h3, if_neg h4, if_neg h5, if_neg h6, if_neg h7, if_neg h8, if_neg h9, if_neg h0, if_neg h1, if_neg h2, if_neg h3, if_neg h4, if_neg h5, if_neg h6, if_neg h7, if_neg h8, if_neg h9]
theorem rword {i : Nat} (hi : i < 10) : ∃ x, words10[i]? = some x ∧ run_ratchetref31_word (.start (i : Int)) = some ((x, ()), ()) := by
  have h : i < words10.length := hi
  refine ⟨words10[i], List.getElem?_eq_getElem h, ?_⟩
  rw [run_ratchetref31_word]
  have : idx words10 (i : Int) = some words10[i] := by rw [idx_nat, List.getElem?_eq_getElem h]
  show (idx words10 (i : Int) >>= _) = _
  rw [this]
  rfl
section
variable (labels : List ByteArray) (B0 B1 B2 B3 : Int) (B4 B5 : ByteArray)
theorem r4084 (y : ByteArray) (r : List ByteArray) (ld : Bool) (own : ByteArray) : ∀ (k i : Nat) (op : Int), i + k = 10 →
    run_ratchetref31_read (.p4084 labels (y :: r) ld op (i : Int) B0 B1 B2 B3 B4 B5 0 0 0 0 own NB) = run_ratchetref31_read (.p4084 labels (y :: r) ld (lastW y (words10.drop i) i op) (10 : Int) B0 B1 B2 B3 B4 B5 0 0 0 0 own NB)
 | 0, i, op, h => by
   have : i = 10 := by omega
   subst this
   rfl
 | k + 1, i, op, h => by
   have hi : i < 10 := by omega
   obtain ⟨x, h1, h2⟩ := rword hi
   have hl : i < words10.length := hi
   have hx : words10[i] = x := by rw [List.getElem?_eq_getElem hl] at h1; exact Option.some.inj h1
   have hz : idx (y :: r) (0 : Int) = some y := rfl
   have hw : IntKind.wrap .i64 ((i : Int) + 1) = ((i + 1 : Nat) : Int) := wrap_succ hi (by omega)
   have hA := r4084 y r ld own k (i + 1) (i : Int) (by omega)
   have hB := r4084 y r ld own k (i + 1) op (by omega)
   conv => lhs; rw [run_ratchetref31_read]
   rw [if_pos (by simp; omega), h2]
   simp only [some_bind', hz, hw]
   rw [drop_cons hl, hx, lastW]
   cases hs : seq x y with
   | true => simp only [if_true]; exact hA
   | false => simp only [Bool.false_eq_true, if_false]; exact hB
theorem rrest (W : List ByteArray) (ld : Bool) (own : ByteArray) (hW : W ≠ []) (hws : ∀ x ∈ W, x.size ≤ 60010 ∧ 0 < x.size) (hlen : W.length ≤ 100000) (ho : own.size ≤ 60010) (hl : labels.length ≤ 1000) :
    ∃ t, run_ratchetref31_read (.p4084 labels W ld (-1) (0 : Int) B0 B1 B2 B3 B4 B5 0 0 0 0 own NB) = some t ∧ match restW W with
      | none => t.1.2.1 = 7
      | some (op, a, b, n, tg) => t = readT op a b n own tg (errF ld own labels (!within n 0 (mostN op))) := by
  cases W with
  | nil => exact absurd rfl hW
  | cons y r =>
    have h := r4084 labels B0 B1 B2 B3 B4 B5 y r ld own 10 0 (-1) rfl
    rw [show ((0 : Nat) : Int) = 0 from rfl, List.drop_zero, last_find] at h
    rw [h]
    cases ho' : findW y words10 0 with
    | none =>
      have hR : restW (y :: r) = none := by simp only [restW, opOf, ho', Option.bind_none]
      rw [hR, run_ratchetref31_read]
      exact ⟨_, rfl, rfl⟩
    | some j =>
      have hR : restW (y :: r) = (opnd (useA (j : Int)) (useB (j : Int)) (useN (j : Int)) (jmp (j : Int)) r).map fun q => (j, q) := by simp only [restW, opOf, ho', Option.bind_some]
      have hj : j < 10 := by have := (findW_lt _ _ _ _ ho').2.1; have : words10.length = 10 := rfl; omega
      have hop : within (j : Int) 0 9 = true := within_iff.2 (by omega)
      have hr : r.length ≤ 100000 := by simp at hlen; omega
      have hsz := shape_size hj
      rw [hR, run_ratchetref31_read, if_neg (by decide), if_neg (by simp), rshape hop]
      have hw : IntKind.wrap .i64 (((y :: r).length : Int) - 1) = (r.length : Int) := by rw [List.length_cons, wrap_i64 (by omega) (by omega)]; omega
      simp only [some_bind', hw]
      by_cases hne : r.length = (shapeOf (j : Int)).size
      · rw [if_neg (by simp; omega), run_ratchetref31_read]
        obtain ⟨t, h1, h2⟩ := ropnds labels y r ld B0 B1 B2 B3 B4 B5 j hj hne (fun x hx => hws x (List.mem_cons_of_mem _ hx)) own ho hl
        refine ⟨t, h1, ?_⟩
        cases hv : opnd (useA (j : Int)) (useB (j : Int)) (useN (j : Int)) (jmp (j : Int)) r with
        | none => rw [hv] at h2; exact h2
        | some q => rw [hv] at h2; exact h2
      · rw [if_pos (by simp; omega)]
        refine ⟨_, rfl, ?_⟩
        cases hv : opnd (useA (j : Int)) (useB (j : Int)) (useN (j : Int)) (jmp (j : Int)) r with
        | none => rfl
        | some q => exact absurd ((opnd_some hv).1.trans hsz.symm) hne
theorem r244 (s : ByteArray) (W : List ByteArray) (hW : W.length ≤ 100000) : ∀ (k i : Nat), i + k = W.length →
    (run_ratchetref31_read (.p244 s labels (i : Int) B0 B1 B2 B3 B4 B5 0 0 0 0 NB NB W) = run_ratchetref31_read (.p244 s labels (W.length : Int) B0 B1 B2 B3 B4 B5 0 0 0 0 NB NB W) ∧ ∀ x ∈ W.drop i, 0 < x.size) ∨
    (∃ t x, x ∈ W ∧ x.size = 0 ∧ run_ratchetref31_read (.p244 s labels (i : Int) B0 B1 B2 B3 B4 B5 0 0 0 0 NB NB W) = some t ∧ t.1.2.1 = 7)
 | 0, i, h => by
   have : i = W.length := by omega
   subst this
   exact .inl ⟨rfl, by rw [List.drop_length]; simp⟩
 | k + 1, i, h => by
   have hi : i < W.length := by omega
   have hw : IntKind.wrap .i64 ((i : Int) + 1) = ((i + 1 : Nat) : Int) := wrap_succ hi (by omega)
   have step : run_ratchetref31_read (.p244 s labels (i : Int) B0 B1 B2 B3 B4 B5 0 0 0 0 NB NB W) = if seq W[i] NB = true then some (readT 0 0 0 0 NB NB 7) else run_ratchetref31_read (.p244 s labels ((i + 1 : Nat) : Int) B0 B1 B2 B3 B4 B5 0 0 0 0 NB NB W) := by
     conv => lhs; rw [run_ratchetref31_read]
     rw [if_pos (by simpa using hi), if_pos (by simp; exact hi), idx_nat, List.getElem?_eq_getElem hi, hw]
     rfl
   rw [step]
   cases hs : seq W[i] NB with
   | true =>
     refine .inr ⟨_, W[i], List.getElem_mem hi, ?_, rfl, rfl⟩
     rw [seq_iff.1 hs]; rfl
   | false =>
     simp only [Bool.false_eq_true, if_false]
     rcases r244 s W hW k (i + 1) (by omega) with ⟨h1, h2⟩ | h1
     · refine .inl ⟨h1, ?_⟩
       rw [drop_cons hi]
       intro x hx
       rcases List.mem_cons.1 hx with rfl | hx
       · by_cases h0 : (W[i]).size = 0
         · have : W[i] = NB := ext_bt (by rw [h0]; rfl) fun j hj => by omega
           rw [this] at hs
           cases hs
         · omega
       · exact h2 x hx
     · exact .inr h1
end
theorem rread (s : ByteArray) (labels : List ByteArray) (hs : s.size ≤ 60010) (hl : labels.length ≤ 1000) :
    ∃ t, run_ratchetref31_read (.start s labels) = some t ∧ match parse (cuts 32 s) with
      | none => t.1.2.1 = 7
      | some (lab, op, a, b, n, tg) => t = readT op a b n (lab.getD NB) tg (errF lab.isSome (lab.getD NB) labels (!within n 0 (mostN op))) := by
  have hcut := rcut_eq s 32 hs
  have hcut : run_ratchetbase_Cut (.start s (32 : Int)) = some (((), ()), (cuts 32 s, ())) := hcut
  rw [run_ratchetref31_read, hcut]
  simp only [some_bind']
  have hlen : (cuts 32 s).length ≤ 100000 := by have := cuts_count 32 s; omega
  have hsz := fun x (hx : x ∈ cuts 32 s) => Nat.le_trans (cuts_size hx) hs
  rcases r244 labels 0 0 0 0 NB NB s (cuts 32 s) hlen (cuts 32 s).length 0 (by omega) with ⟨h1, h2⟩ | ⟨t, x, h1, h2, h3, h4⟩
  case inr =>
    rw [show ((0 : Nat) : Int) = 0 from rfl] at h3
    refine ⟨t, h3, ?_⟩
    cases hp : parse (cuts 32 s) with
    | none => exact h4
    | some q => have := parse_ne hp x h1; omega
  rw [show ((0 : Nat) : Int) = 0 from rfl] at h1
  rw [List.drop_zero] at h2
  rw [h1]
  cases hc : cuts 32 s with
  | nil => exact absurd hc (cuts_ne _ _)
  | cons x ws =>
    rw [hc] at hsz h2 hlen hcut
    have hx0 := h2 x (List.mem_cons_self ..)
    have hxs := hsz x (List.mem_cons_self ..)
    have hi : idx (x :: ws) (0 : Int) = some x := rfl
    have hg : (decide ((0 : Int) ≤ (0 : Int)) && decide ((0 : Int) < (List.length (x :: ws) : Int))) = true := by simp
    have hw : IntKind.wrap .i64 ((x.size : Int) - 1) = ((x.size - 1 : Nat) : Int) := by rw [wrap_i64 (by omega) (by omega)]; omega
    have h63 : ∀ (w7 : List ByteArray) (own : ByteArray), run_ratchetref31_read (.p63 s labels w7 0 0 0 0 NB NB 0 0 0 0 own NB) = run_ratchetref31_read (.p4084 labels w7 (decide ((List.length w7 : Int) < (List.length (x :: ws) : Int))) (-1) (0 : Int) 0 0 0 0 NB NB 0 0 0 0 own NB) := by
      intro w7 own
      conv => lhs; rw [run_ratchetref31_read]
      rw [hcut]
      rfl
    have hL : labW (x :: ws) = if 0 < x.size ∧ bt x (x.size - 1) = 58 then (some (x.extract 0 (x.size - 1)), ws) else (none, x :: ws) := rfl
    have hall : ∀ y ∈ x :: ws, y.size ≤ 60010 ∧ 0 < y.size := fun y hy => ⟨hsz y hy, h2 y hy⟩
    rw [run_ratchetref31_read, if_neg (by simp)]
    simp only [hg, if_true, hi, some_bind', hw, sidx_nat (show x.size - 1 < x.size by omega)]
    unfold parse
    by_cases h58 : bt x (x.size - 1) = 58
    · have hsp : span x.size (0 : Int) ((x.size - 1 : Nat) : Int) = some (0, x.size - 1) := span_nat (i := 0) (by omega) (by omega)
      rw [if_pos (by simpa using h58), hL, if_pos ⟨hx0, h58⟩]
      simp only [hsp, some_bind', span_tail, cut_tail, h63]
      cases ws with
      | nil =>
        rw [if_pos (by simp)]
        exact ⟨_, rfl, rfl⟩
      | cons y r =>
        rw [if_neg (by simp; omega)]
        have e : decide ((List.length (y :: r) : Int) < (List.length (x :: y :: r) : Int)) = true := by simp; omega
        rw [e]
        have hos : (x.extract 0 (x.size - 1)).size ≤ 60010 := by rw [size_ext x (by omega) (by omega)]; omega
        obtain ⟨t, g1, g2⟩ := rrest labels 0 0 0 0 NB NB (y :: r) true (x.extract 0 (x.size - 1)) (by simp) (fun z hz => hall z (List.mem_cons_of_mem _ hz)) (by simp at hlen ⊢; omega) hos hl
        refine ⟨t, g1, ?_⟩
        cases hv : restW (y :: r) with
        | none => rw [hv] at g2; exact g2
        | some q => rw [hv] at g2; exact g2
    · rw [if_neg (by simpa using h58), hL, if_neg (by rintro ⟨_, h⟩; exact h58 h), h63]
      have e : decide ((List.length (x :: ws) : Int) < (List.length (x :: ws) : Int)) = false := by simp
      rw [e]
      obtain ⟨t, g1, g2⟩ := rrest labels 0 0 0 0 NB NB (x :: ws) false NB (by simp) hall hlen (by decide) hl
      refine ⟨t, g1, ?_⟩
      simp only
      cases hv : restW (x :: ws) with
      | none => rw [hv] at g2; exact g2
      | some q => rw [hv] at g2; exact g2
end Go.Proofs.YtjededkgblbamaaGreatDoor.Ev.F
