/- Chapter 31: the processor of a program: the law. -/
import Derived.Test.YtjededkgblbamaaGreatDoorPPP1
set_option linter.unusedVariables false
set_option linter.unusedSimpArgs false
set_option linter.unnecessarySimpa false
set_option maxRecDepth 100000
namespace Go.Proofs.YtjededkgblbamaaGreatDoor.Ev.F
open Go.Proofs.YtjededkgblbamaaGreatDoor.Ev

/-! ### comparisons -/
theorem ints_at {l : List Int} (hn : l.length ≤ 1000) : ∀ (k i : Nat), i + k = l.length → run_z16 (.p116 l l (i : Int)) = some ((true, ()), ())
 | 0, i, h => by
   rw [run_z16]
   simp [show ¬ i < l.length by omega]
 | k + 1, i, h => by
   have hi : i < l.length := by omega
   rw [run_z16]
   simp only [show (decide ((i : Int) < (List.length l : Int))) = true by simpa using hi, if_true, idx_nat, List.getElem?_eq_getElem hi, some_bind', bne_self_eq_false, Bool.false_eq_true, if_false]
   rw [vwrap_succ hi (by omega)]
   exact ints_at hn k (i + 1) (by omega)
theorem ints_self {l : List Int} (hn : l.length ≤ 1000) : run_z16 (.start l l) = some ((true, ()), ()) := by
  rw [run_z16]
  simp only [bne_self_eq_false, Bool.false_eq_true, if_false]
  exact ints_at hn l.length 0 (by omega)
theorem same_self {a b : Int} {x y : List Int} (hx : x.length ≤ 1000) (hy : y.length ≤ 1000) : run_z17 (.start a b x y a b x y) = some ((true, ()), ()) := by
  rw [run_z17]
  simp only [beq_self_eq_true, if_true, ints_self hx, ints_self hy, some_bind']

/-! ### the machine in a state -/
theorem pLeaves_w : ∀ w ∈ pLeaves, 0 ≤ w ∧ w ≤ 32 := by decide
theorem pwidths : run_z1 .start = some (((), ()), (pLeaves, ())) := runF_z1_le 40 _ _ (by kernel_rfl)
/-- the error of a state -/
def stE (s : List Int) : Int := if s.length = 16 then (if allfit s pLeaves = true then 0 else 2) else 10
theorem pvalE (s : List Int) (hn : s.length ≤ 1000) : run_z6 (.start s pLeaves) = some ((stE s, ()), ()) := by
  rw [pvals hn pLeaves_w]; rfl
theorem rstE (s : List Int) (hn : s.length ≤ 1000) : run_z15 (.start s) = some ((stE s, ()), ()) := by
  rw [run_z15]
  have e : run_z10 .start = some ((pLeaves, ()), ()) := rfl
  simp only [e, some_bind']
  unfold stE
  by_cases hl : s.length = 16
  · rw [rvals (show s.length = pLeaves.length from hl) hn pLeaves_w]
    have : ((s.length : Int) != (pLeaves.length : Int)) = false := by rw [hl]; rfl
    simp only [this, Bool.false_eq_true, if_false, some_bind', if_pos hl]
    cases allfit s pLeaves <;> simp
  · have : ((s.length : Int) != (pLeaves.length : Int)) = true := by
      have : (pLeaves.length : Int) = 16 := rfl
      rw [this]; simp; omega
    simp only [this, if_true, if_neg hl]
theorem sixteen {s : List Int} (h : s.length = 16) : ∃ a0 a1 a2 a3 a4 a5 a6 a7 a8 a9 a10 a11 a12 a13 a14 a15, s = [a0, a1, a2, a3, a4, a5, a6, a7, a8, a9, a10, a11, a12, a13, a14, a15] := by
  match s, h with
  | [a0, a1, a2, a3, a4, a5, a6, a7, a8, a9, a10, a11, a12, a13, a14, a15], _ => exact ⟨_, _, _, _, _, _, _, _, _, _, _, _, _, _, _, _, rfl⟩
theorem eight {s : List Int} (h : s.length = 8) : ∃ a0 a1 a2 a3 a4 a5 a6 a7, s = [a0, a1, a2, a3, a4, a5, a6, a7] := by
  match s, h with
  | [a0, a1, a2, a3, a4, a5, a6, a7], _ => exact ⟨_, _, _, _, _, _, _, _, rfl⟩
theorem pin_err (s : List Int) (hn : s.length ≤ 1000) (h : stE s ≠ 0) : run_z9 (.start s) = some ((((0 : Int), ((0 : Int), ([], ([], ())))), (stE s, ())), ()) := by
  rw [run_z9]
  simp only [pwidths, some_bind', pvalE s hn]
  rw [if_pos (by simpa using h)]
theorem pin_ok {a0 a1 a2 a3 a4 a5 a6 a7 a8 a9 a10 a11 a12 a13 a14 a15 : Int} (h : stE [a0, a1, a2, a3, a4, a5, a6, a7, a8, a9, a10, a11, a12, a13, a14, a15] = 0) :
    run_z9 (.start [a0, a1, a2, a3, a4, a5, a6, a7, a8, a9, a10, a11, a12, a13, a14, a15]) = some (((a0, (a1, ([a4, a5, a6, a7], ([a8, a9, a10, a11, a12, a13, a14, a15], ())))), ((0 : Int), ())), ()) := by
  rw [run_z9]
  simp only [pwidths, some_bind', pvalE _ (show (List.length [a0, a1, a2, a3, a4, a5, a6, a7, a8, a9, a10, a11, a12, a13, a14, a15]) ≤ 1000 by simp), h, bne_self_eq_false, Bool.false_eq_true, if_false]
  refine Eq.trans ?_ (Eq.refl _)
  kernel_rfl
theorem rin {a0 a1 a2 a3 a4 a5 a6 a7 a8 a9 a10 a11 a12 a13 a14 a15 : Int} :
    run_z18 (.start [a0, a1, a2, a3, a4, a5, a6, a7, a8, a9, a10, a11, a12, a13, a14, a15]) = some (((a0, (a1, ((), ((), ())))), ()), ([a4, a5, a6, a7], ([a8, a9, a10, a11, a12, a13, a14, a15], ()))) := by
  kernel_rfl
theorem copy_ints (l : List Int) (hn : l.length ≤ 1000) : run_z0 (.start l) = some (((), ()), (l, ())) := by
  rw [run_z0]
  have : fits (List.length ([] : List Int)) l.length 8 = true := Nat.ble_eq_true_of_le (by simp; omega)
  rw [if_pos this]
  rfl

/-! ### the design -/
def memF (m : List Int) (k : Nat) : Int := m.getD k 0
theorem wE_ok {c : api_MachineCode} (h : codeE c.Op c.A c.B c.N = 0) : wE c = wordE c.Op c.A c.B c.N := by
  have := pwordOf h
  rw [run_z41] at this
  simp only [show decide ((0 : Int) ≤ 12) = true from rfl, show decide ((0 : Int) ≤ 10) = true from rfl, show decide ((0 : Int) ≤ 8) = true from rfl, if_true] at this
  exact congrArg (fun x => x.1.1) (Option.some.inj this)
theorem codes_zero : ∀ {l : List api_MachineCode} {i : Int}, (codesE l i).2 = 0 → ∀ c ∈ l, codeE c.Op c.A c.B c.N = 0
 | [], _, _, c, hc => by cases hc
 | x :: l, i, h, c, hc => by
   unfold codesE at h
   split at h
   · rename_i h0
     rcases List.mem_cons.1 hc with rfl | hc
     · exact h0
     · exact codes_zero h c hc
   · rename_i h0
     exact absurd h h0
theorem prog_zero {l : List api_MachineCode} (h : (progE l).2 = 0) : l.length ≤ 16 ∧ ∀ c ∈ l, codeE c.Op c.A c.B c.N = 0 := by
  unfold progE at h
  split at h
  · cases h
  · rename_i h0
    exact ⟨by omega, codes_zero h⟩
theorem wd_ok {l : List api_MachineCode} (h : ∀ c ∈ l, codeE c.Op c.A c.B c.N = 0) (k : Nat) : 0 ≤ wd l k ∧ wd l k ≤ 65535 := by
  unfold wd
  cases hk : l[k]? with
  | none => simp
  | some c =>
    have hc := h c (List.mem_of_getElem? hk)
    obtain ⟨h1, h2, h3, h4, _⟩ := codeE_zero hc
    rw [within_iff] at h1 h2 h3 h4
    simp only
    rw [wE_ok hc]
    unfold wordE
    omega
theorem bytes_zero {m : List Int} (h : bytesE m 8 = 0) : m.length = 8 ∧ ∀ k, k < 8 → 0 ≤ memF m k ∧ memF m k ≤ 255 := by
  unfold bytesE at h
  split at h
  · rename_i hl
    split at h
    · rename_i ha
      have hl : m.length = 8 := by omega
      refine ⟨hl, fun k hk => ?_⟩
      have hk' : k < m.length := by omega
      have := List.all_eq_true.1 ha m[k] (List.getElem_mem hk')
      unfold memF
      rw [List.getD_eq_getElem?_getD, List.getElem?_eq_getElem hk']
      exact within_iff.1 this
    · cases h
  · cases h
/-- the design of a program -/
def pDes (l : List api_MachineCode) (m : List Int) : R_z61 := (((pName, ((), (pEls (memF m), (pNodes (wd l), ([pRule0, pRule1], ((), ((), ()))))))), ((0 : Int), ())), ())
theorem pprogErr (l : List api_MachineCode) : run_z29 (.start l) = some (((progE l).2, ()), ()) := by
  simp only [run_z29, pprog, some_bind']
theorem rprogErr (l : List api_MachineCode) : run_z66 (.start l) = some (((progE l).2, ()), ()) := by
  simp only [run_z66, rprog, some_bind']
theorem made (l : List api_MachineCode) (m : List Int) (hp : (progE l).2 = 0) (hm : bytesE m 8 = 0) : run_z61 (.start l m) = some (pDes l m) := by
  obtain ⟨hl, hc⟩ := prog_zero hp
  obtain ⟨hml, hmb⟩ := bytes_zero hm
  obtain ⟨b0, b1, b2, b3, b4, b5, b6, b7, rfl⟩ := eight hml
  have e1 := runF_z40_le 100 _ _ (newp (memF [b0, b1, b2, b3, b4, b5, b6, b7]))
  have e2 := runF_z49_le 200 _ _ (fetchp (memF [b0, b1, b2, b3, b4, b5, b6, b7]) l hl)
  have e3 := runF_z60_le 200 _ _ (execp (wd l) (memF [b0, b1, b2, b3, b4, b5, b6, b7]))
  have e1 : run_z40 (.start [b0, b1, b2, b3, b4, b5, b6, b7]) = _ := e1
  rw [run_z61]
  have e0 : run_z25 (.start [0, 0]) = some ((0, ()), ()) := pfirst [0, 0] (by simp)
  simp only [pprogErr, pmem _ (show (List.length [b0, b1, b2, b3, b4, b5, b6, b7]) ≤ 1000 by simp), some_bind', hp, hm, e0, bne_self_eq_false, Bool.false_eq_true, if_false, e1, e2, e3]
  rfl
theorem made_err (l : List api_MachineCode) (m : List Int) (hml : m.length ≤ 1000) (e : Int) (he : e ≠ 0) (h : ((progE l).2 = e) ∨ ((progE l).2 = 0 ∧ bytesE m 8 = e)) : run_z61 (.start l m) = some ((((⟨#[]⟩ : ByteArray), ((), ([], ([], ([], ((), ((), ()))))))), (e, ())), ()) := by
  rw [run_z61]
  have hf : firstE [(progE l).2, bytesE m 8] = e := by
    rcases h with h | ⟨h1, h2⟩
    · simp [firstE, h, he]
    · simp [firstE, h1, h2]
      exact fun h => h.symm
  simp only [pprogErr, pmem m hml, some_bind', pfirst _ (show (List.length [(progE l).2, bytesE m 8]) ≤ 1000 by simp), hf]
  rw [if_pos (by simpa using he)]
theorem same0 : run_z73 (.start (⟨#[]⟩ : ByteArray) [] [] [] [] [] [] (⟨#[]⟩ : ByteArray) [] [] [] [] [] []) = some ((true, ()), ()) := runF_z73_le 300 _ _ (by kernel_rfl)

/-! ### the registers -/
theorem el_step {mem : List Int} {N : List api_Node} {R : List api_Rule} {M : Nat → Int} {i : Nat} {init : Int} (hi : i < 16) (hinit : ∀ x, (pEls M)[i]? = some x → x.Init = init) :
    run_z91 (.p1048211 mem (i : Int) init pName (pEls M) N R) = run_z91 (.p32756 mem ((i + 1 : Nat) : Int) pName (pEls M) N R) := by
  conv => lhs; rw [run_z91.eq_7]
  have e1 : ∃ nl, run_z90 .start = some ((nl, ()), ()) ∧ ∃ x nm w, (pEls M)[i]? = some x ∧ nl[i]? = some nm ∧ pLeaves[i]? = some w ∧ seq x.Name nm = true ∧ x.Kind = 0 ∧ x.Width = w ∧ x.Clock = 0 := by
    refine ⟨_, rfl, ?_⟩
    match i, hi with
    | 0, _ => exact ⟨_, _, _, rfl, rfl, rfl, rfl, rfl, rfl, rfl⟩
    | 1, _ => exact ⟨_, _, _, rfl, rfl, rfl, rfl, rfl, rfl, rfl⟩
    | 2, _ => exact ⟨_, _, _, rfl, rfl, rfl, rfl, rfl, rfl, rfl⟩
    | 3, _ => exact ⟨_, _, _, rfl, rfl, rfl, rfl, rfl, rfl, rfl⟩
    | 4, _ => exact ⟨_, _, _, rfl, rfl, rfl, rfl, rfl, rfl, rfl⟩
    | 5, _ => exact ⟨_, _, _, rfl, rfl, rfl, rfl, rfl, rfl, rfl⟩
    | 6, _ => exact ⟨_, _, _, rfl, rfl, rfl, rfl, rfl, rfl, rfl⟩
    | 7, _ => exact ⟨_, _, _, rfl, rfl, rfl, rfl, rfl, rfl, rfl⟩
    | 8, _ => exact ⟨_, _, _, rfl, rfl, rfl, rfl, rfl, rfl, rfl⟩
    | 9, _ => exact ⟨_, _, _, rfl, rfl, rfl, rfl, rfl, rfl, rfl⟩
    | 10, _ => exact ⟨_, _, _, rfl, rfl, rfl, rfl, rfl, rfl, rfl⟩
    | 11, _ => exact ⟨_, _, _, rfl, rfl, rfl, rfl, rfl, rfl, rfl⟩
    | 12, _ => exact ⟨_, _, _, rfl, rfl, rfl, rfl, rfl, rfl, rfl⟩
    | 13, _ => exact ⟨_, _, _, rfl, rfl, rfl, rfl, rfl, rfl, rfl⟩
    | 14, _ => exact ⟨_, _, _, rfl, rfl, rfl, rfl, rfl, rfl, rfl⟩
    | 15, _ => exact ⟨_, _, _, rfl, rfl, rfl, rfl, rfl, rfl, rfl⟩
    | n + 16, h => exact absurd h (by omega)
  obtain ⟨nl, hn, x, nm, w, h1, h2, h3, h4, h5, h6, h7⟩ := e1
  have hw : run_z10 .start = some ((pLeaves, ()), ()) := rfl
  simp only [idx_nat, h1, some_bind', hn, h2, hw, h3, h4, h5, h6, h7, hinit x h1, beq_self_eq_true, Bool.and_self, Bool.not_true, Bool.false_eq_true, if_false]
  rw [vwrap_succ hi (by omega)]
theorem el_loop {m : List Int} {N : List api_Node} {R : List api_Rule} (hm : m.length = 8) : ∀ (k i : Nat), i + k = 16 → run_z91 (.p32756 m (i : Int) pName (pEls (memF m)) N R) = some ((true, ()), ())
 | 0, i, h => by
   rw [run_z91.eq_6]
   simp [show ¬ (i : Int) < 16 by omega]
 | k + 1, i, h => by
   have hi : i < 16 := by omega
   rw [run_z91.eq_6]
   simp only [show (decide ((i : Int) < (16 : Int))) = true by simp; omega, if_true]
   by_cases h8 : 8 ≤ i
   · have hg : decide ((i : Int) ≥ 8) = true := by simp; omega
     have hs : IntKind.wrap .i64 ((i : Int) - 8) = ((i - 8 : Nat) : Int) := by rw [wrap_i64 (by omega) (by omega)]; omega
     have hlt : i - 8 < m.length := by omega
     simp only [hg, if_true, hs, idx_nat, List.getElem?_eq_getElem hlt, some_bind']
     rw [el_step hi fun x hx => ?_]
     · exact el_loop hm k (i + 1) (by omega)
     · have key : ∀ j, j < 8 → ∀ x, (pEls (memF m))[8 + j]? = some x → x.Init = memF m j := by
         intro j hj x hx
         match j, hj with
         | 0, _ => cases hx; rfl
         | 1, _ => cases hx; rfl
         | 2, _ => cases hx; rfl
         | 3, _ => cases hx; rfl
         | 4, _ => cases hx; rfl
         | 5, _ => cases hx; rfl
         | 6, _ => cases hx; rfl
         | 7, _ => cases hx; rfl
         | n + 8, h => exact absurd h (by omega)
       have := key (i - 8) (by omega) x (by rw [show 8 + (i - 8) = i by omega]; exact hx)
       rw [this]
       unfold memF
       rw [List.getD_eq_getElem?_getD, List.getElem?_eq_getElem hlt]
       rfl
   · have hg : decide ((i : Int) ≥ 8) = false := by simp; omega
     simp only [hg, Bool.false_eq_true, if_false]
     rw [el_step hi fun x hx => ?_]
     · exact el_loop hm k (i + 1) (by omega)
     · have : ∀ j, j < 8 → ∀ x, (pEls (memF m))[j]? = some x → x.Init = 0 := by
         intro j hj x hx
         match j, hj with
         | 0, _ => cases hx; rfl
         | 1, _ => cases hx; rfl
         | 2, _ => cases hx; rfl
         | 3, _ => cases hx; rfl
         | 4, _ => cases hx; rfl
         | 5, _ => cases hx; rfl
         | 6, _ => cases hx; rfl
         | 7, _ => cases hx; rfl
         | n + 8, h => exact absurd h (by omega)
       exact this i (by omega) x hx
theorem second (l : List api_MachineCode) (m : List Int) (hl : l.length ≤ 1000) (hm : m.length ≤ 1000) : run_z91 (.p63 l m) = some ((true, ()), ()) := by
  rw [run_z91.eq_3]
  simp only [rcopyP hl, copy_ints m hm, some_bind', rprogErr, rmem m hm]
  have bad : ∀ c, c ≠ 0 → run_z91 (.p511 m c c (⟨#[]⟩ : ByteArray) [] [] []) = some ((true, ()), ()) := fun c hc => by
    rw [run_z91.eq_4]
    simp only [show (c != 0) = true by simpa using hc, if_true, beq_self_eq_true, same0, some_bind']
  by_cases h0 : (progE l).2 = 0
  · by_cases h1 : bytesE m 8 = 0
    · obtain ⟨hml, hmb⟩ := bytes_zero h1
      obtain ⟨hpl, hpc⟩ := prog_zero h0
      simp only [made l m h0 h1, some_bind', h0, h1, beq_self_eq_true, if_true, pDes]
      rw [run_z91.eq_4]
      have e2 : decide ((IntKind.wrap .i64 ((IntKind.wrap .i64 ((0 : Int) + (0 : Int))) + (0 : Int))) > (0 : Int)) = false := by kernel_rfl
      have e3 : ((List.length (pEls (memF m)) : Int) != 16) = false := rfl
      have e4 : ((List.length [pRule0, pRule1] : Int) != 2) = false := rfl
      have e5 : seq pRule0.Name (⟨#[102, 101, 116, 99, 104]⟩ : ByteArray) = true := by kernel_rfl
      have e6 : seq pRule1.Name (⟨#[101, 120, 101, 99, 117, 116, 101]⟩ : ByteArray) = true := by kernel_rfl
      have e7 : idx [pRule0, pRule1] 0 = some pRule0 := rfl
      have e8 : idx [pRule0, pRule1] 1 = some pRule1 := rfl
      simp only [bne_self_eq_false, Bool.false_eq_true, if_false, pDesign (W := wd l) (M := memF m) (fun k _ => wd_ok hpc k) hmb, some_bind', Bool.not_true, e2, e3, e4, e5, e6, e7, e8]
      rw [run_z91.eq_5]
      exact el_loop hml 16 0 rfl
    · simp only [made_err l m hm _ h1 (.inr ⟨h0, rfl⟩), some_bind', h0, beq_self_eq_true, if_true]
      exact bad _ h1
  · simp only [made_err l m hm _ h0 (.inl rfl), some_bind', show ((progE l).2 == 0) = false by simpa using h0, Bool.false_eq_true, if_false]
    exact bad _ h0
theorem processors_law (l : List api_MachineCode) (m s : List Int) : run_z91 (.start l m s) = some ((true, ()), ()) := by
  rw [run_z91.eq_1]
  simp only [some_bind', Bool.not_true, Bool.false_eq_true, if_false]
  by_cases h1 : l.length ≤ 20
  rotate_left
  · have : decide ((List.length l : Int) > 20) = true := by simp; omega
    simp only [this, if_true]
  by_cases h2 : m.length ≤ 10
  rotate_left
  · have : decide ((List.length m : Int) > 10) = true := by simp; omega
    have h1' : decide ((List.length l : Int) > 20) = false := by simp; omega
    simp only [h1', Bool.false_eq_true, if_false, this, if_true]
  by_cases h3 : s.length ≤ 20
  rotate_left
  · have : decide ((List.length s : Int) > 20) = true := by simp; omega
    have h1' : decide ((List.length l : Int) > 20) = false := by simp; omega
    have h2' : decide ((List.length m : Int) > 10) = false := by simp; omega
    simp only [h1', h2', Bool.false_eq_true, if_false, this, if_true]
  have h1' : decide ((List.length l : Int) > 20) = false := by simp; omega
  have h2' : decide ((List.length m : Int) > 10) = false := by simp; omega
  have h3' : decide ((List.length s : Int) > 20) = false := by simp; omega
  simp only [h1', h2', h3', Bool.false_eq_true, if_false]
  rw [run_z91.eq_2]
  simp only [copy_ints s (by omega), some_bind', rstE s (by omega)]
  have fin := second l m (by omega) (by omega)
  by_cases h0 : stE s = 0
  · have hl : s.length = 16 := by
      unfold stE at h0
      by_cases hl : s.length = 16
      · exact hl
      · rw [if_neg hl] at h0; cases h0
    obtain ⟨a0, a1, a2, a3, a4, a5, a6, a7, a8, a9, a10, a11, a12, a13, a14, a15, rfl⟩ := sixteen hl
    simp only [pin_ok h0, some_bind', h0, bne_self_eq_false, Bool.false_eq_true, if_false, beq_self_eq_true, if_true, rin, same_self (x := [a4, a5, a6, a7]) (y := [a8, a9, a10, a11, a12, a13, a14, a15]) (by simp) (by simp), Bool.not_true]
    exact fin
  · have e1 : (stE s != 0) = true := by simpa using h0
    have e2 : (stE s == 0) = false := by simpa using h0
    simp only [pin_err s (by omega) h0, some_bind', e1, if_true, bne_self_eq_false, Bool.false_eq_true, if_false, same_self (a := 0) (b := 0) (x := []) (y := []) (by simp) (by simp), Bool.not_true, e2]
    exact fin
end Go.Proofs.YtjededkgblbamaaGreatDoor.Ev.F
