/- Steps of the machine: the program's and the reference's are the same. -/
import Derived.Test.YtjededkgblbamaaGreatDoorPWord
set_option linter.unusedVariables false
set_option linter.unusedSimpArgs false
set_option linter.unnecessarySimpa false
namespace Go.Proofs.YtjededkgblbamaaGreatDoor.Ev.F
open Go.Proofs.YtjededkgblbamaaGreatDoor.Ev

/-! ### lists of bytes -/
def isB (x : Int) : Bool := within x 0 255
def bytesE (l : List Int) (n : Int) : Int := if (l.length : Int) = n then (if l.all isB = true then 0 else 2) else 10
theorem pindexF (l : List Int) (hl : l.length ≤ 1000) : ∀ (k i : Nat), i + k = l.length → ∃ r : Int, run_slices_IndexFunc_int_int (.p52 l (List.length l : Int) (i : Int)) = some ((r, ()), ()) ∧ (decide (r ≥ 0) = !(l.drop i).all isB)
 | 0, i, h => by
   refine ⟨-1, ?_, ?_⟩
   · rw [run_slices_IndexFunc_int_int]
     simp [show ¬ i < l.length by omega]
   · rw [List.drop_of_length_le (by omega)]; rfl
 | k + 1, i, h => by
   have hi : i < l.length := by omega
   rw [run_slices_IndexFunc_int_int]
   simp only [show (decide ((i : Int) < (List.length l : Int))) = true by simpa using hi, if_true, idx_nat, List.getElem?_eq_getElem hi, some_bind', run_machine_bytesErr_1, run_machine_isByte, pwithin]
   rw [drop_cons hi, List.all_cons]
   cases hb : within l[i] 0 255 with
   | false =>
     refine ⟨(i : Int), ?_, ?_⟩
     · simp
     · simp [isB, hb]
   | true =>
     obtain ⟨r, h1, h2⟩ := pindexF l hl k (i + 1) (by omega)
     refine ⟨r, ?_, ?_⟩
     · rw [wrap_succ hi (by omega), h1]; simp
     · rw [h2]; simp [isB, hb]
theorem pbytes (l : List Int) (n : Int) (hl : l.length ≤ 1000) : run_machine_bytesErr (.start l n) = some ((bytesE l n, ()), ()) := by
  simp only [run_machine_bytesErr, run_slices_ContainsFunc_int_int]
  obtain ⟨r, h1, h2⟩ := pindexF l hl l.length 0 (by omega)
  rw [run_slices_IndexFunc_int_int]
  simp only [show (0 : Int) = ((0 : Nat) : Int) from rfl] at h1 h2 ⊢
  simp only [h1, some_bind', h2, punless, List.drop_zero]
  unfold bytesE
  by_cases hn : (l.length : Int) = n
  · cases ha : l.all isB <;> simp [hn, pfirst, firstE, some_bind']
  · simp [hn, pfirst, firstE, some_bind']
theorem rbytes_at (l : List Int) (hl : l.length ≤ 1000) : ∀ (k i : Nat), i + k = l.length → run_ratchetref31_bytesErr (.p116 l (i : Int)) = some ((if (l.drop i).all isB = true then 0 else 2, ()), ())
 | 0, i, h => by
   rw [run_ratchetref31_bytesErr, List.drop_of_length_le (by omega)]
   simp [show ¬ i < l.length by omega]
 | k + 1, i, h => by
   have hi : i < l.length := by omega
   rw [run_ratchetref31_bytesErr]
   simp only [show (decide ((i : Int) < (List.length l : Int))) = true by simpa using hi, if_true, idx_nat, List.getElem?_eq_getElem hi, some_bind', rwithin]
   rw [wrap_succ hi (by omega), rbytes_at l hl k (i + 1) (by omega), drop_cons hi, List.all_cons]
   cases hb : within l[i] 0 255 <;> simp [isB, hb]
theorem rbytes (l : List Int) (n : Int) (hl : l.length ≤ 1000) : run_ratchetref31_bytesErr (.start l n) = some ((bytesE l n, ()), ()) := by
  rw [run_ratchetref31_bytesErr]
  unfold bytesE
  by_cases hn : (l.length : Int) = n
  · simp only [hn, bne_self_eq_false, Bool.false_eq_true, if_false, if_true]
    have := rbytes_at l hl l.length 0 (by omega)
    rw [List.drop_zero] at this
    exact this
  · simp [hn]
theorem rcopyI {l : List Int} (h : l.length ≤ 1000) : run_ratchetbase_CopyInts (.start l) = some (((), ()), (l, ())) := by
  simp only [run_ratchetbase_CopyInts]
  rw [if_pos (fits_ok (by simp; omega))]
  rfl
theorem rcopyI1 {l : List Int} (h : l.length ≤ 1000) : run_ratchetbase_CopyInts_v1 (.start l) = some (((), ()), (l, ())) := by
  simp only [run_ratchetbase_CopyInts_v1]
  rw [if_pos (fits_ok (by simp; omega))]
  rfl
theorem rInts_at (a b : List Int) (hab : a.length = b.length) (hl : a.length ≤ 1000) : ∀ (k i : Nat), i + k = a.length → run_ratchetbase_Ints (.p116 a b (i : Int)) = some ((decide (a.drop i = b.drop i), ()), ())
 | 0, i, h => by
   rw [run_ratchetbase_Ints, List.drop_of_length_le (by omega), List.drop_of_length_le (by omega)]
   simp [show ¬ i < a.length by omega]
 | k + 1, i, h => by
   have hi : i < a.length := by omega
   have hj : i < b.length := by omega
   rw [run_ratchetbase_Ints]
   simp only [show (decide ((i : Int) < (List.length a : Int))) = true by simpa using hi, if_true, idx_nat, List.getElem?_eq_getElem hi, List.getElem?_eq_getElem hj, some_bind']
   rw [wrap_succ hi (by omega), rInts_at a b hab hl k (i + 1) (by omega), drop_cons hi, drop_cons hj]
   by_cases he : a[i] = b[i]
   · simp only [he, bne_self_eq_false, Bool.false_eq_true, if_false, List.cons.injEq, true_and]
   · have h2 : (a[i] != b[i]) = true := by simp [he]
     rw [if_pos h2]
     simp only [List.cons.injEq, he, false_and, decide_false]
theorem rInts (a b : List Int) (hl : a.length ≤ 1000) : run_ratchetbase_Ints (.start a b) = some ((decide (a = b), ()), ()) := by
  rw [run_ratchetbase_Ints]
  by_cases hab : a.length = b.length
  · simp only [hab, bne_self_eq_false, Bool.false_eq_true, if_false]
    have := rInts_at a b hab hl a.length 0 (by omega)
    simpa using this
  · have : a ≠ b := fun e => hab (by rw [e])
    have h2 : ((List.length a : Int) != (List.length b : Int)) = true := by simp; omega
    rw [if_pos h2]
    simp [this]
theorem rSame_refl (pc h : Int) (R M : List Int) (h1 : R.length ≤ 1000) (h2 : M.length ≤ 1000) : run_ratchetref31_Same (.start pc h R M pc h R M) = some ((true, ()), ()) := by
  simp [run_ratchetref31_Same, rInts R R h1, rInts M M h2, some_bind']

/-! ### a step -/
structure Ok4 (pc h : Int) (R M : List Int) : Prop where
  pcr : 0 ≤ pc ∧ pc ≤ 15
  hh : h = 0 ∨ h = 1
  lR : R.length = 4
  lM : M.length = 8
  rb : ∀ x ∈ R, 0 ≤ x ∧ x ≤ 255
  mb : ∀ x ∈ M, 0 ≤ x ∧ x ≤ 255
abbrev St4 := Int × Int × List Int × List Int
def Okst (s : St4) : Prop := Ok4 s.1 s.2.1 s.2.2.1 s.2.2.2
def gt (l : List Int) (i : Int) : Int := l.getD i.toNat 0
theorem idx_in {l : List Int} {i : Int} (h0 : 0 ≤ i) (h1 : i < l.length) : idx l i = some (gt l i) := by
  obtain ⟨n, rfl⟩ := Int.eq_ofNat_of_zero_le h0
  have hn : n < l.length := by omega
  rw [idx_nat, List.getElem?_eq_getElem hn]
  simp [gt, hn]
theorem gt_mem {l : List Int} {i : Int} (h0 : 0 ≤ i) (h1 : i < l.length) : gt l i ∈ l := by
  obtain ⟨n, rfl⟩ := Int.eq_ofNat_of_zero_le h0
  have hn : n < l.length := by omega
  simp [gt, hn]
def stepF (op a b n pc h : Int) (R M : List Int) : St4 :=
  let va := gt R a
  let vb := gt R b
  let nx := (pc + 1) % 16
  if op = 0 then (pc, 1, R, M) else
  if op = 1 then (nx, h, R.set a.toNat n, M) else
  if op = 2 then (nx, h, R.set a.toNat vb, M) else
  if op = 3 then (nx, h, R.set a.toNat ((va + vb) % 256), M) else
  if op = 4 then (nx, h, R.set a.toNat ((va - vb) % 256), M) else
  if op = 5 then (nx, h, R.set a.toNat (bits .and .i64 va vb), M) else
  if op = 6 then (nx, h, R.set a.toNat (gt M (vb % 8)), M) else
  if op = 7 then (nx, h, R, M.set (vb % 8).toNat va) else
  if op = 8 then (n, h, R, M) else
  (if va = 0 then n else nx, h, R, M)
theorem and_nat {a b : Nat} (ha : a < 2 ^ 62) (hb : b < 2 ^ 62) : bits .and .i64 (a : Int) (b : Int) = ((a &&& b : Nat) : Int) := by
  rw [bits_eq]
  unfold bits0
  show IntKind.wrap .i64 (((BitVec.ofInt 64 (a : Int) &&& BitVec.ofInt 64 (b : Int)).toNat : Nat) : Int) = _
  rw [BitVec.toNat_and, BitVec.ofInt_natCast, BitVec.ofInt_natCast, BitVec.toNat_ofNat, BitVec.toNat_ofNat, Nat.mod_eq_of_lt (by omega), Nat.mod_eq_of_lt (by omega)]
  have : a &&& b ≤ a := Nat.and_le_left
  exact wrap_i64 (by omega) (by omega)
theorem and_byte {a b : Int} (ha : 0 ≤ a ∧ a ≤ 255) (hb : 0 ≤ b ∧ b ≤ 255) : 0 ≤ bits .and .i64 a b ∧ bits .and .i64 a b ≤ 255 := by
  obtain ⟨x, rfl⟩ := Int.eq_ofNat_of_zero_le ha.1
  obtain ⟨y, rfl⟩ := Int.eq_ofNat_of_zero_le hb.1
  rw [and_nat (by omega) (by omega)]
  have : x &&& y ≤ x := Nat.and_le_left
  omega
theorem set_byte {l : List Int} {k : Nat} {v : Int} (hl : ∀ x ∈ l, 0 ≤ x ∧ x ≤ 255) (hv : 0 ≤ v ∧ v ≤ 255) : ∀ x ∈ l.set k v, 0 ≤ x ∧ x ≤ 255 := by
  intro x hx
  rcases List.mem_or_eq_of_mem_set hx with h | h
  · exact hl x h
  · rw [h]; exact hv
theorem stepF_ok {op a b n pc h : Int} {R M : List Int} (hc : codeE op a b n = 0) (hs : Ok4 pc h R M) : Okst (stepF op a b n pc h R M) := by
  obtain ⟨h1, h2, h3, h4, h5, h6⟩ := codeE_zero hc
  rw [within_iff] at h1 h2 h3 h4
  have va := hs.rb _ (gt_mem (l := R) h2.1 (by rw [hs.lR]; omega))
  have vb := hs.rb _ (gt_mem (l := R) h3.1 (by rw [hs.lR]; omega))
  have vm := hs.mb _ (gt_mem (l := M) (i := gt R b % 8) (by omega) (by rw [hs.lM]; omega))
  have hp := hs.pcr
  have nn : op = 8 ∨ op = 9 → n ≤ 15 := by
    intro ho
    have : mostN op = 15 := by unfold mostN jmp; rw [if_pos (decide_eq_true ho)]
    rw [this, within_iff] at h5
    exact h5.2
  unfold stepF Okst
  simp only
  split
  · exact ⟨hp, .inr rfl, hs.lR, hs.lM, hs.rb, hs.mb⟩
  split
  · exact ⟨by simp only; omega, hs.hh, by simp [hs.lR], hs.lM, set_byte hs.rb h4, hs.mb⟩
  split
  · exact ⟨by simp only; omega, hs.hh, by simp [hs.lR], hs.lM, set_byte hs.rb vb, hs.mb⟩
  split
  · exact ⟨by simp only; omega, hs.hh, by simp [hs.lR], hs.lM, set_byte hs.rb (by omega), hs.mb⟩
  split
  · exact ⟨by simp only; omega, hs.hh, by simp [hs.lR], hs.lM, set_byte hs.rb (by omega), hs.mb⟩
  split
  · exact ⟨by simp only; omega, hs.hh, by simp [hs.lR], hs.lM, set_byte hs.rb (and_byte va vb), hs.mb⟩
  split
  · exact ⟨by simp only; omega, hs.hh, by simp [hs.lR], hs.lM, set_byte hs.rb vm, hs.mb⟩
  split
  · exact ⟨by simp only; omega, hs.hh, hs.lR, by simp [hs.lM], hs.rb, set_byte hs.mb va⟩
  split
  · rename_i h8
    exact ⟨by have := nn (.inl h8); simp only; omega, hs.hh, hs.lR, hs.lM, hs.rb, hs.mb⟩
  · refine ⟨?_, hs.hh, hs.lR, hs.lM, hs.rb, hs.mb⟩
    simp only
    split
    · have := nn (.inr (by omega)); omega
    · omega

abbrev pk4 (s : St4) : (Int × Int × Unit × Unit × Unit) × Unit := ((s.1, (s.2.1, ((), ((), ())))), ())
theorem pstep63 {op a b n pc h x y : Int} {R M : List Int} (hc : codeE op a b n = 0) (hs : Ok4 pc h R M) :
    run_machine_step (.p63 pc h x y op a b n R M) = some (pk4 (stepF op a b n pc h R M), ((stepF op a b n pc h R M).2.2.1, ((stepF op a b n pc h R M).2.2.2, ()))) := by
  obtain ⟨h1, h2, h3, h4, h5, h6⟩ := codeE_zero hc
  have h1' := h1
  rw [within_iff] at h1 h2 h3 h4
  have va := hs.rb _ (gt_mem (l := R) h2.1 (by rw [hs.lR]; omega))
  have vb := hs.rb _ (gt_mem (l := R) h3.1 (by rw [hs.lR]; omega))
  have ia := idx_in (l := R) h2.1 (by rw [hs.lR]; omega)
  have ib := idx_in (l := R) h3.1 (by rw [hs.lR]; omega)
  have hp := hs.pcr
  have ca : (decide ((0 : Int) ≤ a) && decide (a < (List.length R : Int))) = true := by rw [hs.lR]; simp; omega
  have cb : (decide ((0 : Int) ≤ b) && decide (b < (List.length R : Int))) = true := by rw [hs.lR]; simp; omega
  have em : Int.tmod (gt R b) 8 = gt R b % 8 := Int.tmod_eq_emod_of_nonneg vb.1
  have im := idx_in (l := M) (i := gt R b % 8) (by omega) (by rw [hs.lM]; omega)
  have cm : (decide ((0 : Int) ≤ gt R b % 8) && decide (gt R b % 8 < (List.length M : Int))) = true := by rw [hs.lM]; simp; omega
  have ew : IntKind.wrap .i64 (pc + 1) = pc + 1 := wrap_i64 (by omega) (by omega)
  have en : Int.tmod (pc + 1) 16 = (pc + 1) % 16 := Int.tmod_eq_emod_of_nonneg (by omega)
  have ep : bits .and .i64 (IntKind.wrap .i64 (gt R a + gt R b)) 255 = (gt R a + gt R b) % 256 := by
    rw [wrap_i64 (by omega) (by omega)]
    exact and_mask (x := gt R a + gt R b) (w := 8) (by omega) (by omega) (by omega) (by omega)
  have es : bits .and .i64 (IntKind.wrap .i64 (gt R a - gt R b)) 255 = (gt R a - gt R b) % 256 := by
    rw [wrap_i64 (by omega) (by omega)]
    exact and_mask (x := gt R a - gt R b) (w := 8) (by omega) (by omega) (by omega) (by omega)
  rw [run_machine_step]
  rw [if_pos (show (!((16 : Int) == 0)) = true from rfl), if_pos ca, if_pos cb, ib]
  simp only [some_bind']
  rw [if_pos (show (!((8 : Int) == 0)) = true from rfl)]
  simp only [em]
  rw [if_pos cm]
  simp only [ia, ib, im, ew, en, some_bind', ep, es]
  unfold stepF
  rcases op_cases h1' with rfl | rfl | rfl | rfl | rfl | rfl | rfl | rfl | rfl | rfl
  all_goals simp
  by_cases hz : gt R a = 0 <;> simp [hz]
theorem rstep63 {op a b n pc h x y z : Int} {R M : List Int} (hc : codeE op a b n = 0) (hs : Ok4 pc h R M) :
    run_ratchetref31_Step (.p63 pc z R M x y pc h op a b n R M) = some (pk4 (stepF op a b n pc h R M), ((stepF op a b n pc h R M).2.2.1, ((stepF op a b n pc h R M).2.2.2, ()))) := by
  obtain ⟨h1, h2, h3, h4, h5, h6⟩ := codeE_zero hc
  have h1' := h1
  rw [within_iff] at h1 h2 h3 h4
  have va := hs.rb _ (gt_mem (l := R) h2.1 (by rw [hs.lR]; omega))
  have vb := hs.rb _ (gt_mem (l := R) h3.1 (by rw [hs.lR]; omega))
  have ia := idx_in (l := R) h2.1 (by rw [hs.lR]; omega)
  have ib := idx_in (l := R) h3.1 (by rw [hs.lR]; omega)
  have hp := hs.pcr
  have ca : (decide ((0 : Int) ≤ a) && decide (a < (List.length R : Int))) = true := by rw [hs.lR]; simp; omega
  have em : Int.tmod (gt R b) 8 = gt R b % 8 := Int.tmod_eq_emod_of_nonneg vb.1
  have im := idx_in (l := M) (i := gt R b % 8) (by omega) (by rw [hs.lM]; omega)
  have cm : (decide ((0 : Int) ≤ gt R b % 8) && decide (gt R b % 8 < (List.length M : Int))) = true := by rw [hs.lM]; simp; omega
  have ew : IntKind.wrap .i64 (pc + 1) = pc + 1 := wrap_i64 (by omega) (by omega)
  have en : Int.tmod (pc + 1) 16 = (pc + 1) % 16 := Int.tmod_eq_emod_of_nonneg (by omega)
  have ep : Int.tmod (IntKind.wrap .i64 (gt R a + gt R b)) 256 = (gt R a + gt R b) % 256 := by
    rw [wrap_i64 (by omega) (by omega)]
    exact Int.tmod_eq_emod_of_nonneg (by omega)
  have es : Int.tmod (IntKind.wrap .i64 ((IntKind.wrap .i64 (gt R a - gt R b)) + 256)) 256 = (gt R a - gt R b) % 256 := by
    rw [wrap_i64 (x := gt R a - gt R b) (by omega) (by omega), wrap_i64 (by omega) (by omega), Int.tmod_eq_emod_of_nonneg (by omega)]
    omega
  rw [run_ratchetref31_Step, ia, ib]
  simp only [some_bind']
  rw [if_pos (show (!((16 : Int) == 0)) = true from rfl)]
  simp only [em, ia, ib, im, ew, en, some_bind', ep, es, ca, cm, if_true, show (!((256 : Int) == 0)) = true from rfl, show (!((8 : Int) == 0)) = true from rfl]
  unfold stepF
  rcases op_cases h1' with rfl | rfl | rfl | rfl | rfl | rfl | rfl | rfl | rfl | rfl
  all_goals simp
  by_cases hz : gt R a = 0 <;> simp [hz]

/-- a valid program -/
def Okp (l : List api_MachineCode) : Prop := l.length ≤ 16 ∧ ∀ c ∈ l, codeE c.Op c.A c.B c.N = 0
theorem codesE_ok : ∀ {l : List api_MachineCode} {i : Int}, (codesE l i).2 = 0 → ∀ c ∈ l, codeE c.Op c.A c.B c.N = 0
 | [], _, _, c, hc => by cases hc
 | d :: l, i, h, c, hc => by
   unfold codesE at h
   split at h
   · rename_i h0
     rcases List.mem_cons.1 hc with rfl | hc
     · exact h0
     · exact codesE_ok h c hc
   · rename_i h0; exact absurd h h0
theorem okp_of {l : List api_MachineCode} (h : (progE l).2 = 0) : Okp l := by
  unfold progE at h
  split at h
  · cases h
  · exact ⟨by omega, codesE_ok h⟩
def codeAt (l : List api_MachineCode) (pc : Int) : api_MachineCode := (idx l pc).getD ⟨0, 0, 0, 0⟩
theorem codeAt_ok {l : List api_MachineCode} (h : Okp l) (pc : Int) : codeE (codeAt l pc).Op (codeAt l pc).A (codeAt l pc).B (codeAt l pc).N = 0 := by
  unfold codeAt
  cases hi : idx l pc with
  | none => rfl
  | some c =>
    unfold idx at hi
    split at hi
    · exact h.2 c (List.mem_of_getElem? hi)
    · cases hi
def stepS (l : List api_MachineCode) (s : St4) : St4 :=
  if s.2.1 = 1 then s else stepF (codeAt l s.1).Op (codeAt l s.1).A (codeAt l s.1).B (codeAt l s.1).N s.1 s.2.1 s.2.2.1 s.2.2.2
theorem stepS_ok {l : List api_MachineCode} (h : Okp l) {s : St4} (hs : Okst s) : Okst (stepS l s) := by
  unfold stepS
  split
  · exact hs
  · exact stepF_ok (codeAt_ok h _) hs
theorem pclone {l : List Int} (h : l ≠ []) (hl : l.length ≤ 1000) : run_slices_Clone_int_int_v1 (.start l) = some (((), ()), (l, ())) ∧ run_slices_Clone_int_int (.start l) = some (((), ()), (l, ())) := by
  have he : (!(List.isEmpty l)) = true := by cases l <;> simp at h ⊢
  have hf : fits (List.length ([] : List Int)) (List.length l) 8 = true := fits_ok (by simp; omega)
  simp only [run_slices_Clone_int_int_v1, run_slices_Clone_int_int, he, hf, if_true, List.nil_append, and_self]
theorem codeAt_in {l : List api_MachineCode} {pc : Int} (h0 : 0 ≤ pc) (h1 : pc < l.length) : idx l pc = some (codeAt l pc) := by
  obtain ⟨n, rfl⟩ := Int.eq_ofNat_of_zero_le h0
  have hn : n < l.length := by omega
  unfold codeAt
  rw [idx_nat, List.getElem?_eq_getElem hn]; rfl
theorem codeAt_out {l : List api_MachineCode} {pc : Int} (h1 : ¬ pc < l.length) : codeAt l pc = ⟨0, 0, 0, 0⟩ := by
  unfold codeAt idx
  split
  · rw [List.getElem?_eq_none (by omega)]; rfl
  · rfl
theorem pstep {l : List api_MachineCode} (h : Okp l) {s : St4} (hs : Okst s) : run_machine_step (.start l s.1 s.2.1 s.2.2.1 s.2.2.2) = some (pk4 (stepS l s), ((stepS l s).2.2.1, ((stepS l s).2.2.2, ()))) := by
  have hR := hs.lR
  have hM := hs.lM
  rw [run_machine_step, (pclone (l := s.2.2.1) (fun e => by rw [e] at hR; simp at hR) (by omega)).1, (pclone (l := s.2.2.2) (fun e => by rw [e] at hM; simp at hM) (by omega)).1]
  simp only [some_bind']
  unfold stepS
  by_cases h1 : s.2.1 = 1
  · simp [h1]
  · simp only [h1, beq_iff_eq, if_false]
    by_cases hp : s.1 < l.length
    · rw [if_pos (decide_eq_true hp), codeAt_in hs.pcr.1 hp]
      simp only [some_bind']
      exact pstep63 (codeAt_ok h _) hs
    · rw [if_neg (by simpa using hp)]
      have := pstep63 (x := 0) (y := 0) (codeAt_ok h s.1) hs
      rw [codeAt_out hp] at this ⊢
      exact this
theorem rcopyS {s : St4} (hs : s.2.2.1.length ≤ 1000 ∧ s.2.2.2.length ≤ 1000) : run_ratchetref31_Copy (.start s.1 s.2.1 s.2.2.1 s.2.2.2) = some (((s.1, (s.2.1, ((), ((), ())))), ()), (s.2.2.1, (s.2.2.2, ()))) := by
  simp only [run_ratchetref31_Copy, rcopyI1 hs.1, rcopyI1 hs.2, some_bind']
theorem rstep {l : List api_MachineCode} (h : Okp l) {s : St4} (hs : Okst s) : run_ratchetref31_Step (.start l s.1 s.2.1 s.2.2.1 s.2.2.2) = some (pk4 (stepS l s), ((stepS l s).2.2.1, ((stepS l s).2.2.2, ()))) := by
  have hR := hs.lR
  have hM := hs.lM
  rw [run_ratchetref31_Step, rcopyS ⟨by omega, by omega⟩]
  simp only [some_bind']
  unfold stepS
  by_cases h1 : s.2.1 = 1
  · simp [h1]
  · simp only [h1, beq_iff_eq, if_false]
    by_cases hp : s.1 < l.length
    · rw [if_pos (decide_eq_true hp), codeAt_in hs.pcr.1 hp]
      simp only [some_bind']
      exact rstep63 (codeAt_ok h _) hs
    · rw [if_neg (by simpa using hp)]
      have := rstep63 (x := 0) (y := 0) (z := s.2.1) (codeAt_ok h s.1) hs
      rw [codeAt_out hp] at this ⊢
      exact this
end Go.Proofs.YtjededkgblbamaaGreatDoor.Ev.F
