/- The text of a program is assembled to it again; the law MachineTexts. -/
import Derived.Test.YtjededkgblbamaaGreatDoorTPTxt7
import Derived.Test.YtjededkgblbamaaGreatDoorTF2
set_option linter.unusedVariables false
set_option linter.unusedSimpArgs false
set_option linter.unnecessarySimpa false
namespace Go.Proofs.YtjededkgblbamaaGreatDoor.Ev.F
open Go.Proofs.YtjededkgblbamaaGreatDoor.Ev

theorem cutL_one (c : UInt8) : ∀ x : List UInt8, c ∉ x → cutL c x = [x]
 | [], _ => rfl
 | b :: x, h => by
   rw [cutL, if_neg (fun e => h (by rw [e]; exact List.mem_cons_self ..)), cutL_one c x fun e => h (List.mem_cons_of_mem _ e)]
   rfl
theorem cutL_app (c : UInt8) (r : List UInt8) : ∀ x : List UInt8, c ∉ x → cutL c (x ++ c :: r) = x :: cutL c r
 | [], _ => by rw [List.nil_append, cutL, if_pos rfl]
 | b :: x, h => by
   rw [List.cons_append, cutL, if_neg (fun e => h (by rw [e]; exact List.mem_cons_self ..)), cutL_app c r x fun e => h (List.mem_cons_of_mem _ e)]
   rfl
theorem join_two (c : UInt8) (x y : List UInt8) (r : List (List UInt8)) : Lib.join (x :: y :: r) [c] = x ++ c :: Lib.join (y :: r) [c] := by
  simp [Lib.join, List.intercalate, List.intersperse]
theorem cutL_join (c : UInt8) : ∀ xs : List (List UInt8), xs ≠ [] → (∀ x ∈ xs, c ∉ x) → cutL c (Lib.join xs [c]) = xs
 | [], h, _ => absurd rfl h
 | [x], _, h => by rw [Lib.join_one, cutL_one c x (h x (by simp))]
 | x :: y :: r, _, h => by
   rw [join_two, cutL_app c _ x (h x (by simp)), cutL_join c (y :: r) (by simp) fun z hz => h z (List.mem_cons_of_mem _ hz)]
theorem cuts_join (c : UInt8) (l : List ByteArray) (h0 : l ≠ []) (h : ∀ x ∈ l, c ∉ x.data.toList) : cuts c (joinB c l) = l := by
  unfold cuts joinB
  rw [toB_data, cutL_join c _ (by simpa using h0) (by
    intro x hx
    obtain ⟨y, hy, rfl⟩ := List.mem_map.1 hx
    exact h y hy), List.map_map]
  have : (toB ∘ fun x : ByteArray => x.data.toList) = id := by funext x; exact toB_of x
  rw [this, List.map_id]
theorem join_mem (c : UInt8) : ∀ (xs : List (List UInt8)) (b : UInt8), b ∈ Lib.join xs [c] → b = c ∨ ∃ x ∈ xs, b ∈ x
 | [], b, h => by cases h
 | [x], b, h => by rw [Lib.join_one] at h; exact .inr ⟨x, by simp, h⟩
 | x :: y :: r, b, h => by
   rw [join_two, List.mem_append, List.mem_cons] at h
   rcases h with h | h | h
   · exact .inr ⟨x, by simp, h⟩
   · exact .inl h
   · rcases join_mem c (y :: r) b h with h | ⟨z, hz, h⟩
     · exact .inl h
     · exact .inr ⟨z, List.mem_cons_of_mem _ hz, h⟩

/-! ### bytes of the words -/
theorem dec_bytes : ∀ u : Nat, ∀ b ∈ Lib.decDigits u, 48 ≤ b.toNat := by
  intro u
  induction u using Nat.strongRecOn with
  | ind u ih =>
    intro b hb
    rw [Lib.decDigits] at hb
    split at hb
    · rw [List.mem_singleton.1 hb, UInt8.toNat_ofNat']; omega
    · rcases List.mem_append.1 hb with hb | hb
      · exact ih (u / 10) (by omega) b hb
      · rw [List.mem_singleton.1 hb, UInt8.toNat_ofNat']; omega
theorem deci_bytes {n : Int} (h : 0 ≤ n) : ∀ b ∈ (deci n).data.toList, 48 ≤ b.toNat := by
  obtain ⟨u, rfl⟩ := Int.eq_ofNat_of_zero_le h
  intro b hb
  rw [deci_data] at hb
  have hb : b ∈ Lib.itoa (u : Int) := hb
  rw [Lib.itoa_nonneg] at hb
  exact dec_bytes u b hb
theorem rg_bytes {n : Int} (h : 0 ≤ n) : ∀ b ∈ (rg n).data.toList, 48 ≤ b.toNat := by
  intro b hb
  unfold rg at hb
  rw [ByteArray.data_append, Array.toList_append, List.mem_append] at hb
  rcases hb with hb | hb
  · have : b = 114 := by simpa using hb
    rw [this]; decide
  · exact deci_bytes h b hb
theorem words10_bytes : ∀ x ∈ words10, ∀ b ∈ x.data.toList, 97 ≤ b.toNat := by decide
theorem nm_mem {c : api_MachineCode} (h : Val c) : nmOf c ∈ words10 := List.mem_of_getElem? (nmOf_ok h).1
theorem pwd_bytes {c : api_MachineCode} (h : Val c) : ∀ x ∈ pwd c, ∀ b ∈ x.data.toList, 48 ≤ b.toNat := by
  intro x hx b hb
  unfold pwd pwA pwB pwN at hx
  simp only [List.mem_append, List.mem_singleton] at hx
  rcases hx with ((rfl | hx) | hx) | hx
  · have := words10_bytes _ (nm_mem h) b hb; omega
  · split at hx
    · rw [List.mem_singleton.1 hx] at hb; exact rg_bytes h.a0 b hb
    · cases hx
  · split at hx
    · rw [List.mem_singleton.1 hx] at hb; exact rg_bytes h.b0 b hb
    · cases hx
  · split at hx
    · rw [List.mem_singleton.1 hx] at hb; exact deci_bytes h.n0 b hb
    · cases hx
theorem cut_line {c : api_MachineCode} (h : Val c) : cuts 32 (lineB c) = pwd c := by
  refine cuts_join 32 _ (by unfold pwd; simp) fun x hx hm => ?_
  have := pwd_bytes h x hx 32 hm
  exact absurd this (by decide)
theorem line_bytes {c : api_MachineCode} (h : Val c) : (10 : UInt8) ∉ (lineB c).data.toList := by
  intro hm
  unfold lineB joinB at hm
  rw [toB_data] at hm
  rcases join_mem _ _ _ hm with h1 | ⟨x, hx, h1⟩
  · exact absurd h1 (by decide)
  · obtain ⟨y, hy, rfl⟩ := List.mem_map.1 hx
    have := pwd_bytes h y hy 10 h1
    exact absurd this (by decide)
theorem cut_text {l : List api_MachineCode} (h : ∀ c ∈ l, Val c) (h0 : l ≠ []) : cuts 10 (textB l) = l.map lineB := by
  refine cuts_join 10 _ (by simpa using h0) fun x hx => ?_
  obtain ⟨c, hc, rfl⟩ := List.mem_map.1 hx
  exact line_bytes (h c hc)

/-! ### the words are read again -/
theorem reg_rg {n : Int} (h0 : 0 ≤ n) (h1 : n < 4) : regV (rg n) = some n := by
  obtain ⟨k, rfl⟩ := Int.eq_ofNat_of_zero_le h0
  have hk : k < 4 := by omega
  have hd : deci (k : Int) = ⟨#[UInt8.ofNat (48 + k)]⟩ := byte_ext (by
    rw [deci_data, Lib.itoa_nonneg, dec1 k hk])
  have e : rg (k : Int) = ⟨#[114, UInt8.ofNat (48 + k)]⟩ := by
    unfold rg
    rw [hd]
    exact byte_ext rfl
  have all : ∀ k : Nat, k < 4 → regOk ⟨#[114, UInt8.ofNat (48 + k)]⟩ = true ∧ regN ⟨#[114, UInt8.ofNat (48 + k)]⟩ = (k : Int) := by
    intro k hk
    match k, hk with
    | 0, _ => exact ⟨rfl, rfl⟩
    | 1, _ => exact ⟨rfl, rfl⟩
    | 2, _ => exact ⟨rfl, rfl⟩
    | 3, _ => exact ⟨rfl, rfl⟩
  unfold regV
  show (if regOk (rg (k : Int)) = true then some (regN (rg (k : Int))) else none) = some (k : Int)
  rw [e, (all k hk).1, (all k hk).2]
  rfl
theorem ok3_all0 : ∀ k : Nat, k < 256 → (ok3 ⟨(Lib.decDigits k).toArray⟩ && decide (natN ⟨(Lib.decDigits k).toArray⟩ = (k : Int))) = true := by decide +kernel
theorem num_deci {n : Int} (h0 : 0 ≤ n) (h1 : n < 256) : numV3 (deci n) = some (n, NB) := by
  obtain ⟨k, rfl⟩ := Int.eq_ofNat_of_zero_le h0
  have e : deci (k : Int) = ⟨(Lib.decDigits k).toArray⟩ := byte_ext (by rw [deci_data, Lib.itoa_nonneg])
  have := ok3_all0 k (by omega)
  rw [Bool.and_eq_true, decide_eq_true_eq] at this
  unfold numV3
  show (if ok3 (deci (k : Int)) = true then some (natN (deci (k : Int)), (⟨#[]⟩ : ByteArray)) else none) = _
  rw [e, this.1, this.2]
  rfl
theorem place_deci {n : Int} (h0 : 0 ≤ n) (h1 : n < 256) : placeV (deci n) = some (n, NB) := by
  unfold placeV
  have hd := itoa_dig h0
  have hno : nameOk (deci n) = false := by
    cases hn : nameOk (deci n) with
    | false => rfl
    | true =>
      have := (nameOk_first hn).2
      unfold letter at this
      unfold isDig at hd
      simp at this hd
      omega
  rw [hno]
  exact num_deci h0 h1
theorem opnd_words {ua ub un jm : Bool} {a b n : Int} {x y z : ByteArray} (hx : regV x = some a) (hy : regV y = some b) (hz : (if jm = true then placeV else numV3) z = some (n, NB)) :
    opnd ua ub un jm ((if ua = true then [x] else []) ++ (if ub = true then [y] else []) ++ (if un = true then [z] else [])) = some (if ua = true then a else 0, if ub = true then b else 0, if un = true then n else 0, NB) := by
  cases ua <;> cases ub <;> cases un <;> simp [opnd, tk, opndN, hx, hy, hz]
theorem opOf_at : ∀ k : Nat, k < 10 → ∃ nm, words10[k]? = some nm ∧ opOf nm = some k := by
  intro k hk
  match k, hk with
  | 0, _ => exact ⟨_, rfl, rfl⟩
  | 1, _ => exact ⟨_, rfl, rfl⟩
  | 2, _ => exact ⟨_, rfl, rfl⟩
  | 3, _ => exact ⟨_, rfl, rfl⟩
  | 4, _ => exact ⟨_, rfl, rfl⟩
  | 5, _ => exact ⟨_, rfl, rfl⟩
  | 6, _ => exact ⟨_, rfl, rfl⟩
  | 7, _ => exact ⟨_, rfl, rfl⟩
  | 8, _ => exact ⟨_, rfl, rfl⟩
  | 9, _ => exact ⟨_, rfl, rfl⟩
def plOf (c : api_MachineCode) : PL := (none, c.Op.toNat, c.A, c.B, c.N, NB)
theorem parse_pwd {c : api_MachineCode} (h : Val c) : parse (pwd c) = some (plOf c) := by
  have hk : ((c.Op.toNat : Nat) : Int) = c.Op := Int.toNat_of_nonneg h.op0
  obtain ⟨nm, h1, h2⟩ := opOf_at c.Op.toNat (by have := h.op0; have := h.op1; omega)
  rw [(nmOf_ok h).1] at h1
  obtain rfl := Option.some.inj h1
  have e : pwd c = nmOf c :: (pwA c ++ pwB c ++ pwN c) := by unfold pwd; simp
  have hL : labW (nmOf c :: (pwA c ++ pwB c ++ pwN c)) = if 0 < (nmOf c).size ∧ bt (nmOf c) ((nmOf c).size - 1) = 58 then (some ((nmOf c).extract 0 ((nmOf c).size - 1)), (pwA c ++ pwB c ++ pwN c)) else (none, nmOf c :: (pwA c ++ pwB c ++ pwN c)) := rfl
  unfold parse
  rw [e, hL, if_neg (by
    rintro ⟨g1, g2⟩
    obtain ⟨b, b1, b2, _⟩ := drop_bt (s := nmOf c) (i := (nmOf c).size - 1) (by omega)
    have := words10_bytes _ (nm_mem h) b (List.mem_of_getElem? b1)
    omega)]
  have hR : restW (nmOf c :: (pwA c ++ pwB c ++ pwN c)) = (opnd (useA (c.Op.toNat : Int)) (useB (c.Op.toNat : Int)) (useN (c.Op.toNat : Int)) (jmp (c.Op.toNat : Int)) (pwA c ++ pwB c ++ pwN c)).map fun q => (c.Op.toNat, q) := by
    simp only [restW, h2, Option.bind_some]
  simp only
  rw [hR, hk]
  have hz : (if jmp c.Op = true then placeV else numV3) (deci c.N) = some (c.N, NB) := by
    cases jmp c.Op with
    | true => exact place_deci h.n0 h.n1
    | false => exact num_deci h.n0 h.n1
  have ho : opnd (useA c.Op) (useB c.Op) (useN c.Op) (jmp c.Op) (pwA c ++ pwB c ++ pwN c) = _ := opnd_words (reg_rg h.a0 h.a1) (reg_rg h.b0 h.b1) hz
  rw [ho]
  have hs := h.st
  unfold strange at hs
  simp at hs
  obtain ⟨s1, s2, s3⟩ := hs
  have eA : (if useA c.Op = true then c.A else 0) = c.A := by
    cases hu : useA c.Op with
    | true => rfl
    | false => rw [s1 hu]; rfl
  have eB : (if useB c.Op = true then c.B else 0) = c.B := by
    cases hu : useB c.Op with
    | true => rfl
    | false => rw [s2 hu]; rfl
  have eN : (if useN c.Op = true then c.N else 0) = c.N := by
    cases hu : useN c.Op with
    | true => rfl
    | false => rw [s3 hu]; rfl
  rw [eA, eB, eN]
  rfl
theorem asm_text : ∀ (l : List api_MachineCode) (i : Nat) (L : List PL), (∀ c ∈ l, Val c) → asmL (l.map lineB) i [] L = .inr ([], L ++ l.map plOf)
 | [], i, L, _ => by simp [asmL]
 | c :: l, i, L, h => by
   have hc := h c (List.mem_cons_self ..)
   have he : errP (List.map (fun x : ByteArray × Int => x.1) []) (plOf c) = 0 := by
     unfold errP errF plOf
     simp only
     rw [Int.toNat_of_nonneg hc.op0, hc.n2]
     rfl
   rw [List.map_cons, asmL, cut_line hc, parse_pwd hc]
   simp only
   rw [if_pos he]
   have : addT [] (plOf c).1 (i : Int) = [] := rfl
   rw [this, asm_text l (i + 1) _ fun d hd => h d (List.mem_cons_of_mem _ hd)]
   simp
theorem res_text : ∀ (l : List api_MachineCode) (i : Nat) (out : List api_MachineCode), (∀ c ∈ l, Val c) → resL [] (l.map plOf) i out = (out ++ l, 0, 0)
 | [], i, out, _ => by simp [resL]
 | c :: l, i, out, h => by
   have hc := h c (List.mem_cons_self ..)
   have e1 : seq (plTg (plOf c)) NB = true := rfl
   have e2 : plCode (plOf c) = c := by
     unfold plCode plOf
     simp only [Int.toNat_of_nonneg hc.op0]
   rw [List.map_cons, resL, e1, if_pos rfl, e2, res_text l (i + 1) _ fun d hd => h d (List.mem_cons_of_mem _ hd)]
   simp
theorem text_size {l : List api_MachineCode} (h : ∀ c ∈ l, Val c) (hl : l.length ≤ 16) : (textB l).size ≤ 2000 := by
  have := join_size 10 92 (l.map lineB) (by
    intro x hx
    obtain ⟨c, hc, rfl⟩ := List.mem_map.1 hx
    exact lineB_size (h c hc))
  rw [List.length_map] at this
  have : (textB l).size ≤ 93 * l.length := this
  omega
theorem asm_back {l : List api_MachineCode} (h : ∀ c ∈ l, Val c) (hl : l.length ≤ 16) (h0 : l ≠ []) : asmR (textB l) = (l, 0, 0) := by
  have hs := text_size h hl
  unfold asmR
  rw [if_neg (by omega), cut_text h h0, List.length_map, if_neg (by omega), asm_text l 0 [] h]
  have := res_text l 0 [] h
  simpa using this
theorem rsame_at (l : List api_MachineCode) (hl : l.length ≤ 100000) : ∀ (k i : Nat), i + k = l.length → run_ratchetref31_SameProgram (.p116 l l (i : Int)) = some ((true, ()), ())
 | 0, i, h => by rw [run_ratchetref31_SameProgram, if_neg (by simp; omega)]
 | k + 1, i, h => by
   have hi : i < l.length := by omega
   rw [run_ratchetref31_SameProgram, if_pos (by simpa using hi), idx_nat, List.getElem?_eq_getElem hi]
   simp only [some_bind']
   rw [if_neg (by simp), wrap_succ hi (by omega)]
   exact rsame_at l hl k (i + 1) (by omega)
theorem rsame {l : List api_MachineCode} (hl : l.length ≤ 100000) : run_ratchetref31_SameProgram (.start l l) = some ((true, ()), ()) := by
  rw [run_ratchetref31_SameProgram, if_neg (by simp)]
  exact rsame_at l hl l.length 0 (by omega)
theorem resL_len (T : Tab) : ∀ (L : List PL) (i : Nat) (out : List api_MachineCode), (resL T L i out).1.length ≤ out.length + L.length
 | [], i, out => by simp [resL]
 | p :: L, i, out => by
   rw [resL]
   split
   · have := resL_len T L (i + 1) (out ++ [plCode p]); simp at this ⊢; omega
   · split
     · simp
     · rename_i v _
       have := resL_len T L (i + 1) (out ++ [⟨(p.2.1 : Int), p.2.2.1, p.2.2.2.1, v⟩]); simp at this ⊢; omega
theorem asmR_len (s : ByteArray) : (asmR s).1.length ≤ 100000 := by
  unfold asmR
  split
  · simp
  · split
    · simp
    · cases ha : asmL (cuts 10 s) 0 [] [] with
      | inl x => simp
      | inr x =>
        obtain ⟨T, L⟩ := x
        have h1 := asmL_len _ _ _ _ ha
        have h2 := resL_len T L 0 []
        simp at h1 h2 ⊢
        omega

/-! ### the law -/
theorem law1023 {l : List api_MachineCode} (h : (progE l).2 = 0) : run_ratchetlaw31_MachineTexts (.p1023 l (textB l)) = some ((true, ()), ()) := by
  obtain ⟨h1, h2⟩ := progE_0 h
  rw [run_ratchetlaw31_MachineTexts]
  by_cases h0 : l = []
  · rw [if_pos (by rw [h0]; rfl)]
  · have : l.length ≠ 0 := fun e => h0 (List.eq_nil_of_length_eq_zero e)
    have hs := text_size h2 h1
    rw [if_neg (by simp; exact h0), passembled _ (by omega), asm_back h2 h1 h0]
    simp only [some_bind']
    rw [rsame (by omega)]
    rfl
theorem law255 (l : List api_MachineCode) : run_ratchetlaw31_MachineTexts (.p255 l (if (progE l).2 = 0 then textB l else NB) (progE l).2) = some ((true, ()), ()) := by
  have hp : run_ratchetref31_ProgramErr (.start l) = some (((progE l).2, ()), ()) := by
    rw [run_ratchetref31_ProgramErr, rprog]
    rfl
  rw [run_ratchetlaw31_MachineTexts, hp]
  simp only [some_bind']
  by_cases h : (progE l).2 = 0
  · rw [h, if_neg (by decide), if_neg (by decide), rtext h, if_pos rfl]
    simp only [some_bind']
    rw [seq_self, if_neg (by decide)]
    exact law1023 h
  · rw [if_pos (by simpa using h), if_pos (by simp), if_neg h]
    rfl
theorem law15 {l : List api_MachineCode} {s : ByteArray} (hl : l.length ≤ 20) (hs : s.size ≤ 60010) : run_ratchetlaw31_MachineTexts (.p15 l s) = some ((true, ()), ()) := by
  rw [run_ratchetlaw31_MachineTexts, passembled s hs, rassembled s hs, rcopyP (by omega)]
  simp only [some_bind', ptext, rsame (asmR_len s)]
  rw [if_neg (by simp), if_neg (by simp), if_neg (by simp)]
  exact law255 l
theorem texts_law (a0 : List api_MachineCode) (a1 : ByteArray) : run_ratchetlaw31_MachineTexts (.start a0 a1) = some ((true, ()), ()) := by
  rw [run_ratchetlaw31_MachineTexts]
  simp only [some_bind', Bool.not_true, Bool.false_eq_true, if_false]
  by_cases h1 : a0.length > 20
  · rw [if_pos (by simp; omega)]
  · rw [if_neg (by simp; omega)]
    by_cases h2 : a1.size > 60010
    · have e2 : decide ((a1.size : Int) > (60010 : Int)) = true := by simp; omega
      have e3 : decide ((a1.size : Int) ≤ (60000 : Int)) = false := by simp; omega
      rw [e2, e3]
      simp
    · have e2 : decide ((a1.size : Int) > (60010 : Int)) = false := by simp; omega
      rw [e2, law15 (by omega) (by omega)]
      simp
end Go.Proofs.YtjededkgblbamaaGreatDoor.Ev.F
