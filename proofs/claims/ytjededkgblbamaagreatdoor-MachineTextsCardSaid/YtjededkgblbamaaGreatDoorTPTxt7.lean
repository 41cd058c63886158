/- The text of a program: the program's and the reference's. -/
import Derived.Test.YtjededkgblbamaaGreatDoorTPTxt6
import Derived.Lib.ItoaLen
set_option linter.unusedVariables false
set_option linter.unusedSimpArgs false
set_option linter.unnecessarySimpa false
namespace Go.Proofs.YtjededkgblbamaaGreatDoor.Ev.F
open Go.Proofs.YtjededkgblbamaaGreatDoor.Ev

theorem codeE_0 {op a b n : Int} (h : codeE op a b n = 0) : within op 0 9 = true ∧ within a 0 3 = true ∧ within b 0 3 = true ∧ within n 0 (mostN op) = true ∧ strange op a b n = false := by
  unfold codeE at h
  split at h
  case isFalse => cases h
  rename_i h1
  split at h
  case isFalse => cases h
  rename_i h2
  split at h
  case isTrue => cases h
  rename_i h3
  simp at h2 h3
  exact ⟨h1, h2.1, h2.2.1, h2.2.2, h3⟩
theorem mostN_le (op : Int) : mostN op ≤ 255 := by unfold mostN; split <;> decide
/-- a valid instruction -/
structure Val (c : api_MachineCode) : Prop where
  op0 : 0 ≤ c.Op
  op1 : c.Op < 10
  a0 : 0 ≤ c.A
  a1 : c.A < 4
  b0 : 0 ≤ c.B
  b1 : c.B < 4
  n0 : 0 ≤ c.N
  n1 : c.N < 256
  n2 : within c.N 0 (mostN c.Op) = true
  st : strange c.Op c.A c.B c.N = false
theorem val_of {c : api_MachineCode} (h : codeE c.Op c.A c.B c.N = 0) : Val c := by
  obtain ⟨h1, h2, h3, h4, h5⟩ := codeE_0 h
  have := mostN_le c.Op
  have h4' := h4
  rw [within_iff] at h1 h2 h3 h4'
  exact ⟨h1.1, by omega, h2.1, by omega, h3.1, by omega, h4'.1, by omega, h4, h5⟩
theorem codesE_0 : ∀ (l : List api_MachineCode) (i : Int), (codesE l i).2 = 0 → ∀ c ∈ l, Val c
 | [], _, _, c, hc => by cases hc
 | d :: l, i, h, c, hc => by
   unfold codesE at h
   split at h
   · rename_i h0
     rcases List.mem_cons.1 hc with rfl | hc
     · exact val_of h0
     · exact codesE_0 l _ h c hc
   · rename_i h0
     exact absurd h h0
theorem progE_0 {l : List api_MachineCode} (h : (progE l).2 = 0) : l.length ≤ 16 ∧ ∀ c ∈ l, Val c := by
  unfold progE at h
  split at h
  · cases h
  · exact ⟨by omega, codesE_0 l 0 h⟩

/-! ### the words -/
def nmOf (c : api_MachineCode) : ByteArray := (words10[c.Op.toNat]?).getD NB
noncomputable def rg (n : Int) : ByteArray := ⟨#[114]⟩ ++ deci n
noncomputable def pwA (c : api_MachineCode) : List ByteArray := if useA c.Op = true then [rg c.A] else []
noncomputable def pwB (c : api_MachineCode) : List ByteArray := if useB c.Op = true then [rg c.B] else []
noncomputable def pwN (c : api_MachineCode) : List ByteArray := if useN c.Op = true then [deci c.N] else []
noncomputable def pwd (c : api_MachineCode) : List ByteArray := ([nmOf c] ++ pwA c ++ pwB c) ++ pwN c
def joinB (s : UInt8) (l : List ByteArray) : ByteArray := toB (Lib.join (l.map (·.data.toList)) [s])
noncomputable def lineB (c : api_MachineCode) : ByteArray := joinB 32 (pwd c)
noncomputable def textB (l : List api_MachineCode) : ByteArray := joinB 10 (l.map lineB)
theorem deci_size {n : Int} (h0 : 0 ≤ n) (h1 : n < 256) : (deci n).size ≤ 21 := by
  rw [← sizeL, deci_data]
  exact Lib.itoa_length_le n (by omega) (by omega)
theorem itoa_run {n : Int} (h0 : 0 ≤ n) (h1 : n < 256) : itoaRun (n, ()) () = some ((deci n, ()), ()) := by
  unfold itoaRun
  rw [if_pos ⟨by omega, by omega⟩]
  rfl
theorem size_app (a b : ByteArray) : (a ++ b).size = a.size + b.size := by simp
theorem rg_size {n : Int} (h0 : 0 ≤ n) (h1 : n < 256) : (rg n).size ≤ 22 := by
  have := deci_size h0 h1
  unfold rg
  rw [size_app]
  have : (⟨#[114]⟩ : ByteArray).size = 1 := rfl
  omega
theorem join_size (s : UInt8) (m : Nat) : ∀ l : List ByteArray, (∀ x ∈ l, x.size ≤ m) → (joinB s l).size ≤ (m + 1) * l.length
 | [], _ => by rw [show joinB s [] = NB from rfl]; exact Nat.zero_le _
 | [x], h => by
   have : joinB s [x] = x := byte_ext (by unfold joinB; rw [toB_data]; exact Lib.join_one _ _)
   rw [this]
   have := h x (by simp)
   simp
   omega
 | x :: y :: r, h => by
   have ih := join_size s m (y :: r) fun z hz => h z (List.mem_cons_of_mem _ hz)
   have e : joinB s (x :: y :: r) = x ++ (⟨#[s]⟩ ++ joinB s (y :: r)) := byte_ext (by
     unfold joinB
     simp [toB_data, Lib.join, List.intercalate, List.intersperse, toB])
   have hx := h x (List.mem_cons_self ..)
   rw [e, size_app, size_app]
   have e1 : (⟨#[s]⟩ : ByteArray).size = 1 := rfl
   rw [e1]
   simp only [List.length_cons] at ih ⊢
   rw [Nat.mul_add, Nat.mul_one]
   omega
theorem join_run (s : UInt8) {m : Nat} {l : List ByteArray} (h : ∀ x ∈ l, x.size ≤ m) (hm : m ≤ 1000) (hl : l.length ≤ 1000) : joinRun (l, (⟨#[s]⟩ : ByteArray), ()) () = some ((joinB s l, ()), ()) := by
  have hs := join_size s m l h
  have h1 : (m + 1) * l.length ≤ 1001 * 1000 := Nat.mul_le_mul (by omega) hl
  unfold joinRun
  have hb1 : Nat.ble l.length 140737488355328 = true := Nat.ble_eq_true_of_le (by omega)
  have hsz : (Lib.join (l.map (·.data.toList)) [s]).length = (joinB s l).size := rfl
  have hb2 : Nat.ble (Lib.join (l.map (·.data.toList)) (⟨#[s]⟩ : ByteArray).data.toList).length 140737488355328 = true := Nat.ble_eq_true_of_le (by
    change (Lib.join (l.map (·.data.toList)) [s]).length ≤ _
    rw [hsz]; omega)
  simp only [hb1, hb2, Bool.and_true, cond_true]
  rfl
theorem words10_size : ∀ x ∈ words10, x.size ≤ 5 := by decide
theorem nmOf_ok {c : api_MachineCode} (h : Val c) : words10[c.Op.toNat]? = some (nmOf c) ∧ (nmOf c).size ≤ 5 := by
  have : c.Op.toNat < words10.length := by have := h.op0; have := h.op1; show _ < 10; omega
  have e : words10[c.Op.toNat]? = some words10[c.Op.toNat] := List.getElem?_eq_getElem this
  refine ⟨by unfold nmOf; rw [e]; rfl, ?_⟩
  unfold nmOf
  rw [e]
  exact words10_size _ (List.getElem_mem this)
theorem pwd_ok {c : api_MachineCode} (h : Val c) : (∀ x ∈ pwd c, x.size ≤ 22) ∧ (pwd c).length ≤ 4 := by
  have h1 := (nmOf_ok h).2
  have h2 := rg_size h.a0 (by have := h.a1; omega)
  have h3 := rg_size h.b0 (by have := h.b1; omega)
  have h4 := deci_size h.n0 h.n1
  unfold pwd pwA pwB pwN
  constructor
  · intro x hx
    simp only [List.mem_append, List.mem_singleton] at hx
    rcases hx with ((rfl | hx) | hx) | hx
    · omega
    · split at hx
      · rw [List.mem_singleton.1 hx]; omega
      · cases hx
    · split at hx
      · rw [List.mem_singleton.1 hx]; omega
      · cases hx
    · split at hx
      · rw [List.mem_singleton.1 hx]; omega
      · cases hx
  · split <;> split <;> split <;> simp
theorem lineB_size {c : api_MachineCode} (h : Val c) : (lineB c).size ≤ 92 := by
  obtain ⟨h1, h2⟩ := pwd_ok h
  have := join_size 32 22 _ h1
  have : (lineB c).size ≤ 23 * (pwd c).length := this
  omega

/-! ### the program -/
theorem forms_at2 : ∀ k : Nat, k < 10 → ∃ nm, words10[k]? = some nm ∧ idx glob0 (k : Int) = some ⟨nm, useA k, useB k, useN k⟩ := by
  intro k hk
  match k, hk with
  | 0, _ => exact ⟨_, rfl, rfl⟩
  | 1, _ => exact ⟨_, rfl, rfl⟩
  | 2, _ => exact ⟨_, rfl, rfl⟩
  | 3, _ => exact ⟨_, rfl, rfl⟩
  | 4, _ => exact ⟨_, rfl, rfl⟩
  | 5, _ => exact ⟨_, rfl, rfl⟩
  | 6, _ => exact ⟨_, rfl, rfl⟩
  | 7, _ => exact ⟨_, rfl, rfl⟩
  | 8, _ => exact ⟨_, rfl, rfl⟩
  | 9, _ => exact ⟨_, rfl, rfl⟩
theorem form_of {c : api_MachineCode} (h : Val c) : idx glob0 c.Op = some ⟨nmOf c, useA c.Op, useB c.Op, useN c.Op⟩ := by
  obtain ⟨k, hk⟩ := Int.eq_ofNat_of_zero_le h.op0
  obtain ⟨nm, h1, h2⟩ := forms_at2 k (by have := h.op1; omega)
  have h3 := (nmOf_ok h).1
  rw [hk, Int.toNat_natCast, h1] at h3
  have h3 := Option.some.inj h3
  rw [hk, h2, h3]
theorem ptext_step (l : List api_MachineCode) (hl : l.length ≤ 1000) (i : Nat) (hi : i < l.length) (hv : Val l[i]) (B : List ByteArray) (hB : B.length ≤ 1000) :
    run_machine_TextOf (.p244 l (l.length : Int) (i : Int) B) = run_machine_TextOf (.p244 l (l.length : Int) ((i + 1 : Nat) : Int) (B ++ [lineB l[i]])) := by
  obtain ⟨g1, g2⟩ := pwd_ok hv
  have hj := join_run 32 (m := 22) g1 (by omega) (by omega)
  have eN : ∀ B3 : List ByteArray, B3.length ≤ 3 → pwd l[i] = B3 ++ pwN l[i] → run_machine_TextOf (.p125343 l (l.length : Int) (i : Int) B l[i].Op l[i].A l[i].B l[i].N (nmOf l[i]) (useA l[i].Op) (useB l[i].Op) (useN l[i].Op) B3) = run_machine_TextOf (.p244 l (l.length : Int) ((i + 1 : Nat) : Int) (B ++ [lineB l[i]])) := by
    intro B3 h3 he
    conv => lhs; rw [run_machine_TextOf]
    rw [wrap_succ hi (by omega)]
    unfold pwN at he
    cases hu : useN l[i].Op with
    | true =>
      rw [hu, if_pos rfl] at he
      rw [if_pos rfl, itoa_run hv.n0 hv.n1]
      simp only [some_bind']
      rw [if_pos (fits_ok (by simp; omega)), ← he, hj]
      simp only [some_bind']
      rw [if_pos (fits_ok (by simp; omega))]
      rfl
    | false =>
      rw [hu, if_neg (by decide), List.append_nil] at he
      rw [if_neg (by decide), ← he, hj]
      simp only [some_bind']
      rw [if_pos (fits_ok (by simp; omega))]
      rfl
  have h114 : ∀ x : ByteArray, x.size ≤ 21 → Nat.ble ((⟨#[114]⟩ : ByteArray).size + x.size) 9223372036854775807 = true := fun x hx => Nat.ble_eq_true_of_le (by
    have : (⟨#[114]⟩ : ByteArray).size = 1 := rfl
    omega)
  have eB : ∀ B3 : List ByteArray, B3.length ≤ 2 → pwd l[i] = B3 ++ pwB l[i] ++ pwN l[i] → run_machine_TextOf (.p62671 l (l.length : Int) (i : Int) B l[i].Op l[i].A l[i].B l[i].N (nmOf l[i]) (useA l[i].Op) (useB l[i].Op) (useN l[i].Op) B3) = run_machine_TextOf (.p244 l (l.length : Int) ((i + 1 : Nat) : Int) (B ++ [lineB l[i]])) := by
    intro B3 h3 he
    conv => lhs; rw [run_machine_TextOf]
    unfold pwB at he
    have hb1 : l[i].B < 256 := by have := hv.b1; omega
    cases hu : useB l[i].Op with
    | true =>
      rw [hu, if_pos rfl] at he
      rw [if_pos rfl, itoa_run hv.b0 hb1]
      simp only [some_bind']
      rw [if_pos (h114 _ (deci_size hv.b0 hb1)), if_pos (fits_ok (by simp; omega)), ← hu]
      exact eN _ (by simp; omega) he
    | false =>
      rw [hu, if_neg (by decide), List.append_nil] at he
      rw [if_neg (by decide), ← hu]
      exact eN _ (by omega) he
  conv => lhs; rw [run_machine_TextOf]
  rw [if_pos (by simpa using hi), idx_nat, List.getElem?_eq_getElem hi]
  simp only [some_bind']
  rw [form_of hv]
  simp only [some_bind']
  have he : pwd l[i] = [nmOf l[i]] ++ pwA l[i] ++ pwB l[i] ++ pwN l[i] := rfl
  unfold pwA at he
  have ha1 : l[i].A < 256 := by have := hv.a1; omega
  cases hu : useA l[i].Op with
  | true =>
    rw [hu, if_pos rfl] at he
    rw [if_pos rfl, itoa_run hv.a0 ha1]
    simp only [some_bind']
    rw [if_pos (h114 _ (deci_size hv.a0 ha1)), if_pos (fits_ok (by simp)), ← hu]
    exact eB _ (by simp) he
  | false =>
    rw [hu, if_neg (by decide), List.append_nil] at he
    rw [if_neg (by decide), ← hu]
    exact eB _ (by simp) he
theorem ptext_at (l : List api_MachineCode) (hl : l.length ≤ 16) (hv : ∀ c ∈ l, Val c) : ∀ (k i : Nat) (B : List ByteArray), i + k = l.length → B.length = i → (∀ x ∈ B, x.size ≤ 92) →
    run_machine_TextOf (.p244 l (l.length : Int) (i : Int) B) = some ((joinB 10 (B ++ (l.drop i).map lineB), ((0 : Int), ())), ())
 | 0, i, B, h, hB, hs => by
   rw [run_machine_TextOf, if_neg (by simp; omega), join_run 10 (m := 92) hs (by omega) (by omega), List.drop_of_length_le (by omega), List.map_nil, List.append_nil]
   rfl
 | k + 1, i, B, h, hB, hs => by
   have hi : i < l.length := by omega
   have hvi := hv l[i] (List.getElem_mem hi)
   rw [ptext_step l (by omega) i hi hvi B (by omega), ptext_at l hl hv k (i + 1) _ (by omega) (by simp; omega) (fun x hx => by
     rcases List.mem_append.1 hx with hx | hx
     · exact hs x hx
     · rw [List.mem_singleton.1 hx]; exact lineB_size hvi), drop_cons hi, List.map_cons, List.append_assoc]
   rfl
theorem ptext (l : List api_MachineCode) : run_machine_TextOf (.start l) = some ((if (progE l).2 = 0 then textB l else NB, ((progE l).2, ())), ()) := by
  rw [run_machine_TextOf]
  simp only [run_machine_programErr, pprog, some_bind']
  by_cases h : (progE l).2 = 0
  · obtain ⟨h1, h2⟩ := progE_0 h
    rw [if_neg (by simpa using h), if_pos h, h]
    exact ptext_at l h1 h2 l.length 0 [] (by omega) rfl (by simp)
  · rw [if_pos (by simpa using h), if_neg h]

/-! ### the reference -/
noncomputable def tailA (c : api_MachineCode) : ByteArray := if useA c.Op = true then ⟨#[32, 114]⟩ ++ deci c.A else NB
noncomputable def tailB (c : api_MachineCode) : ByteArray := if useB c.Op = true then ⟨#[32, 114]⟩ ++ deci c.B else NB
noncomputable def tailN (c : api_MachineCode) : ByteArray := if useN c.Op = true then ⟨#[32]⟩ ++ deci c.N else NB
theorem nat_dec {n : Int} (h0 : 0 ≤ n) (h1 : n < 256) : run_ratchetbase_Decimal (.start n) = some ((deci n, ()), ()) := by
  obtain ⟨k, rfl⟩ := Int.eq_ofNat_of_zero_le h0
  exact Decimal_eq (by omega)
noncomputable def piece (c : api_MachineCode) (ch : Nat) : ByteArray := if ch = 97 then ⟨#[32, 114]⟩ ++ deci c.A else if ch = 98 then ⟨#[32, 114]⟩ ++ deci c.B else ⟨#[32]⟩ ++ deci c.N
theorem ble_app {a b : ByteArray} (ha : a.size ≤ 100000) (hb : b.size ≤ 100000) : Nat.ble (a.size + b.size) 9223372036854775807 = true := Nat.ble_eq_true_of_le (by omega)
theorem rtx_step (l : List api_MachineCode) (c : api_MachineCode) (hv : Val c) (out : ByteArray) (ho : out.size ≤ 50000) (i : Int) (k : Nat) (hk : k < (shapeOf c.Op).size) (ch : Nat) (hc : sidx (shapeOf c.Op) (k : Int) = some (ch : Int)) :
    run_ratchetref31_Text (.p119420 l out i (shapeOf c.Op) (k : Int) c.Op c.A c.B c.N) = run_ratchetref31_Text (.p119420 l (out ++ piece c ch) i (shapeOf c.Op) ((k + 1 : Nat) : Int) c.Op c.A c.B c.N) := by
  have hop : within c.Op 0 9 = true := within_iff.2 ⟨hv.op0, by have := hv.op1; omega⟩
  have h2 := shapeOf_size hop
  have e1 : (⟨#[32, 114]⟩ : ByteArray).size = 2 := rfl
  have e2 : (⟨#[32]⟩ : ByteArray).size = 1 := rfl
  have ha1 : c.A < 256 := by have := hv.a1; omega
  have hb1 : c.B < 256 := by have := hv.b1; omega
  have sA := deci_size hv.a0 ha1
  have sB := deci_size hv.b0 hb1
  have sN := deci_size hv.n0 hv.n1
  have s1 : (out ++ (⟨#[32, 114]⟩ : ByteArray)).size ≤ 100000 := by rw [size_app]; omega
  have s2 : (out ++ (⟨#[32]⟩ : ByteArray)).size ≤ 100000 := by rw [size_app]; omega
  have asc : ∀ a b d : ByteArray, a ++ b ++ d = a ++ (b ++ d) := fun a b d => byte_ext (by simp)
  conv => lhs; rw [run_ratchetref31_Text]
  rw [if_pos (by simpa using hk), hc, wrap_succ hk (by omega)]
  simp only [some_bind']
  unfold piece
  by_cases h97 : ch = 97
  · subst h97
    rw [if_pos (by rfl), if_pos (ble_app (by omega) (by omega)), nat_dec hv.a0 ha1]
    simp only [some_bind']
    rw [if_pos (ble_app s1 (by omega)), asc, if_pos trivial]
  · rw [if_neg (by simp; omega), if_neg h97]
    by_cases h98 : ch = 98
    · subst h98
      rw [if_pos (by rfl), if_pos (ble_app (by omega) (by omega)), nat_dec hv.b0 hb1]
      simp only [some_bind']
      rw [if_pos (ble_app s1 (by omega)), asc, if_pos trivial]
    · rw [if_neg (by simp; omega), if_neg h98, if_pos (ble_app (by omega) (by omega)), nat_dec hv.n0 hv.n1]
      simp only [some_bind']
      rw [if_pos (ble_app s2 (by omega)), asc]
theorem rtx_end (l : List api_MachineCode) (c : api_MachineCode) (out : ByteArray) (i : Nat) (hi : i < l.length) (hl : l.length ≤ 1000) (k : Nat) (hk : (shapeOf c.Op).size = k) :
    run_ratchetref31_Text (.p119420 l out (i : Int) (shapeOf c.Op) (k : Int) c.Op c.A c.B c.N) = run_ratchetref31_Text (.p116 l out ((i + 1 : Nat) : Int)) := by
  conv => lhs; rw [run_ratchetref31_Text]
  rw [if_neg (by simp; omega), wrap_succ hi (by omega)]
theorem piece_size {c : api_MachineCode} (hv : Val c) (ch : Nat) : (piece c ch).size ≤ 23 := by
  have e1 : (⟨#[32, 114]⟩ : ByteArray).size = 2 := rfl
  have e2 : (⟨#[32]⟩ : ByteArray).size = 1 := rfl
  have sA := deci_size hv.a0 (by have := hv.a1; omega)
  have sB := deci_size hv.b0 (by have := hv.b1; omega)
  have sN := deci_size hv.n0 hv.n1
  unfold piece
  split
  · rw [size_app]; omega
  · split
    · rw [size_app]; omega
    · rw [size_app]; omega
theorem op10 {c : api_MachineCode} (hv : Val c) : c.Op = 0 ∨ c.Op = 1 ∨ (2 ≤ c.Op ∧ c.Op ≤ 7) ∨ c.Op = 8 ∨ c.Op = 9 := by
  have := hv.op0; have := hv.op1; omega
theorem sh27 {op : Int} (h0 : 2 ≤ op) (h1 : op ≤ 7) : (shapeOf op).size = 2 ∧ sidx (shapeOf op) ((0 : Nat) : Int) = some ((97 : Nat) : Int) ∧ sidx (shapeOf op) ((1 : Nat) : Int) = some ((98 : Nat) : Int) ∧ useA op = true ∧ useB op = true ∧ useN op = false := by
  have : op = 2 ∨ op = 3 ∨ op = 4 ∨ op = 5 ∨ op = 6 ∨ op = 7 := by omega
  rcases this with rfl | rfl | rfl | rfl | rfl | rfl <;> exact ⟨rfl, rfl, rfl, rfl, rfl, rfl⟩
theorem rtx_all (l : List api_MachineCode) (c : api_MachineCode) (hv : Val c) (out : ByteArray) (ho : out.size ≤ 40000) (i : Nat) (hi : i < l.length) (hl : l.length ≤ 1000) :
    run_ratchetref31_Text (.p119420 l out (i : Int) (shapeOf c.Op) (0 : Int) c.Op c.A c.B c.N) = run_ratchetref31_Text (.p116 l (out ++ tailA c ++ tailB c ++ tailN c) ((i + 1 : Nat) : Int)) := by
  have two : ∀ x y : Nat, (shapeOf c.Op).size = 2 → sidx (shapeOf c.Op) ((0 : Nat) : Int) = some (x : Int) → sidx (shapeOf c.Op) ((1 : Nat) : Int) = some (y : Int) → run_ratchetref31_Text (.p119420 l out (i : Int) (shapeOf c.Op) ((0 : Nat) : Int) c.Op c.A c.B c.N) = run_ratchetref31_Text (.p116 l (out ++ piece c x ++ piece c y) ((i + 1 : Nat) : Int)) := by
    intro x y hs h0 h1
    have := piece_size hv x
    rw [rtx_step l c hv out (by omega) i 0 (by omega) x h0, rtx_step l c hv _ (by rw [size_app]; omega) i 1 (by omega) y h1, rtx_end l c _ i hi hl 2 hs]
  have nl : ∀ a : ByteArray, a ++ NB = a := fun a => byte_ext (by simp)
  rcases op10 hv with h | h | ⟨h0, h1⟩ | h | h
  · have e : ∀ c : api_MachineCode, c.Op = 0 → shapeOf c.Op = shapeOf 0 ∧ tailA c = NB ∧ tailB c = NB ∧ tailN c = NB := by
      intro c h
      unfold tailA tailB tailN
      rw [h]
      exact ⟨rfl, rfl, rfl, rfl⟩
    obtain ⟨e1, e2, e3, e4⟩ := e c h
    rw [e2, e3, e4, nl, nl, nl]
    exact rtx_end l c out i hi hl 0 (by rw [e1]; rfl)
  · have hs : (shapeOf c.Op).size = 2 := by rw [h]; rfl
    have t2 := two 97 110 hs (by rw [h]; rfl) (by rw [h]; rfl)
    rw [show ((0 : Nat) : Int) = 0 from rfl] at t2
    rw [t2]
    have : tailA c = piece c 97 ∧ tailB c = NB ∧ tailN c = piece c 110 := by
      unfold tailA tailB tailN
      rw [h]
      exact ⟨rfl, rfl, rfl⟩
    rw [this.1, this.2.1, this.2.2, nl]
  · obtain ⟨hs, g0, g1, hA, hB, hN⟩ := sh27 h0 h1
    have t2 := two 97 98 hs g0 g1
    rw [show ((0 : Nat) : Int) = 0 from rfl] at t2
    rw [t2]
    have : tailA c = piece c 97 ∧ tailB c = piece c 98 ∧ tailN c = NB := by
      unfold tailA tailB tailN
      rw [hA, hB, hN]
      exact ⟨rfl, rfl, rfl⟩
    rw [this.1, this.2.1, this.2.2, nl]
  · have hs : (shapeOf c.Op).size = 1 := by rw [h]; rfl
    have t1 := rtx_step l c hv out (by omega) i 0 (by omega) 112 (by rw [h]; rfl)
    rw [show ((0 : Nat) : Int) = 0 from rfl] at t1
    rw [t1, rtx_end l c _ i hi hl 1 hs]
    have : tailA c = NB ∧ tailB c = NB ∧ tailN c = piece c 112 := by
      unfold tailA tailB tailN
      rw [h]
      exact ⟨rfl, rfl, rfl⟩
    rw [this.1, this.2.1, this.2.2, nl, nl]
  · have hs : (shapeOf c.Op).size = 2 := by rw [h]; rfl
    have t2 := two 97 112 hs (by rw [h]; rfl) (by rw [h]; rfl)
    rw [show ((0 : Nat) : Int) = 0 from rfl] at t2
    rw [t2]
    have : tailA c = piece c 97 ∧ tailB c = NB ∧ tailN c = piece c 112 := by
      unfold tailA tailB tailN
      rw [h]
      exact ⟨rfl, rfl, rfl⟩
    rw [this.1, this.2.1, this.2.2, nl]
theorem line_tail (c : api_MachineCode) : lineB c = nmOf c ++ tailA c ++ tailB c ++ tailN c := byte_ext (by
  unfold lineB joinB pwd pwA pwB pwN tailA tailB tailN rg
  rw [toB_data]
  cases useA c.Op <;> cases useB c.Op <;> cases useN c.Op <;> simp [Lib.join, List.intercalate, List.intersperse])
noncomputable def restT : Nat → List api_MachineCode → ByteArray
 | _, [] => NB
 | i, c :: l => (if 0 < i then ⟨#[10]⟩ else NB) ++ lineB c ++ restT (i + 1) l
theorem rtext_at (l : List api_MachineCode) (hl : l.length ≤ 16) (hv : ∀ c ∈ l, Val c) : ∀ (k i : Nat) (out : ByteArray), i + k = l.length → out.size ≤ 100 * i →
    run_ratchetref31_Text (.p116 l out (i : Int)) = some ((out ++ restT i (l.drop i), ()), ())
 | 0, i, out, h, ho => by
   rw [run_ratchetref31_Text, if_neg (by simp; omega), List.drop_of_length_le (by omega)]
   have : out ++ restT i [] = out := byte_ext (by simp [restT])
   rw [this]
 | k + 1, i, out, h, ho => by
   have hi : i < l.length := by omega
   have hvi := hv l[i] (List.getElem_mem hi)
   have hop : within l[i].Op 0 9 = true := within_iff.2 ⟨hvi.op0, by have := hvi.op1; omega⟩
   obtain ⟨x, hx1, hx2⟩ := rword (i := l[i].Op.toNat) (by have := hvi.op0; have := hvi.op1; omega)
   rw [(nmOf_ok hvi).1] at hx1
   obtain rfl := Option.some.inj hx1
   rw [Int.toNat_of_nonneg hvi.op0] at hx2
   have hn := (nmOf_ok hvi).2
   have hz := lineB_size hvi
   have e10 : (⟨#[10]⟩ : ByteArray).size = 1 := rfl
   have h1 : ∀ o : ByteArray, o.size ≤ 100 * i + 1 → run_ratchetref31_Text (.p1865 l o (i : Int)) = some ((o ++ lineB l[i] ++ restT (i + 1) (l.drop (i + 1)), ()), ()) := by
     intro o ho
     have ih := rtext_at l hl hv k (i + 1) (o ++ nmOf l[i] ++ tailA l[i] ++ tailB l[i] ++ tailN l[i]) (by omega) (by
       have e : o ++ nmOf l[i] ++ tailA l[i] ++ tailB l[i] ++ tailN l[i] = o ++ lineB l[i] := byte_ext (by rw [line_tail]; simp)
       rw [e, size_app]
       omega)
     rw [run_ratchetref31_Text, idx_nat, List.getElem?_eq_getElem hi]
     simp only [some_bind', hx2]
     rw [if_pos (ble_app (by omega) (by omega)), rshape hop]
     simp only [some_bind']
     rw [rtx_all l l[i] hvi _ (by rw [size_app]; omega) i hi (by omega), ih]
     congr 3
     exact byte_ext (by rw [line_tail]; simp)
   rw [run_ratchetref31_Text, if_pos (by simpa using hi), drop_cons hi, restT]
   by_cases h0 : 0 < i
   · rw [if_pos (by simpa using h0), if_pos (ble_app (by omega) (by omega)), h1 _ (by rw [size_app]; omega), if_pos h0]
     congr 3
     exact byte_ext (by simp)
   · rw [if_neg (by simpa using h0), h1 _ (by omega), if_neg h0]
     congr 3
     exact byte_ext (by simp)
theorem restT_pos : ∀ (l : List api_MachineCode) (i : Nat), 0 < i → restT i l = if l = [] then NB else ⟨#[10]⟩ ++ textB l
 | [], i, h => rfl
 | [c], i, h => by
   rw [restT, restT, if_pos h, if_neg (by simp)]
   exact byte_ext (by unfold textB joinB; simp [toB_data, Lib.join, List.intercalate, toB])
 | c :: d :: r, i, h => by
   rw [restT, if_pos h, restT_pos (d :: r) (i + 1) (by omega), if_neg (by simp), if_neg (by simp)]
   exact byte_ext (by unfold textB joinB; simp [toB_data, Lib.join, List.intercalate, List.intersperse, toB])
theorem rtext {l : List api_MachineCode} (h : (progE l).2 = 0) : run_ratchetref31_Text (.start l) = some ((textB l, ()), ()) := by
  obtain ⟨h1, h2⟩ := progE_0 h
  rw [run_ratchetref31_Text]
  have := rtext_at l h1 h2 l.length 0 NB (by omega) (by decide)
  have this : run_ratchetref31_Text (.p116 l NB (0 : Int)) = _ := this
  rw [this, List.drop_zero]
  congr 3
  cases l with
  | nil => exact byte_ext rfl
  | cons c r =>
    rw [restT, restT_pos r 1 (by omega)]
    cases r with
    | nil => exact byte_ext (by unfold textB joinB; simp [toB_data, Lib.join, List.intercalate, toB])
    | cons d r => exact byte_ext (by unfold textB joinB; simp [toB_data, Lib.join, List.intercalate, List.intersperse, toB])
end Go.Proofs.YtjededkgblbamaaGreatDoor.Ev.F
