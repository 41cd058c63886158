/- A line of a text: what it says, and the program's reading of it. -/
import Derived.Test.YtjededkgblbamaaGreatDoorTPTxt2
set_option linter.unusedVariables false
set_option linter.unusedSimpArgs false
set_option linter.unnecessarySimpa false
namespace Go.Proofs.YtjededkgblbamaaGreatDoor.Ev.F
open Go.Proofs.YtjededkgblbamaaGreatDoor.Ev

theorem cut_tail {α : Type} (x : α) (r : List α) : cut (x :: r) (1, (x :: r).length) = r := by
  unfold cut
  rw [List.take_length]
  rfl
theorem span_tail {α : Type} (x : α) (r : List α) : span (x :: r).length (1 : Int) ((x :: r).length : Int) = some (1, (x :: r).length) := span_nat (i := 1) (by simp) (by simp)

noncomputable def regV (x : ByteArray) : Option Int := if regOk x = true then some (regN x) else none
noncomputable def numV3 (x : ByteArray) : Option (Int × ByteArray) := if ok3 x = true then some (natN x, ⟨#[]⟩) else none
noncomputable def placeV (x : ByteArray) : Option (Int × ByteArray) := if nameOk x = true then some (0, x) else numV3 x
/-- the next operand -/
def tk {α : Type} (b : Bool) (f : ByteArray → Option α) (d : α) (ws : List ByteArray) : Option (α × List ByteArray) :=
  if b = true then (match ws with
    | [] => none
    | x :: r => (f x).map fun v => (v, r)) else some (d, ws)
noncomputable def opndN (un jm : Bool) (a b : Int) (ws : List ByteArray) : Option (Int × Int × Int × ByteArray) :=
  (tk un (if jm = true then placeV else numV3) (0, ⟨#[]⟩) ws).bind fun t => if t.2.length = 0 then some (a, b, t.1.1, t.1.2) else none
noncomputable def opnd (ua ub un jm : Bool) (ws : List ByteArray) : Option (Int × Int × Int × ByteArray) :=
  (tk ua regV 0 ws).bind fun t1 => (tk ub regV 0 t1.2).bind fun t2 => opndN un jm t1.1 t2.1 t2.2
def words10 : List ByteArray := [(⟨#[104, 97, 108, 116]⟩ : ByteArray), (⟨#[115, 101, 116]⟩ : ByteArray), (⟨#[109, 111, 118, 101]⟩ : ByteArray), (⟨#[97, 100, 100]⟩ : ByteArray), (⟨#[115, 117, 98]⟩ : ByteArray), (⟨#[97, 110, 100]⟩ : ByteArray), (⟨#[108, 111, 97, 100]⟩ : ByteArray), (⟨#[115, 116, 111, 114, 101]⟩ : ByteArray), (⟨#[106, 117, 109, 112]⟩ : ByteArray), (⟨#[122, 101, 114, 111]⟩ : ByteArray)]
def findW (w : ByteArray) : List ByteArray → Nat → Option Nat
 | [], _ => none
 | x :: l, i => if seq x w = true then some i else findW w l (i + 1)
def opOf (w : ByteArray) : Option Nat := findW w words10 0
def labW : List ByteArray → Option ByteArray × List ByteArray
 | [] => (none, [])
 | x :: r => if 0 < x.size ∧ bt x (x.size - 1) = 58 then (some (x.extract 0 (x.size - 1)), r) else (none, x :: r)
noncomputable def restW : List ByteArray → Option (Nat × Int × Int × Int × ByteArray)
 | [] => none
 | x :: ws => (opOf x).bind fun op => (opnd (useA op) (useB op) (useN op) (jmp op) ws).map fun q => (op, q)
/-- label, operation, operands, target -/
abbrev PL := Option ByteArray × Nat × Int × Int × Int × ByteArray
noncomputable def parse (W : List ByteArray) : Option PL := (restW (labW W).2).map fun q => ((labW W).1, q)

/-! ### the program's reading -/
abbrev NB : ByteArray := ⟨#[]⟩
def lineT (op a b n : Int) (tg lb : ByteArray) (j l : Bool) : (Int × (Int × (Int × (Int × (ByteArray × (ByteArray × (Bool × (Bool × Unit)))))))) := (op, (a, (b, (n, (tg, (lb, (j, (l, ()))))))))
def OpOk (r : Option R_machine_line_operands) (v : Option (Int × Int × Int × ByteArray)) (op : Int) (lb : ByteArray) (l : Bool) : Prop :=
  ∃ t, r = some t ∧ match v with
    | none => t.1.1 = false ∧ t.2.1.2.2.2.2.2.1 = lb
    | some (a, b, n, tg) => t = ((true, ()), (lineT op a b n tg lb (!(seq tg NB)) l, ()))
theorem nameOk_ne {x : ByteArray} (h : nameOk x = true) : seq x NB = false := by
  cases hs : seq x NB with
  | false => rfl
  | true =>
    rw [seq_iff.1 hs] at h
    exact absurd h (by decide)
theorem p61 (op a b : Int) (lb : ByteArray) (l ua ub un : Bool) (nm : ByteArray) (ws : List ByteArray) (hws : ∀ x ∈ ws, x.size ≤ 60010) (s : Bool)
    (hs : s = (un && (jmp op && (match ws with | [] => false | x :: _ => nameOk x)))) :
    OpOk (run_machine_line_operands (.p61 s op a b 0 NB lb false l nm ua ub un ws)) (opndN un (jmp op) a b ws) op lb l := by
  rw [run_machine_line_operands]
  unfold opndN tk
  cases un with
  | false =>
    have : s = false := by rw [hs]; rfl
    subst this
    simp only [Bool.false_eq_true, if_false, Option.bind_some]
    cases ws with
    | nil => first | exact ⟨_, rfl, rfl⟩ | exact ⟨_, rfl, rfl, rfl⟩
    | cons x r => exact ⟨_, rfl, by simp; omega⟩
  | true =>
    simp only [if_true]
    cases ws with
    | nil =>
      have : s = false := by rw [hs]; simp
      subst this
      simp only [Bool.false_eq_true, if_false, Option.bind_none, run_machine_line_operands_1_v2]
      first | exact ⟨_, rfl, rfl⟩ | exact ⟨_, rfl, rfl, rfl⟩
    | cons x r =>
      simp only [Bool.true_and] at hs
      obtain ⟨v, h1, h2⟩ := natural_eq x (hws x (List.mem_cons_self ..))
      have hi : idx (x :: r) (0 : Int) = some x := rfl
      have e1 : ((List.length (x :: r) : Int) == (0 : Int)) = false := by simp; omega
      have hn : OpOk (run_machine_line_operands (.p61 false op a b 0 NB lb false l nm ua ub true (x :: r))) ((numV3 x).bind fun t => if r.length = 0 then some (a, b, t.1, t.2) else none) op lb l := by
        rw [run_machine_line_operands]
        simp only [Bool.false_eq_true, if_false, if_true, run_machine_line_operands_1_v2, e1, hi, some_bind', h1, span_tail, cut_tail]
        unfold numV3
        cases hk : ok3 x with
        | false => first | exact ⟨_, rfl, rfl⟩ | exact ⟨_, rfl, rfl, rfl⟩
        | true =>
          simp only [Bool.not_true, Bool.false_eq_true, if_false, if_true, Option.bind_some]
          rw [h2 hk]
          cases r with
          | nil => first | exact ⟨_, rfl, rfl⟩ | exact ⟨_, rfl, rfl, rfl⟩
          | cons y r => exact ⟨_, rfl, by simp; omega⟩
      have hb : ((if (jmp op) = true then placeV else numV3) x).map (fun v => (v, r)) = ((if (jmp op) = true then placeV x else numV3 x).map fun v => (v, r)) := by
        cases jmp op <;> rfl
      simp only [hb]
      cases hj : jmp op with
      | false =>
        rw [hj] at hs
        have : s = false := by rw [hs]; rfl
        subst this
        rw [run_machine_line_operands] at hn
        simp only [Bool.false_eq_true, if_false]
        simp only [Bool.false_eq_true, if_false] at hn
        have : ((numV3 x).map fun v => (v, r)).bind (fun t => if t.2.length = 0 then some (a, b, t.1.1, t.1.2) else none) = (numV3 x).bind fun t => if r.length = 0 then some (a, b, t.1, t.2) else none := by
          cases numV3 x <;> rfl
        rw [this]
        exact hn
      | true =>
        rw [hj] at hs
        simp only [Bool.true_and] at hs
        simp only [if_true]
        unfold placeV
        cases hk : nameOk x with
        | false =>
          rw [hk] at hs
          subst hs
          rw [run_machine_line_operands] at hn
          simp only [Bool.false_eq_true, if_false]
          simp only [Bool.false_eq_true, if_false] at hn
          have : ((numV3 x).map fun v => (v, r)).bind (fun t => if t.2.length = 0 then some (a, b, t.1.1, t.1.2) else none) = (numV3 x).bind fun t => if r.length = 0 then some (a, b, t.1, t.2) else none := by
            cases numV3 x <;> rfl
          rw [this]
          exact hn
        | true =>
          rw [hk] at hs
          subst hs
          simp only [if_true, hi, some_bind', span_tail, cut_tail, Option.map_some, Option.bind_some]
          cases r with
          | nil =>
            refine ⟨_, rfl, ?_⟩
            simp only [List.length_nil, if_true]
            rw [nameOk_ne hk]
            rfl
          | cons y r => exact ⟨_, rfl, by simp; omega⟩
theorem p15 (op a b : Int) (lb : ByteArray) (l ua ub un : Bool) (nm : ByteArray) (ws : List ByteArray) (hws : ∀ x ∈ ws, x.size ≤ 60010) :
    OpOk (run_machine_line_operands (.p15 op a b 0 NB lb false l nm ua ub un ws)) (opndN un (jmp op) a b ws) op lb l := by
  rw [run_machine_line_operands]
  have h := fun s hs => p61 op a b lb l ua ub un nm ws hws s hs
  cases un with
  | false => exact h false rfl
  | true =>
    have hj : run_machine_jumps (.start op) = some ((jmp op, ()), ()) := by
      unfold jmp
      rw [run_machine_jumps]
      by_cases h8 : op = 8
      · subst h8; rfl
      · by_cases h9 : op = 9
        · subst h9; rfl
        · simp [h8, h9]
    simp only [if_true, hj, some_bind']
    cases hjm : jmp op with
    | false =>
      simp only [Bool.false_eq_true, if_false]
      rw [hjm] at h
      exact h false rfl
    | true =>
      rw [hjm] at h
      simp only [if_true]
      cases ws with
      | nil => exact h false rfl
      | cons x r =>
        have hi : idx (x :: r) (0 : Int) = some x := rfl
        rw [if_pos (by simp), hi]
        simp only [some_bind', pname (hws x (List.mem_cons_self ..))]
        exact h _ rfl
theorem pops (op : Int) (lb : ByteArray) (l ua ub un : Bool) (nm : ByteArray) (ws : List ByteArray) (hws : ∀ x ∈ ws, x.size ≤ 60010) :
    OpOk (run_machine_line_operands (.start nm ua ub un ws op 0 0 0 NB lb false l)) (opnd ua ub un (jmp op) ws) op lb l := by
  have hB : ∀ (a : Int) (ws : List ByteArray), (∀ x ∈ ws, x.size ≤ 60010) → ub = true → OpOk ((run_machine_line_operands_1_v1 (.start op a 0 0 NB lb false l ws)) >>= fun t2 =>
         if (!t2.1.1) = true then
           some ((false, ()), ((t2.2.1.1, (t2.2.1.2.1, (t2.2.1.2.2.1, (t2.2.1.2.2.2.1, (t2.2.1.2.2.2.2.1, (t2.2.1.2.2.2.2.2.1, (t2.2.1.2.2.2.2.2.2.1, (t2.2.1.2.2.2.2.2.2.2.1, ())))))))), ()))
         else
           run_machine_line_operands (.p15 t2.2.1.1 t2.2.1.2.1 t2.2.1.2.2.1 t2.2.1.2.2.2.1 t2.2.1.2.2.2.2.1 t2.2.1.2.2.2.2.2.1 t2.2.1.2.2.2.2.2.2.1 t2.2.1.2.2.2.2.2.2.2.1 nm ua ub un t2.2.2.1.1)) ((tk ub regV 0 ws).bind fun t2 => opndN un (jmp op) a t2.1 t2.2) op lb l := by
    intro a ws hws hub
    unfold tk
    rw [if_pos hub, run_machine_line_operands_1_v1]
    cases ws with
    | nil => first | exact ⟨_, rfl, rfl⟩ | exact ⟨_, rfl, rfl, rfl⟩
    | cons x r =>
      obtain ⟨v, h1, h2⟩ := preg x (hws x (List.mem_cons_self ..))
      have hi : idx (x :: r) (0 : Int) = some x := rfl
      have e1 : ((List.length (x :: r) : Int) == (0 : Int)) = false := by simp; omega
      simp only [e1, Bool.false_eq_true, if_false, hi, some_bind', h1, span_tail, cut_tail]
      unfold regV
      cases hk : regOk x with
      | false => first | exact ⟨_, rfl, rfl⟩ | exact ⟨_, rfl, rfl, rfl⟩
      | true =>
        simp only [Bool.not_true, Bool.false_eq_true, if_false, if_true, Option.map_some, Option.bind_some]
        rw [h2 hk]
        exact p15 op a _ lb l ua ub un nm r (fun y hy => hws y (List.mem_cons_of_mem _ hy))
  have hAB : ∀ (a : Int) (ws : List ByteArray), (∀ x ∈ ws, x.size ≤ 60010) → OpOk (if ub = true then ((run_machine_line_operands_1_v1 (.start op a 0 0 NB lb false l ws)) >>= fun t2 =>
         if (!t2.1.1) = true then
           some ((false, ()), ((t2.2.1.1, (t2.2.1.2.1, (t2.2.1.2.2.1, (t2.2.1.2.2.2.1, (t2.2.1.2.2.2.2.1, (t2.2.1.2.2.2.2.2.1, (t2.2.1.2.2.2.2.2.2.1, (t2.2.1.2.2.2.2.2.2.2.1, ())))))))), ()))
         else
           run_machine_line_operands (.p15 t2.2.1.1 t2.2.1.2.1 t2.2.1.2.2.1 t2.2.1.2.2.2.1 t2.2.1.2.2.2.2.1 t2.2.1.2.2.2.2.2.1 t2.2.1.2.2.2.2.2.2.1 t2.2.1.2.2.2.2.2.2.2.1 nm ua ub un t2.2.2.1.1)) else run_machine_line_operands (.p15 op a 0 0 NB lb false l nm ua ub un ws)) ((tk ub regV 0 ws).bind fun t2 => opndN un (jmp op) a t2.1 t2.2) op lb l := by
    intro a ws hws
    by_cases hub : ub = true
    · rw [if_pos hub]
      exact hB a ws hws hub
    · rw [if_neg hub]
      unfold tk
      rw [if_neg hub]
      exact p15 op a 0 lb l ua ub un nm ws hws
  rw [run_machine_line_operands]
  unfold opnd
  by_cases hua : ua = true
  · rw [if_pos hua, run_machine_line_operands_1]
    conv => arg 2; unfold tk
    rw [if_pos hua]
    cases ws with
    | nil => first | exact ⟨_, rfl, rfl⟩ | exact ⟨_, rfl, rfl, rfl⟩
    | cons x r =>
      obtain ⟨v, h1, h2⟩ := preg x (hws x (List.mem_cons_self ..))
      have hi : idx (x :: r) (0 : Int) = some x := rfl
      have e1 : ((List.length (x :: r) : Int) == (0 : Int)) = false := by simp; omega
      simp only [e1, Bool.false_eq_true, if_false, hi, some_bind', h1, span_tail, cut_tail]
      unfold regV
      cases hk : regOk x with
      | false => first | exact ⟨_, rfl, rfl⟩ | exact ⟨_, rfl, rfl, rfl⟩
      | true =>
        simp only [Bool.not_true, Bool.false_eq_true, if_false, if_true, Option.map_some, Option.bind_some]
        rw [h2 hk]
        exact hAB _ r (fun y hy => hws y (List.mem_cons_of_mem _ hy))
  · rw [if_neg hua]
    have : tk ua regV 0 ws = some (0, ws) := by unfold tk; rw [if_neg hua]
    rw [this]
    exact hAB 0 ws hws

/-! ### the operation, the label, the line -/
theorem pfind (w : ByteArray) (r : List ByteArray) : ∀ (l : List machine_form) (k i : Nat), i + k = l.length → l.length ≤ 1000 →
    run_slices_IndexFunc_machine_form_machine_form (.p52 l (l.length : Int) (i : Int) (w :: r)) = some (((match findW w ((l.drop i).map machine_form.name) i with | some j => ((j : Nat) : Int) | none => -1), ()), ((w :: r, ()), ()))
 | l, 0, i, h, hl => by
   rw [run_slices_IndexFunc_machine_form_machine_form, if_neg (by simp; omega), List.drop_of_length_le (by omega)]
   rfl
 | l, k + 1, i, h, hl => by
   have hi : i < l.length := by omega
   rw [run_slices_IndexFunc_machine_form_machine_form, if_pos (by simp; omega), idx_nat, List.getElem?_eq_getElem hi]
   have hw : idx (w :: r) (0 : Int) = some w := rfl
   simp only [some_bind', run_machine_lineOf_1, hw]
   rw [drop_cons hi, List.map_cons, findW]
   cases hs : seq l[i].name w with
   | true => rfl
   | false =>
     simp only [Bool.false_eq_true, if_false]
     rw [wrap_succ hi (by omega), pfind w r l k (i + 1) (by omega) hl]
theorem findW_lt (w : ByteArray) : ∀ (l : List ByteArray) (i j : Nat), findW w l i = some j → i ≤ j ∧ j < i + l.length ∧ l[j - i]? = some w
 | [], i, j, h => by cases h
 | x :: l, i, j, h => by
   unfold findW at h
   split at h
   · rename_i hs
     obtain rfl := Option.some.inj h
     rw [seq_iff.1 hs]
     simp
   · obtain ⟨h1, h2, h3⟩ := findW_lt w l (i + 1) j h
     refine ⟨by omega, by simp; omega, ?_⟩
     rw [show j - i = (j - (i + 1)) + 1 by omega]
     exact h3
theorem forms_at : ∀ k : Nat, k < 10 → ∃ nm, idx glob0 (k : Int) = some ⟨nm, useA k, useB k, useN k⟩ := by
  intro k hk
  match k, hk with
  | 0, _ => exact ⟨_, rfl⟩
  | 1, _ => exact ⟨_, rfl⟩
  | 2, _ => exact ⟨_, rfl⟩
  | 3, _ => exact ⟨_, rfl⟩
  | 4, _ => exact ⟨_, rfl⟩
  | 5, _ => exact ⟨_, rfl⟩
  | 6, _ => exact ⟨_, rfl⟩
  | 7, _ => exact ⟨_, rfl⟩
  | 8, _ => exact ⟨_, rfl⟩
  | 9, _ => exact ⟨_, rfl⟩
theorem cutSuffix_eq (s : ByteArray) (c : UInt8) (hs : s.size ≤ 60010) : run_strings_CutSuffix (.start s ⟨#[c]⟩) = some (if 0 < s.size ∧ bt s (s.size - 1) = (c.toNat : Int) then ((s.extract 0 (s.size - 1), (true, ())), ()) else ((s, (false, ())), ())) := by
  simp only [run_strings_CutSuffix, run_internal_stringslite_CutSuffix, run_internal_stringslite_HasSuffix]
  have e1 : (⟨#[c]⟩ : ByteArray).size = 1 := rfl
  rw [e1]
  by_cases h : 0 < s.size
  · have hw : IntKind.wrap .i64 ((s.size : Int) - ((1 : Nat) : Int)) = ((s.size - 1 : Nat) : Int) := by rw [wrap_i64 (by omega) (by omega)]; omega
    rw [if_pos (by simp; omega), hw, span_nat (by omega) (by omega)]
    simp only [some_bind']
    have hq : seq (s.extract (s.size - 1) s.size) ⟨#[c]⟩ = decide (bt s (s.size - 1) = (c.toNat : Int)) := by
      have hb := bt_ext s (i := s.size - 1) (j := s.size) (k := 0) (by omega) (by omega)
      have hc : bt ⟨#[c]⟩ 0 = (c.toNat : Int) := rfl
      rw [Nat.add_zero] at hb
      have hz : (s.extract (s.size - 1) s.size).size = 1 := by rw [size_ext s (by omega) (by omega)]; omega
      by_cases he : bt s (s.size - 1) = (c.toNat : Int)
      · rw [decide_eq_true he, seq_iff]
        refine ext_bt (by rw [hz]; rfl) fun i hi => ?_
        have : i = 0 := by omega
        subst this
        rw [hb, he, hc]
      · rw [decide_eq_false he]
        cases hs : seq (s.extract (s.size - 1) s.size) ⟨#[c]⟩ with
        | false => rfl
        | true =>
          rw [seq_iff.1 hs, hc] at hb
          exact absurd hb.symm he
    rw [hq]
    by_cases he : bt s (s.size - 1) = (c.toNat : Int)
    · rw [if_neg (by simp [he]), show (0 : Int) = ((0 : Nat) : Int) from rfl, span_nat (by omega) (by omega)]
      simp only [some_bind']
      rw [if_pos ⟨h, he⟩]
    · rw [if_pos (by simp [he]), if_neg (by rintro ⟨_, h2⟩; exact he h2)]
      rfl
  · rw [if_neg (by simp; omega)]
    simp only [some_bind']
    rw [if_pos (by decide), if_neg (by rintro ⟨h2, _⟩; exact h h2)]
    rfl
/-- what the program's reading of a line must be -/
def LineOk (r : Option R_machine_lineOf) (v : Option (Nat × Int × Int × Int × ByteArray)) (lb : ByteArray) (l : Bool) : Prop :=
  ∃ t, r = some t ∧ match v with
    | none => t.1.2.1 = false ∧ t.1.1.2.2.2.2.2.1 = lb
    | some (op, a, b, n, tg) => t = ((lineT op a b n tg lb (!(seq tg NB)) l, (true, ())), ())
theorem p31_line (B0 B1 B2 B3 : Int) (B4 B5 : ByteArray) (B6 B7 : Bool) (lb : ByteArray) (l : Bool) (ws : List ByteArray) (hws : ∀ x ∈ ws, x.size ≤ 60010) :
    LineOk (run_machine_lineOf (.p31 B0 B1 B2 B3 B4 B5 B6 B7 0 0 0 0 NB lb false l ws)) (restW ws) lb l := by
  rw [run_machine_lineOf]
  cases ws with
  | nil => first | exact ⟨_, rfl, rfl⟩ | exact ⟨_, rfl, rfl, rfl⟩
  | cons x r =>
    have e1 : ((List.length (x :: r) : Int) == (0 : Int)) = false := by simp; omega
    have hc : cut glob0 (0, List.length glob0) = glob0 := by unfold cut; rw [List.take_length]; rfl
    have hs : span (List.length glob0) (0 : Int) (List.length glob0 : Int) = some (0, List.length glob0) := span_nat (i := 0) (by omega) (by omega)
    have hf := pfind x r glob0 glob0.length 0 (by omega) (by decide)
    have hm : (glob0.drop 0).map machine_form.name = words10 := rfl
    rw [hm] at hf
    simp only [e1, Bool.false_eq_true, if_false, hs, some_bind', hc]
    rw [run_slices_IndexFunc_machine_form_machine_form]
    rw [show ((0 : Nat) : Int) = 0 from rfl] at hf
    rw [hf]
    cases ho : findW x words10 0 with
    | none =>
      have hR : restW (x :: r) = none := by simp only [restW, opOf, ho, Option.bind_none]
      rw [hR]
      first | exact ⟨_, rfl, rfl⟩ | exact ⟨_, rfl, rfl, rfl⟩
    | some j =>
      have hR : restW (x :: r) = (opnd (useA (j : Int)) (useB (j : Int)) (useN (j : Int)) (jmp (j : Int)) r).map fun q => (j, q) := by simp only [restW, opOf, ho, Option.bind_some]
      rw [hR]
      obtain ⟨h1, h2, h3⟩ := findW_lt _ _ _ _ ho
      have hj : j < 10 := by have : words10.length = 10 := rfl; omega
      obtain ⟨nm, hnm⟩ := forms_at j hj
      simp only [some_bind']
      rw [if_neg (by simp), hnm]
      simp only [some_bind', span_tail, cut_tail]
      obtain ⟨t, g1, g2⟩ := pops (j : Int) lb l (useA j) (useB j) (useN j) nm r (fun y hy => hws y (List.mem_cons_of_mem _ hy))
      rw [g1]
      simp only [some_bind']
      cases hv : opnd (useA (j : Int)) (useB (j : Int)) (useN (j : Int)) (jmp (j : Int)) r with
      | none =>
        rw [hv] at g2
        refine ⟨_, rfl, ?_⟩
        exact g2
      | some q =>
        obtain ⟨a, b, n, tg⟩ := q
        rw [hv] at g2
        have g2 : t = ((true, ()), (lineT j a b n tg lb (!(seq tg NB)) l, ())) := g2
        subst g2
        first | exact ⟨_, rfl, rfl⟩ | exact ⟨_, rfl, rfl, rfl⟩
theorem pline (s : ByteArray) (hs : s.size ≤ 60010) : LineOk (run_machine_lineOf (.start s)) (restW (labW (cuts 32 s)).2) ((labW (cuts 32 s)).1.getD NB) (labW (cuts 32 s)).1.isSome := by
  rw [run_machine_lineOf, split_eq s 32 hs]
  simp only [some_bind']
  have hsz := fun x (hx : x ∈ cuts 32 s) => Nat.le_trans (cuts_size hx) hs
  cases hc : cuts 32 s with
  | nil => exact absurd hc (cuts_ne _ _)
  | cons x r =>
    rw [hc] at hsz
    have hi : idx (x :: r) (0 : Int) = some x := rfl
    have hq := cutSuffix_eq x 58 (hsz x (List.mem_cons_self ..))
    rw [hi]
    simp only [some_bind', hq]
    have hl : labW (x :: r) = if 0 < x.size ∧ bt x (x.size - 1) = 58 then (some (x.extract 0 (x.size - 1)), r) else (none, x :: r) := rfl
    rw [hl]
    by_cases h : 0 < x.size ∧ bt x (x.size - 1) = 58
    · have h' : 0 < x.size ∧ bt x (x.size - 1) = ((58 : UInt8).toNat : Int) := h
      rw [if_pos h', if_pos h]
      simp only [if_true, span_tail, some_bind', cut_tail]
      exact p31_line _ _ _ _ _ _ _ _ _ _ _ (fun y hy => hsz y (List.mem_cons_of_mem _ hy))
    · have h' : ¬ (0 < x.size ∧ bt x (x.size - 1) = ((58 : UInt8).toNat : Int)) := h
      rw [if_neg h', if_neg h]
      simp only [Bool.false_eq_true, if_false]
      exact p31_line _ _ _ _ _ _ _ _ _ _ _ hsz
end Go.Proofs.YtjededkgblbamaaGreatDoor.Ev.F
