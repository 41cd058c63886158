/- A part of the proof. -/
import Derived.Test.YtaennkkcnhfglaaGreatDoorOEvLib
import Derived.Shelf.Strconv.AtoiAll
import Derived.Lib.LaidTab
import Derived.Shelf.Strconv.Itoa4
import Derived.Lib.Join
import Derived.Lib.Repeat
set_option linter.unusedVariables false
namespace Go.Proofs.YtaennkkcnhfglaaGreatDoor.Ev
open Go.Shelf Go.Proofs Go.RowKit
noncomputable section
variable {E : Env}
theorem uJ1 {f : Nat} {fn : Func} (hf : E.P.funcs[f]? = some fn) (hb : fn.body.isSome = true) (hnm : (fn.name == "runtime.NumGoroutine") = false) {xs : List (AV E.S)} {y : AV E.S}
    (h : ∀ (w : World) (G : Gh) (L0 : Nat → Value) (vs : List Value), vM5 E w G L0 [] xs vs → Calls E.P f vs.toArray w fun e w' => ∃ v, e = .returned v ∧ (∀ L, Rep E w' G L 0 y v) ∧ Below w.heap.size w w') : FnOk E f xs [] 0 y [] := by
  intro w G L0 vs hg
  refine ⟨.enter f vs.toArray, w, ?_, .inl ⟨rfl, ?_⟩⟩
  · unfold callFunc
    have hnm' : ¬ fn.name = "runtime.NumGoroutine" := by simpa using hnm
    obtain ⟨c, hc⟩ := Option.isSome_iff_exists.1 hb
    simp [hf, hnm', hc]
  · refine (h w G L0 vs hg).mono ?_
    rintro e w' ⟨v, rfl, hr, hbel⟩
    refine ⟨v, rfl, G, L0, ⟨⟨hbel.os, hbel.tape, hbel.output, hbel.size, fun b hb _ => ⟨hbel.block b hb, rfl⟩, fun b o v hi hc => ⟨hi, ub5 hbel hc⟩⟩, fun b c u hgb => ⟨Nat.lt_of_lt_of_le (hg.own b c u hgb).1 hbel.size, (hg.own b c u hgb).2⟩, hr L0, fun k x hk => by simp at hk, fun k hk => by simp at hk⟩, Nat.le_refl _, fun i hi => by omega⟩
theorem uF3.one {w : World} {G : Gh} {L : Nat → Value} {n : Nat} {x : AV E.S} {vs : List Value} (h : uF3 E w G L n [x] vs) : ∃ u, vs = [u] ∧ Rep E w G L n x u := by
  match vs, h.len with
  | [u], _ => exact ⟨u, rfl, h.rep 0 x u rfl rfl⟩
def vk5 (p : Int × Unit) (_ : Unit) : Option ((ByteArray × Unit) × Unit) := if -9223372036854775808 ≤ p.1 ∧ p.1 ≤ 9223372036854775807 then some ((⟨(Lib.itoa p.1).toArray⟩, ()), ()) else none
def vG0 (E : Env) (f : Nat) : Con E := ⟨f, Int × Unit, Unit, .cons (Rd.int .i64).w .nil, .nil, 0, (ByteArray × Unit) × Unit, vk5, fun r => .v (.string r.1.1), fun _ => []⟩
theorem vx8 {f : Nat} {fn : Func} (hf : E.P.funcs[f]? = some fn) (hb : fn.body.isSome = true) (hnm : (fn.name == "runtime.NumGoroutine") = false)
    {g : Nat} {nm : String} (hh : E.held g = some (nm, (Lib.pow10Tab.map fun z => Value.int .u64 z).toArray))
    (h : ∀ (n : Int) (w : World), -9223372036854775808 ≤ n → n ≤ 9223372036854775807 → Lib.TabIs E.P w nm .u64 Lib.pow10Tab →
      Calls E.P f #[.int .i64 n] w fun e w' => e = .returned (.string ⟨(Lib.itoa n).toArray⟩) ∧ ∃ k os, w' = Go.Sort.grow (w.drewN k) os) : (vG0 E f).Ok := by
  intro a b r hr
  obtain ⟨n, u⟩ := a
  have hr : (if -9223372036854775808 ≤ n ∧ n ≤ 9223372036854775807 then some ((⟨(Lib.itoa n).toArray⟩, ()), ()) else none) = some r := hr
  split at hr
  case isFalse => cases hr
  rename_i hn
  obtain rfl := Option.some.inj hr
  refine uJ1 hf hb hnm fun w G L0 vs hg => ?_
  obtain ⟨x, rfl, hx⟩ := hg.args.one
  obtain rfl := hx.v_inv
  refine (h n w hn.1 hn.2 (hg.held g _ _ hh).2.1).mono ?_
  rintro e w' ⟨rfl, k, os, rfl⟩
  refine ⟨_, rfl, fun L => .v _ rfl, rfl, rfl, rfl, by simp, fun j hj => ?_⟩
  show (w.heap ++ os)[j]? = w.heap[j]?
  rw [Array.getElem?_append_left hj]
def uG2 (p : List ByteArray × ByteArray × Unit) (_ : Unit) : Option ((ByteArray × Unit) × Unit) := bif Nat.ble p.1.length 140737488355328 && Nat.ble (Lib.join (p.1.map (·.data.toList)) p.2.1.data.toList).length 140737488355328 then some ((⟨(Lib.join (p.1.map (·.data.toList)) p.2.1.data.toList).toArray⟩, ()), ()) else none
theorem vf2 {p : List ByteArray × ByteArray × Unit} {u : Unit} {r : (ByteArray × Unit) × Unit} (h : uG2 p u = some r) : p.1.length ≤ 140737488355328 ∧ (Lib.join (p.1.map (·.data.toList)) p.2.1.data.toList).length ≤ 140737488355328 ∧ r = ((⟨(Lib.join (p.1.map (·.data.toList)) p.2.1.data.toList).toArray⟩, ()), ()) := by
  unfold uG2 at h
  rw [Bool.cond_eq_ite] at h
  split at h
  case isFalse => cases h
  rename_i hs
  rw [Bool.and_eq_true] at hs
  exact ⟨Nat.le_of_ble_eq_true hs.1, Nat.le_of_ble_eq_true hs.2, (Option.some.inj h).symm⟩
def vG1 (E : Env) (f e : Nat) (run : List (E.S e) × ByteArray × Unit → Unit → Option ((ByteArray × Unit) × Unit)) : Con E := ⟨f, List (E.S e) × ByteArray × Unit, Unit, .cons (Rw.sl e) (.cons Rd.str.w .nil), .nil, 0, (ByteArray × Unit) × Unit, run, fun r => .v (.string r.1.1), fun _ => []⟩
theorem vx9 {f e : Nat} {run : List (E.S e) × ByteArray × Unit → Unit → Option ((ByteArray × Unit) × Unit)} {fn : Func} (hf : E.P.funcs[f]? = some fn) (hb : fn.body.isSome = true) (hnm : (fn.name == "runtime.NumGoroutine") = false)
    (toB : E.S e → ByteArray) (hc : ∀ x, E.cells e x = [.v (.string (toB x))]) (hz : E.P.cellsOf e = 1) (hr : ∀ p u, run p u = uG2 (p.1.map toB, p.2) u)
    (h0 : ∀ (a : Option Addr) (c : Nat) (sep : ByteArray) (w : World), Calls E.P f #[.slice a 0 c, .string sep] w fun e w' => e = .returned (.string ⟨#[]⟩) ∧ w' = w)
    (h : ∀ (bk o c : Nat) (xs : List ByteArray) (sep : ByteArray) (w : World) (hcells : ∀ (j : Nat) x, xs[j]? = some x → w.cell? ⟨bk, o + j, none⟩ = some (.string x)) (hbk : bk < w.heap.size) (hN : xs.length ≤ 140737488355328) (hcap : xs.length ≤ c) (hlen : (Lib.join (xs.map (·.data.toList)) sep.data.toList).length ≤ 140737488355328),
      Calls E.P f #[.slice (some ⟨bk, o, none⟩) xs.length c, .string sep] w fun e w' => e = .returned (.string ⟨(Lib.join (xs.map (·.data.toList)) sep.data.toList).toArray⟩) ∧ Below w.heap.size w w') : (vG1 E f e run).Ok := by
  intro a b r h1
  obtain ⟨l, s, u⟩ := a
  have h1 : run (l, s, u) b = some r := h1
  obtain ⟨ha, hb2, rfl⟩ := vf2 ((hr _ _).symm.trans h1)
  refine uJ1 hf hb hnm fun w G L0 vs hg => ?_
  obtain ⟨x, y, rfl, hx, hy⟩ := hg.args.two
  obtain rfl := hy.v_inv
  have hx : Rep E w G L0 [].length (.sl e l false) x := hx
  cases hl : l with
  | nil =>
    subst hl
    obtain ⟨ad, k, rfl⟩ : ∃ ad k, x = .slice ad 0 k := by
      generalize hq : AV.sl e ([] : List (E.S e)) false = q at hx
      cases hx <;> first | (cases hq; done) | skip
      case sn => exact ⟨_, _, rfl⟩
      case se => exact ⟨_, _, rfl⟩
      case sl =>
        cases hq
        exact ⟨_, _, rfl⟩
    refine (h0 ad k s w).mono ?_
    rintro e w' ⟨rfl, rfl⟩
    exact ⟨_, rfl, fun L => .v _ rfl, Below.refl _ _⟩
  | cons x0 xs =>
    have hne : l ≠ [] := by rw [hl]; exact List.cons_ne_nil _ _
    rw [← hl]
    generalize hq : AV.sl e l false = q at hx
    cases hx <;> first | (cases hq; done) | skip
    case sn => cases hq; exact absurd rfl hne
    case se => cases hq; exact absurd rfl hne
    case sl e' l' f' bk off cap vals hcap hf' h1 h2 =>
      cases hq
      have hcell : ∀ (j : Nat) x, (l.map toB)[j]? = some x → w.cell? ⟨bk, off + j, none⟩ = some (.string x) := by
        intro j x hj
        rw [List.getElem?_map] at hj
        obtain ⟨y, hy, rfl⟩ := Option.map_eq_some_iff.1 hj
        have c1 := (h1 j y 0 (.v (.string (toB y))) hy (by rw [hc]; rfl)).2
        have c2 := h2 j y 0 (.v (.string (toB y))) hy (by rw [hc]; rfl)
        have c3 := c2.v_inv
        rw [c3, hz, Nat.mul_one] at c1
        exact c1
      have hlt : bk < w.heap.size := World.block_lt_of_cell? w _ (hcell 0 (toB x0) (by rw [hl]; rfl))
      have := h bk off cap (l.map toB) s w hcell hlt ha (by simpa using hcap) hb2
      rw [List.length_map] at this
      refine this.mono ?_
      rintro e w' ⟨rfl, hbel⟩
      exact ⟨_, rfl, fun L => .v _ rfl, hbel⟩
end
end Go.Proofs.YtaennkkcnhfglaaGreatDoor.Ev
