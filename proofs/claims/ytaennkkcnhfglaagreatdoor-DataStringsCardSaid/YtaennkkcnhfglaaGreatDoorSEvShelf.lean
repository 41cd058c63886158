/- A part of the proof. -/
import Derived.Test.YtaennkkcnhfglaaGreatDoorSEvLib
import Derived.Shelf.Strconv.AtoiAll
import Derived.Lib.LaidTab
import Derived.Shelf.Strconv.Itoa4
import Derived.Lib.Join
import Derived.Lib.Repeat
set_option linter.unusedVariables false
namespace Go.Proofs.YtaennkkcnhfglaaGreatDoor.Ev
open Go.Shelf Go.Proofs Go.RowKit
noncomputable section
variable {E : Env}
theorem uk8 {f : Nat} {fn : Func} (hf : E.P.funcs[f]? = some fn) (hb : fn.body.isSome = true) (hnm : (fn.name == "runtime.NumGoroutine") = false) {xs : List (AV E.S)} {y : AV E.S}
    (h : ∀ (w : World) (G : Gh) (L0 : Nat → Value) (vs : List Value), vm9 E w G L0 [] xs vs → Calls E.P f vs.toArray w fun e w' => ∃ v, e = .returned v ∧ (∀ L, Rep E w' G L 0 y v) ∧ Below w.heap.size w w') : FnOk E f xs [] 0 y [] := by
  intro w G L0 vs hg
  refine ⟨.enter f vs.toArray, w, ?_, .inl ⟨rfl, ?_⟩⟩
  · unfold callFunc
    have hnm' : ¬ fn.name = "runtime.NumGoroutine" := by simpa using hnm
    obtain ⟨c, hc⟩ := Option.isSome_iff_exists.1 hb
    simp [hf, hnm', hc]
  · refine (h w G L0 vs hg).mono ?_
    rintro e w' ⟨v, rfl, hr, hbel⟩
    refine ⟨v, rfl, G, L0, ⟨⟨hbel.os, hbel.tape, hbel.output, hbel.size, fun b hb _ => ⟨hbel.block b hb, rfl⟩, fun b o v hi hc => ⟨hi, ua9 hbel hc⟩⟩, fun b c u hgb => ⟨Nat.lt_of_lt_of_le (hg.own b c u hgb).1 hbel.size, (hg.own b c u hgb).2⟩, hr L0, fun k x hk => by simp at hk, fun k hk => by simp at hk⟩, Nat.le_refl _, fun i hi => by omega⟩
theorem ux3.one {w : World} {G : Gh} {L : Nat → Value} {n : Nat} {x : AV E.S} {vs : List Value} (h : ux3 E w G L n [x] vs) : ∃ u, vs = [u] ∧ Rep E w G L n x u := by
  match vs, h.len with
  | [u], _ => exact ⟨u, rfl, h.rep 0 x u rfl rfl⟩
theorem Rep.pair {w : World} {G : Gh} {L : Nat → Value} {n : Nat} {x y : AV E.S} {u v : Value} (hx : Rep E w G L n x u) (hy : Rep E w G L n y v) : Rep E w G L n (.tup [x, y]) (.tuple #[u, v]) := by
  refine .tup [x, y] [u, v] rfl fun i a b ha hb => ?_
  match i with
  | 0 => simp at ha hb; subst ha hb; exact hx
  | 1 => simp at ha hb; subst ha hb; exact hy
  | i + 2 => simp at ha
theorem vf1 {w : World} {G : Gh} {L : Nat → Value} {n g e : Nat} {x : E.S e} (hc : E.cells e x = [.er true]) (h : Rep E w G L n (.el e x 0) (.pointer (some ⟨g, 0, none⟩))) : ∃ t p, w.cell? ⟨g, 0, none⟩ = some (.iface t p) := by
  generalize hq : Value.pointer (some ⟨g, 0, none⟩) = q at h
  cases h with
  | el _ _ o b off vals h1 h2 =>
    simp only [Value.pointer.injEq, Option.some.injEq, Addr.mk.injEq, and_true] at hq
    obtain ⟨rfl, h0⟩ := hq
    obtain rfl : off = 0 := by omega
    have a := (h1 0 (.er true) (by rw [hc]; rfl)).2
    have b := h2 0 (.er true) (by rw [hc]; rfl)
    generalize vals (0 + 0) = u at a b
    cases b with
    | er1 t p => exact ⟨t, p, a⟩
def ui9 (s : ByteArray) : Int × Bool :=
  match Lib.atoiAll s.data.toList with
  | .ok v => (v, false)
  | .syntax => (0, true)
  | .range => (Lib.atoiSat s.data.toList, true)
def uT7 (p : ByteArray × Unit) (_ : Unit) : Option ((Int × Bool × Unit) × Unit) := bif Nat.ble p.1.size 281474976710656 then some (((ui9 p.1).1, (ui9 p.1).2, ()), ()) else none
def uJ8 (E : Env) (f : Nat) : Con E := ⟨f, ByteArray × Unit, Unit, .cons Rd.str.w .nil, .nil, 0, (Int × Bool × Unit) × Unit, uT7, fun r => .tup [.v (.int .i64 r.1.1), .er r.1.2.1], fun _ => []⟩
theorem vj4 {ρ : Ren} (L : LaysC.n172 E.P ρ) {f g15 g16 : Nat} (hρ : ρ.f 172 = f) (h15 : ρ.g 15 = g15) (h16 : ρ.g 16 = g16) {fn : Func} (hf : E.P.funcs[f]? = some fn) (hb : fn.body.isSome = true) (hnm : (fn.name == "runtime.NumGoroutine") = false)
    {e : Nat} {x15 x16 : E.S e} (hg15 : E.glob g15 = some (.el e x15 0)) (hg16 : E.glob g16 = some (.el e x16 0)) (hc15 : E.cells e x15 = [.er true]) (hc16 : E.cells e x16 = [.er true]) : (uJ8 E f).Ok := by
  intro a b r h
  obtain ⟨s, u⟩ := a
  have h : (bif Nat.ble s.size 281474976710656 then some (((ui9 s).1, (ui9 s).2, ()), ()) else none) = some r := h
  rw [Bool.cond_eq_ite] at h
  split at h
  case isFalse => cases h
  rename_i hs
  have hs : s.size ≤ 281474976710656 := Nat.le_of_ble_eq_true hs
  obtain rfl := Option.some.inj h
  refine uk8 hf hb hnm fun w G L0 vs hg => ?_
  obtain ⟨v, rfl, hv⟩ := hg.args.one
  obtain rfl := hv.v_inv
  obtain ⟨t15, p15, c15⟩ := vf1 hc15 (hg.glob g15 _ hg15)
  obtain ⟨t16, p16, c16⟩ := vf1 hc16 (hg.glob g16 _ hg16)
  rw [← hρ]
  show Calls E.P (ρ.f 172) #[.string s] w _
  cases ha : Lib.atoiAll s.data.toList with
  | ok n =>
    refine (Any.strconv_Atoi_ok L s (by omega) n ha w).mono ?_
    rintro e w' ⟨rfl, hw⟩
    refine ⟨_, rfl, fun L => ?_, ?_⟩
    · have : ui9 s = (n, false) := by unfold ui9; rw [ha]
      simp only [uJ8, this]
      exact .pair (.v _ rfl) .er0
    · rcases hw with rfl | ⟨t, rfl⟩
      · exact Below.refl _ _
      · exact Lib.bytesWorld_below w _ t
  | «syntax» =>
    refine (Any.strconv_Atoi_syntax L s hs ha _ w (by rw [h15]; exact c15) (.inr ⟨_, _, rfl⟩)).mono ?_
    rintro e w' ⟨N, rfl, _, _, hbel⟩
    refine ⟨_, rfl, fun L => ?_, hbel⟩
    have : ui9 s = (0, true) := by unfold ui9; rw [ha]
    simp only [uJ8, this]
    exact .pair (.v _ rfl) (.er1 _ _)
  | range =>
    refine (Any.strconv_Atoi_range L s hs ha _ w (by rw [h16]; exact c16) (.inr ⟨_, _, rfl⟩)).mono ?_
    rintro e w' ⟨N, rfl, _, _, hbel⟩
    refine ⟨_, rfl, fun L => ?_, hbel⟩
    have : ui9 s = (Lib.atoiSat s.data.toList, true) := by unfold ui9; rw [ha]
    simp only [uJ8, this]
    exact .pair (.v _ rfl) (.er1 _ _)
def uy4 (p : Int × Unit) (_ : Unit) : Option ((ByteArray × Unit) × Unit) := if -9223372036854775808 ≤ p.1 ∧ p.1 ≤ 9223372036854775807 then some ((⟨(Lib.itoa p.1).toArray⟩, ()), ()) else none
def vp9 (E : Env) (f : Nat) : Con E := ⟨f, Int × Unit, Unit, .cons (Rd.int .i64).w .nil, .nil, 0, (ByteArray × Unit) × Unit, uy4, fun r => .v (.string r.1.1), fun _ => []⟩
theorem vj5 {f : Nat} {fn : Func} (hf : E.P.funcs[f]? = some fn) (hb : fn.body.isSome = true) (hnm : (fn.name == "runtime.NumGoroutine") = false)
    {g : Nat} {nm : String} (hh : E.held g = some (nm, (Lib.pow10Tab.map fun z => Value.int .u64 z).toArray))
    (h : ∀ (n : Int) (w : World), -9223372036854775808 ≤ n → n ≤ 9223372036854775807 → Lib.TabIs E.P w nm .u64 Lib.pow10Tab →
      Calls E.P f #[.int .i64 n] w fun e w' => e = .returned (.string ⟨(Lib.itoa n).toArray⟩) ∧ ∃ k os, w' = Go.Sort.grow (w.drewN k) os) : (vp9 E f).Ok := by
  intro a b r hr
  obtain ⟨n, u⟩ := a
  have hr : (if -9223372036854775808 ≤ n ∧ n ≤ 9223372036854775807 then some ((⟨(Lib.itoa n).toArray⟩, ()), ()) else none) = some r := hr
  split at hr
  case isFalse => cases hr
  rename_i hn
  obtain rfl := Option.some.inj hr
  refine uk8 hf hb hnm fun w G L0 vs hg => ?_
  obtain ⟨x, rfl, hx⟩ := hg.args.one
  obtain rfl := hx.v_inv
  refine (h n w hn.1 hn.2 (hg.held g _ _ hh).2.1).mono ?_
  rintro e w' ⟨rfl, k, os, rfl⟩
  refine ⟨_, rfl, fun L => .v _ rfl, rfl, rfl, rfl, by simp, fun j hj => ?_⟩
  show (w.heap ++ os)[j]? = w.heap[j]?
  rw [Array.getElem?_append_left hj]
def uq5 (p : List ByteArray × ByteArray × Unit) (_ : Unit) : Option ((ByteArray × Unit) × Unit) := bif Nat.ble p.1.length 140737488355328 && Nat.ble (Lib.join (p.1.map (·.data.toList)) p.2.1.data.toList).length 140737488355328 then some ((⟨(Lib.join (p.1.map (·.data.toList)) p.2.1.data.toList).toArray⟩, ()), ()) else none
theorem u20 {p : List ByteArray × ByteArray × Unit} {u : Unit} {r : (ByteArray × Unit) × Unit} (h : uq5 p u = some r) : p.1.length ≤ 140737488355328 ∧ (Lib.join (p.1.map (·.data.toList)) p.2.1.data.toList).length ≤ 140737488355328 ∧ r = ((⟨(Lib.join (p.1.map (·.data.toList)) p.2.1.data.toList).toArray⟩, ()), ()) := by
  unfold uq5 at h
  rw [Bool.cond_eq_ite] at h
  split at h
  case isFalse => cases h
  rename_i hs
  rw [Bool.and_eq_true] at hs
  exact ⟨Nat.le_of_ble_eq_true hs.1, Nat.le_of_ble_eq_true hs.2, (Option.some.inj h).symm⟩
def vq0 (E : Env) (f e : Nat) (run : List (E.S e) × ByteArray × Unit → Unit → Option ((ByteArray × Unit) × Unit)) : Con E := ⟨f, List (E.S e) × ByteArray × Unit, Unit, .cons (Rw.sl e) (.cons Rd.str.w .nil), .nil, 0, (ByteArray × Unit) × Unit, run, fun r => .v (.string r.1.1), fun _ => []⟩
theorem vj6 {f e : Nat} {run : List (E.S e) × ByteArray × Unit → Unit → Option ((ByteArray × Unit) × Unit)} {fn : Func} (hf : E.P.funcs[f]? = some fn) (hb : fn.body.isSome = true) (hnm : (fn.name == "runtime.NumGoroutine") = false)
    (toB : E.S e → ByteArray) (hc : ∀ x, E.cells e x = [.v (.string (toB x))]) (hz : E.P.cellsOf e = 1) (hr : ∀ p u, run p u = uq5 (p.1.map toB, p.2) u)
    (h0 : ∀ (a : Option Addr) (c : Nat) (sep : ByteArray) (w : World), Calls E.P f #[.slice a 0 c, .string sep] w fun e w' => e = .returned (.string ⟨#[]⟩) ∧ w' = w)
    (h : ∀ (bk o c : Nat) (xs : List ByteArray) (sep : ByteArray) (w : World) (hcells : ∀ (j : Nat) x, xs[j]? = some x → w.cell? ⟨bk, o + j, none⟩ = some (.string x)) (hbk : bk < w.heap.size) (hN : xs.length ≤ 140737488355328) (hcap : xs.length ≤ c) (hlen : (Lib.join (xs.map (·.data.toList)) sep.data.toList).length ≤ 140737488355328),
      Calls E.P f #[.slice (some ⟨bk, o, none⟩) xs.length c, .string sep] w fun e w' => e = .returned (.string ⟨(Lib.join (xs.map (·.data.toList)) sep.data.toList).toArray⟩) ∧ Below w.heap.size w w') : (vq0 E f e run).Ok := by
  intro a b r h1
  obtain ⟨l, s, u⟩ := a
  have h1 : run (l, s, u) b = some r := h1
  obtain ⟨ha, hb2, rfl⟩ := u20 ((hr _ _).symm.trans h1)
  refine uk8 hf hb hnm fun w G L0 vs hg => ?_
  obtain ⟨x, y, rfl, hx, hy⟩ := hg.args.two
  obtain rfl := hy.v_inv
  have hx : Rep E w G L0 [].length (.sl e l false) x := hx
  cases hl : l with
  | nil =>
    subst hl
    obtain ⟨ad, k, rfl⟩ : ∃ ad k, x = .slice ad 0 k := by
      generalize hq : AV.sl e ([] : List (E.S e)) false = q at hx
      cases hx <;> first | (cases hq; done) | skip
      case sn => exact ⟨_, _, rfl⟩
      case se => exact ⟨_, _, rfl⟩
      case sl =>
        cases hq
        exact ⟨_, _, rfl⟩
    refine (h0 ad k s w).mono ?_
    rintro e w' ⟨rfl, rfl⟩
    exact ⟨_, rfl, fun L => .v _ rfl, Below.refl _ _⟩
  | cons x0 xs =>
    have hne : l ≠ [] := by rw [hl]; exact List.cons_ne_nil _ _
    rw [← hl]
    generalize hq : AV.sl e l false = q at hx
    cases hx <;> first | (cases hq; done) | skip
    case sn => cases hq; exact absurd rfl hne
    case se => cases hq; exact absurd rfl hne
    case sl e' l' f' bk off cap vals hcap hf' h1 h2 =>
      cases hq
      have hcell : ∀ (j : Nat) x, (l.map toB)[j]? = some x → w.cell? ⟨bk, off + j, none⟩ = some (.string x) := by
        intro j x hj
        rw [List.getElem?_map] at hj
        obtain ⟨y, hy, rfl⟩ := Option.map_eq_some_iff.1 hj
        have c1 := (h1 j y 0 (.v (.string (toB y))) hy (by rw [hc]; rfl)).2
        have c2 := h2 j y 0 (.v (.string (toB y))) hy (by rw [hc]; rfl)
        have c3 := c2.v_inv
        rw [c3, hz, Nat.mul_one] at c1
        exact c1
      have hlt : bk < w.heap.size := World.block_lt_of_cell? w _ (hcell 0 (toB x0) (by rw [hl]; rfl))
      have := h bk off cap (l.map toB) s w hcell hlt ha (by simpa using hcap) hb2
      rw [List.length_map] at this
      refine this.mono ?_
      rintro e w' ⟨rfl, hbel⟩
      exact ⟨_, rfl, fun L => .v _ rfl, hbel⟩
end
end Go.Proofs.YtaennkkcnhfglaaGreatDoor.Ev
