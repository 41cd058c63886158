/- A part of the proof. -/
import Derived.Test.YtaennkkcnhfglaaGreatDoorAEvLib
import Derived.Shelf.Strconv.AtoiAll
import Derived.Lib.LaidTab
import Derived.Shelf.Strconv.Itoa4
import Derived.Lib.Join
import Derived.Lib.Repeat
set_option linter.unusedVariables false
namespace Go.Proofs.YtaennkkcnhfglaaGreatDoor.Ev
open Go.Shelf Go.Proofs Go.RowKit
noncomputable section
variable {E : Env}
theorem uh1 {f : Nat} {fn : Func} (hf : E.P.funcs[f]? = some fn) (hb : fn.body.isSome = true) (hnm : (fn.name == "runtime.NumGoroutine") = false) {xs : List (AV E.S)} {y : AV E.S}
    (h : ∀ (w : World) (G : Gh) (L0 : Nat → Value) (vs : List Value), wV2 E w G L0 [] xs vs → Calls E.P f vs.toArray w fun e w' => ∃ v, e = .returned v ∧ (∀ L, Rep E w' G L 0 y v) ∧ Below w.heap.size w w') : FnOk E f xs [] 0 y [] := by
  intro w G L0 vs hg
  refine ⟨.enter f vs.toArray, w, ?_, .inl ⟨rfl, ?_⟩⟩
  · unfold callFunc
    have hnm' : ¬ fn.name = "runtime.NumGoroutine" := by simpa using hnm
    obtain ⟨c, hc⟩ := Option.isSome_iff_exists.1 hb
    simp [hf, hnm', hc]
  · refine (h w G L0 vs hg).mono ?_
    rintro e w' ⟨v, rfl, hr, hbel⟩
    refine ⟨v, rfl, G, L0, ⟨⟨hbel.os, hbel.tape, hbel.output, hbel.size, fun b hb _ => ⟨hbel.block b hb, rfl⟩, fun b o v hi hc => ⟨hi, uc0 hbel hc⟩⟩, fun b c u hgb => ⟨Nat.lt_of_lt_of_le (hg.own b c u hgb).1 hbel.size, (hg.own b c u hgb).2⟩, hr L0, fun k x hk => by simp at hk, fun k hk => by simp at hk⟩, Nat.le_refl _, fun i hi => by omega⟩
theorem uM9.one {w : World} {G : Gh} {L : Nat → Value} {n : Nat} {x : AV E.S} {vs : List Value} (h : uM9 E w G L n [x] vs) : ∃ u, vs = [u] ∧ Rep E w G L n x u := by
  match vs, h.len with
  | [u], _ => exact ⟨u, rfl, h.rep 0 x u rfl rfl⟩
theorem Rep.pair {w : World} {G : Gh} {L : Nat → Value} {n : Nat} {x y : AV E.S} {u v : Value} (hx : Rep E w G L n x u) (hy : Rep E w G L n y v) : Rep E w G L n (.tup [x, y]) (.tuple #[u, v]) := by
  refine .tup [x, y] [u, v] rfl fun i a b ha hb => ?_
  match i with
  | 0 => simp at ha hb; subst ha hb; exact hx
  | 1 => simp at ha hb; subst ha hb; exact hy
  | i + 2 => simp at ha
theorem wj2 {w : World} {G : Gh} {L : Nat → Value} {n g e : Nat} {x : E.S e} (hc : E.cells e x = [.er true]) (h : Rep E w G L n (.el e x 0) (.pointer (some ⟨g, 0, none⟩))) : ∃ t p, w.cell? ⟨g, 0, none⟩ = some (.iface t p) := by
  generalize hq : Value.pointer (some ⟨g, 0, none⟩) = q at h
  cases h with
  | el _ _ o b off vals h1 h2 =>
    simp only [Value.pointer.injEq, Option.some.injEq, Addr.mk.injEq, and_true] at hq
    obtain ⟨rfl, h0⟩ := hq
    obtain rfl : off = 0 := by omega
    have a := (h1 0 (.er true) (by rw [hc]; rfl)).2
    have b := h2 0 (.er true) (by rw [hc]; rfl)
    generalize vals (0 + 0) = u at a b
    cases b with
    | er1 t p => exact ⟨t, p, a⟩
def vm2 (s : ByteArray) : Int × Bool :=
  match Lib.atoiAll s.data.toList with
  | .ok v => (v, false)
  | .syntax => (0, true)
  | .range => (Lib.atoiSat s.data.toList, true)
def xR0 (p : ByteArray × Unit) (_ : Unit) : Option ((Int × Bool × Unit) × Unit) := bif Nat.ble p.1.size 281474976710656 then some (((vm2 p.1).1, (vm2 p.1).2, ()), ()) else none
def vw5 (E : Env) (f : Nat) : Con E := ⟨f, ByteArray × Unit, Unit, .cons Rd.str.w .nil, .nil, 0, (Int × Bool × Unit) × Unit, xR0, fun r => .tup [.v (.int .i64 r.1.1), .er r.1.2.1], fun _ => []⟩
theorem xY3 {ρ : Ren} (L : LaysC.n172 E.P ρ) {f g15 g16 : Nat} (hρ : ρ.f 172 = f) (h15 : ρ.g 15 = g15) (h16 : ρ.g 16 = g16) {fn : Func} (hf : E.P.funcs[f]? = some fn) (hb : fn.body.isSome = true) (hnm : (fn.name == "runtime.NumGoroutine") = false)
    {e : Nat} {x15 x16 : E.S e} (hg15 : E.glob g15 = some (.el e x15 0)) (hg16 : E.glob g16 = some (.el e x16 0)) (hc15 : E.cells e x15 = [.er true]) (hc16 : E.cells e x16 = [.er true]) : (vw5 E f).Ok := by
  intro a b r h
  obtain ⟨s, u⟩ := a
  have h : (bif Nat.ble s.size 281474976710656 then some (((vm2 s).1, (vm2 s).2, ()), ()) else none) = some r := h
  rw [Bool.cond_eq_ite] at h
  split at h
  case isFalse => cases h
  rename_i hs
  have hs : s.size ≤ 281474976710656 := Nat.le_of_ble_eq_true hs
  obtain rfl := Option.some.inj h
  refine uh1 hf hb hnm fun w G L0 vs hg => ?_
  obtain ⟨v, rfl, hv⟩ := hg.args.one
  obtain rfl := hv.v_inv
  obtain ⟨t15, p15, c15⟩ := wj2 hc15 (hg.glob g15 _ hg15)
  obtain ⟨t16, p16, c16⟩ := wj2 hc16 (hg.glob g16 _ hg16)
  rw [← hρ]
  show Calls E.P (ρ.f 172) #[.string s] w _
  cases ha : Lib.atoiAll s.data.toList with
  | ok n =>
    refine (Any.strconv_Atoi_ok L s (by omega) n ha w).mono ?_
    rintro e w' ⟨rfl, hw⟩
    refine ⟨_, rfl, fun L => ?_, ?_⟩
    · have : vm2 s = (n, false) := by unfold vm2; rw [ha]
      simp only [vw5, this]
      exact .pair (.v _ rfl) .er0
    · rcases hw with rfl | ⟨t, rfl⟩
      · exact Below.refl _ _
      · exact Lib.bytesWorld_below w _ t
  | «syntax» =>
    refine (Any.strconv_Atoi_syntax L s hs ha _ w (by rw [h15]; exact c15) (.inr ⟨_, _, rfl⟩)).mono ?_
    rintro e w' ⟨N, rfl, _, _, hbel⟩
    refine ⟨_, rfl, fun L => ?_, hbel⟩
    have : vm2 s = (0, true) := by unfold vm2; rw [ha]
    simp only [vw5, this]
    exact .pair (.v _ rfl) (.er1 _ _)
  | range =>
    refine (Any.strconv_Atoi_range L s hs ha _ w (by rw [h16]; exact c16) (.inr ⟨_, _, rfl⟩)).mono ?_
    rintro e w' ⟨N, rfl, _, _, hbel⟩
    refine ⟨_, rfl, fun L => ?_, hbel⟩
    have : vm2 s = (Lib.atoiSat s.data.toList, true) := by unfold vm2; rw [ha]
    simp only [vw5, this]
    exact .pair (.v _ rfl) (.er1 _ _)
def u85 (p : Int × Unit) (_ : Unit) : Option ((ByteArray × Unit) × Unit) := if -9223372036854775808 ≤ p.1 ∧ p.1 ≤ 9223372036854775807 then some ((⟨(Lib.itoa p.1).toArray⟩, ()), ()) else none
def wX4 (E : Env) (f : Nat) : Con E := ⟨f, Int × Unit, Unit, .cons (Rd.int .i64).w .nil, .nil, 0, (ByteArray × Unit) × Unit, u85, fun r => .v (.string r.1.1), fun _ => []⟩
theorem wA2 {f : Nat} {fn : Func} (hf : E.P.funcs[f]? = some fn) (hb : fn.body.isSome = true) (hnm : (fn.name == "runtime.NumGoroutine") = false)
    {g : Nat} {nm : String} (hh : E.held g = some (nm, (Lib.pow10Tab.map fun z => Value.int .u64 z).toArray))
    (h : ∀ (n : Int) (w : World), -9223372036854775808 ≤ n → n ≤ 9223372036854775807 → Lib.TabIs E.P w nm .u64 Lib.pow10Tab →
      Calls E.P f #[.int .i64 n] w fun e w' => e = .returned (.string ⟨(Lib.itoa n).toArray⟩) ∧ ∃ k os, w' = Go.Sort.grow (w.drewN k) os) : (wX4 E f).Ok := by
  intro a b r hr
  obtain ⟨n, u⟩ := a
  have hr : (if -9223372036854775808 ≤ n ∧ n ≤ 9223372036854775807 then some ((⟨(Lib.itoa n).toArray⟩, ()), ()) else none) = some r := hr
  split at hr
  case isFalse => cases hr
  rename_i hn
  obtain rfl := Option.some.inj hr
  refine uh1 hf hb hnm fun w G L0 vs hg => ?_
  obtain ⟨x, rfl, hx⟩ := hg.args.one
  obtain rfl := hx.v_inv
  refine (h n w hn.1 hn.2 (hg.held g _ _ hh).2.1).mono ?_
  rintro e w' ⟨rfl, k, os, rfl⟩
  refine ⟨_, rfl, fun L => .v _ rfl, rfl, rfl, rfl, by simp, fun j hj => ?_⟩
  show (w.heap ++ os)[j]? = w.heap[j]?
  rw [Array.getElem?_append_left hj]
def x41 (F : List UInt8 → UInt8 → Int) (p : ByteArray × ByteArray × Unit) (_ : Unit) : Option ((Int × Unit) × Unit) :=
  match p.2.1.data.toList with
  | [c] => some ((F p.1.data.toList c, ()), ())
  | _ => none
def x27 (E : Env) (f : Nat) (F : List UInt8 → UInt8 → Int) : Con E := ⟨f, ByteArray × ByteArray × Unit, Unit, .cons Rd.str.w (.cons Rd.str.w .nil), .nil, 0, (Int × Unit) × Unit, x41 F, fun r => .v (.int .i64 r.1.1), fun _ => []⟩
theorem x28 {f : Nat} {F : List UInt8 → UInt8 → Int} {fn : Func} (hf : E.P.funcs[f]? = some fn) (hb : fn.body.isSome = true) (hnm : (fn.name == "runtime.NumGoroutine") = false)
    (h : ∀ (s : ByteArray) (c : UInt8) (w : World), Calls E.P f #[.string s, .string ⟨#[c]⟩] w fun e w' => e = .returned (.int .i64 (F s.data.toList c)) ∧ w' = w) : (x27 E f F).Ok := by
  intro a b r hr
  obtain ⟨s, sub, u⟩ := a
  have hr : (match sub.data.toList with | [c] => some ((F s.data.toList c, ()), ()) | _ => none) = some r := hr
  split at hr
  case h_2 => cases hr
  rename_i c hc
  obtain rfl := Option.some.inj hr
  refine uh1 hf hb hnm fun w G L0 vs hg => ?_
  obtain ⟨x, y, rfl, hx, hy⟩ := hg.args.two
  obtain rfl := hx.v_inv
  obtain rfl := hy.v_inv
  have he : sub = ⟨#[c]⟩ := by
    obtain ⟨⟨l⟩⟩ := sub
    have : l = [c] := hc
    rw [this]
  rw [he]
  refine (h s c w).mono ?_
  rintro e w' ⟨rfl, rfl⟩
  exact ⟨_, rfl, fun L => .v _ rfl, Below.refl _ _⟩
def xR1 (F : ByteArray → Int → Int) (p : ByteArray × Int × Unit) (_ : Unit) : Option ((Int × Unit) × Unit) := bif Nat.blt p.1.size 4611686018427387904 then some ((F p.1 p.2.1, ()), ()) else none
def xR3 (E : Env) (f : Nat) (F : ByteArray → Int → Int) : Con E := ⟨f, ByteArray × Int × Unit, Unit, .cons Rd.str.w (.cons (Rd.int .u8).w .nil), .nil, 0, (Int × Unit) × Unit, xR1 F, fun r => .v (.int .i64 r.1.1), fun _ => []⟩
theorem xY4 {f : Nat} {F : ByteArray → Int → Int} {fn : Func} (hf : E.P.funcs[f]? = some fn) (hb : fn.body.isSome = true) (hnm : (fn.name == "runtime.NumGoroutine") = false)
    (h : ∀ (s : ByteArray) (c : Int) (w : World), s.size < 4611686018427387904 → Calls E.P f #[.string s, .int .u8 c] w fun e w' => e = .returned (.int .i64 (F s c)) ∧ w' = w) : (xR3 E f F).Ok := by
  intro a b r hr
  obtain ⟨s, c, u⟩ := a
  have hr : (bif Nat.blt s.size 4611686018427387904 then some ((F s c, ()), ()) else none) = some r := hr
  rw [Bool.cond_eq_ite] at hr
  split at hr
  case isFalse => cases hr
  rename_i hs
  obtain rfl := Option.some.inj hr
  refine uh1 hf hb hnm fun w G L0 vs hg => ?_
  obtain ⟨x, y, rfl, hx, hy⟩ := hg.args.two
  obtain rfl := hx.v_inv
  obtain rfl := hy.v_inv
  refine (h s c w (Nat.le_of_ble_eq_true hs)).mono ?_
  rintro e w' ⟨rfl, rfl⟩
  exact ⟨_, rfl, fun L => .v _ rfl, Below.refl _ _⟩
def uN9 (p : List ByteArray × ByteArray × Unit) (_ : Unit) : Option ((ByteArray × Unit) × Unit) := bif Nat.ble p.1.length 140737488355328 && Nat.ble (Lib.join (p.1.map (·.data.toList)) p.2.1.data.toList).length 140737488355328 then some ((⟨(Lib.join (p.1.map (·.data.toList)) p.2.1.data.toList).toArray⟩, ()), ()) else none
theorem vH4 {p : List ByteArray × ByteArray × Unit} {u : Unit} {r : (ByteArray × Unit) × Unit} (h : uN9 p u = some r) : p.1.length ≤ 140737488355328 ∧ (Lib.join (p.1.map (·.data.toList)) p.2.1.data.toList).length ≤ 140737488355328 ∧ r = ((⟨(Lib.join (p.1.map (·.data.toList)) p.2.1.data.toList).toArray⟩, ()), ()) := by
  unfold uN9 at h
  rw [Bool.cond_eq_ite] at h
  split at h
  case isFalse => cases h
  rename_i hs
  rw [Bool.and_eq_true] at hs
  exact ⟨Nat.le_of_ble_eq_true hs.1, Nat.le_of_ble_eq_true hs.2, (Option.some.inj h).symm⟩
def wX5 (E : Env) (f e : Nat) (run : List (E.S e) × ByteArray × Unit → Unit → Option ((ByteArray × Unit) × Unit)) : Con E := ⟨f, List (E.S e) × ByteArray × Unit, Unit, .cons (Rw.sl e) (.cons Rd.str.w .nil), .nil, 0, (ByteArray × Unit) × Unit, run, fun r => .v (.string r.1.1), fun _ => []⟩
theorem wA3 {f e : Nat} {run : List (E.S e) × ByteArray × Unit → Unit → Option ((ByteArray × Unit) × Unit)} {fn : Func} (hf : E.P.funcs[f]? = some fn) (hb : fn.body.isSome = true) (hnm : (fn.name == "runtime.NumGoroutine") = false)
    (toB : E.S e → ByteArray) (hc : ∀ x, E.cells e x = [.v (.string (toB x))]) (hz : E.P.cellsOf e = 1) (hr : ∀ p u, run p u = uN9 (p.1.map toB, p.2) u)
    (h0 : ∀ (a : Option Addr) (c : Nat) (sep : ByteArray) (w : World), Calls E.P f #[.slice a 0 c, .string sep] w fun e w' => e = .returned (.string ⟨#[]⟩) ∧ w' = w)
    (h : ∀ (bk o c : Nat) (xs : List ByteArray) (sep : ByteArray) (w : World) (hcells : ∀ (j : Nat) x, xs[j]? = some x → w.cell? ⟨bk, o + j, none⟩ = some (.string x)) (hbk : bk < w.heap.size) (hN : xs.length ≤ 140737488355328) (hcap : xs.length ≤ c) (hlen : (Lib.join (xs.map (·.data.toList)) sep.data.toList).length ≤ 140737488355328),
      Calls E.P f #[.slice (some ⟨bk, o, none⟩) xs.length c, .string sep] w fun e w' => e = .returned (.string ⟨(Lib.join (xs.map (·.data.toList)) sep.data.toList).toArray⟩) ∧ Below w.heap.size w w') : (wX5 E f e run).Ok := by
  intro a b r h1
  obtain ⟨l, s, u⟩ := a
  have h1 : run (l, s, u) b = some r := h1
  obtain ⟨ha, hb2, rfl⟩ := vH4 ((hr _ _).symm.trans h1)
  refine uh1 hf hb hnm fun w G L0 vs hg => ?_
  obtain ⟨x, y, rfl, hx, hy⟩ := hg.args.two
  obtain rfl := hy.v_inv
  have hx : Rep E w G L0 [].length (.sl e l false) x := hx
  cases hl : l with
  | nil =>
    subst hl
    obtain ⟨ad, k, rfl⟩ : ∃ ad k, x = .slice ad 0 k := by
      generalize hq : AV.sl e ([] : List (E.S e)) false = q at hx
      cases hx <;> first | (cases hq; done) | skip
      case sn => exact ⟨_, _, rfl⟩
      case se => exact ⟨_, _, rfl⟩
      case sl =>
        cases hq
        exact ⟨_, _, rfl⟩
    refine (h0 ad k s w).mono ?_
    rintro e w' ⟨rfl, rfl⟩
    exact ⟨_, rfl, fun L => .v _ rfl, Below.refl _ _⟩
  | cons x0 xs =>
    have hne : l ≠ [] := by rw [hl]; exact List.cons_ne_nil _ _
    rw [← hl]
    generalize hq : AV.sl e l false = q at hx
    cases hx <;> first | (cases hq; done) | skip
    case sn => cases hq; exact absurd rfl hne
    case se => cases hq; exact absurd rfl hne
    case sl e' l' f' bk off cap vals hcap hf' h1 h2 =>
      cases hq
      have hcell : ∀ (j : Nat) x, (l.map toB)[j]? = some x → w.cell? ⟨bk, off + j, none⟩ = some (.string x) := by
        intro j x hj
        rw [List.getElem?_map] at hj
        obtain ⟨y, hy, rfl⟩ := Option.map_eq_some_iff.1 hj
        have c1 := (h1 j y 0 (.v (.string (toB y))) hy (by rw [hc]; rfl)).2
        have c2 := h2 j y 0 (.v (.string (toB y))) hy (by rw [hc]; rfl)
        have c3 := c2.v_inv
        rw [c3, hz, Nat.mul_one] at c1
        exact c1
      have hlt : bk < w.heap.size := World.block_lt_of_cell? w _ (hcell 0 (toB x0) (by rw [hl]; rfl))
      have := h bk off cap (l.map toB) s w hcell hlt ha (by simpa using hcap) hb2
      rw [List.length_map] at this
      refine this.mono ?_
      rintro e w' ⟨rfl, hbel⟩
      exact ⟨_, rfl, fun L => .v _ rfl, hbel⟩
def w96 (p : ByteArray × Int × Unit) (_ : Unit) : Option ((ByteArray × Unit) × Unit) := bif decide (0 ≤ p.2.1) && (decide (p.2.1 ≤ 9223372036854775807) && Nat.ble (p.1.size * p.2.1.toNat) 140737488355328) then some ((⟨(Lib.repeatL p.1.data.toList p.2.1.toNat).toArray⟩, ()), ()) else none
def wX6 (E : Env) (f : Nat) : Con E := ⟨f, ByteArray × Int × Unit, Unit, .cons Rd.str.w (.cons (Rd.int .i64).w .nil), .nil, 0, (ByteArray × Unit) × Unit, w96, fun r => .v (.string r.1.1), fun _ => []⟩
theorem xG6 {f : Nat} {fn : Func} (hf : E.P.funcs[f]? = some fn) (hb : fn.body.isSome = true) (hnm : (fn.name == "runtime.NumGoroutine") = false)
    (h : ∀ (s : ByteArray) (c : Nat) (w : World) (hc : c ≤ 9223372036854775807) (hlen : s.size * c ≤ 140737488355328), Calls E.P f #[.string s, .int .i64 c] w fun e w' => e = .returned (.string ⟨(Lib.repeatL s.data.toList c).toArray⟩) ∧ Below w.heap.size w w') : (wX6 E f).Ok := by
  intro a b r hr
  obtain ⟨s, c, u⟩ := a
  have hr : (bif decide (0 ≤ c) && (decide (c ≤ 9223372036854775807) && Nat.ble (s.size * c.toNat) 140737488355328) then some ((⟨(Lib.repeatL s.data.toList c.toNat).toArray⟩, ()), ()) else none) = some r := hr
  rw [Bool.cond_eq_ite] at hr
  split at hr
  case isFalse => cases hr
  rename_i hs
  rw [Bool.and_eq_true, Bool.and_eq_true] at hs
  have hs1 := of_decide_eq_true hs.1
  have hs2 := of_decide_eq_true hs.2.1
  obtain rfl := Option.some.inj hr
  refine uh1 hf hb hnm fun w G L0 vs hg => ?_
  obtain ⟨x, y, rfl, hx, hy⟩ := hg.args.two
  obtain rfl := hx.v_inv
  obtain rfl := hy.v_inv
  have := h s c.toNat w (by omega) (Nat.le_of_ble_eq_true hs.2.2)
  rw [Int.toNat_of_nonneg hs1] at this
  refine this.mono ?_
  rintro e w' ⟨rfl, hbel⟩
  exact ⟨_, rfl, fun L => .v _ rfl, hbel⟩
def x32 (n b : Int) (r : Option ((ByteArray × Unit) × Unit)) : Option ((ByteArray × Unit) × Unit) := if b = 10 then u85 (n, ()) () else r
def x25 (E : Env) (f : Nat) (run : Int → Int → Option ((ByteArray × Unit) × Unit)) : Con E := ⟨f, Int × Int × Unit, Unit, .cons (Rd.int .i64).w (.cons (Rd.int .i64).w .nil), .nil, 0, (ByteArray × Unit) × Unit, fun a _ => x32 a.1 a.2.1 (run a.1 a.2.1), fun r => .v (.string r.1.1), fun _ => []⟩
theorem x26 {f : Nat} {run : Int → Int → Option ((ByteArray × Unit) × Unit)} {fn : Func} (hf : E.P.funcs[f]? = some fn) (hb : fn.body.isSome = true) (hnm : (fn.name == "runtime.NumGoroutine") = false)
    {g : Nat} {nm : String} (hh : E.held g = some (nm, (Lib.pow10Tab.map fun z => Value.int .u64 z).toArray))
    (h : ∀ (n : Int) (w : World), -9223372036854775808 ≤ n → n ≤ 9223372036854775807 → Lib.TabIs E.P w nm .u64 Lib.pow10Tab →
      Calls E.P f #[.int .i64 n, .int .i64 10] w fun e w' => e = .returned (.string ⟨(Lib.itoa n).toArray⟩) ∧ ∃ k os, w' = Go.Sort.grow (w.drewN k) os)
    (h1 : ∀ n b r, run n b = some r → FnOk E f [.v (.int .i64 n), .v (.int .i64 b)] [] 0 (.v (.string r.1.1)) []) : (x25 E f run).Ok := by
  intro a b r hr
  obtain ⟨n, bs, u⟩ := a
  have hr : (if bs = 10 then u85 (n, ()) () else run n bs) = some r := hr
  split at hr
  case isFalse => exact h1 n bs r hr
  rename_i hb10
  subst hb10
  have hr : (if -9223372036854775808 ≤ n ∧ n ≤ 9223372036854775807 then some ((⟨(Lib.itoa n).toArray⟩, ()), ()) else none) = some r := hr
  split at hr
  case isFalse => cases hr
  rename_i hn
  obtain rfl := Option.some.inj hr
  refine uh1 hf hb hnm fun w G L0 vs hg => ?_
  obtain ⟨x, y, rfl, hx, hy⟩ := hg.args.two
  obtain rfl := hx.v_inv
  obtain rfl := hy.v_inv
  refine (h n w hn.1 hn.2 (hg.held g _ _ hh).2.1).mono ?_
  rintro e w' ⟨rfl, k, os, rfl⟩
  refine ⟨_, rfl, fun L => .v _ rfl, rfl, rfl, rfl, by simp, fun j hj => ?_⟩
  show (w.heap ++ os)[j]? = w.heap[j]?
  rw [Array.getElem?_append_left hj]
end
end Go.Proofs.YtaennkkcnhfglaaGreatDoor.Ev
