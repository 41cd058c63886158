/- A part of the proof. -/
import Derived.Test.YtjededkgblbamaaGreatDoorIEvShelf
import Derived.Shelf.Strings.Split
set_option linter.unusedVariables false
namespace Go.Proofs.YtjededkgblbamaaGreatDoor.Ev
open Go.Shelf Go.Proofs Go.RowKit
noncomputable section
variable {E : Env}
set_option maxHeartbeats 1000000 in
theorem strings_Index_one {P : Program} {ρ : Ren} (L : Lays.n143 P ρ) (s : ByteArray) (c : UInt8) (w : World) :
    Calls P (ρ.f 143) #[.string s, .string ⟨#[c]⟩] w fun e w' => e = .returned (.int .i64 (Lib.indexByte s.data.toList c)) ∧ w' = w := by
  have t3 := L.t3; have t9 := L.t9
  have a3 : ∀ w, (isAgg (ρ.t 3)).run P w = .ok false w := run_isAgg_plain L.t3 rfl; have a9 : ∀ w, (isAgg (ρ.t 9)).run P w = .ok false w := run_isAgg_plain L.t9 rfl
  have e219 : ∀ args w, (callFunc (ρ.f 219) args).run P w = .ok (.enter (ρ.f 219) args) w := enters_of L.f219 (by kernel_rfl) rfl
  have mixed := L.mixed; have z3 := L.z3; have v3 := L.v3; have z9 := L.z9; have v9 := L.v9
  go_enter L.f143, Body.n143_ntmps ρ
  go_wp2_with (go_at_fn (ρ.f 219); refine (Any.stringslite_Index_one { L with } _ _ _).mono ?_; rintro e w' ⟨rfl, rfl⟩)
  go_ret
  exact ⟨rfl, rfl⟩
theorem uD2 {P : Program} {ρ : Ren} (L : Lays.n221 P ρ) (hi9 : (P.info? (ρ.t 9)).map (fun i => (i.zero, i.size, i.bytes)) = some (some (.string ByteArray.empty), 1, 16)) (s : ByteArray) (c : UInt8) (sv : Nat) (n : Int) (N : Nat) (w : World)
    (hs : s.size < 4294967281) (hsv : sv ≤ 1)
    (hn0 : n ≠ 0) (hn63 : n ≤ 9223372036854775807) (hN : (N : Int) = min (if n < 0 then (Lib.countB s ⟨#[c]⟩ : Int) + 1 else n) ((s.size : Int) + 1)) :
    Calls P (ρ.f 221) #[.string s, .string ⟨#[c]⟩, .int .i64 sv, .int .i64 n] w fun e w' =>
      e = .returned (.slice (some ⟨w.heap.size, 0, none⟩) (Lib.splitB ⟨#[c]⟩ sv (N - 1) s).length N) ∧ w' = w.alloc (.cells (Lib.cellsOf (Lib.splitB ⟨#[c]⟩ sv (N - 1) s) N) (ρ.t 9)) :=
  Any.strings_genSplit_core L hi9 s ⟨#[c]⟩ sv n N w hs (Nat.le_refl 1) hsv
    (fun x a hx => by
      refine (strings_Index_one { L with } x c _).mono fun e w' ⟨he, hw⟩ => ⟨?_, hw⟩
      rw [he]
      show _ = Ending.returned (Value.int .i64 (Lib.index x.data.toList [c]))
      rw [Lib.index_one])
    (by
      refine (Any.strings_Count_one { L with } s c w).mono fun e w' ⟨he, hw⟩ => ⟨?_, hw⟩
      rw [he]
      show _ = Ending.returned (Value.int .i64 ((Lib.count s.data.toList [c] : Nat) : Int))
      rw [Lib.count_one]
      rfl) hn0 hn63 hN
set_option maxHeartbeats 1000000 in
theorem uO1 {P : Program} {ρ : Ren} (L : Lays.n146 P ρ) (hi9 : (P.info? (ρ.t 9)).map (fun i => (i.zero, i.size, i.bytes)) = some (some (.string ByteArray.empty), 1, 16)) (s : ByteArray) (c : UInt8) (w : World) (hs : s.size < 4294967281) :
    Calls P (ρ.f 146) #[.string s, .string ⟨#[c]⟩] w fun e w' =>
      e = .returned (.slice (some ⟨w.heap.size, 0, none⟩) (Lib.countB s ⟨#[c]⟩ + 1) (Lib.countB s ⟨#[c]⟩ + 1)) ∧ w' = w.alloc (.cells ((Lib.splitB ⟨#[c]⟩ 0 (Lib.countB s ⟨#[c]⟩) s).map Value.string).toArray (ρ.t 9)) := by
  have hle := Lib.countB_le ⟨#[c]⟩ (Nat.le_refl 1) s.size s (Nat.le_refl _)
  have hlen := Lib.splitB_all ⟨#[c]⟩ (Nat.le_refl 1) 0 _ s rfl
  have h := uD2 { L with } hi9 s c 0 (-1) (Lib.countB s ⟨#[c]⟩ + 1) w hs (Nat.zero_le _) (by decide) (by decide) (by rw [if_pos (by decide)]; omega)
  rw [Nat.add_sub_cancel, hlen] at h
  have e2 : Lib.cellsOf (Lib.splitB ⟨#[c]⟩ 0 (Lib.countB s ⟨#[c]⟩) s) (Lib.countB s ⟨#[c]⟩ + 1) = ((Lib.splitB ⟨#[c]⟩ 0 (Lib.countB s ⟨#[c]⟩) s).map Value.string).toArray := by rw [← hlen]; exact Lib.cellsOf_full _
  rw [e2] at h
  have t3 := L.t3; have t9 := L.t9; have t31 := L.t31
  have a3 := L.a3; have a9 := L.a9; have a31 := L.a31
  have z3 := L.z3; have v3 := L.v3; have z9 := L.z9; have v9 := L.v9; have z31 := L.z31; have v31 := L.v31
  have e221 : ∀ args w, (callFunc (ρ.f 221) args).run P w = .ok (.enter (ρ.f 221) args) w := enters_of L.f221 (by kernel_rfl) rfl
  go_enter L.f146, Body.n146_ntmps ρ
  go_wp2_with (go_at_fn (ρ.f 221); refine h.mono ?_; rintro e w' ⟨rfl, hw⟩; rw [hw])
  go_ret
  exact ⟨rfl, rfl⟩
def vl5 (p : ByteArray × ByteArray × Unit) (_ : Unit) : Option ((List ByteArray × Unit) × Unit) :=
  match p.2.1.data.toList with
  | [c] => bif Nat.blt p.1.size 4294967281 then some ((Lib.splitB p.2.1 0 (Lib.countB p.1 p.2.1) p.1, ()), ()) else none
  | _ => none
def vX8 (E : Env) (f e : Nat) (run : ByteArray × ByteArray × Unit → Unit → Option ((List (E.S e) × Unit) × Unit)) : Con E := ⟨f, ByteArray × ByteArray × Unit, Unit, .cons Rd.str.w (.cons Rd.str.w .nil), .nil, 0, (List (E.S e) × Unit) × Unit, run, fun r => .sl e r.1.1 true, fun _ => []⟩
theorem vJ6 {ρ : Ren} (L : Lays.n146 E.P ρ) {f e : Nat} (hρ : ρ.f 146 = f) (hi9 : (E.P.info? (ρ.t 9)).map (fun i => (i.zero, i.size, i.bytes)) = some (some (.string ByteArray.empty), 1, 16)) {run : ByteArray × ByteArray × Unit → Unit → Option ((List (E.S e) × Unit) × Unit)} {fn : Func} (hf : E.P.funcs[f]? = some fn) (hb : fn.body.isSome = true) (hnm : (fn.name == "runtime.NumGoroutine") = false)
    (ofB : ByteArray → E.S e) (hc : ∀ s, E.cells e (ofB s) = [.v (.string s)]) (hz : E.P.cellsOf e = 1)
    (hr : ∀ p u r, run p u = some r → ∃ l, vl5 p u = some ((l, ()), ()) ∧ r = ((l.map ofB, ()), ())) : (vX8 E f e run).Ok := by
  intro a b r h1
  obtain ⟨s, sep, u⟩ := a
  have h1 : run (s, sep, u) b = some r := h1
  obtain ⟨l, h2, rfl⟩ := hr _ _ _ h1
  unfold vl5 at h2
  simp only at h2
  split at h2
  case h_2 => cases h2
  rename_i c hcs
  rw [Bool.cond_eq_ite] at h2
  split at h2
  case isFalse => cases h2
  rename_i hs
  have hs : s.size < 4294967281 := Nat.le_of_ble_eq_true hs
  have he : sep = ⟨#[c]⟩ := by
    obtain ⟨⟨l⟩⟩ := sep
    have : l = [c] := hcs
    rw [this]
  subst he
  have hl : l = Lib.splitB ⟨#[c]⟩ 0 (Lib.countB s ⟨#[c]⟩) s := by
    have := Option.some.inj h2
    exact (Prod.mk.inj (Prod.mk.inj this).1).1.symm
  have hlen : l.length = Lib.countB s ⟨#[c]⟩ + 1 := by rw [hl]; exact Lib.splitB_all ⟨#[c]⟩ (Nat.le_refl 1) 0 _ s rfl
  refine ue8 hf hb hnm fun w G L0 vs hg => ?_
  obtain ⟨x, y, rfl, hx, hy⟩ := hg.args.two
  obtain rfl := hx.v_inv
  obtain rfl := hy.v_inv
  rw [← hρ]
  refine (uO1 L hi9 s c w hs).mono ?_
  rintro e' w' ⟨rfl, hw⟩
  have hbel : Below w.heap.size w w' := by rw [hw]; exact (Below.refl _ _).alloc (Nat.le_refl _) _
  refine ⟨_, rfl, fun L1 => ?_, hbel⟩
  rw [← hl] at hw
  rw [← hlen]
  have hG : G w.heap.size = none := by
    cases hg' : G w.heap.size with
    | none => rfl
    | some p => exact absurd (hg.own _ p.1 p.2 hg').1 (Nat.lt_irrefl _)
  have hlm : (l.map ofB).length = l.length := List.length_map ..
  show Rep E w' G L1 0 (.sl e (l.map ofB) true) _
  rw [← hlm]
  refine .sl e (l.map ofB) true w.heap.size 0 (l.map ofB).length (fun j => .string (l.getD j ⟨#[]⟩)) (Nat.le_refl _) (fun _ => rfl) (fun i x j cc hi hj => ⟨Imm.none hG, ?_⟩) (fun i x j cc hi hj => ?_)
  · rw [List.getElem?_map] at hi
    obtain ⟨y, hy, rfl⟩ := Option.map_eq_some_iff.1 hi
    rw [hc] at hj
    have hj0 : j = 0 := by
      have := (List.getElem?_eq_some_iff.1 hj).1
      simp at this; omega
    subst hj0
    rw [hz, hw]
    have := World.cell?_alloc_new (w := w) (l.map Value.string).toArray (ρ.t 9) i
    rw [show 0 + i * 1 + 0 = i by omega]
    rw [this]
    simp [hy]
  · rw [List.getElem?_map] at hi
    obtain ⟨y, hy, rfl⟩ := Option.map_eq_some_iff.1 hi
    rw [hc] at hj
    have hj0 : j = 0 := by
      have := (List.getElem?_eq_some_iff.1 hj).1
      simp at this; omega
    subst hj0
    obtain rfl : .v (.string y) = cc := by simpa using hj
    rw [hz, show 0 + i * 1 + 0 = i by omega]
    have : l.getD i ⟨#[]⟩ = y := by simp [List.getD, hy]
    rw [this]
    exact .v _ rfl
end
end Go.Proofs.YtjededkgblbamaaGreatDoor.Ev
