/- A part of the evaluator and its proof. -/
import Derived.Test.YtfmkleeneddijaaGreatDoorOffSpec
import Derived.Test.YtfmkleeneddijaaGreatDoorEvShelf
import Derived.Test.YtfmkleeneddijaaGreatDoorShelf
import Derived.Test.YtfmkleeneddijaaGreatDoorChecked
set_option linter.unusedVariables false
namespace Go.Proofs.YtfmkleeneddijaaGreatDoor.Ev
open Go.Proofs
open Go.RowKit Go.Shelf Go.Proofs.YtfmkleeneddijaaGreatDoor.Ev
attribute [local go_sem] Oper.semAt_some

theorem textErr_calls (s : ByteArray) (w : World) : Calls Tryz.prog 25 #[.string s] w fun e w' => e = .returned (.int .i64 (if 60000 < s.size then 8 else 0)) ∧ w' = w := by
  go_enter Tryz.func25, Tryz.ntmps25
  go_wp2
  · go_ret; exact ⟨rfl, rfl⟩
  · go_ret; exact ⟨rfl, rfl⟩
theorem within_calls (n lo hi : Int) (w : World) : Calls Tryz.prog 32 #[.int .i64 n, .int .i64 lo, .int .i64 hi] w fun e w' => e = .returned (.bool (decide (lo ≤ n) && decide (n ≤ hi))) ∧ w' = w := by
  go_enter Tryz.func32, Tryz.ntmps32
  go_wp2
  · go_ret; rename_i h; exact ⟨by simp [h], rfl⟩
  · go_ret; rename_i h; exact ⟨by simp [show ¬ lo ≤ n by omega], rfl⟩
theorem split_calls (s : ByteArray) (w : World) : Calls Tryz.prog 89 #[.string s, .string ⟨#[10]⟩, .int .i64 1] w fun e w' =>
    e = .returned (.func (.func 109) #[] #[.pointer (some ⟨w.heap.size + 1, 0, none⟩), .pointer (some ⟨w.heap.size, 0, none⟩), .pointer (some ⟨w.heap.size + 1 + 1, 0, none⟩)]) ∧
    w' = ((w.alloc (.cells #[.string s] 9)).alloc (.cells #[.string ⟨#[10]⟩] 9)).alloc (.cells #[.int .i64 1] 3) := by
  go_enter Tryz.func89, Tryz.ntmps89
  go_wp2
  go_ret
  exact ⟨rfl, rfl⟩
theorem splitAfter_calls (s : ByteArray) (w : World) : Calls Tryz.prog 51 #[.string s, .string ⟨#[10]⟩] w fun e w' =>
    e = .returned (.func (.func 109) #[] #[.pointer (some ⟨w.heap.size + 1, 0, none⟩), .pointer (some ⟨w.heap.size, 0, none⟩), .pointer (some ⟨w.heap.size + 1 + 1, 0, none⟩)]) ∧
    w' = ((w.alloc (.cells #[.string s] 9)).alloc (.cells #[.string ⟨#[10]⟩] 9)).alloc (.cells #[.int .i64 1] 3) := by
  go_enter Tryz.func51, Tryz.ntmps51
  go_wp2_with (go_at_call 89; refine (split_calls _ _).mono ?_; rintro e w' ⟨rfl, rfl⟩)
  go_ret
  exact ⟨rfl, rfl⟩

theorem textErr_small (s : ByteArray) (hs : s.size ≤ 60000) (w : World) : Calls Tryz.prog 25 #[.string s] w fun e w' => e = .returned (.int .i64 0) ∧ w' = w := by
  refine (textErr_calls s w).mono ?_
  rintro e w' ⟨rfl, rfl⟩
  exact ⟨by rw [if_neg (by omega)], rfl⟩

theorem textErr_big (s : ByteArray) (hs : 60000 < s.size) (w : World) : Calls Tryz.prog 25 #[.string s] w fun e w' => e = .returned (.int .i64 8) ∧ w' = w := by
  refine (textErr_calls s w).mono ?_
  rintro e w' ⟨rfl, rfl⟩
  exact ⟨by rw [if_pos (by omega)], rfl⟩
set_option maxRecDepth 100000 in
set_option maxHeartbeats 2000000 in
/-- the lines, one after the other -/
theorem iter_calls {w : World} {p0 p1 : Int} {rec : LoopState → Option Code → Loop} (hround : ∀ from_ line s part W, part.size ≤ 60000 → OffW w p0 p1 rec .ready none 0 from_ line s W → YieldAt Fence.wide 7 Tryz.prog (w.heap.size + 1 + 1 + 1 + 1 + 1 + 1 + 1 + 1 + 1) #[.string part] W (offRound w p0 p1 rec from_ line s part))
    (s0 : ByteArray) (hs : s0.size ≤ 60000) (W : World) (h0 : OffW w p0 p1 rec .ready none 0 0 1 s0 W) :
    CallsIn Fence.wide 8 Tryz.prog 109 #[.func (.yield (w.heap.size + 1 + 1 + 1 + 1 + 1 + 1 + 1 + 1 + 1)) #[] #[], .pointer (some ⟨w.heap.size + 1 + 1 + 1 + 1 + 1 + 1, 0, none⟩), .pointer (some ⟨w.heap.size + 1 + 1 + 1 + 1 + 1, 0, none⟩), .pointer (some ⟨w.heap.size + 1 + 1 + 1 + 1 + 1 + 1 + 1, 0, none⟩)] W
      fun e W2 => (∃ v, e = .returned v) ∧ offDone w p0 p1 rec s0 W2 := by
  refine callsIn_of_wp Tryz.func109 rfl trivial ?_ rfl
  simp only [Tryz.ntmps109, List.size_toArray, List.length_cons, List.length_nil, Nat.reduceAdd, Nat.reduceSub, Array.replicate_succ, Array.replicate_zero, List.push_toArray, List.append_toArray, List.nil_append, List.cons_append]
  have hc6 := h0.c6
  gi_wp2
  gi_loopw [] (fun wr => ∃ k from_ line s, s.size < k ∧ s.size ≤ 60000 ∧ offGo p0 p1 k s from_ line = offGo p0 p1 (s0.size + 1) s0 0 1 ∧ OffW w p0 p1 rec .ready none 0 from_ line s wr) (fun wr => offLeft w wr)
  case atStart =>
    exact ⟨s0.size + 1, 0, 1, s0, Nat.lt_succ_self _, hs, rfl, h0⟩
  case round =>
    obtain ⟨k, from_, line, s, hk, hs1, hgo, h⟩ := hrel
    have g5 := h.c5
    have g6 := h.c6
    have g7 := h.c7
    have hidx : Lib.indexByte s.data.toList 10 < 0 ∨ (0 ≤ Lib.indexByte s.data.toList 10 ∧ Lib.indexByte s.data.toList 10 < (s.size : Int)) := by
      rcases Int.lt_or_le (Lib.indexByte s.data.toList 10) 0 with h | h
      · exact .inl h
      · exact .inr ⟨h, index_lt s h⟩
    match k, hk with
    | k + 1, hk =>
    rcases hidx with hneg | ⟨hpos, hlt⟩
    · have hp : offPart s = s := by unfold offPart; rw [if_pos hneg]
      obtain ⟨fn, tmps, assign, body, hy, hR⟩ := hround from_ line s s wr hs1 h
      gi_wp2_with (refine ⟨trivial, ?_⟩; gi_at_call 111; refine (callsIn_wide.2 (Tryz.strings_Index_one s 10 _)).mono ?_; rintro e w' ⟨rfl, rfl⟩)
      refine hR.mono ?_
      rintro e W' (⟨hh, rfl, hW⟩ | ⟨hh, rfl, hW⟩)
      · gi_wp2
        go_end0
        refine ⟨⟨_, rfl⟩, .inl ⟨_, _, _, _, hgo.symm.trans ?_, hW⟩⟩
        unfold offGo
        rw [hp, if_pos hh]
      · gi_wp2
        go_end0
        refine ⟨⟨_, rfl⟩, .inr ⟨_, _, _, hgo.symm.trans ?_, hW⟩⟩
        unfold offGo
        rw [hp, if_neg (by rw [hh]; decide), if_pos hneg]
    · have hp : offPart s = s.extract 0 (Lib.indexByte s.data.toList 10 + 1).toNat := by unfold offPart; rw [if_neg (by omega)]
      have hb : 0 ≤ wrap64 (Lib.indexByte s.data.toList 10 + 1) ∧ wrap64 (Lib.indexByte s.data.toList 10 + 1) ≤ (s.size : Int) := by unfold wrap64; omega
      obtain ⟨fn, tmps, assign, body, hy, hR⟩ := hround from_ line s (s.extract 0 (Lib.indexByte s.data.toList 10 + 1).toNat) wr (by rw [ByteArray.size_extract]; omega) h
      gi_wp2_with (refine ⟨trivial, ?_⟩; gi_at_call 111; refine (callsIn_wide.2 (Tryz.strings_Index_one s 10 _)).mono ?_; rintro e w' ⟨rfl, rfl⟩)
      refine hR.mono ?_
      rintro e W' (⟨hh, rfl, hW⟩ | ⟨hh, rfl, hW⟩)
      · gi_wp2
        refine bodyPost_ret (results_none rfl _ _ _) rfl ?_
        refine ⟨⟨_, rfl⟩, .inl ⟨_, _, _, _, hgo.symm.trans ?_, hW⟩⟩
        unfold offGo
        rw [hp, if_pos hh]
      · have g5' := hW.c5
        have g6' := hW.c6
        have f5' := hW.f5
        gi_wp2
        go_roundw
        case rel =>
          refine ⟨k, _, _, _, ?_, ?_, ?_, hW.setText _⟩
          · rw [ByteArray.size_extract]; omega
          · rw [ByteArray.size_extract]; omega
          · rw [← hgo]
            conv => rhs; unfold offGo
            rw [hp, if_neg (by rw [hh]; decide), if_neg (by omega)]
        case measure =>
          rw [offLeft_eq (hW.setText _), offLeft_eq h, ByteArray.size_extract]; omega

set_option maxRecDepth 100000 in
set_option maxHeartbeats 2000000 in
theorem offset_calls (s : ByteArray) (p0 p1 : Int) (w : World) (hs : s.size ≤ 60000) : CallsIn Fence.wide 9 Tryz.prog 23 #[.string s, .agg #[.int .i64 p0, .int .i64 p1]] w fun e w' =>
    e = .returned (.tuple #[.int .i64 (offVal (offGo p0 p1 (s.size + 1) s 0 1)), .int .i64 (offErr (offGo p0 p1 (s.size + 1) s 0 1))]) ∧ Below w.heap.size w w' := by
  refine callsIn_of_wp_marks Tryz.func23 rfl trivial ?_ rfl
  simp only [Tryz.ntmps23, List.size_toArray, List.length_cons, List.length_nil, Nat.reduceAdd, Nat.reduceSub, Array.replicate_succ, Array.replicate_zero, List.push_toArray, List.append_toArray, List.nil_append, List.cons_append]
  gi_wp2_with (first
    | (refine ⟨trivial, ?_⟩; gi_at_call 25; refine (callsIn_wide.2 (textErr_small _ hs _)).mono ?_; rintro e w' ⟨rfl, rfl⟩)
    | (refine ⟨trivial, ?_⟩; gi_at_call 51; refine (callsIn_wide.2 (splitAfter_calls _ _)).mono ?_; rintro e w' ⟨rfl, rfl⟩))
  refine rangeFunc_law rfl (by decide) (gf := 109) rfl trivial (enters_of Tryz.func109 (by kernel_rfl) rfl) fun fn hfn rec hrec W1 hW1 => ?_
  simp only [World.size_alloc] at hW1 ⊢
  have h0 : OffW w p0 p1 rec .ready none 0 0 1 s W1 := by rw [hW1]; exact offW_start w s p0 p1 _ _ _ _ rec
  refine CallsIn.mono (R' := _) (iter_calls (fun from_ line s' part W hpart h => ?_) s hs W1 h0) ?_
  · have hl := h.h9
    have h2 := h.put .busy none
    rw [hrec] at hl
    refine yield_law hfn hl rfl { tmps := #[.string s, .agg #[.int .i64 p0, .int .i64 p1], undef, .pointer (some ⟨w.heap.size, 0, none⟩), .pointer (some ⟨w.heap.size + 1, 0, none⟩), .pointer (some ⟨w.heap.size + 1 + 1, 0, none⟩), .int .i64 0, .pointer (some ⟨w.heap.size + 1 + 1 + 1, 0, none⟩), .pointer (some ⟨w.heap.size + 1 + 1 + 1 + 1, 0, none⟩), .string part, undef, .string s, .int .i64 0, .int .i64 0, .bool false, undef, .string s, .func (.func 109) #[] #[.pointer (some ⟨w.heap.size + 1 + 1 + 1 + 1 + 1 + 1, 0, none⟩), .pointer (some ⟨w.heap.size + 1 + 1 + 1 + 1 + 1, 0, none⟩), .pointer (some ⟨w.heap.size + 1 + 1 + 1 + 1 + 1 + 1 + 1, 0, none⟩)], .string part, undef, undef, undef, undef, undef, undef, undef, undef, undef, undef, undef, undef, undef, undef, undef, undef, undef, undef, undef, undef, undef, undef, undef, undef, undef, undef, undef, undef], defers := [] } ?_ ?_
    · intro K hK
      gi_wp2
      exact hK
    · rw [← hrec]
      generalize W.putObj (w.heap.size + 1 + 1 + 1 + 1 + 1 + 1 + 1 + 1 + 1) (Obj.loop (rec LoopState.busy none)) = W2 at h2 ⊢
      have g0 := h2.q0
      have g1 := h2.q1
      have g3 := h2.c3
      have f3 := h2.f3
      have g4 := h2.c4
      have f4 := h2.f4
      have k0 := h2.r0
      have e0 := h2.f0
      have k1 := h2.r1
      have e1 := h2.f1
      gi_wp2_with (first
        | (refine ⟨trivial, ?_⟩; gi_at_call 52; refine (CallsIn.inRound _ (callsIn_wide.2 (Tryz.strings_HasSuffix part ⟨#[10]⟩ _ (by omega)))).mono ?_; rintro e w' ⟨rfl, rfl⟩)
        | (refine ⟨trivial, ?_⟩; gi_at_call 32; refine (CallsIn.inRound _ (callsIn_wide.2 (within_calls _ _ _ _))).mono ?_; rintro e w' ⟨rfl, rfl⟩)
        | (refine ⟨trivial, ?_⟩))
      · have hsf : Lib.hasSuffix part.data.toList [10] = true := by assumption
        have hln : line = p0 := by assumption
        have hin : 1 ≤ p1 ∧ p1 ≤ (part.size : Int) := by assumption
        exact ⟨((h2.setRes _).setErr).h9, .inl ⟨by unfold offHit offLast; rw [if_pos hsf]; simp [hln, hin.1, hin.2], rfl, ((h2.setRes _).setErr).put .done (some .ret)⟩⟩
      · have hsf : Lib.hasSuffix part.data.toList [10] = true := by assumption
        have hln : line = p0 := by assumption
        have hin : p1 < 1 ∨ (part.size : Int) < p1 := by assumption
        subst hln
        exact ⟨((h2.setFrom _).setLine _).h9, .inr ⟨by unfold offHit offLast; rw [if_pos hsf]; simp; omega, rfl, ((h2.setFrom _).setLine _).put .ready none⟩⟩
      · have hsf : Lib.hasSuffix part.data.toList [10] = true := by assumption
        have hln : ¬ line = p0 := by assumption
        exact ⟨((h2.setFrom _).setLine _).h9, .inr ⟨by unfold offHit offLast; rw [if_pos hsf]; simp [hln], rfl, ((h2.setFrom _).setLine _).put .ready none⟩⟩
      · have hsf : Lib.hasSuffix part.data.toList [10] = false := by assumption
        have hln : line = p0 := by assumption
        have hin : 1 ≤ p1 ∧ p1 ≤ (part.size : Int) + 1 := by assumption
        exact ⟨((h2.setRes _).setErr).h9, .inl ⟨by unfold offHit offLast; rw [if_neg (by rw [hsf]; decide)]; simp [hln, hin.1, hin.2], rfl, ((h2.setRes _).setErr).put .done (some .ret)⟩⟩
      · have hsf : Lib.hasSuffix part.data.toList [10] = false := by assumption
        have hln : line = p0 := by assumption
        have hin : p1 < 1 ∨ (part.size : Int) + 1 < p1 := by assumption
        subst hln
        exact ⟨((h2.setFrom _).setLine _).h9, .inr ⟨by unfold offHit offLast; rw [if_neg (by rw [hsf]; decide)]; simp; omega, rfl, ((h2.setFrom _).setLine _).put .ready none⟩⟩
      · have hsf : Lib.hasSuffix part.data.toList [10] = false := by assumption
        have hln : ¬ line = p0 := by assumption
        exact ⟨((h2.setFrom _).setLine _).h9, .inr ⟨by unfold offHit offLast; rw [if_neg (by rw [hsf]; decide)]; simp [hln], rfl, ((h2.setFrom _).setLine _).put .ready none⟩⟩
  · rintro e W2 ⟨hv, (⟨a, f, l, s', hgo, hW⟩ | ⟨f, l, s', hgo, hW⟩)⟩
    · refine ⟨hv, .done, some .ret, by simp, hW.h9, ?_⟩
      have hW2 := hW.put .exhausted (some .ret)
      generalize W2.putObj (w.heap.size + 1 + 1 + 1 + 1 + 1 + 1 + 1 + 1 + 1) (Obj.loop (rec LoopState.exhausted (some .ret))) = W3 at hW2 ⊢
      unfold loopOut
      gi_wp2
      have hK := hW2.h8
      refine ⟨by simp, .inl ⟨_, _, rfl, run_takeDeferred hK, ?_⟩⟩
      have c0 := (put_cell (o' := Obj.deferred none) hK (by simp <;> omega)).trans hW2.r0
      have c1 := (put_cell (o' := Obj.deferred none) hK (by simp <;> omega)).trans hW2.r1
      refine ⟨.tuple #[.int .i64 a, .int .i64 0], ?_, by rw [hgo]; rfl, hW2.bel.trans (belowK_b (w := w) (Nat.le_refl _) W3 _ _ _ (by omega) hK rfl rfl)⟩
      simp [results, Tryz.f23, go_sem, c0, c1]
    · refine ⟨hv, .ready, none, by simp, hW.h9, ?_⟩
      have hW2 := hW.put .exhausted none
      generalize W2.putObj (w.heap.size + 1 + 1 + 1 + 1 + 1 + 1 + 1 + 1 + 1) (Obj.loop (rec LoopState.exhausted none)) = W3 at hW2 ⊢
      unfold loopOut
      have k0 := hW2.r0
      have e0 := hW2.f0
      have k1 := hW2.r1
      have e1 := hW2.f1
      gi_wp2
      have hK : ((W3.setCell ⟨w.heap.size + 1, 0, none⟩ (.int .i64 0)).setCell ⟨w.heap.size + 1 + 1, 0, none⟩ (.int .i64 6)).heap[w.heap.size + 1 + 1 + 1 + 1 + 1 + 1 + 1 + 1]? = some (.deferred (some [])) := (set_heap (by simp <;> omega)).trans ((set_heap (by simp <;> omega)).trans hW2.h8)
      refine ⟨by simp, .inl ⟨_, _, rfl, run_takeDeferred hK, ?_⟩⟩
      have c0 := (put_cell (o' := Obj.deferred none) hK (by simp <;> omega)).trans ((set_other (v := .int .i64 6) (a := ⟨w.heap.size + 1 + 1, 0, none⟩) (by simp <;> omega)).trans (set_same (v := .int .i64 0) k0))
      have c1 := (put_cell (o' := Obj.deferred none) hK (by simp <;> omega)).trans (set_same (v := .int .i64 6) ((set_other (v := .int .i64 0) (a := ⟨w.heap.size + 1, 0, none⟩) (by simp <;> omega)).trans k1))
      refine ⟨.tuple #[.int .i64 0, .int .i64 6], ?_, by rw [hgo]; rfl, ((hW2.bel.setCell (by simp <;> omega) _).setCell (by simp <;> omega) _).trans (belowK_b (w := w) (Nat.le_refl _) _ _ _ _ (by omega) hK rfl rfl)⟩
      simp [results, Tryz.f23, go_sem, c0, c1]
theorem offset_large (s : ByteArray) (p0 p1 : Int) (w : World) (hs : 60000 < s.size) : CallsIn Fence.wide 9 Tryz.prog 23 #[.string s, .agg #[.int .i64 p0, .int .i64 p1]] w fun e w' =>
    e = .returned (.tuple #[.int .i64 0, .int .i64 8]) ∧ Below w.heap.size w w' := by
  refine callsIn_of_wp Tryz.func23 rfl trivial ?_ rfl
  simp only [Tryz.ntmps23, List.size_toArray, List.length_cons, List.length_nil, Nat.reduceAdd, Nat.reduceSub, Array.replicate_succ, Array.replicate_zero, List.push_toArray, List.append_toArray, List.nil_append, List.cons_append]
  gi_wp2_with (refine ⟨trivial, ?_⟩; gi_at_call 25; refine (callsIn_wide.2 (textErr_big _ hs _)).mono ?_; rintro e w' ⟨rfl, rfl⟩)
  have e : ∀ (W : World) (o : Obj), (W.alloc o).heap = W.heap.push o := fun W o => rfl
  refine ⟨rfl, .tuple #[.int .i64 0, .int .i64 8], ?_, rfl, (((Below.refl _ w).alloc (Nat.le_refl _) _).alloc (by simp) _).alloc (by simp; omega) _⟩
  have c1 : ∀ (o1 o2 o3 : Obj) (v : Value) (t : Nat), o2 = .cells #[v] t → (((w.alloc o1).alloc o2).alloc o3).cell? ⟨w.heap.size + 1, 0, none⟩ = some v := by
    intro o1 o2 o3 v t h; subst h; simp [World.cell?, e, Array.getElem_push, Nat.add_assoc]
  have c2 : ∀ (o1 o2 o3 : Obj) (v : Value) (t : Nat), o3 = .cells #[v] t → (((w.alloc o1).alloc o2).alloc o3).cell? ⟨w.heap.size + 1 + 1, 0, none⟩ = some v := by
    intro o1 o2 o3 v t h; subst h; simp [World.cell?, e, Array.getElem_push, Nat.add_assoc]
  simp [results, Tryz.f23, go_sem, c1 _ _ _ _ _ rfl, c2 _ _ _ _ _ rfl]

/-- lexer.OffsetOf -/
noncomputable def offRun (p : ByteArray × (Int × Int × Unit) × Unit) (_ : Unit) : Option ((Int × Int × Unit) × Unit) :=
  some (bif Nat.ble p.1.size 60000 then ((offVal (offGo p.2.1.1 p.2.1.2.1 (p.1.size + 1) p.1 0 1), offErr (offGo p.2.1.1 p.2.1.2.1 (p.1.size + 1) p.1 0 1), ()), ()) else ((0, 8, ()), ()))
noncomputable def conOff (E : Env) : Con E := ⟨23, ByteArray × (Int × Int × Unit) × Unit, Unit, .cons Rd.str.w (.cons (Rw.agg (.cons (Rd.int .i64).w (.cons (Rd.int .i64).w .nil))) .nil), .nil, 0, (Int × Int × Unit) × Unit, offRun, fun r => .tup [.v (.int .i64 r.1.1), .v (.int .i64 r.1.2.1)], fun _ => []⟩
theorem conOff_ok {E : Env} (hE : E.P = Tryz.prog) : (conOff E).Ok := by
  intro a b r h
  obtain ⟨s, ⟨p0, p1, u⟩, u'⟩ := a
  obtain rfl := Option.some.inj h
  refine fnOk_of_calls (fn := Tryz.f23) (by rw [show (conOff E).f = 23 from rfl, hE]; exact Tryz.func23) rfl rfl fun w G L0 vs hg => ?_
  obtain ⟨u, v, rfl, hu, hv⟩ := hg.args.two
  obtain rfl := hu.v_inv
  obtain ⟨ws, rfl, hlen, hrep, _⟩ := hv.agg_inv
  obtain ⟨x0, x1, rfl⟩ : ∃ x0 x1, ws = [x0, x1] := by
    match ws, hlen with
    | [x0, x1], _ => exact ⟨x0, x1, rfl⟩
  obtain rfl := (hrep 0 _ x0 rfl rfl).v_inv
  obtain rfl := (hrep 1 _ x1 rfl rfl).v_inv
  rw [hE]
  show Calls Tryz.prog 23 #[.string s, .agg #[.int .i64 p0, .int .i64 p1]] w _
  by_cases hs : s.size ≤ 60000
  · refine (callsIn_wide.1 (offset_calls s p0 p1 w hs)).mono ?_
    rintro e w' ⟨rfl, hb⟩
    refine ⟨_, rfl, fun L => ?_, hb⟩
    have : Nat.ble s.size 60000 = true := Nat.ble_eq_true_of_le hs
    simp only [conOff, this, cond_true]
    exact .pair (.v _ rfl) (.v _ rfl)
  · refine (callsIn_wide.1 (offset_large s p0 p1 w (by omega))).mono ?_
    rintro e w' ⟨rfl, hb⟩
    refine ⟨_, rfl, fun L => ?_, hb⟩
    have : Nat.ble s.size 60000 = false := by
      cases hb : Nat.ble s.size 60000 with
      | true => exact absurd (Nat.le_of_ble_eq_true hb) hs
      | false => rfl
    simp only [conOff, this, cond_false]
    exact .pair (.v _ rfl) (.v _ rfl)
end Go.Proofs.YtfmkleeneddijaaGreatDoor.Ev
