/- A text's offset with a line and a column, line by line: what the loop comes to, and what lies between two rounds. -/
import Derived.Test.YtfmkleeneddijaaGreatDoorEvRange
import Derived.Lib.Strings
import Derived.Lib.Bytealg
import Derived.Lib.IndexLaws
import Derived.Laws.World
import Derived.Laws.Entries
set_option linter.unusedVariables false
namespace Go.Proofs.YtfmkleeneddijaaGreatDoor.Ev
open Go.RowKit

/-- the line at the beginning of a text, with its line feed -/
def offPart (s : ByteArray) : ByteArray := if Lib.indexByte s.data.toList 10 < 0 then s else s.extract 0 (Lib.indexByte s.data.toList 10 + 1).toNat
/-- one behind the last column of a line -/
def offLast (part : ByteArray) : Int := if Lib.hasSuffix part.data.toList [10] = true then (part.size : Int) else (part.size : Int) + 1
def offHit (p0 p1 line : Int) (part : ByteArray) : Bool := line == p0 && (decide (1 ≤ p1) && decide (p1 ≤ offLast part))
def offGo (p0 p1 : Int) : Nat → ByteArray → Int → Int → Option Int
 | 0, _, _, _ => none
 | k + 1, s, from_, line =>
   if offHit p0 p1 line (offPart s) = true then some (wrap64 (wrap64 (from_ + p1) - 1))
   else if Lib.indexByte s.data.toList 10 < 0 then none
   else offGo p0 p1 k (s.extract (Lib.indexByte s.data.toList 10 + 1).toNat s.size) (wrap64 (from_ + ((offPart s).size : Int))) (wrap64 (line + 1))

def offVal : Option Int → Int
 | some a => a
 | none => 0
def offErr : Option Int → Int
 | some _ => 0
 | none => 6

/-- what lies between two rounds: B: the heap's size when the call began -/
structure OffW (w : World) (p0 p1 : Int) (rec : LoopState → Option Code → Loop) (st : LoopState) (pe : Option Code) (r : Int) (from_ line : Int) (s : ByteArray) (W : World) : Prop where
  q0 : W.cell? ⟨w.heap.size, 0, none⟩ = some (.int .i64 p0)
  q1 : W.cell? ⟨w.heap.size, 1, none⟩ = some (.int .i64 p1)
  r0 : W.cell? ⟨w.heap.size + 1, 0, none⟩ = some (.int .i64 r)
  f0 : W.frozen? ⟨w.heap.size + 1, 0, none⟩ = false
  r1 : W.cell? ⟨w.heap.size + 1 + 1, 0, none⟩ = some (.int .i64 0)
  f1 : W.frozen? ⟨w.heap.size + 1 + 1, 0, none⟩ = false
  c3 : W.cell? ⟨w.heap.size + 1 + 1 + 1, 0, none⟩ = some (.int .i64 from_)
  f3 : W.frozen? ⟨w.heap.size + 1 + 1 + 1, 0, none⟩ = false
  c4 : W.cell? ⟨w.heap.size + 1 + 1 + 1 + 1, 0, none⟩ = some (.int .i64 line)
  f4 : W.frozen? ⟨w.heap.size + 1 + 1 + 1 + 1, 0, none⟩ = false
  c5 : W.cell? ⟨w.heap.size + 1 + 1 + 1 + 1 + 1, 0, none⟩ = some (.string s)
  f5 : W.frozen? ⟨w.heap.size + 1 + 1 + 1 + 1 + 1, 0, none⟩ = false
  c6 : W.cell? ⟨w.heap.size + 1 + 1 + 1 + 1 + 1 + 1, 0, none⟩ = some (.string ⟨#[10]⟩)
  c7 : W.cell? ⟨w.heap.size + 1 + 1 + 1 + 1 + 1 + 1 + 1, 0, none⟩ = some (.int .i64 1)
  h8 : W.heap[w.heap.size + 1 + 1 + 1 + 1 + 1 + 1 + 1 + 1]? = some (.deferred (some []))
  h9 : W.heap[w.heap.size + 1 + 1 + 1 + 1 + 1 + 1 + 1 + 1 + 1]? = some (.loop (rec st pe))
  bel : Below w.heap.size w W

variable {w W : World} {p0 p1 r from_ line : Int} {s : ByteArray} {rec : LoopState → Option Code → Loop} {st : LoopState} {pe : Option Code}

theorem set_other {W : World} {a b : Addr} {v : Value} (h : a.block ≠ b.block) : (W.setCell a v).cell? b = W.cell? b := World.cell?_setCell_other _ _ _ _ (fun e => h (by rw [e]))
theorem set_heap {W : World} {a : Addr} {k : Nat} {v : Value} (h : k ≠ a.block) : (W.setCell a v).heap[k]? = W.heap[k]? := Below.heap_setCell W a v k h
theorem set_same {W : World} {a : Addr} {u v : Value} (h : W.cell? a = some u) : (W.setCell a v).cell? a = some v := World.cell?_setCell_same' _ _ _ (by rw [h]; rfl)
theorem set_frozen {W : World} {a b : Addr} {v : Value} : (W.setCell a v).frozen? b = W.frozen? b := World.frozen?_setCell ..

theorem OffW.setFrom (h : OffW w p0 p1 rec st pe r from_ line s W) (x : Int) : OffW w p0 p1 rec st pe r x line s (W.setCell ⟨w.heap.size + 1 + 1 + 1, 0, none⟩ (.int .i64 x)) :=
  ⟨(set_other (by simp <;> omega)).trans h.q0, (set_other (by simp <;> omega)).trans h.q1, (set_other (by simp <;> omega)).trans h.r0, set_frozen.trans h.f0, (set_other (by simp <;> omega)).trans h.r1, set_frozen.trans h.f1, set_same h.c3, set_frozen.trans h.f3, (set_other (by simp <;> omega)).trans h.c4, set_frozen.trans h.f4, (set_other (by simp <;> omega)).trans h.c5, set_frozen.trans h.f5, (set_other (by simp <;> omega)).trans h.c6, (set_other (by simp <;> omega)).trans h.c7, (set_heap (by simp <;> omega)).trans h.h8, (set_heap (by simp <;> omega)).trans h.h9, h.bel.setCell (by simp <;> omega) _⟩
theorem OffW.setLine (h : OffW w p0 p1 rec st pe r from_ line s W) (x : Int) : OffW w p0 p1 rec st pe r from_ x s (W.setCell ⟨w.heap.size + 1 + 1 + 1 + 1, 0, none⟩ (.int .i64 x)) :=
  ⟨(set_other (by simp <;> omega)).trans h.q0, (set_other (by simp <;> omega)).trans h.q1, (set_other (by simp <;> omega)).trans h.r0, set_frozen.trans h.f0, (set_other (by simp <;> omega)).trans h.r1, set_frozen.trans h.f1, (set_other (by simp <;> omega)).trans h.c3, set_frozen.trans h.f3, set_same h.c4, set_frozen.trans h.f4, (set_other (by simp <;> omega)).trans h.c5, set_frozen.trans h.f5, (set_other (by simp <;> omega)).trans h.c6, (set_other (by simp <;> omega)).trans h.c7, (set_heap (by simp <;> omega)).trans h.h8, (set_heap (by simp <;> omega)).trans h.h9, h.bel.setCell (by simp <;> omega) _⟩
theorem OffW.setText (h : OffW w p0 p1 rec st pe r from_ line s W) (x : ByteArray) : OffW w p0 p1 rec st pe r from_ line x (W.setCell ⟨w.heap.size + 1 + 1 + 1 + 1 + 1, 0, none⟩ (.string x)) :=
  ⟨(set_other (by simp <;> omega)).trans h.q0, (set_other (by simp <;> omega)).trans h.q1, (set_other (by simp <;> omega)).trans h.r0, set_frozen.trans h.f0, (set_other (by simp <;> omega)).trans h.r1, set_frozen.trans h.f1, (set_other (by simp <;> omega)).trans h.c3, set_frozen.trans h.f3, (set_other (by simp <;> omega)).trans h.c4, set_frozen.trans h.f4, set_same h.c5, set_frozen.trans h.f5, (set_other (by simp <;> omega)).trans h.c6, (set_other (by simp <;> omega)).trans h.c7, (set_heap (by simp <;> omega)).trans h.h8, (set_heap (by simp <;> omega)).trans h.h9, h.bel.setCell (by simp <;> omega) _⟩
theorem OffW.setRes (h : OffW w p0 p1 rec st pe r from_ line s W) (x : Int) : OffW w p0 p1 rec st pe x from_ line s (W.setCell ⟨w.heap.size + 1, 0, none⟩ (.int .i64 x)) :=
  ⟨(set_other (by simp <;> omega)).trans h.q0, (set_other (by simp <;> omega)).trans h.q1, set_same h.r0, set_frozen.trans h.f0, (set_other (by simp <;> omega)).trans h.r1, set_frozen.trans h.f1, (set_other (by simp <;> omega)).trans h.c3, set_frozen.trans h.f3, (set_other (by simp <;> omega)).trans h.c4, set_frozen.trans h.f4, (set_other (by simp <;> omega)).trans h.c5, set_frozen.trans h.f5, (set_other (by simp <;> omega)).trans h.c6, (set_other (by simp <;> omega)).trans h.c7, (set_heap (by simp <;> omega)).trans h.h8, (set_heap (by simp <;> omega)).trans h.h9, h.bel.setCell (by simp <;> omega) _⟩
theorem OffW.setErr (h : OffW w p0 p1 rec st pe r from_ line s W) : OffW w p0 p1 rec st pe r from_ line s (W.setCell ⟨w.heap.size + 1 + 1, 0, none⟩ (.int .i64 0)) :=
  ⟨(set_other (by simp <;> omega)).trans h.q0, (set_other (by simp <;> omega)).trans h.q1, (set_other (by simp <;> omega)).trans h.r0, set_frozen.trans h.f0, set_same h.r1, set_frozen.trans h.f1, (set_other (by simp <;> omega)).trans h.c3, set_frozen.trans h.f3, (set_other (by simp <;> omega)).trans h.c4, set_frozen.trans h.f4, (set_other (by simp <;> omega)).trans h.c5, set_frozen.trans h.f5, (set_other (by simp <;> omega)).trans h.c6, (set_other (by simp <;> omega)).trans h.c7, (set_heap (by simp <;> omega)).trans h.h8, (set_heap (by simp <;> omega)).trans h.h9, h.bel.setCell (by simp <;> omega) _⟩
theorem put_cell {W : World} {l : Nat} {o o' : Obj} {a : Addr} (hl : W.heap[l]? = some o) (ha : a.block ≠ l) : (W.putObj l o').cell? a = W.cell? a := by
  unfold World.cell?
  rw [World.putObj_heap_other ha]
theorem put_frozen {W : World} {l : Nat} {o o' : Obj} {a : Addr} (hl : W.heap[l]? = some o) (ha : a.block ≠ l) : (W.putObj l o').frozen? a = W.frozen? a := by
  unfold World.frozen?
  rw [World.putObj_heap_other ha]
theorem OffW.put (h : OffW w p0 p1 rec st pe r from_ line s W) (st2 : LoopState) (pe2 : Option Code) : OffW w p0 p1 rec st2 pe2 r from_ line s (W.putObj (w.heap.size + 1 + 1 + 1 + 1 + 1 + 1 + 1 + 1 + 1) (.loop (rec st2 pe2))) :=
  ⟨(put_cell h.h9 (by simp <;> omega)).trans h.q0, (put_cell h.h9 (by simp <;> omega)).trans h.q1, (put_cell h.h9 (by simp <;> omega)).trans h.r0, (put_frozen h.h9 (by simp <;> omega)).trans h.f0, (put_cell h.h9 (by simp <;> omega)).trans h.r1, (put_frozen h.h9 (by simp <;> omega)).trans h.f1, (put_cell h.h9 (by simp <;> omega)).trans h.c3, (put_frozen h.h9 (by simp <;> omega)).trans h.f3, (put_cell h.h9 (by simp <;> omega)).trans h.c4, (put_frozen h.h9 (by simp <;> omega)).trans h.f4, (put_cell h.h9 (by simp <;> omega)).trans h.c5, (put_frozen h.h9 (by simp <;> omega)).trans h.f5, (put_cell h.h9 (by simp <;> omega)).trans h.c6, (put_cell h.h9 (by simp <;> omega)).trans h.c7, (World.putObj_heap_other (by omega)).trans h.h8, World.putObj_heap_same (Array.getElem?_eq_some_iff.1 h.h9).1, h.bel.trans (belowK_b (w := w) (Nat.le_refl _) W _ _ _ (by omega) h.h9 rfl rfl)⟩
theorem index_lt (s : ByteArray) (h : 0 ≤ Lib.indexByte s.data.toList 10) : Lib.indexByte s.data.toList 10 < (s.size : Int) := by
  obtain ⟨o, ho⟩ := Int.eq_ofNat_of_zero_le h
  have h1 := (Lib.indexByte_some ho).1
  have h2 := (List.getElem?_eq_some_iff.1 h1).1
  rw [ho]
  have h3 : s.data.toList.length = s.size := by rw [Array.length_toList]; rfl
  exact Int.ofNat_lt.2 (h3 ▸ h2)
theorem offW_start (w : World) (s : ByteArray) (p0 p1 : Int) (ta ti te ts : Nat) (rec : LoopState → Option Code → Loop) : OffW w p0 p1 rec .ready none 0 0 1 s
   ((((((((((w.alloc (Obj.cells #[Value.int IntKind.i64 p0, Value.int IntKind.i64 p1] ta)).alloc (Obj.cells #[Value.int IntKind.i64 0] ti)).alloc (Obj.cells #[Value.int IntKind.i64 0] te)).alloc
      (Obj.cells #[Value.int IntKind.i64 0] ti)).alloc (Obj.cells #[Value.int IntKind.i64 1] ti)).alloc (Obj.cells #[Value.string s] ts)).alloc (Obj.cells #[Value.string { data := #[10] }] ts)).alloc
      (Obj.cells #[Value.int IntKind.i64 1] ti)).alloc (Obj.deferred (some []))).alloc (Obj.loop (rec .ready none))) := by
  have e : ∀ (W : World) (o : Obj), (W.alloc o).heap = W.heap.push o := fun W o => rfl
  constructor
  case bel => exact ((((((((((Below.refl _ w).alloc (Nat.le_refl _) _).alloc (by simp) _).alloc (by simp; omega) _).alloc (by simp; omega) _).alloc (by simp; omega) _).alloc (by simp; omega) _).alloc (by simp; omega) _).alloc (by simp; omega) _).alloc (by simp; omega) _).alloc (by simp; omega) _
  all_goals simp [World.cell?, World.frozen?, e, Array.getElem_push, Nat.add_assoc]
/-- what a round comes to -/
def offRound (w : World) (p0 p1 : Int) (rec : LoopState → Option Code → Loop) (from_ line : Int) (s part : ByteArray) (e : Ending) (W' : World) : Prop :=
  (offHit p0 p1 line part = true ∧ e = .returned (.bool false) ∧ OffW w p0 p1 rec .done (some .ret) (wrap64 (wrap64 (from_ + p1) - 1)) from_ line s W') ∨
  (offHit p0 p1 line part = false ∧ e = .returned (.bool true) ∧ OffW w p0 p1 rec .ready none 0 (wrap64 (from_ + (part.size : Int))) (wrap64 (line + 1)) s W')
/-- so long is what is left -/
def offLeft (w wr : World) : Nat := match wr.cell? ⟨w.heap.size + 1 + 1 + 1 + 1 + 1, 0, none⟩ with | some (.string s) => s.size | _ => 0
theorem offLeft_eq (h : OffW w p0 p1 rec st pe r from_ line s W) : offLeft w W = s.size := by unfold offLeft; rw [h.c5]
/-- how the lines end -/
def offDone (w : World) (p0 p1 : Int) (rec : LoopState → Option Code → Loop) (s0 : ByteArray) (W : World) : Prop :=
  (∃ a f l s, offGo p0 p1 (s0.size + 1) s0 0 1 = some a ∧ OffW w p0 p1 rec .done (some .ret) a f l s W) ∨ ∃ f l s, offGo p0 p1 (s0.size + 1) s0 0 1 = none ∧ OffW w p0 p1 rec .ready none 0 f l s W
end Go.Proofs.YtfmkleeneddijaaGreatDoor.Ev
