/- A part of the proof. -/
import Derived.Test.YtaennkkcnhfglaaGreatDoorSEvBox
set_option linter.unusedVariables false
set_option linter.unusedSimpArgs false
namespace Go.Proofs.YtaennkkcnhfglaaGreatDoor.Ev
open Go.RowKit
variable {E : Env} {R : Type}
theorem vO5 (hE : E.Ok) {w0 w : World} {G0 : Org} {G : Gh} {L : Nat → Value} {st : St E.S} {a : Act} (h : Inv E w0 G0 st a w G L) (o : Oper) {src dst e d : Nat} {x : Operand} (ho : o.op = .convert src dst x) (hd : o.dst = some d) {u : TypeDesc} (hs : E.P.underlying src = some u) (hds : E.P.underlying dst = some (.slice e)) {s : ByteArray} (hx : opv st x = .v (.string s)) {l : List (E.S e)} (hl : E.byt e s = some l) {κ : St E.S → Option R} {r : R}
    (hr : κ (up4 st d none e l false) = some r) (Q : Exit → Act → World → Prop) : o.wp E.P a w (Nxt E w0 G0 κ r) Q := by
  obtain ⟨he, hc1, hlen, hc⟩ := hE.byt e s l hl
  have hv := h.st.opv x
  rw [hx] at hv
  have hrun := Lib.run_convert_string_bytes w src dst e s hs hds he
  have hbel : Below w.heap.size w (Lib.bytesWorld w e s) := ⟨rfl, rfl, rfl, by rw [Lib.bytesWorld_size]; omega, fun b hb => Lib.bytesWorld_at_old w e s b hb⟩
  have hcap : s.size ≤ grownCap w s.size 0 e := grownCap_ge w s.size 0 e
  have hsz : (Lib.bytesCells w e s).size = grownCap w s.size 0 e := by
    unfold Lib.bytesCells
    have : s.data.size = s.size := rfl
    simp [this]; omega
  have hnew : ∀ j, (Lib.bytesWorld w e s).cell? ⟨w.heap.size, j, none⟩ = (Lib.bytesCells w e s)[j]? := fun j => by simp [World.cell?, Lib.bytesWorld_at_new]
  have hfz : ∀ j, j < (Lib.bytesCells w e s).size → (Lib.bytesWorld w e s).frozen? ⟨w.heap.size, j, none⟩ = false := fun j hj => by
    simp [World.frozen?, Lib.bytesWorld_at_new]; omega
  let G' : Gh := fun b => if b = w.heap.size then some (some st.n, 0) else G b
  have hGo : ∀ b, b < w.heap.size → G' b = G b := fun b hb => if_neg (by omega)
  have hGn : G' w.heap.size = some (some st.n, 0) := if_pos rfl
  have hf : ∀ b o u, Imm G b o → w.cell? ⟨b, o, none⟩ = some u → Imm G' b o ∧ (Lib.bytesWorld w e s).cell? ⟨b, o, none⟩ = some u := by
    intro b o u hi hc
    have hlt : b < w.heap.size := World.block_lt_of_cell? w _ hc
    exact ⟨fun c u hg => hi c u (by rw [← hGo b hlt]; exact hg), ua9 hbel hc⟩
  have hflat : Flat E w G L st.n e l (s.data.toList.map fun c => Value.int .u8 (c.toNat : Int)) := by
    refine ⟨by rw [List.length_map, hc1, hlen, Array.length_toList, Nat.mul_one]; rfl, fun v hv => ?_, fun i y j cc hi hj => ?_⟩
    · obtain ⟨c, _, rfl⟩ := List.mem_map.1 hv; rfl
    · have h1 := hc i y hi
      rw [h1] at hj
      have hj0 : j = 0 := by
        have := (List.getElem?_eq_some_iff.1 hj).1
        simp at this; omega
      subst hj0
      obtain rfl : .v (.int .u8 ((s.data.toList.getD i 0).toNat : Int)) = cc := by simpa using hj
      have hil : i < s.data.toList.length := by
        have := (List.getElem?_eq_some_iff.1 hi).1
        rw [Array.length_toList]; show i < s.size; omega
      refine ⟨_, ?_, .v _ rfl⟩
      rw [hc1, List.getElem?_map, show i * 1 + 0 = i by omega, List.getElem?_eq_getElem hil, List.getD_eq_getElem?_getD, List.getElem?_eq_getElem hil]
      rfl
  obtain ⟨L', hI⟩ := h.newRow (w' := Lib.bytesWorld w e s) (G' := G') hE (d := d) (c := none) (l := l) (sh := false) (v := .slice (some ⟨w.heap.size, 0, none⟩) s.size (grownCap w s.size 0 e)) rfl hf
    (fun c' b u _ hg => by
      have hlt := (h.st.own b c' u hg).1
      exact ⟨by rw [hGo b hlt]; exact hg, fun o v hv => ⟨ua9 hbel hv, uc2 hbel hv⟩, fun ob _ hs => (hbel.block b (Array.getElem?_eq_some_iff.1 hs).1).trans hs⟩)
    (fun b c' u hg => by
      by_cases e1 : b = w.heap.size
      · subst e1
        rw [hGn] at hg
        obtain ⟨rfl, rfl⟩ := Prod.mk.inj (Option.some.inj hg)
        exact ⟨by rw [Lib.bytesWorld_size]; omega, fun k hk => by obtain rfl := Option.some.inj hk; exact Nat.lt_succ_self _⟩
      · have : G' b = G b := if_neg e1
        rw [this] at hg
        obtain ⟨h1, h2⟩ := h.st.own b c' u hg
        exact ⟨by rw [Lib.bytesWorld_size]; omega, fun k hk => Nat.lt_succ_of_lt (h2 k hk)⟩)
    ⟨hbel.os, hbel.tape, hbel.output, hbel.size, fun b h1 h2 => ⟨hbel.block b h1, hGo b h1⟩, hf⟩
    (.row e _ false w.heap.size 0 (grownCap w s.size 0 e) (ui4.fresh hE (vs := s.data.toList.map fun c => Value.int .u8 (c.toNat : Int)) (by simp [hlen]) (by omega)
      (hflat.step hf (fun k hk => if_neg (by omega)) (Nat.le_succ _)) (fun j u hj => by
        rw [List.getElem?_map] at hj
        obtain ⟨c, hc, rfl⟩ := Option.map_eq_some_iff.1 hj
        have hjl := (List.getElem?_eq_some_iff.1 hc).1
        have hjs : j < s.size := by rw [Array.length_toList] at hjl; exact hjl
        rw [Nat.zero_add, Lib.bytesWorld_cell w e s j hjs, List.getD_eq_getElem?_getD, hc]
        rfl)
      (.inr ⟨0, hGn, fun hs => (by cases hs), fun _ => rfl, fun o _ ho => by
        rw [Nat.zero_add, hc1, Nat.mul_one] at ho
        exact ⟨by rw [hnew]; simp [hsz, ho], hfz o (by omega)⟩⟩)))
  have hex : (execOp a.eval o).run E.P w = .ok (.value (.slice (some ⟨w.heap.size, 0, none⟩) s.size (grownCap w s.size 0 e))) (Lib.bytesWorld w e s) := by
    unfold execOp
    rw [ho]
    have hev : a.eval x = .string s := by generalize a.eval x = v at hv; exact hv.v_inv
    simp [hev, hrun]
  unfold Oper.wp
  rw [hex, Oper.upon_value, hd]
  exact ⟨_, G', L', hr, hI⟩
theorem vQ0 (hE : E.Ok) {w0 w : World} {G0 : Org} {G : Gh} {L : Nat → Value} {st : St E.S} {a : Act} (h : Inv E w0 G0 st a w G L) (o : Oper) {t e d : Nat} {len cap : Operand} (ho : o.op = .makeSlice t len cap) (hd : o.dst = some d) (hu : E.P.underlying t = some (.slice e)) {k k' : IntKind} {n m : Int} (hn : opv st len = .v (.int k n)) (hm : opv st cap = .v (.int k' m))
    {zc : List (AV E.S)} (hz : zeroCells E e = some zc) {z : E.S e} (hp : E.pack e zc = some z) (hby : ¬ E.P.bytesOf e = 0) (h0 : 0 ≤ n) (h1 : n ≤ m) (h2 : m * (E.P.bytesOf e : Int) ≤ 140737488355328) {sh : Bool} {κ : St E.S → Option R} {r : R}
    (hr : κ (up4 st d none e (List.replicate n.toNat z) sh) = some r) (Q : Exit → Act → World → Prop) : o.wp E.P a w (Nxt E w0 G0 κ r) Q := by
  obtain ⟨ie, zv, hi, hv, rfl, hok⟩ := uw5 hz
  have hsz : ie.size = E.P.cellsOf e := by simp [Program.cellsOf, hi]
  have hbs : ie.bytes = E.P.bytesOf e := by unfold Program.bytesOf; rw [hi]; rfl
  have hlen := h.st.opv len
  have hcap := h.st.opv cap
  rw [hn] at hlen
  rw [hm] at hcap
  have hRL := uE8 hE h.st.one hp (Rep.constAV (E := E) (w := w) (G := G) (L := L) (n := st.n) zv)
  have hzs : zv.cells.size = E.P.cellsOf e := by
    have := hRL.len
    rw [hE.len] at this
    simp at this; omega
  have hm47 : m ≤ 140737488355328 := by
    have hb1 : (1 : Int) ≤ (E.P.bytesOf e : Int) := by omega
    have : m * 1 ≤ m * (E.P.bytesOf e : Int) := Int.mul_le_mul_of_nonneg_left hb1 (by omega)
    omega
  have wr : ∀ x : Int, 0 ≤ x → x ≤ 140737488355328 → IntKind.i64.wrap x = x := by
    intro x hx0 hx1
    have e1 : (2 : Int) ^ IntKind.i64.bits = 18446744073709551616 := by decide
    have e2 : (2 : Int) ^ (IntKind.i64.bits - 1) = 9223372036854775808 := by decide
    unfold IntKind.wrap
    simp only [e1, e2]
    have : x % 18446744073709551616 = x := Int.emod_eq_of_lt hx0 (by omega)
    rw [this]
    simp
    omega
  have hlarge : ∀ x : Int, 0 ≤ x → x ≤ m → (decide (x < 0) || decide ((ie.bytes : Int) * x > 2 ^ 48)) = false := by
    intro x hx0 hx1
    have : (ie.bytes : Int) * x ≤ m * (E.P.bytesOf e : Int) := by
      rw [hbs, Int.mul_comm]; exact Int.mul_le_mul_of_nonneg_right hx1 (by omega)
    have e48 : (2 : Int) ^ 48 = 281474976710656 := by decide
    rw [e48]
    simp
    omega
  generalize hC : ((Array.range (m.toNat * ie.size)).map (fun i => (if m.toNat * ie.size = 0 then (#[] : Array Value) else zv.cells)[i % (if m.toNat * ie.size = 0 then (#[] : Array Value) else zv.cells).size]!)) = C
  have hCsz : C.size = m.toNat * E.P.cellsOf e := by rw [← hC]; simp [hsz]
  have hCget : ∀ j, j < m.toNat * E.P.cellsOf e → C[j]? = zv.cells[j % E.P.cellsOf e]? := by
    intro j hj
    rw [← hsz] at hj
    have hne : ¬ m.toNat * ie.size = 0 := by omega
    have hjm : j % zv.cells.size < zv.cells.size := Nat.mod_lt _ (by
      rw [hzs, ← hsz]
      rcases Nat.eq_zero_or_pos ie.size with h0 | h0
      · rw [h0] at hne; simp at hne
      · exact h0)
    rw [← hC]
    simp only [hne, if_false]
    rw [Array.getElem?_map, Array.getElem?_range]
    simp only [hj, if_true, Option.map_some]
    rw [← hzs, Array.getElem?_eq_getElem hjm]
    simp [hjm]
  have hrun : (execOp a.eval o).run E.P w = .ok (.value (.slice (some ⟨w.heap.size, 0, none⟩) n.toNat m.toNat)) (w.alloc (.cells C e)) := by
    unfold execOp
    rw [ho]
    dsimp only
    have e1 := wr n h0 (by omega)
    have e2 := wr m (by omega) hm47
    have e3 := hlarge m (by omega) (Int.le_refl _)
    have e5 : ¬ (n < 0) := by omega
    have e6 : ¬ (n > m) := by omega
    have e7 : ¬ (m.toNat * ie.bytes > roomBytes) := by
      unfold roomBytes
      have : ((m.toNat * ie.bytes : Nat) : Int) ≤ 140737488355328 := by
        rw [Int.natCast_mul, hbs, Int.toNat_of_nonneg (by omega)]; exact h2
      have e47 : 2 ^ 47 = 140737488355328 := by decide
      rw [e47]; omega
    have e48 : (2 : Int) ^ 48 = 281474976710656 := by decide
    have e8 : ¬ ((2 : Int) ^ 48 < (ie.bytes : Int) * m) := by
      have := e3
      simp only [Bool.or_eq_false_iff, decide_eq_false_iff_not] at this
      omega
    have e9 : ¬ (m < 0) := by omega
    have e10 : ¬ (m < n) := by omega
    have hrow : newRow e C = (do pure ⟨← newObj (.cells C e), 0, none⟩ : Sem Addr) := rfl
    rw [hlen.v_inv, hcap.v_inv]
    simp only [Instr.makeSlice, Sem.run_bind, run_underlying hu, Result.andThen_ok, asInt, asIntOf, Sem.run_pure, typeInfo, hi, run_program]
    rw [e48] at e8
    simp only [e1, e2, e5, e9, e10, e8, e48, askRoom, e7, sizeOf, typeInfo, hi, zeroValue, hv, run_program, Sem.run_bind, Sem.run_pure, Result.andThen_ok, Bool.or_eq_true, decide_eq_true_eq, or_self, gt_iff_lt, if_false, false_or, or_false, Sem.run_ite, decide_false, Bool.or_self, Bool.false_eq_true]
    by_cases h0 : m.toNat * ie.size = 0
    · simp only [h0, if_true] at hC ⊢
      rw [hC]
      simp [newRow]
    · simp only [h0, if_false] at hC ⊢
      rw [hC]
      simp [newRow]
  have hbel : Below w.heap.size w (w.alloc (.cells C e)) := (Below.refl _ _).alloc (Nat.le_refl _) _
  let u' : Nat := if sh = true then (List.replicate n.toNat z).length * E.P.cellsOf e else 0
  let G' : Gh := fun b => if b = w.heap.size then some (some st.n, u') else G b
  have hGo : ∀ b, b < w.heap.size → G' b = G b := fun b hb => if_neg (by omega)
  have hGn : G' w.heap.size = some (some st.n, u') := if_pos rfl
  have hf : ∀ b o u, Imm G b o → w.cell? ⟨b, o, none⟩ = some u → Imm G' b o ∧ (w.alloc (.cells C e)).cell? ⟨b, o, none⟩ = some u := by
    intro b o u hi hc
    have hlt : b < w.heap.size := World.block_lt_of_cell? w _ hc
    exact ⟨fun c u hg => hi c u (by rw [← hGo b hlt]; exact hg), ua9 hbel hc⟩
  have hcell : ∀ j, (w.alloc (.cells C e)).cell? ⟨w.heap.size, j, none⟩ = C[j]? := fun j => World.cell?_alloc_new (w := w) C e j
  have hnm : n.toNat * E.P.cellsOf e ≤ m.toNat * E.P.cellsOf e := Nat.mul_le_mul_right _ (by omega)
  have hflat : Flat E w G L st.n e (List.replicate n.toNat z) (C.toList.take (n.toNat * E.P.cellsOf e)) := by
    refine ⟨by rw [List.length_take, List.length_replicate, Array.length_toList, hCsz]; omega, fun v hv => ?_, fun i x j cc hi' hj => ?_⟩
    · obtain ⟨j, hj⟩ := List.getElem?_of_mem hv
      rw [List.getElem?_take] at hj
      split at hj
      · rename_i hjl
        rw [Array.getElem?_toList, hCget j (by omega)] at hj
        exact hRL.one v (List.mem_of_getElem? (by rw [Array.getElem?_toList]; exact hj))
      · cases hj
    · have hi2 : i < n.toNat := by simpa using (List.getElem?_eq_some_iff.1 hi').1
      have hx : x = z := by
        have := (List.getElem?_eq_some_iff.1 hi').2
        simpa using this.symm
      subst hx
      have hjl : j < E.P.cellsOf e := by rw [← hE.len e x]; exact (List.getElem?_eq_some_iff.1 hj).1
      have hb : i * E.P.cellsOf e + j < n.toNat * E.P.cellsOf e := by
        have : i * E.P.cellsOf e + E.P.cellsOf e ≤ n.toNat * E.P.cellsOf e := by rw [← Nat.succ_mul]; exact Nat.mul_le_mul_right _ hi2
        omega
      have hmod : (i * E.P.cellsOf e + j) % E.P.cellsOf e = j := by
        rw [Nat.mul_comm, Nat.mul_add_mod, Nat.mod_eq_of_lt hjl]
      have hjz : j < zv.cells.toList.length := by simp; omega
      refine ⟨zv.cells.toList[j], ?_, hRL.rep j cc _ hj (List.getElem?_eq_getElem hjz)⟩
      rw [List.getElem?_take, if_pos hb, Array.getElem?_toList, hCget _ (by omega), hmod, ← Array.getElem?_toList, List.getElem?_eq_getElem hjz]
  obtain ⟨L', hI⟩ := h.newRow (w' := w.alloc (.cells C e)) (G' := G') hE (d := d) (c := none) (l := List.replicate n.toNat z) (sh := sh) (v := .slice (some ⟨w.heap.size, 0, none⟩) n.toNat m.toNat) rfl hf
    (fun c' b u _ hg => by
      have hlt := (h.st.own b c' u hg).1
      exact ⟨by rw [hGo b hlt]; exact hg, fun o v hv => ⟨ua9 hbel hv, uc2 hbel hv⟩, fun ob _ hs => (hbel.block b (Array.getElem?_eq_some_iff.1 hs).1).trans hs⟩)
    (fun b c' u hg => by
      by_cases e1 : b = w.heap.size
      · subst e1
        rw [hGn] at hg
        obtain ⟨rfl, rfl⟩ := Prod.mk.inj (Option.some.inj hg)
        exact ⟨by rw [uj6]; omega, fun k hk => by obtain rfl := Option.some.inj hk; exact Nat.lt_succ_self _⟩
      · have : G' b = G b := if_neg e1
        rw [this] at hg
        obtain ⟨h1, h2⟩ := h.st.own b c' u hg
        exact ⟨by rw [uj6]; omega, fun k hk => Nat.lt_succ_of_lt (h2 k hk)⟩)
    ⟨hbel.os, hbel.tape, hbel.output, hbel.size, fun b h1 h2 => ⟨hbel.block b h1, hGo b h1⟩, hf⟩
    (.row e _ sh w.heap.size 0 m.toNat (ui4.fresh hE (vs := C.toList.take (n.toNat * E.P.cellsOf e)) (by simp) (by simp; omega)
      (hflat.step hf (fun k hk => if_neg (by omega)) (Nat.le_succ _)) (fun j u hj => by
        rw [List.getElem?_take] at hj
        split at hj
        · rw [Nat.zero_add, hcell, ← Array.getElem?_toList]; exact hj
        · cases hj)
      (.inr ⟨u', hGn, fun hs => by simp only [u', hs, if_true, Nat.zero_add], fun hs => by simp only [u', hs, Bool.false_eq_true, if_false], fun o _ ho => by
        rw [Nat.zero_add, ← hCsz] at ho
        exact ⟨by rw [hcell]; simp [ho], uo7 w C e o⟩⟩)))
  unfold Oper.wp
  rw [hrun, Oper.upon_value, hd]
  exact ⟨_, G', L', hr, hI⟩
theorem Inv.rowStoreW (hE : E.Ok) {w0 w : World} {G0 : Org} {G : Gh} {L : Nat → Value} {st : St E.S} {a : Act} (h : Inv E w0 G0 st a w G L) {c e off b o0 m cap : Nat} {i : Int} {l : List (E.S e)} {y y' : E.S e} {new : List (AV E.S)} {nv : List Value} (hb : st.b c = some (.row e l false)) (hl : L c = .slice (some ⟨b, o0, none⟩) m cap) (hr : RL E w G L st.n new nv)
    (hy : idx l i = some y) (hp : (setCells (E.cells e y) off new).length = (E.cells e y').length ∧ ∀ (j : Nat) c c', (setCells (E.cells e y) off new)[j]? = some c → (E.cells e y')[j]? = some c' → Weak c c') (hle : off + new.length ≤ E.P.cellsOf e) :
    (∀ j, j < nv.length → (w.cell? ⟨b, o0 + i.toNat * E.P.cellsOf e + off + j, none⟩).isSome = true ∧ w.frozen? ⟨b, o0 + i.toNat * E.P.cellsOf e + off + j, none⟩ = false) ∧
    Inv E w0 G0 { st with b := upd st.b c (some (.row e (l.set i.toNat y') false)) } a (w.setCells b (o0 + i.toNat * E.P.cellsOf e + off) nv) G L := by
  obtain ⟨hcn, hbx⟩ := h.st.boxes c _ hb
  obtain ⟨hi0, hi1, hi2⟩ := uI1 hy
  have hlen := hr.len
  cases hbx with
  | nil => simp at hi1; omega
  | row _ _ _ b' o0' cap' hrow =>
    have hloc := hrow.loc
    rw [hl] at hloc
    simp only [Value.slice.injEq, Option.some.injEq, Addr.mk.injEq, and_true] at hloc
    obtain ⟨⟨rfl, rfl⟩, rfl, rfl⟩ := hloc
    rcases hrow.own with ⟨_, h1, _⟩ | ⟨u, hg, _, hu0, hth⟩
    · rcases h1 with h1 | h1
      · cases h1
      · subst h1; simp at hi2
    · obtain rfl := hu0 rfl
      have hil : i.toNat < l.length := (List.getElem?_eq_some_iff.1 hi2).1
      have hmul : i.toNat * E.P.cellsOf e + E.P.cellsOf e ≤ l.length * E.P.cellsOf e := by rw [← Nat.succ_mul]; exact Nat.mul_le_mul_right _ hil
      have hcap : l.length * E.P.cellsOf e ≤ cap * E.P.cellsOf e := Nat.mul_le_mul_right _ hrow.le
      generalize hB : b = B at *
      generalize hA : o0 + i.toNat * E.P.cellsOf e + off = A at *
      have hthere : ∀ j, j < nv.length → (w.cell? ⟨B, A + j, none⟩).isSome = true ∧ w.frozen? ⟨B, A + j, none⟩ = false := fun j hj => hth _ (by omega) (by omega)
      refine ⟨hthere, ?_⟩
      obtain ⟨q1, q2, q3, q4, q5⟩ := uh0 B nv A w
      have hni : ∀ o, ¬ Imm G B o := fun o hi => absurd (hi (some c) 0 hg) (by omega)
      have hf : ∀ b' o v, Imm G b' o → w.cell? ⟨b', o, none⟩ = some v → Imm G b' o ∧ (w.setCells B A nv).cell? ⟨b', o, none⟩ = some v := by
        intro b' o v hi hc
        have hne : b' ≠ B := fun e => hni o (e ▸ hi)
        exact ⟨hi, by rw [uc3 nv hne]; exact hc⟩
      have hkeep : ∀ {x : AV E.S} {v : Value}, Rep E w G L st.n x v → Rep E (w.setCells B A nv) G L st.n x v := fun hx => hx.step hf (fun _ _ => rfl) (Nat.le_refl _)
      have hout : ∀ o, (o < A ∨ A + nv.length ≤ o) → (w.setCells B A nv).cell? ⟨B, o, none⟩ = w.cell? ⟨B, o, none⟩ := fun o ho => World.cell?_setCells_out B nv A w _ (fun _ _ => ho)
      refine ⟨⟨fun i => hkeep (h.st.slots i), h.st.size, ?_, ?_, h.st.one, fun g x hg => hkeep (h.st.glob g x hg)⟩, ?_, h.df, h.kp⟩
      · intro c' bx hc'
        by_cases e1 : c' = c
        · subst e1
          simp only [ub4] at hc'
          obtain rfl := Option.some.inj hc'
          refine ⟨hcn, .row e _ false B o0 cap ⟨by simpa using hl, by simpa using hrow.le, fun i' x j cc hi' hj => ?_, .inr ⟨0, hg, (fun h => by cases h), fun _ => rfl, fun o ho1 ho2 => ?_⟩⟩⟩
          · have hjl : j < E.P.cellsOf e := by rw [← hE.len e x]; exact (List.getElem?_eq_some_iff.1 hj).1
            by_cases heq : i.toNat = i'
            · rw [← heq, List.getElem?_set_self hil] at hi'
              obtain rfl := Option.some.inj hi'
              obtain ⟨hp1, hp2⟩ := hp
              have hle' : off + new.length ≤ (E.cells e y).length := by rw [hE.len]; exact hle
              have hjs : j < (setCells (E.cells e y) off new).length := by rw [hp1, hE.len]; exact hjl
              have hcj := List.getElem?_eq_getElem hjs
              have hw := hp2 j _ cc hcj hj
              have hget := hcj
              rw [uc7 _ _ _ hle'] at hget
              rw [← heq]
              have old : ∀ x', (E.cells e y)[j]? = some x' → (j < off ∨ off + new.length ≤ j) → ∃ v, (w.setCells B A nv).cell? ⟨B, o0 + i.toNat * E.P.cellsOf e + j, none⟩ = some v ∧ Rep E (w.setCells B A nv) G L st.n x' v := by
                intro x' hx' ho
                obtain ⟨v, h1, h2⟩ := hrow.cells _ y j x' hi2 hx'
                exact ⟨v, by rw [hout _ (by omega)]; exact h1, hkeep h2⟩
              split at hget
              · rename_i hjo
                obtain ⟨v, h1, h2⟩ := old _ hget (.inl hjo)
                exact ⟨v, h1, h2.weak hw⟩
              · rename_i hjo
                split at hget
                · rename_i hjo2
                  have hjn : j - off < nv.length := by omega
                  have := World.cell?_setCells_in B nv A w (fun j hj => (hthere j hj).1) (j - off) hjn
                  refine ⟨nv[j - off], ?_, (hkeep (hr.rep _ _ _ hget (List.getElem?_eq_getElem hjn))).weak hw⟩
                  rwa [show A + (j - off) = o0 + i.toNat * E.P.cellsOf e + j by omega] at this
                · rename_i hjo2
                  obtain ⟨v, h1, h2⟩ := old _ hget (.inr (by omega))
                  exact ⟨v, h1, h2.weak hw⟩
            · rw [List.getElem?_set_ne heq] at hi'
              obtain ⟨v, h1, h2⟩ := hrow.cells i' x j cc hi' hj
              refine ⟨v, ?_, hkeep h2⟩
              rw [hout _ ?_]
              · exact h1
              · rcases Nat.lt_or_gt_of_ne heq with hlt | hlt
                · have : i.toNat * E.P.cellsOf e + E.P.cellsOf e ≤ i' * E.P.cellsOf e := by rw [← Nat.succ_mul]; exact Nat.mul_le_mul_right _ hlt
                  omega
                · have : i' * E.P.cellsOf e + E.P.cellsOf e ≤ i.toNat * E.P.cellsOf e := by rw [← Nat.succ_mul]; exact Nat.mul_le_mul_right _ hlt
                  omega
          · obtain ⟨h3, h4⟩ := hth o ho1 ho2
            exact ⟨World.isSome_setCells B nv _ w _ h3, by rw [World.frozen?_setCells]; exact h4⟩
        · simp only [ud5 _ _ e1] at hc'
          obtain ⟨h1, h2⟩ := h.st.boxes c' bx hc'
          refine ⟨h1, h2.step hE h1 hf (fun _ _ => rfl) (Nat.le_refl _) fun b' u hg' => ?_⟩
          have hne : b' ≠ B := by
            intro e'
            subst e'
            rw [hg] at hg'
            exact e1 (by simpa using (Prod.mk.inj (Option.some.inj hg')).1.symm)
          exact ⟨hg', fun o v hv => ⟨by rw [uc3 nv hne]; exact hv, World.frozen?_setCells ..⟩, fun ob _ hs => (q5 b' hne).trans hs⟩
      · intro b' c' u hg'
        rw [q4]; exact h.st.own b' c' u hg'
      · refine h.fr.trans ⟨q1, q2, q3, by omega, fun b' h1 h2 => ⟨q5 b' ?_, rfl⟩, hf⟩
        intro e1
        subst e1
        exact h2 c 0 hg
theorem Inv.rowStore (hE : E.Ok) {w0 w : World} {G0 : Org} {G : Gh} {L : Nat → Value} {st : St E.S} {a : Act} (h : Inv E w0 G0 st a w G L) {c e off b o0 m cap : Nat} {i : Int} {l : List (E.S e)} {y y' : E.S e} {new : List (AV E.S)} {nv : List Value} (hb : st.b c = some (.row e l false)) (hl : L c = .slice (some ⟨b, o0, none⟩) m cap) (hr : RL E w G L st.n new nv)
    (hy : idx l i = some y) (hp : E.pack e (setCells (E.cells e y) off new) = some y') (hle : off + new.length ≤ E.P.cellsOf e) :
    (∀ j, j < nv.length → (w.cell? ⟨b, o0 + i.toNat * E.P.cellsOf e + off + j, none⟩).isSome = true ∧ w.frozen? ⟨b, o0 + i.toNat * E.P.cellsOf e + off + j, none⟩ = false) ∧
    Inv E w0 G0 { st with b := upd st.b c (some (.row e (l.set i.toNat y') false)) } a (w.setCells b (o0 + i.toNat * E.P.cellsOf e + off) nv) G L :=
  h.rowStoreW hE hb hl hr hy (hE.pack e _ _ hp) hle
theorem u55 {t len e : Nat} (h : uQ3 E t = some (len, e)) : E.P.underlying t = some (.array len e) ∧ E.P.cellsOf e = 1 ∧ (E.P.info? e).isSome = true := by
  unfold uQ3 at h
  split at h
  · rename_i len' e' hu
    rw [Bool.cond_eq_ite] at h
    split at h
    · rename_i hc
      simp only [Bool.and_eq_true] at hc
      cases h
      exact ⟨hu, Nat.eq_of_beq_eq_true hc.2.1, hc.2.2⟩
    · cases h
  · cases h
theorem vt1 (st : St E.S) (d n : Nat) (x y : AV E.S) (b : Nat → Option (Box E.S)) : putS { s := putS st d x, b := b, n := n, z := st.z } d y = putS st d y := by
  funext j
  show upd (upd st.s d _) d _ j = upd st.s d _ j
  by_cases e : j = d
  · subst e; rw [ub4, ub4]
  · rw [ud5 _ _ e, ud5 _ _ e, ud5 _ _ e]
theorem vQ8 (a : Act) (d : Nat) (u v : Value) : (a.put (some d) v).put (some d) u = a.put (some d) u := by
  simp [Act.put]
theorem u54 (hE : E.Ok) {w0 w : World} {G0 : Org} {G : Gh} {L : Nat → Value} {st : St E.S} {a : Act} (h : Inv E w0 G0 st a w G L) (o : Oper) {t d len e : Nat} (ho : o.op = .alloc t) (hd : o.dst = some d) (hbig : uQ3 E t = some (len, e)) {cs : List (AV E.S)} (hz : zeroCells E t = some cs) {l : List (E.S e)} (hp : uL9 E e cs = some l) {κ : St E.S → Option R} {r : R}
    (hr : κ { s := putS st d (.rp st.n e 0 0), b := upd st.b st.n (some (.row e l false)), n := st.n + 1, z := st.z } = some r) (Q : Exit → Act → World → Prop) : o.wp E.P a w (Nxt E w0 G0 κ r) Q := by
  obtain ⟨hu, hc1, hinf⟩ := u55 hbig
  obtain ⟨it, v, hi, hv, rfl, hok⟩ := uw5 hz
  obtain ⟨hll, hpk⟩ := uE9 _ _ hp
  have hRL := RL.const (E := E) (w := w) (G := G) (L := L) (n := st.n) h.st.one hok
  have hvl : v.cells.toList.length = l.length := by rw [← hRL.len, hll]
  have hrun : (execOp a.eval o).run E.P w = .ok (.value (.pointer (some ⟨w.heap.size, 0, none⟩))) (w.alloc (.cells v.cells t)) := by
    unfold execOp
    rw [ho]
    simp [Instr.alloc, zeroValue, typeInfo, hi, hv, newVar, newRow]
  have hflat : Flat E w G L st.n e l v.cells.toList := by
    refine ⟨by rw [hc1, Nat.mul_one]; exact hvl, hRL.one, fun i x j cc hi' hj => ?_⟩
    have hil := (List.getElem?_eq_some_iff.1 hi').1
    have hjl : j < 1 := by rw [← hc1, ← hE.len e x]; exact (List.getElem?_eq_some_iff.1 hj).1
    obtain rfl : j = 0 := by omega
    have hcs := List.getElem?_eq_getElem (show i < (cellsOf (constAV (S := E.S) v)).length by omega)
    have hvs := List.getElem?_eq_getElem (show i < v.cells.toList.length by omega)
    have hrep := hRL.rep i _ _ hcs hvs
    have hpi := hpk i _ _ hcs hi'
    have hone := hRL.one _ (List.mem_of_getElem? hvs)
    have hR1 := uE8 hE h.st.one hpi hrep
    have e1 : (v.cells.toList[i]'(by omega)).cells.toList = [v.cells.toList[i]'(by omega)] := by
      generalize v.cells.toList[i]'(by omega) = u at hone
      cases u <;> first | rfl | (simp [Value.oneCell'] at hone)
    rw [e1] at hR1
    refine ⟨_, ?_, hR1.rep 0 cc _ hj rfl⟩
    rw [hc1, Nat.mul_one, Nat.add_zero, hvs]
  let C := v.cells
  have hbel : Below w.heap.size w (w.alloc (.cells C t)) := (Below.refl _ _).alloc (Nat.le_refl _) _
  let G' : Gh := fun b => if b = w.heap.size then some (some st.n, 0) else G b
  have hGo : ∀ b, b < w.heap.size → G' b = G b := fun b hb => if_neg (by omega)
  have hGn : G' w.heap.size = some (some st.n, 0) := if_pos rfl
  have hf : ∀ b o u, Imm G b o → w.cell? ⟨b, o, none⟩ = some u → Imm G' b o ∧ (w.alloc (.cells C t)).cell? ⟨b, o, none⟩ = some u := by
    intro b o u hi hc
    have hlt : b < w.heap.size := World.block_lt_of_cell? w _ hc
    exact ⟨fun c u hg => hi c u (by rw [← hGo b hlt]; exact hg), ua9 hbel hc⟩
  have hcell : ∀ j, (w.alloc (.cells C t)).cell? ⟨w.heap.size, j, none⟩ = C[j]? := fun j => World.cell?_alloc_new (w := w) C t j
  have hI := h.newRowL (w' := w.alloc (.cells C t)) (G' := G') hE (d := d) (c := none) (l := l) (sh := false) (v := .slice (some ⟨w.heap.size, 0, none⟩) l.length l.length) rfl hf
    (fun c' b u _ hg => by
      have hlt := (h.st.own b c' u hg).1
      exact ⟨by rw [hGo b hlt]; exact hg, fun o v hv => ⟨ua9 hbel hv, uc2 hbel hv⟩, fun ob _ hs => (hbel.block b (Array.getElem?_eq_some_iff.1 hs).1).trans hs⟩)
    (fun b c' u hg => by
      by_cases e1 : b = w.heap.size
      · subst e1
        rw [hGn] at hg
        obtain ⟨rfl, rfl⟩ := Prod.mk.inj (Option.some.inj hg)
        exact ⟨by rw [uj6]; omega, fun k hk => by obtain rfl := Option.some.inj hk; exact Nat.lt_succ_self _⟩
      · have : G' b = G b := if_neg e1
        rw [this] at hg
        obtain ⟨h1, h2⟩ := h.st.own b c' u hg
        exact ⟨by rw [uj6]; omega, fun k hk => Nat.lt_succ_of_lt (h2 k hk)⟩)
    ⟨hbel.os, hbel.tape, hbel.output, hbel.size, fun b h1 h2 => ⟨hbel.block b h1, hGo b h1⟩, hf⟩
    (.row e _ false w.heap.size 0 l.length (ui4.fresh hE (vs := v.cells.toList) (by simp) (Nat.le_refl _)
      (hflat.step hf (fun k hk => if_neg (by omega)) (Nat.le_succ _)) (fun j u hj => by
        rw [Nat.zero_add, hcell, ← Array.getElem?_toList]; exact hj)
      (.inr ⟨0, hGn, fun hs => (by cases hs), fun _ => rfl, fun o _ ho => by
        rw [Nat.zero_add, hc1, Nat.mul_one, ← hvl, Array.length_toList] at ho
        exact ⟨by rw [hcell]; simp [C, ho], uo7 w C t o⟩⟩)))
  have hI2 := hI.st.put (Below.refl _ _) (d := some d) (x := .rp st.n e 0 0) (v := .pointer (some ⟨w.heap.size, 0, none⟩)) (by
    have := Rep.rp (E := E) (w := w.alloc (.cells C t)) (G := G') (L := fun k => if k = st.n then Value.slice (some ⟨w.heap.size, 0, none⟩) l.length l.length else L k) (n := st.n + 1) st.n e 0 0 w.heap.size 0 l.length l.length (Nat.lt_succ_self _) (by simp)
    simp only [Int.toNat_zero, Nat.zero_mul, Nat.add_zero] at this
    exact this)
  have hI3 : Inv E w0 G0 { s := putS st d (.rp st.n e 0 0), b := upd st.b st.n (some (.row e l false)), n := st.n + 1, z := st.z } (a.put (some d) (.pointer (some ⟨w.heap.size, 0, none⟩))) (w.alloc (.cells C t)) G' (fun k => if k = st.n then Value.slice (some ⟨w.heap.size, 0, none⟩) l.length l.length else L k) := by
    refine ⟨?_, hI.fr, by rw [ue0]; exact h.df, hI.kp⟩
    rw [vQ8] at hI2
    have e1 : put (up4 st d none e l false) (some d) (.rp st.n e 0 0) = { s := putS st d (.rp st.n e 0 0), b := upd st.b st.n (some (.row e l false)), n := st.n + 1, z := st.z } := by
      show ({ s := putS (up4 st d none e l false) d _, b := _, n := _, z := _ } : St E.S) = _
      have := vt1 st d (st.n + 1) (.rw st.n) (.rp st.n e 0 0) (upd (drop st.b none) st.n (some (.row e l false)))
      unfold up4
      rw [this]
      rfl
    rw [e1] at hI2
    exact hI2
  unfold Oper.wp
  rw [hrun, Oper.upon_value, hd]
  exact ⟨_, G', _, hr, hI3⟩
end Go.Proofs.YtaennkkcnhfglaaGreatDoor.Ev
