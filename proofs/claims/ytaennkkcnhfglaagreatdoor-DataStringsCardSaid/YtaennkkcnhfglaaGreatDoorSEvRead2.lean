/- A part of the proof. -/
import Derived.Test.YtaennkkcnhfglaaGreatDoorSEvRead
set_option linter.unusedVariables false
namespace Go.Proofs.YtaennkkcnhfglaaGreatDoor.Ev
open Go.RowKit
variable {E : Env}
theorem ui4.snap {w : World} {G : Gh} {L : Nat → Value} {n c e : Nat} {l : List (E.S e)} {b off cap : Nat} (hE : E.Ok) (h : ui4 E w G L n c e l true b off cap) : Rep E w G L n (.sl e l false) (L c) := by
  rw [h.loc]
  have hv : ∀ i x j cc, l[i]? = some x → (E.cells e x)[j]? = some cc → w.cell? ⟨b, off + i * E.P.cellsOf e + j, none⟩ = some ((w.cell? ⟨b, off + i * E.P.cellsOf e + j, none⟩).getD undef) ∧ Rep E w G L n cc ((w.cell? ⟨b, off + i * E.P.cellsOf e + j, none⟩).getD undef) := by
    intro i x j cc hi hj
    obtain ⟨v, h1, h2⟩ := h.cells i x j cc hi hj
    rw [h1]; exact ⟨rfl, h2⟩
  have himm : ∀ o, off ≤ o → o < off + l.length * E.P.cellsOf e → Imm G b o := by
    rcases h.own with ⟨_, _, h3⟩ | ⟨u, h1, h2, _, _⟩
    · exact h3
    · intro o h3 h4 c' u' hg
      rw [h1] at hg
      obtain ⟨rfl, rfl⟩ := Prod.mk.inj (Option.some.inj hg)
      rw [h2 rfl]; exact h4
  refine .sl e l false b off cap (fun o => (w.cell? ⟨b, o, none⟩).getD undef) h.le (fun h => by cases h) (fun i x j cc hi hj => ⟨?_, (hv i x j cc hi hj).1⟩) (fun i x j cc hi hj => (hv i x j cc hi hj).2)
  have h1 : i < l.length := (List.getElem?_eq_some_iff.1 hi).1
  have h2 : j < E.P.cellsOf e := by rw [← hE.len e x]; exact (List.getElem?_eq_some_iff.1 hj).1
  have h3 : i * E.P.cellsOf e + E.P.cellsOf e ≤ l.length * E.P.cellsOf e := by
    rw [← Nat.succ_mul]; exact Nat.mul_le_mul_right _ h1
  exact himm _ (by omega) (by omega)
theorem ub2.snap (hE : E.Ok) {w : World} {G : Gh} {L : Nat → Value} {n c e : Nat} {l : List (E.S e)} (h : ub2 E w G L n c (.row e l true)) : Rep E w G L n (.sl e l false) (L c) := by
  cases h with
  | nil e sh o hl => rw [hl]; exact .zero o
  | row e l sh b off cap h => exact h.snap hE
theorem uO3 (hE : E.Ok) {w : World} {G : Gh} {L : Nat → Value} {st : St E.S} {ts : Array Value} (h : ue7 E w G L st ts) {x : AV E.S} {v : Value} (hx : Rep E w G L st.n x v) : Rep E w G L st.n (ul4 st.b x) v := by
  unfold ul4
  split
  · rename_i c
    split
    · rename_i e l hb
      have hv : v = L c := by cases hx with | rw c hc h => rfl
      rw [hv]
      exact (h.boxes c _ hb).2.snap hE
    · exact hx
  · exact hx
theorem um7 (hE : E.Ok) {w : World} {G : Gh} {L : Nat → Value} {st : St E.S} {ts : Array Value} (h : ue7 E w G L st ts) {x : AV E.S} {v : Value} (hx : Rep E w G L st.n x v) : Rep E w G L st.n (uh6 st.b x) v := by
  unfold uh6
  split
  · rename_i cs
    cases hx with
    | agg _ vs hl hr h1 =>
      refine .agg _ vs (by simpa using hl) (fun i x y hi hy => ?_) h1
      rw [List.getElem?_map] at hi
      obtain ⟨x', h2, rfl⟩ := Option.map_eq_some_iff.1 hi
      exact uO3 hE h (hr i x' y h2 hy)
  · exact uO3 hE h hx
theorem vu1 (b : Nat → Option (Box E.S)) (x : AV E.S) : (cellsOf (uh6 b x)).length = (cellsOf x).length := by
  unfold uh6
  split
  · simp [cellsOf]
  · rename_i hx
    unfold ul4
    split
    · split <;> rfl
    · rfl
theorem vG0 {b : Nat → Option (Box E.S)} {x : AV E.S} (h : okC x = true) : okC (uh6 b x) = true := by
  unfold uh6
  split
  · rfl
  · unfold ul4
    split
    · split <;> rfl
    · exact h
theorem ub2.isSl {w : World} {G : Gh} {L : Nat → Value} {n c e : Nat} {l : List (E.S e)} {sh : Bool} (h : ub2 E w G L n c (.row e l sh)) : Ev.isSl (L c) = true := by
  cases h with
  | nil e sh o hl => rw [hl]; rfl
  | row e l sh b off cap h => rw [h.loc]; rfl
theorem Rep.rw_inv {w : World} {G : Gh} {L : Nat → Value} {n c : Nat} {v : Value} (h : Rep E w G L n (.rw c) v) : v = L c ∧ c < n := by cases h with | rw c hc h => exact ⟨rfl, hc⟩
theorem uS6 (hE : E.Ok) {w : World} {G : Gh} {L : Nat → Value} {st : St E.S} {ts : Array Value} (h : ue7 E w G L st ts) {x : AV E.S} {v : Value} (hx : Rep E w G L st.n x v) {s : Sl E.S} (hs : uO1 st.b x = some s) : Rep E w G L st.n (.sl s.e s.l false) v := by
  unfold uO1 at hs
  split at hs
  · obtain rfl := Option.some.inj hs
    exact hx.weak (.full _ _ _)
  · rename_i c
    split at hs
    · rename_i e l hb
      obtain rfl := Option.some.inj hs
      obtain ⟨rfl, hc⟩ := hx.rw_inv
      exact (h.boxes c _ hb).2.snap hE
    · cases hs
  · cases hs
theorem up1 {n : Nat} {lo hi : Int} {p : Nat × Nat} (h : span n lo hi = some p) : 0 ≤ lo ∧ lo ≤ hi ∧ hi ≤ (n : Int) ∧ p = (lo.toNat, hi.toNat) := by
  unfold span at h
  split at h
  · rename_i h1; exact ⟨h1.1, h1.2.1, h1.2.2, (Option.some.inj h).symm⟩
  · cases h
theorem um0 {k : IntKind} {i : Int} {y : Nat} {code : BoundsCode} (h0 : 0 ≤ i) (h1 : i ≤ (y : Int)) (w : World) : (Instr.sliceBound (.int k i) y code).run E.P w = .ok i.toNat w := by
  simp [Instr.sliceBound, asIntOf, h0, h1]
theorem uh7 (isSlice : Bool) (len cap : Nat) (low high : Option Value) (l h : Int) (h0 : 0 ≤ l) (h1 : l ≤ h) (h2 : h ≤ (cap : Int)) (hl : (low = none ∧ l = 0) ∨ ∃ k, low = some (.int k l)) (hh : (high = none ∧ h = (len : Int)) ∨ ∃ k, high = some (.int k h)) (w : World) :
    (Instr.sliceBounds isSlice len cap low high none).run E.P w = .ok (l.toNat, h.toNat, cap) w := by
  rcases hl with ⟨rfl, rfl⟩ | ⟨kl, rfl⟩ <;> rcases hh with ⟨rfl, rfl⟩ | ⟨kh, rfl⟩
  · simp [Instr.sliceBounds]
  · cases isSlice <;> simp [Instr.sliceBounds, um0 (E := E) (by omega : (0 : Int) ≤ h) h2]
  · have := um0 (E := E) (k := kl) (i := l) (y := len) (code := .sliceB) h0 h1 w
    simp [Instr.sliceBounds, this]
  · have := um0 (E := E) (k := kl) (i := l) (y := h.toNat) (code := .sliceB) h0 (by omega) w
    cases isSlice <;> simp [Instr.sliceBounds, um0 (E := E) (by omega : (0 : Int) ≤ h) h2, this]
theorem u60 {α : Type} {l : List α} {p : Nat × Nat} (h : p.2 ≤ l.length) : (cut l p).length = p.2 - p.1 := by
  simp [cut]; omega
theorem uD9 {α : Type} {l : List α} {p : Nat × Nat} {i : Nat} {x : α} (h : (cut l p)[i]? = some x) : l[p.1 + i]? = some x := by
  unfold cut at h
  rw [List.getElem?_drop, List.getElem?_take] at h
  split at h
  · exact h
  · cases h
theorem ud4 {e : Nat} (h : (E.P.info? e).isSome = true) (w : World) : (sizeOf e).run E.P w = .ok (E.P.cellsOf e) w := by
  obtain ⟨i, hi⟩ := Option.isSome_iff_exists.1 h
  simp [sizeOf, typeInfo, hi, Program.cellsOf]
theorem vd1 (hE : E.Ok) {w : World} {G : Gh} {L : Nat → Value} {n t e : Nat} (hu : E.P.underlying t = some (.slice e)) (hi : (E.P.info? e).isSome = true) {xs : List (E.S e)} {f : Bool} {v : Value} (hx : Rep E w G L n (.sl e xs f) v) {low high : Option Value} {l h : Int} {p : Nat × Nat} (hp : span xs.length l h = some p)
    (hl : (low = none ∧ l = 0) ∨ ∃ k, low = some (.int k l)) (hh : (high = none ∧ h = (xs.length : Int)) ∨ ∃ k, high = some (.int k h)) : uc5 E w G L n (.sl e (cut xs p) false) (Instr.sliceAt t v low high none) := by
  obtain ⟨h0, h1, h2, rfl⟩ := up1 hp
  have hlen : (cut xs (l.toNat, h.toNat)).length = h.toNat - l.toNat := u60 (by simp; omega)
  have hsz := ud4 hi w
  have hat : ∀ v, (Instr.sliceAt t v low high none).run E.P w = (Instr.slice t v low high none).run E.P w := fun v => by simp [Instr.sliceAt, run_underlying hu]
  cases hx with
  | sn =>
    have : (cut ([] : List (E.S e)) (l.toNat, h.toNat)) = [] := List.eq_nil_of_length_eq_zero (by rw [hlen]; simp at h2; omega)
    rw [this]
    simp at h2
    have hb := uh7 (E := E) true 0 0 low high l h h0 h1 (by omega) hl (by simpa using hh) w
    have e1 : l.toNat = 0 := by omega
    have e2 : h.toNat = 0 := by omega
    refine .here (v := .slice none 0 0) ?_ (.sn e false)
    rw [e1, e2] at hb
    rw [hat]
    simp [run_underlying hu, Instr.slice, hb, hsz]
  | se _ a _ =>
    have : (cut ([] : List (E.S e)) (l.toNat, h.toNat)) = [] := List.eq_nil_of_length_eq_zero (by rw [hlen]; simp at h2; omega)
    rw [this]
    simp at h2
    have hb := uh7 (E := E) true 0 0 low high l h h0 h1 (by omega) hl (by simpa using hh) w
    have e1 : l.toNat = 0 := by omega
    have e2 : h.toNat = 0 := by omega
    refine .here (v := .slice (some a) 0 0) ?_ (.se e a false)
    rw [e1, e2] at hb
    rw [hat]
    simp [run_underlying hu, Instr.slice, hb, hsz]
  | sl _ _ _ b off cap vals hc hf h3 h4 =>
    have hb := uh7 (E := E) true xs.length cap low high l h h0 h1 (by omega) hl hh w
    have hlh : h.toNat - l.toNat ≤ cap - l.toNat := by omega
    rw [← hlen] at hlh
    by_cases hcl : cap = l.toNat
    · subst hcl
      refine .here (v := .slice (some ⟨b, off, none⟩) (cut xs (l.toNat, h.toNat)).length (l.toNat - l.toNat)) ?_ ?_
      · rw [hat]
        simp [run_underlying hu, Instr.slice, hb, hsz, hlen]
      · have : (cut xs (l.toNat, h.toNat)) = [] := List.eq_nil_of_length_eq_zero (by omega)
        rw [this]
        exact .sl e [] false b off (l.toNat - l.toNat) vals (by simp) (fun h => by cases h) (fun i x j c hi => by simp at hi) (fun i x j c hi => by simp at hi)
    · refine .here (v := .slice (some ⟨b, off + l.toNat * E.P.cellsOf e, none⟩) (cut xs (l.toNat, h.toNat)).length (cap - l.toNat)) ?_ ?_
      · rw [hat]
        simp [run_underlying hu, Instr.slice, hb, hsz, hcl, hlen, Addr.add_mid]
      · have e1 : ∀ i j, off + l.toNat * E.P.cellsOf e + i * E.P.cellsOf e + j = off + (l.toNat + i) * E.P.cellsOf e + j := fun i j => by rw [Nat.add_mul]; omega
        refine .sl e _ false b (off + l.toNat * E.P.cellsOf e) (cap - l.toNat) vals hlh (fun h => by cases h) (fun i x j c hi hj => ?_) (fun i x j c hi hj => ?_)
        · rw [e1]; exact h3 _ x j c (uD9 hi) hj
        · rw [e1]; exact h4 _ x j c (uD9 hi) hj
theorem vd2 (hE : E.Ok) {w : World} {G : Gh} {L : Nat → Value} {st : St E.S} {ts : Array Value} (h : ue7 E w G L st ts) {e : Nat} {x : AV E.S} {v : Value} (hx : Rep E w G L st.n x v) {s : Sl E.S} (hs : uv2 st.b e x = some s) : Rep E w G L st.n (.sl s.e s.l false) v := by
  unfold uv2 at hs
  split at hs
  · obtain rfl := Option.some.inj hs
    cases hx
    exact .sn e false
  · exact uS6 hE h hx hs
theorem ux5 (isSlice : Bool) (len cap : Nat) (low : Option Value) (l h : Int) (high mx : Value) (h0 : 0 ≤ l) (h1 : l ≤ h) (h2 : h ≤ (cap : Int)) (hl : (low = none ∧ l = 0) ∨ ∃ k, low = some (.int k l)) (hh : ∃ k, high = .int k h) (hm : ∃ k, mx = .int k h) (w : World) :
    (Instr.sliceBounds isSlice len cap low (some high) (some mx)).run E.P w = .ok (l.toNat, h.toNat, h.toNat) w := by
  obtain ⟨kh, rfl⟩ := hh
  obtain ⟨km, rfl⟩ := hm
  have e1 : ∀ code, (Instr.sliceBound (.int kh h) h.toNat code).run E.P w = .ok h.toNat w := fun code => um0 (by omega) (by omega) w
  have e2 : ∀ code, (Instr.sliceBound (.int km h) cap code).run E.P w = .ok h.toNat w := fun code => um0 (by omega) (by omega) w
  rcases hl with ⟨rfl, rfl⟩ | ⟨kl, rfl⟩
  · cases isSlice <;> simp [Instr.sliceBounds, e1, e2]
  · have e3 : ∀ code, (Instr.sliceBound (.int kl l) h.toNat code).run E.P w = .ok l.toNat w := fun code => um0 h0 (by omega) w
    cases isSlice <;> simp [Instr.sliceBounds, e1, e2, e3]
theorem u43 (hE : E.Ok) {w : World} {G : Gh} {L : Nat → Value} {n t e : Nat} (hu : E.P.underlying t = some (.slice e)) (hi : (E.P.info? e).isSome = true) {xs : List (E.S e)} {f : Bool} {v : Value} (hx : Rep E w G L n (.sl e xs f) v) {low : Option Value} {high mx : Value} {l h : Int} {p : Nat × Nat} (hp : span xs.length l h = some p)
    (hl : (low = none ∧ l = 0) ∨ ∃ k, low = some (.int k l)) (hh : ∃ k, high = .int k h) (hm : ∃ k, mx = .int k h) : uc5 E w G L n (.sl e (cut xs p) true) (Instr.sliceAt t v low (some high) (some mx)) := by
  obtain ⟨h0, h1, h2, rfl⟩ := up1 hp
  have hlen : (cut xs (l.toNat, h.toNat)).length = h.toNat - l.toNat := u60 (by simp; omega)
  have hsz := ud4 hi w
  have hat : ∀ v, (Instr.sliceAt t v low (some high) (some mx)).run E.P w = (Instr.slice t v low (some high) (some mx)).run E.P w := fun v => by simp [Instr.sliceAt, run_underlying hu]
  cases hx with
  | sn =>
    have : (cut ([] : List (E.S e)) (l.toNat, h.toNat)) = [] := List.eq_nil_of_length_eq_zero (by rw [hlen]; simp at h2; omega)
    rw [this]
    simp at h2
    have hb := ux5 (E := E) true 0 0 low l h high mx h0 h1 (by omega) hl hh hm w
    have e1 : l.toNat = 0 := by omega
    have e2 : h.toNat = 0 := by omega
    refine .here (v := .slice none 0 0) ?_ (.sn e true)
    rw [e1, e2] at hb
    rw [hat]
    simp [run_underlying hu, Instr.slice, hb, hsz]
  | se _ a _ =>
    have : (cut ([] : List (E.S e)) (l.toNat, h.toNat)) = [] := List.eq_nil_of_length_eq_zero (by rw [hlen]; simp at h2; omega)
    rw [this]
    simp at h2
    have hb := ux5 (E := E) true 0 0 low l h high mx h0 h1 (by omega) hl hh hm w
    have e1 : l.toNat = 0 := by omega
    have e2 : h.toNat = 0 := by omega
    refine .here (v := .slice (some a) 0 0) ?_ (.se e a true)
    rw [e1, e2] at hb
    rw [hat]
    simp [run_underlying hu, Instr.slice, hb, hsz]
  | sl _ _ _ b off cap vals hc hf h3 h4 =>
    have hb := ux5 (E := E) true xs.length cap low l h high mx h0 h1 (by omega) hl hh hm w
    by_cases hcl : h.toNat = l.toNat
    · have hnil : (cut xs (l.toNat, h.toNat)) = [] := List.eq_nil_of_length_eq_zero (by omega)
      rw [hnil]
      refine .here (v := .slice (some ⟨b, off, none⟩) 0 0) ?_ (.sl e [] true b off 0 vals (by simp) (fun _ => rfl) (fun i x j c hi => by simp at hi) (fun i x j c hi => by simp at hi))
      rw [hat]
      simp [run_underlying hu, Instr.slice, hb, hsz, hcl]
    · refine .here (v := .slice (some ⟨b, off + l.toNat * E.P.cellsOf e, none⟩) (cut xs (l.toNat, h.toNat)).length (h.toNat - l.toNat)) ?_ ?_
      · rw [hat]
        simp [run_underlying hu, Instr.slice, hb, hsz, hcl, hlen, Addr.add_mid]
      · have e1 : ∀ i j, off + l.toNat * E.P.cellsOf e + i * E.P.cellsOf e + j = off + (l.toNat + i) * E.P.cellsOf e + j := fun i j => by rw [Nat.add_mul]; omega
        refine .sl e _ true b (off + l.toNat * E.P.cellsOf e) (h.toNat - l.toNat) vals (by omega) (fun _ => hlen.symm) (fun i x j c hi hj => ?_) (fun i x j c hi hj => ?_)
        · rw [e1]; exact h3 _ x j c (uD9 hi) hj
        · rw [e1]; exact h4 _ x j c (uD9 hi) hj
theorem uP6 {w : World} {G : Gh} {L : Nat → Value} {n t : Nat} (hu : E.P.underlying t = some .string) {s : ByteArray} {low high : Option Value} {l h : Int} {p : Nat × Nat} (hp : span s.size l h = some p)
    (hl : (low = none ∧ l = 0) ∨ ∃ k, low = some (.int k l)) (hh : (high = none ∧ h = (s.size : Int)) ∨ ∃ k, high = some (.int k h)) : uc5 E w G L n (.v (.string (s.extract p.1 p.2))) (Instr.sliceAt t (.string s) low high none) := by
  obtain ⟨h0, h1, h2, rfl⟩ := up1 hp
  have hb := uh7 (E := E) false s.size s.size low high l h h0 h1 h2 hl hh w
  refine .here (v := .string (s.extract l.toNat h.toNat)) ?_ (.v _ rfl)
  simp [Instr.sliceAt, run_underlying hu, Instr.slice, hb]
theorem uI1 {α : Type} {l : List α} {i : Int} {x : α} (h : idx l i = some x) : 0 ≤ i ∧ i < (l.length : Int) ∧ l[i.toNat]? = some x := by
  unfold idx at h
  split at h
  · rename_i h0
    have := (List.getElem?_eq_some_iff.1 h).1
    exact ⟨h0, by omega, h⟩
  · cases h
theorem uu1 (hE : E.Ok) {w : World} {G : Gh} {L : Nat → Value} {n t e : Nat} (hu : E.P.underlying t = some (.slice e)) (hi : (E.P.info? e).isSome = true) {xs : List (E.S e)} {f : Bool} {v : Value} (hx : Rep E w G L n (.sl e xs f) v) {k : IntKind} {i : Int} {x : E.S e} (h : idx xs i = some x) :
    uc5 E w G L n (.el e x 0) (Instr.indexAt t v (.int k i)) := by
  obtain ⟨h0, h1, h2⟩ := uI1 h
  have hsz := ud4 hi w
  cases hx with
  | sn => simp at h1; omega
  | se => simp at h1; omega
  | sl _ _ _ b off cap vals hc hf h3 h4 =>
    refine .here (v := .pointer (some ⟨b, off + i.toNat * E.P.cellsOf e + 0, none⟩)) ?_ (.el e x 0 b (off + i.toNat * E.P.cellsOf e) vals (fun j c hj => h3 _ x j c h2 hj) (fun j c hj => h4 _ x j c h2 hj))
    simp [Instr.indexAt, asIntOf, run_underlying hu, h0, h1, hsz, Addr.add_mid]
theorem vu0 {s : ByteArray} {i c : Int} (h : sidx s i = some c) : 0 ≤ i ∧ ∃ b : UInt8, s[i.toNat]? = some b ∧ c = (b.toNat : Int) := by
  unfold sidx at h
  split at h
  · rename_i h0
    obtain ⟨b, hb, rfl⟩ := Option.map_eq_some_iff.1 h
    refine ⟨h0, b, ?_, rfl⟩
    have hlt : i.toNat < s.data.toList.length := (List.getElem?_eq_some_iff.1 hb).1
    have hlt' : i.toNat < s.size := by simpa using hlt
    rw [List.getElem?_eq_getElem hlt] at hb
    rw [getElem?_pos s i.toNat hlt']
    exact hb
  · cases h
end Go.Proofs.YtaennkkcnhfglaaGreatDoor.Ev
