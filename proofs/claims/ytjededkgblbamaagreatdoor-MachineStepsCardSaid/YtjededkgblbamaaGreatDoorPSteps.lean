/- The law MachineSteps. -/
import Derived.Test.YtjededkgblbamaaGreatDoorPHalt
set_option linter.unusedVariables false
set_option linter.unusedSimpArgs false
set_option linter.unnecessarySimpa false
namespace Go.Proofs.YtjededkgblbamaaGreatDoor.Ev.F
open Go.Proofs.YtjededkgblbamaaGreatDoor.Ev

def stE (s : St4) : Int := if (within s.1 0 15 && within s.2.1 0 1) = true then (if bytesE s.2.2.1 4 = 0 then bytesE s.2.2.2 8 else bytesE s.2.2.1 4) else 2
theorem pstate (s : St4) (hR : s.2.2.1.length ≤ 1000) (hM : s.2.2.2.length ≤ 1000) : run_machine_stateErr (.start s.1 s.2.1 s.2.2.1 s.2.2.2) = some ((stE s, ()), ()) := by
  simp only [run_machine_stateErr, run_machine_isPlace, pwithin, some_bind', punless, pbytes _ 4 hR, pmem _ hM]
  unfold stE
  cases within s.1 0 15 <;> cases within s.2.1 0 1 <;> by_cases h1 : bytesE s.2.2.1 4 = 0 <;> by_cases h2 : bytesE s.2.2.2 8 = 0 <;> simp [pfirst, firstE, some_bind', h1, h2]
theorem rstate (s : St4) (hR : s.2.2.1.length ≤ 1000) (hM : s.2.2.2.length ≤ 1000) : run_ratchetref31_StateErr (.start s.1 s.2.1 s.2.2.1 s.2.2.2) = some ((stE s, ()), ()) := by
  have h7 : ∀ x y : Int, run_ratchetref31_StateErr (.p7 x y s.2.2.1 s.2.2.2) = some ((if bytesE s.2.2.1 4 = 0 then bytesE s.2.2.2 8 else bytesE s.2.2.1 4, ()), ()) := by
    intro x y
    rw [run_ratchetref31_StateErr, rbytes _ 4 hR, rmem _ hM]
    simp only [some_bind']
    by_cases h1 : bytesE s.2.2.1 4 = 0 <;> simp [h1]
  rw [run_ratchetref31_StateErr]
  simp only [rwithin, some_bind', h7]
  unfold stE
  cases within s.1 0 15 <;> cases within s.2.1 0 1 <;> simp
theorem okst_of {s : St4} (h : stE s = 0) : Okst s := by
  unfold stE at h
  split at h
  · rename_i h1
    simp only [Bool.and_eq_true, within_iff] at h1
    split at h
    · rename_i h2
      obtain ⟨h3, h4⟩ := bytesE_ok (n := 4) h2
      obtain ⟨h5, h6⟩ := bytesE_ok (n := 8) h
      exact ⟨h1.1, by omega, h3, h5, h4, h6⟩
    · rename_i h2; exact absurd h h2
  · cases h
def asSt (s : St4) : api_MachineState := ⟨s.1, s.2.1, s.2.2.1, s.2.2.2⟩
/-- the states after so many steps -/
def runF (l : List api_MachineCode) : Nat → St4 → List St4
 | 0, _ => []
 | k + 1, s => stepS l s :: runF l k (stepS l s)
theorem runF_len (l : List api_MachineCode) : ∀ (k : Nat) (s : St4), (runF l k s).length = k
 | 0, _ => rfl
 | k + 1, s => by simp [runF, runF_len l k]
theorem prun_at {l : List api_MachineCode} (hp : Okp l) (N : Nat) (hN : N ≤ 2000) : ∀ (k i : Nat) (s : St4) (acc : List api_MachineState), Okst s → i + k = N → acc.length ≤ i →
    run_machine_RunOf (.p244 l (N : Int) (i : Int) s.1 s.2.1 s.2.2.1 s.2.2.2 acc) = some (((), ((0 : Int), ())), (acc ++ (runF l k s).map asSt, ()))
 | 0, i, s, acc, hs, h, ha => by
   rw [run_machine_RunOf, if_neg (by simp; omega)]
   simp [runF]
 | k + 1, i, s, acc, hs, h, ha => by
   have hi : i < N := by omega
   rw [run_machine_RunOf, if_pos (by simpa using hi), pstep hp hs]
   simp only [some_bind']
   rw [if_pos (fits_ok (by simp only [List.length_singleton]; omega)), wrap_succ hi (by omega)]
   rw [prun_at hp N hN k (i + 1) (stepS l s) _ (stepS_ok hp hs) (by omega) (by simp; omega)]
   simp [runF, asSt]

theorem loop_at {l : List api_MachineCode} (hp : Okp l) (N : Nat) (hN : N ≤ 2000) (all : List api_MachineState) (hlen : all.length = N) : ∀ (k i : Nat) (s : St4), Okst s → i + k = N → all.drop i = (runF l k s).map asSt →
    run_ratchetlaw31_MachineSteps (.p1048564 l (N : Int) (i : Int) all s.1 s.2.1 s.2.2.1 s.2.2.2) = some ((true, ()), ())
 | 0, i, s, hs, h, ha => by
   rw [run_ratchetlaw31_MachineSteps, if_neg (by simp; omega)]
 | k + 1, i, s, hs, h, ha => by
   have hi : i < N := by omega
   have hia : i < all.length := by omega
   rw [run_ratchetlaw31_MachineSteps, if_pos (by simpa using hi), rstep hp hs]
   simp only [some_bind']
   rw [if_pos (by simp; omega), idx_nat, List.getElem?_eq_getElem hia]
   simp only [some_bind']
   rw [drop_cons hia] at ha
   simp only [runF, List.map_cons, List.cons.injEq] at ha
   have ho := stepS_ok hp hs
   have hR := ho.lR
   have hM := ho.lM
   rw [ha.1]
   simp only [asSt]
   rw [rSame_refl _ _ _ _ (by omega) (by omega)]
   simp only [some_bind', Bool.not_true, Bool.false_eq_true, if_false]
   rw [wrap_succ hi (by omega)]
   exact loop_at hp N hN all hlen k (i + 1) (stepS l s) ho (by omega) ha.2

theorem steps_true (l : List api_MachineCode) (s : St4) (n : Int) : run_ratchetlaw31_MachineSteps (.start l s.1 s.2.1 s.2.2.1 s.2.2.2 n) = some ((true, ()), ()) := by
  rw [run_ratchetlaw31_MachineSteps]
  simp only [some_bind', Bool.not_true, Bool.false_eq_true, if_false]
  by_cases hl : (List.length l : Int) > 20
  · simp [hl]
  rw [if_neg (by simpa using hl)]
  simp only [run_ratchetlaw31_fewState]
  by_cases hR : (List.length s.2.2.1 : Int) ≤ 6
  rotate_left
  · simp [hR, some_bind']
  by_cases hM : (List.length s.2.2.2 : Int) ≤ 10
  rotate_left
  · simp [hR, hM, some_bind']
  have hR' : s.2.2.1.length ≤ 1000 := by omega
  have hM' : s.2.2.2.length ≤ 1000 := by omega
  simp only [hR, hM, decide_true, if_true, some_bind', Bool.not_true, Bool.false_eq_true, if_false]
  have key : run_ratchetlaw31_MachineSteps (.p15 l n s.1 s.2.1 s.2.2.1 s.2.2.2) = some ((true, ()), ()) := by
    -- what the program answers
    let d : Int := if (progE l).2 = 0 then stE s else (progE l).2
    have hd : d = if (progE l).2 = 0 then stE s else (progE l).2 := rfl
    have hbeg : run_machine_BeginningOf (.start s.2.2.2) = some ((if bytesE s.2.2.2 8 = 0 then st4 (0, 0, [0, 0, 0, 0], s.2.2.2) else st4 no4, (bytesE s.2.2.2 8, ())), ()) := by
      simp only [run_machine_BeginningOf, pmem _ hM', some_bind']
      by_cases h : bytesE s.2.2.2 8 = 0
      · simp [h, pbegin h, some_bind', st4]
      · simp [h, st4, no4]
    have hstep : run_machine_StepOf (.start l s.1 s.2.1 s.2.2.1 s.2.2.2) = some ((if d = 0 then st4 (stepS l s) else st4 no4, (d, ())), ()) := by
      simp only [run_machine_StepOf, pprogErr, pstate s hR' hM', some_bind', pfirst _ (show [(progE l).2, stE s].length ≤ 1000 by simp)]
      by_cases h1 : (progE l).2 = 0
      · by_cases h2 : stE s = 0
        · have e : d = 0 := by rw [hd, if_pos h1, h2]
          simp only [firstE, h1, h2, if_true, bne_self_eq_false, Bool.false_eq_true, if_false, pstep (okp_of h1) (okst_of h2), some_bind', e]
          rfl
        · have e : d = stE s := by rw [hd, if_pos h1]
          simp [firstE, h1, h2, e, st4, no4]
      · have e : d = (progE l).2 := by rw [hd, if_neg h1]
        simp [firstE, h1, e, st4, no4]
    have hrun : ∃ (all : List api_MachineState) (e : Int), run_machine_RunOf (.start l s.1 s.2.1 s.2.2.1 s.2.2.2 n) = some (((), (e, ())), (all, ())) ∧
        (d ≠ 0 → e = d ∧ all = []) ∧ (d = 0 → stepsE n ≠ 0 → e = stepsE n ∧ all = []) ∧ (d = 0 → ∀ N : Nat, n = (N : Int) → N ≤ 2000 → e = 0 ∧ all = (runF l N s).map asSt) := by
      have e0 : run_machine_RunOf (.start l s.1 s.2.1 s.2.2.1 s.2.2.2 n) = if ((firstE [(progE l).2, stE s, stepsE n]) != 0) = true then some (((), (firstE [(progE l).2, stE s, stepsE n], ())), (([] : List api_MachineState), ())) else run_machine_RunOf (.p244 l n (0 : Int) s.1 s.2.1 s.2.2.1 s.2.2.2 ([] : List api_MachineState)) := by
        rw [run_machine_RunOf]
        simp only [pprogErr, pstate s hR' hM', psteps, some_bind', pfirst _ (show [(progE l).2, stE s, stepsE n].length ≤ 1000 by simp)]
      rw [e0]
      by_cases h1 : (progE l).2 = 0
      · by_cases h2 : stE s = 0
        · have e : d = 0 := by rw [hd, if_pos h1, h2]
          by_cases h3 : stepsE n = 0
          · obtain ⟨N, rfl, hN⟩ := stepsE_ok h3
            have := prun_at (okp_of h1) N hN N 0 s [] (okst_of h2) (by omega) (by simp)
            refine ⟨(runF l N s).map asSt, 0, ?_, fun h => absurd e h, fun _ h => absurd h3 h, fun _ N' hN' _ => ?_⟩
            · rw [if_neg (by simp [firstE, h1, h2, h3])]
              simpa using this
            · obtain rfl : N = N' := by omega
              exact ⟨rfl, rfl⟩
          · refine ⟨[], stepsE n, ?_, fun h => absurd e h, fun _ _ => ⟨rfl, rfl⟩, fun _ N hN hN2 => ?_⟩
            · simp [firstE, h1, h2, h3]
            · exfalso
              apply h3
              unfold stepsE
              rw [if_pos (by rw [within_iff]; omega)]
        · have e : d = stE s := by rw [hd, if_pos h1]
          refine ⟨[], stE s, ?_, fun _ => ⟨e.symm, rfl⟩, fun h => absurd (e.symm.trans h) h2, fun h => absurd (e.symm.trans h) h2⟩
          simp [firstE, h1, h2]
      · have e : d = (progE l).2 := by rw [hd, if_neg h1]
        refine ⟨[], (progE l).2, ?_, fun _ => ⟨e.symm, rfl⟩, fun h => absurd (e.symm.trans h) h1, fun h => absurd (e.symm.trans h) h1⟩
        simp [firstE, h1]
    obtain ⟨all, e, hall, ha1, ha2, ha3⟩ := hrun
    have zero := rSame_refl 0 0 [] [] (by simp) (by simp)
    -- from the last place back to the first
    have h8191 : d = 0 → run_ratchetlaw31_MachineSteps (.p8191 l n e s.1 s.2.1 s.2.2.1 s.2.2.2 all) = some ((true, ()), ()) := by
      intro h0
      have h1 : (progE l).2 = 0 ∧ stE s = 0 := by
        rw [hd] at h0
        split at h0
        · rename_i h1; exact ⟨h1, h0⟩
        · rename_i h1; exact absurd h0 h1
      rw [run_ratchetlaw31_MachineSteps, rsteps]
      simp only [some_bind']
      by_cases h3 : stepsE n = 0
      · obtain ⟨N, rfl, hN⟩ := stepsE_ok h3
        obtain ⟨rfl, rfl⟩ := ha3 h0 N rfl hN
        have hlen : ((runF l N s).map asSt).length = N := by rw [List.length_map, runF_len]
        simp only [h3, bne_self_eq_false, Bool.false_eq_true, if_false, hlen]
        rw [run_ratchetlaw31_MachineSteps]
        exact loop_at (okp_of h1.1) N hN _ hlen N 0 s (okst_of h1.2) (by omega) (by rw [List.drop_zero])
      · obtain ⟨rfl, rfl⟩ := ha2 h0 h3
        simp [h3]
    have h2047 : ∀ q : St4, q = (if d = 0 then stepS l s else no4) → run_ratchetlaw31_MachineSteps (.p2047 l n d e d s.1 s.2.1 s.2.2.1 s.2.2.2 q.1 q.2.1 q.2.2.1 q.2.2.2 all 0 0) = some ((true, ()), ()) := by
      intro q hq
      rw [run_ratchetlaw31_MachineSteps]
      by_cases h0 : d = 0
      · have h1 : (progE l).2 = 0 ∧ stE s = 0 := by
          rw [hd] at h0
          split at h0
          · rename_i h1; exact ⟨h1, h0⟩
          · rename_i h1; exact absurd h0 h1
        rw [if_pos h0] at hq
        subst hq
        have ho := stepS_ok (okp_of h1.1) (okst_of h1.2)
        have hR2 := ho.lR
        have hM2 := ho.lM
        simp only [h0, bne_self_eq_false, Bool.false_eq_true, if_false, rstep (okp_of h1.1) (okst_of h1.2), some_bind', rSame_refl _ _ _ _ (show (stepS l s).2.2.1.length ≤ 1000 by omega) (show (stepS l s).2.2.2.length ≤ 1000 by omega), Bool.not_true]
        exact h8191 h0
      · rw [if_neg h0] at hq
        subst hq
        obtain ⟨rfl, rfl⟩ := ha1 h0
        simp [h0, no4, zero, some_bind']
    have h511 : ∀ q : St4, q = (if d = 0 then stepS l s else no4) → run_ratchetlaw31_MachineSteps (.p511 l n d e s.1 s.2.1 s.2.2.1 s.2.2.2 q.1 q.2.1 q.2.2.1 q.2.2.2 all 0 0) = some ((true, ()), ()) := by
      intro q hq
      have h6 := h2047 q hq
      rw [run_ratchetlaw31_MachineSteps, rprogErr]
      simp only [some_bind']
      by_cases h1 : (progE l).2 = 0
      · rw [if_pos (by simp [h1]), rstate s hR' hM']
        simp only [some_bind']
        have e2 : d = stE s := by rw [hd, if_pos h1]
        rw [e2] at h6 ⊢
        exact h6
      · rw [if_neg (by simpa using h1)]
        have e2 : d = (progE l).2 := by rw [hd, if_neg h1]
        rw [e2] at h6 ⊢
        exact h6
    rw [run_ratchetlaw31_MachineSteps]
    rw [rcopyI hM']
    simp only [some_bind', hbeg]
    rw [rcopyP (show l.length ≤ 1000 by omega)]
    simp only [some_bind']
    have hcv : run_ratchetref31_Copy_v1 (.start s.1 s.2.1 s.2.2.1 s.2.2.2) = some (((s.1, (s.2.1, ((), ((), ())))), ()), (s.2.2.1, (s.2.2.2, ()))) := by
      simp only [run_ratchetref31_Copy_v1, rcopyI hR', rcopyI hM', some_bind']
    simp only [hcv, some_bind', hstep, hall, rmem _ hM']
    obtain ⟨q, hqd⟩ : ∃ q, q = (if d = 0 then stepS l s else no4) := ⟨_, rfl⟩
    have hq := h511 q hqd
    have e4 : (if d = 0 then st4 (stepS l s) else st4 no4) = st4 q := by rw [hqd]; split <;> rfl
    simp only [e4]
    clear hqd e4 h511 h2047 h8191 hstep hall hbeg
    by_cases h0 : bytesE s.2.2.2 8 = 0
    · have hr := rSame_refl 0 0 [0, 0, 0, 0] s.2.2.2 (by simp) hM'
      simp [h0, rbegin h0, some_bind', hr, st4, hq]
    · simp [h0, no4, zero, some_bind', st4, hq]
  rw [rsteps]
  simp only [some_bind', key]
  split
  · split <;> rfl
  · rfl
theorem steps_law (a0 : List api_MachineCode) (a1 : api_MachineState) (a2 : Int) : run_ratchetlaw31_MachineSteps (.start a0 a1.Pc a1.Halted a1.Registers a1.Memory a2) = some ((true, ()), ()) := steps_true a0 (a1.Pc, a1.Halted, a1.Registers, a1.Memory) a2
end Go.Proofs.YtjededkgblbamaaGreatDoor.Ev.F
