/- The laws MachineHalts and MachineSteps. -/
import Derived.Test.YtjededkgblbamaaGreatDoorPStep
set_option linter.unusedVariables false
set_option linter.unusedSimpArgs false
set_option linter.unnecessarySimpa false
namespace Go.Proofs.YtjededkgblbamaaGreatDoor.Ev.F
open Go.Proofs.YtjededkgblbamaaGreatDoor.Ev

theorem pprogErr (l : List api_MachineCode) : run_machine_programErr (.start l) = some (((progE l).2, ()), ()) := by
  simp only [run_machine_programErr, pprog, some_bind']
theorem rprogErr (l : List api_MachineCode) : run_ratchetref31_ProgramErr (.start l) = some (((progE l).2, ()), ()) := by
  simp only [run_ratchetref31_ProgramErr, rprog, some_bind']
theorem pmem (M : List Int) (h : M.length ≤ 1000) : run_machine_memoryErr (.start M) = some ((bytesE M 8, ()), ()) := by
  simp only [run_machine_memoryErr, pbytes M 8 h, some_bind']
theorem rmem (M : List Int) (h : M.length ≤ 1000) : run_ratchetref31_MemoryErr (.start M) = some ((bytesE M 8, ()), ()) := by
  simp only [run_ratchetref31_MemoryErr, rbytes M 8 h, some_bind']
def stepsE (n : Int) : Int := if within n 0 2000 = true then 0 else 2
theorem psteps (n : Int) : run_machine_stepsErr (.start n) = some ((stepsE n, ()), ()) := by
  simp only [run_machine_stepsErr, pwithin, some_bind', punless]; rfl
theorem rsteps (n : Int) : run_ratchetref31_StepsErr (.start n) = some ((stepsE n, ()), ()) := by
  simp only [run_ratchetref31_StepsErr, rwithin, some_bind']
  unfold stepsE
  cases within n 0 2000 <;> simp
theorem bytesE_ok {l : List Int} {n : Nat} (h : bytesE l n = 0) : l.length = n ∧ ∀ x ∈ l, 0 ≤ x ∧ x ≤ 255 := by
  unfold bytesE at h
  split at h
  · rename_i h1
    split at h
    · rename_i h2
      refine ⟨by omega, fun x hx => ?_⟩
      have := List.all_eq_true.1 h2 x hx
      exact within_iff.1 this
    · cases h
  · cases h
theorem okst_begin {M : List Int} (h : bytesE M 8 = 0) : Okst (0, 0, [0, 0, 0, 0], M) := by
  obtain ⟨h1, h2⟩ := bytesE_ok (n := 8) h
  exact ⟨by simp, .inl rfl, rfl, h1, by simp, h2⟩
theorem pbegin {M : List Int} (h : bytesE M 8 = 0) : run_machine_beginning (.start M) = some (((0, (0, ((), ((), ())))), ()), ([0, 0, 0, 0], (M, ()))) := by
  obtain ⟨h1, h2⟩ := bytesE_ok (n := 8) h
  simp only [run_machine_beginning, show fitsM 4 4 8 = true from rfl, if_true, (pclone (l := M) (fun e => by rw [e] at h1; simp at h1) (by omega)).2, some_bind']
  rfl
theorem rbegin {M : List Int} (h : bytesE M 8 = 0) : run_ratchetref31_Beginning (.start M) = some (((0, (0, ((), ((), ())))), ()), ([0, 0, 0, 0], (M, ()))) := by
  obtain ⟨h1, h2⟩ := bytesE_ok (n := 8) h
  simp only [run_ratchetref31_Beginning, show fitsM 4 4 8 = true from rfl, if_true, rcopyI (l := M) (by omega), some_bind']
  rfl

def haltF (l : List api_MachineCode) : Nat → Nat → St4 → Option (St4 × Nat)
 | 0, _, _ => none
 | k + 1, i, s => if (stepS l s).2.1 = 1 then some (stepS l s, i + 1) else haltF l k (i + 1) (stepS l s)
def st4 (s : St4) : Int × Int × List Int × List Int × Unit := (s.1, (s.2.1, (s.2.2.1, (s.2.2.2, ()))))
def no4 : St4 := (0, 0, [], [])
theorem phalt_at {l : List api_MachineCode} (hp : Okp l) (N : Nat) (hN : N ≤ 2000) (x y : Int) : ∀ (k i : Nat) (s : St4), Okst s → i + k = N →
    run_machine_HaltOf (.p244 l (N : Int) (i : Int) x y s.1 s.2.1 s.2.2.1 s.2.2.2) = some ((match haltF l k i s with | some (s', j) => (st4 s', (((j : Nat) : Int), ((0 : Int), ()))) | none => (st4 no4, ((0 : Int), ((28 : Int), ())))), ())
 | 0, i, s, hs, h => by
   rw [run_machine_HaltOf]
   rw [if_neg (by simp; omega)]
   rfl
 | k + 1, i, s, hs, h => by
   have hi : i < N := by omega
   rw [run_machine_HaltOf]
   rw [if_pos (by simpa using hi), pstep hp hs]
   simp only [some_bind']
   rw [wrap_succ hi (by omega)]
   unfold haltF
   by_cases h1 : (stepS l s).2.1 = 1
   · rw [if_pos h1, if_pos (by simp [h1])]
     rfl
   · rw [if_neg h1, if_neg (by simp [h1])]
     exact phalt_at hp N hN x y k (i + 1) (stepS l s) (stepS_ok hp hs) (by omega)
theorem rhalt_at {l : List api_MachineCode} (hp : Okp l) (N : Nat) (hN : N ≤ 2000) (x y : Int) : ∀ (k i : Nat) (s : St4), Okst s → s.2.1 ≠ 1 → i + k = N →
    run_ratchetref31_Halt (.p116 l (N : Int) (i : Int) x y s.1 s.2.1 s.2.2.1 s.2.2.2) = some ((match haltF l k i s with | some (s', j) => (st4 s', (((j : Nat) : Int), (true, ()))) | none => (st4 no4, ((0 : Int), (false, ())))), ())
 | 0, i, s, hs, hh, h => by
   rw [run_ratchetref31_Halt]
   rw [if_pos (by simp; omega), if_neg (by simpa using hh), rstep hp hs]
   simp only [some_bind']
   rw [wrap_succ (n := i + 1) (by omega) (by omega), run_ratchetref31_Halt]
   rw [if_neg (by simp; omega)]
   rfl
 | k + 1, i, s, hs, hh, h => by
   rw [run_ratchetref31_Halt]
   rw [if_pos (by simp; omega), if_neg (by simpa using hh), rstep hp hs]
   simp only [some_bind']
   rw [wrap_succ (n := i + 1) (by omega) (by omega)]
   unfold haltF
   by_cases h1 : (stepS l s).2.1 = 1
   · rw [if_pos h1, run_ratchetref31_Halt]
     rw [if_pos (by simp; omega), if_pos (by simp [h1])]
     rfl
   · rw [if_neg h1]
     exact rhalt_at hp N hN x y k (i + 1) (stepS l s) (stepS_ok hp hs) h1 (by omega)

theorem stepsE_ok {n : Int} (h : stepsE n = 0) : ∃ N : Nat, n = (N : Int) ∧ N ≤ 2000 := by
  unfold stepsE at h
  split at h
  · rename_i h1
    rw [within_iff] at h1
    exact ⟨n.toNat, by omega, by omega⟩
  · cases h
def errH (l : List api_MachineCode) (M : List Int) (n : Int) : Int := if (progE l).2 = 0 then (if bytesE M 8 = 0 then stepsE n else bytesE M 8) else (progE l).2
theorem errH_first (l : List api_MachineCode) (M : List Int) (n : Int) : firstE [(progE l).2, bytesE M 8, stepsE n] = errH l M n := by
  unfold errH
  by_cases h1 : (progE l).2 = 0 <;> by_cases h2 : bytesE M 8 = 0 <;> by_cases h3 : stepsE n = 0 <;> simp [firstE, h1, h2, h3]
theorem halts_true (l : List api_MachineCode) (M : List Int) (n : Int) : run_ratchetlaw31_MachineHalts (.start l M n) = some ((true, ()), ()) := by
  rw [run_ratchetlaw31_MachineHalts]
  simp only [some_bind', Bool.not_true, Bool.false_eq_true, if_false]
  by_cases hl : (List.length l : Int) > 20
  · simp [hl]
  rw [if_neg (by simpa using hl)]
  by_cases hM : (List.length M : Int) > 10
  · simp [hM]
  rw [if_neg (by simpa using hM)]
  have hM' : M.length ≤ 1000 := by omega
  have key : run_ratchetlaw31_MachineHalts (.p15 l M n) = some ((true, ()), ()) := by
    rw [run_ratchetlaw31_MachineHalts]
    rw [rcopyP (show l.length ≤ 1000 by omega), rcopyI hM']
    simp only [some_bind']
    -- what the program answers
    have hans : ∃ (s : St4) (k e : Int), run_machine_HaltOf (.start l M n) = some ((st4 s, (k, (e, ()))), ()) ∧
        (errH l M n ≠ 0 → s = no4 ∧ k = 0 ∧ e = errH l M n) ∧ s.2.2.1.length ≤ 1000 ∧ s.2.2.2.length ≤ 1000 ∧
        (errH l M n = 0 → (run_ratchetref31_Halt (.start l M n) = some ((st4 s, (k, (true, ()))), ()) ∧ e = 0) ∨ (run_ratchetref31_Halt (.start l M n) = some ((st4 no4, (0, (false, ()))), ()) ∧ s = no4 ∧ k = 0 ∧ e = 28)) := by
      by_cases he : errH l M n = 0
      · have h3 : (progE l).2 = 0 ∧ bytesE M 8 = 0 ∧ stepsE n = 0 := by
          unfold errH at he
          split at he
          · rename_i h1
            split at he
            · rename_i h2; exact ⟨h1, h2, he⟩
            · rename_i h2; exact absurd he h2
          · rename_i h1; exact absurd he h1
        obtain ⟨h3, h4, h5⟩ := h3
        obtain ⟨N, rfl, hN⟩ := stepsE_ok h5
        have hp := okp_of h3
        have h6 := phalt_at hp N hN 0 0 N 0 (0, 0, [0, 0, 0, 0], M) (okst_begin h4) (by omega)
        have h7 := rhalt_at hp N hN 0 0 N 0 (0, 0, [0, 0, 0, 0], M) (okst_begin h4) (by simp) (by omega)
        have e1 : run_machine_HaltOf (.start l M (N : Int)) = run_machine_HaltOf (.p244 l (N : Int) ((0 : Nat) : Int) 0 0 0 0 [0, 0, 0, 0] M) := by
          rw [run_machine_HaltOf, pprogErr, pmem M hM', psteps, ]
          simp only [some_bind', pfirst _ (show [(progE l).2, bytesE M 8, stepsE (N : Int)].length ≤ 1000 by simp), errH_first, he, bne_self_eq_false, Bool.false_eq_true, if_false, pbegin h4]
          rfl
        have e2 : run_ratchetref31_Halt (.start l M (N : Int)) = run_ratchetref31_Halt (.p116 l (N : Int) ((0 : Nat) : Int) 0 0 0 0 [0, 0, 0, 0] M) := by
          rw [run_ratchetref31_Halt, rbegin h4]
          rfl
        rw [e1, e2]
        simp only at h6 h7
        rw [h6, h7]
        cases hh : haltF l N 0 (0, 0, [0, 0, 0, 0], M) with
        | none =>
          exact ⟨no4, 0, 28, rfl, fun h => absurd he h, by simp [no4], by simp [no4], fun _ => .inr ⟨rfl, rfl, rfl, rfl⟩⟩
        | some p =>
          obtain ⟨s', j⟩ := p
          have hok : ∀ (k i : Nat) (s : St4), Okst s → haltF l k i s = some (s', j) → Okst s' := by
            intro k
            induction k with
            | zero => intro i s _ h; cases h
            | succ k ih =>
              intro i s hs h
              unfold haltF at h
              split at h
              · obtain ⟨rfl, _⟩ := Prod.mk.inj (Option.some.inj h)
                exact stepS_ok hp hs
              · exact ih _ _ (stepS_ok hp hs) h
          have ho := hok N 0 _ (okst_begin h4) hh
          have hR := ho.lR
          have hM2 := ho.lM
          exact ⟨s', (j : Int), 0, rfl, fun h => absurd he h, by omega, by omega, fun _ => .inl ⟨rfl, rfl⟩⟩
      · refine ⟨no4, 0, errH l M n, ?_, fun _ => ⟨rfl, rfl, rfl⟩, by simp [no4], by simp [no4], fun h => absurd h he⟩
        rw [run_machine_HaltOf, pprogErr, pmem M hM', psteps]
        simp only [some_bind', pfirst _ (show [(progE l).2, bytesE M 8, stepsE n].length ≤ 1000 by simp), errH_first]
        rw [if_pos (by simpa using he)]
        rfl
    obtain ⟨s, k, e, h1, h2, hR, hM2, h3⟩ := hans
    rw [h1]
    simp only [some_bind', rprogErr]
    -- the error that the law works out
    have fin : ∀ d : Int, d = errH l M n → run_ratchetlaw31_MachineHalts (.p255 l M n k e d s.1 s.2.1 s.2.2.1 s.2.2.2) = some ((true, ()), ()) := by
      intro d hd
      subst hd
      rw [run_ratchetlaw31_MachineHalts]
      by_cases he : errH l M n = 0
      · simp only [he, bne_self_eq_false, Bool.false_eq_true, if_false, if_true]
        rcases h3 he with ⟨h4, rfl⟩ | ⟨h4, rfl, rfl, rfl⟩
        · rw [h4]
          simp only [some_bind', st4, if_true, beq_self_eq_true, rSame_refl _ _ _ _ hR hM2]
        · rw [h4]
          simp only [some_bind', st4, Bool.false_eq_true, if_false, Bool.not_false, if_true]
          have hz := rSame_refl 0 0 [] [] (by simp) (by simp)
          simp [no4, hz, some_bind']
      · obtain ⟨rfl, rfl, rfl⟩ := h2 he
        rw [if_pos (by simpa using he)]
        have hz := rSame_refl 0 0 [] [] (by simp) (by simp)
        simp [he, no4, hz, some_bind']
    have mid : ∀ d : Int, d = (if (progE l).2 = 0 then bytesE M 8 else (progE l).2) → run_ratchetlaw31_MachineHalts (.p127 l M n k e d s.1 s.2.1 s.2.2.1 s.2.2.2) = some ((true, ()), ()) := by
      intro d hd
      rw [run_ratchetlaw31_MachineHalts]
      by_cases h4 : d = 0
      · rw [if_pos (by simp [h4]), rsteps]
        simp only [some_bind']
        refine fin _ ?_
        unfold errH
        by_cases h5 : (progE l).2 = 0
        · rw [if_pos h5] at hd ⊢
          rw [if_pos (by omega)]
        · rw [if_neg h5] at hd
          omega
      · rw [if_neg (by simpa using h4)]
        refine fin _ ?_
        rw [hd]
        unfold errH
        by_cases h5 : (progE l).2 = 0
        · rw [if_pos h5] at hd
          rw [if_pos h5, if_pos h5, if_neg (by omega)]
        · rw [if_neg h5, if_neg h5]
    by_cases h4 : (progE l).2 = 0
    · rw [if_pos (by simp [h4]), rmem M hM']
      simp only [some_bind']
      exact mid _ (by rw [if_pos h4])
    · rw [if_neg (by simpa using h4)]
      exact mid _ (by rw [if_neg h4])
  rw [rsteps]
  simp only [some_bind', key]
  split
  · split <;> rfl
  · rfl
end Go.Proofs.YtjededkgblbamaaGreatDoor.Ev.F
