/- The plain definitions of the program and of the reference answer alike: steps and their texts: part 3. -/
import Derived.Test.YtdjagmfcfmeopaaDoorTp2
namespace Go.Proofs.YtdjagmfcfmeopaaDoor
open Go Go.Sx Go.Proofs Go.RowKit
theorem step_1 (n : Nat) (a1 a2 a3 a4 a5 a6 a7 a8 a9 a10 a11 a12 a13 a14 a15 : Int) : ∃ b, spec_l27Step.f (n + 4) 1 a1 a2 a3 a4 a5 a6 a7 a8 a9 a10 a11 a12 a13 a14 a15 = some b ∧ impl_ValidStep.f (n + 4) 1 a1 a2 a3 a4 a5 a6 a7 a8 a9 a10 a11 a12 a13 a14 a15 = some b := by
  unfold spec_l27Step.f spec_l27None.f impl_ValidStep.f impl_isProjecting.f impl_isMeasuring.f impl_isShifting.f
  simp only [Option.bind_some, proj_s, proj_i, ell_s, ell_i, shift_s, shift_i, bif_y, cond_true, cond_false, beq_self_eq_true, Bool.true_and, Bool.and_true, Bool.false_and, Int.reduceBEq]
  refine ⟨_, rfl, ?_⟩
  first | rfl | (congr 1; ac_rfl)
theorem step_2 (n : Nat) (a1 a2 a3 a4 a5 a6 a7 a8 a9 a10 a11 a12 a13 a14 a15 : Int) : ∃ b, spec_l27Step.f (n + 4) 2 a1 a2 a3 a4 a5 a6 a7 a8 a9 a10 a11 a12 a13 a14 a15 = some b ∧ impl_ValidStep.f (n + 4) 2 a1 a2 a3 a4 a5 a6 a7 a8 a9 a10 a11 a12 a13 a14 a15 = some b := by
  unfold spec_l27Step.f spec_l27None.f impl_ValidStep.f impl_isProjecting.f impl_isMeasuring.f impl_isShifting.f
  simp only [Option.bind_some, proj_s, proj_i, ell_s, ell_i, shift_s, shift_i, bif_y, cond_true, cond_false, beq_self_eq_true, Bool.true_and, Bool.and_true, Bool.false_and, Int.reduceBEq]
  refine ⟨_, rfl, ?_⟩
  first | rfl | (congr 1; ac_rfl)
theorem step_3 (n : Nat) (a1 a2 a3 a4 a5 a6 a7 a8 a9 a10 a11 a12 a13 a14 a15 : Int) : ∃ b, spec_l27Step.f (n + 4) 3 a1 a2 a3 a4 a5 a6 a7 a8 a9 a10 a11 a12 a13 a14 a15 = some b ∧ impl_ValidStep.f (n + 4) 3 a1 a2 a3 a4 a5 a6 a7 a8 a9 a10 a11 a12 a13 a14 a15 = some b := by
  unfold spec_l27Step.f spec_l27None.f impl_ValidStep.f impl_isProjecting.f impl_isMeasuring.f impl_isShifting.f
  simp only [Option.bind_some, proj_s, proj_i, ell_s, ell_i, shift_s, shift_i, bif_y, cond_true, cond_false, beq_self_eq_true, Bool.true_and, Bool.and_true, Bool.false_and, Int.reduceBEq]
  refine ⟨_, rfl, ?_⟩
  first | rfl | (congr 1; ac_rfl)
theorem step_4 (n : Nat) (a1 a2 a3 a4 a5 a6 a7 a8 a9 a10 a11 a12 a13 a14 a15 : Int) : ∃ b, spec_l27Step.f (n + 4) 4 a1 a2 a3 a4 a5 a6 a7 a8 a9 a10 a11 a12 a13 a14 a15 = some b ∧ impl_ValidStep.f (n + 4) 4 a1 a2 a3 a4 a5 a6 a7 a8 a9 a10 a11 a12 a13 a14 a15 = some b := by
  unfold spec_l27Step.f spec_l27None.f impl_ValidStep.f impl_isProjecting.f impl_isMeasuring.f impl_isShifting.f
  simp only [Option.bind_some, proj_s, proj_i, ell_s, ell_i, shift_s, shift_i, bif_y, cond_true, cond_false, beq_self_eq_true, Bool.true_and, Bool.and_true, Bool.false_and, Int.reduceBEq]
  refine ⟨_, rfl, ?_⟩
  first | rfl | (congr 1; ac_rfl)
theorem step_5 (n : Nat) (a1 a2 a3 a4 a5 a6 a7 a8 a9 a10 a11 a12 a13 a14 a15 : Int) : ∃ b, spec_l27Step.f (n + 4) 5 a1 a2 a3 a4 a5 a6 a7 a8 a9 a10 a11 a12 a13 a14 a15 = some b ∧ impl_ValidStep.f (n + 4) 5 a1 a2 a3 a4 a5 a6 a7 a8 a9 a10 a11 a12 a13 a14 a15 = some b := by
  unfold spec_l27Step.f spec_l27None.f impl_ValidStep.f impl_isProjecting.f impl_isMeasuring.f impl_isShifting.f
  simp only [Option.bind_some, proj_s, proj_i, ell_s, ell_i, shift_s, shift_i, bif_y, cond_true, cond_false, beq_self_eq_true, Bool.true_and, Bool.and_true, Bool.false_and, Int.reduceBEq]
  refine ⟨_, rfl, ?_⟩
  first | rfl | (congr 1; ac_rfl)
theorem step_6 (n : Nat) (a1 a2 a3 a4 a5 a6 a7 a8 a9 a10 a11 a12 a13 a14 a15 : Int) : ∃ b, spec_l27Step.f (n + 4) 6 a1 a2 a3 a4 a5 a6 a7 a8 a9 a10 a11 a12 a13 a14 a15 = some b ∧ impl_ValidStep.f (n + 4) 6 a1 a2 a3 a4 a5 a6 a7 a8 a9 a10 a11 a12 a13 a14 a15 = some b := by
  unfold spec_l27Step.f spec_l27None.f impl_ValidStep.f impl_isProjecting.f impl_isMeasuring.f impl_isShifting.f
  simp only [Option.bind_some, proj_s, proj_i, ell_s, ell_i, shift_s, shift_i, bif_y, cond_true, cond_false, beq_self_eq_true, Bool.true_and, Bool.and_true, Bool.false_and, Int.reduceBEq]
  refine ⟨_, rfl, ?_⟩
  first | rfl | (congr 1; ac_rfl)
theorem step_7 (n : Nat) (a1 a2 a3 a4 a5 a6 a7 a8 a9 a10 a11 a12 a13 a14 a15 : Int) : ∃ b, spec_l27Step.f (n + 4) 7 a1 a2 a3 a4 a5 a6 a7 a8 a9 a10 a11 a12 a13 a14 a15 = some b ∧ impl_ValidStep.f (n + 4) 7 a1 a2 a3 a4 a5 a6 a7 a8 a9 a10 a11 a12 a13 a14 a15 = some b := by
  unfold spec_l27Step.f spec_l27None.f impl_ValidStep.f impl_isProjecting.f impl_isMeasuring.f impl_isShifting.f
  simp only [Option.bind_some, proj_s, proj_i, ell_s, ell_i, shift_s, shift_i, bif_y, cond_true, cond_false, beq_self_eq_true, Bool.true_and, Bool.and_true, Bool.false_and, Int.reduceBEq]
  refine ⟨_, rfl, ?_⟩
  first | rfl | (congr 1; ac_rfl)
theorem step_out (n : Nat) (a0 a1 a2 a3 a4 a5 a6 a7 a8 a9 a10 a11 a12 a13 a14 a15 : Int) (h : ¬ (1 ≤ a0 ∧ a0 ≤ 7)) : spec_l27Step.f (n + 4) a0 a1 a2 a3 a4 a5 a6 a7 a8 a9 a10 a11 a12 a13 a14 a15 = some false ∧ impl_ValidStep.f (n + 4) a0 a1 a2 a3 a4 a5 a6 a7 a8 a9 a10 a11 a12 a13 a14 a15 = some false := by
  have h1 : (a0 == 1) = false := bt_f (by omega)
  have h2 : (a0 == 2) = false := bt_f (by omega)
  have h3 : (a0 == 3) = false := bt_f (by omega)
  have h4 : (a0 == 4) = false := bt_f (by omega)
  have h5 : (a0 == 5) = false := bt_f (by omega)
  have h6 : (a0 == 6) = false := bt_f (by omega)
  have h7 : (a0 == 7) = false := bt_f (by omega)
  unfold spec_l27Step.f spec_l27None.f impl_ValidStep.f impl_isProjecting.f impl_isMeasuring.f impl_isShifting.f
  simp only [Option.bind_some, h1, h2, h3, h4, h5, h6, h7, cond_false, Bool.false_and, and_self]
theorem step_both (n : Nat) (a0 a1 a2 a3 a4 a5 a6 a7 a8 a9 a10 a11 a12 a13 a14 a15 : Int) : ∃ b, spec_l27Step.f (n + 4) a0 a1 a2 a3 a4 a5 a6 a7 a8 a9 a10 a11 a12 a13 a14 a15 = some b ∧ impl_ValidStep.f (n + 4) a0 a1 a2 a3 a4 a5 a6 a7 a8 a9 a10 a11 a12 a13 a14 a15 = some b := by
  by_cases h : 1 ≤ a0 ∧ a0 ≤ 7
  · have h : a0 = 1 ∨ a0 = 2 ∨ a0 = 3 ∨ a0 = 4 ∨ a0 = 5 ∨ a0 = 6 ∨ a0 = 7 := by omega
    rcases h with rfl | rfl | rfl | rfl | rfl | rfl | rfl
    · exact step_1 n a1 a2 a3 a4 a5 a6 a7 a8 a9 a10 a11 a12 a13 a14 a15
    · exact step_2 n a1 a2 a3 a4 a5 a6 a7 a8 a9 a10 a11 a12 a13 a14 a15
    · exact step_3 n a1 a2 a3 a4 a5 a6 a7 a8 a9 a10 a11 a12 a13 a14 a15
    · exact step_4 n a1 a2 a3 a4 a5 a6 a7 a8 a9 a10 a11 a12 a13 a14 a15
    · exact step_5 n a1 a2 a3 a4 a5 a6 a7 a8 a9 a10 a11 a12 a13 a14 a15
    · exact step_6 n a1 a2 a3 a4 a5 a6 a7 a8 a9 a10 a11 a12 a13 a14 a15
    · exact step_7 n a1 a2 a3 a4 a5 a6 a7 a8 a9 a10 a11 a12 a13 a14 a15
  · exact ⟨false, step_out n a0 a1 a2 a3 a4 a5 a6 a7 a8 a9 a10 a11 a12 a13 a14 a15 h⟩
theorem forms_eq (a : Int) : spec_l27Forms.f a = impl_StepForms.f a := rfl
theorem forms_some (a : Int) : ∃ p, impl_StepForms.f a = some p := by
  unfold impl_StepForms.f
  cases (a == 1) <;> cases (a == 2) <;> cases (a == 3) <;> cases (a == 4) <;> cases (a == 5) <;> cases (a == 6) <;> cases (a == 7) <;> exact ⟨_, rfl⟩
end Go.Proofs.YtdjagmfcfmeopaaDoor
