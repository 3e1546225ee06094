/- The plain definitions of the program and of the reference answer alike: steps and their texts: part 5. -/
import Derived.Test.YtdjagmfcfmeopaaDoorTp4
namespace Go.Proofs.YtdjagmfcfmeopaaDoor
open Go Go.Sx Go.Proofs Go.RowKit
theorem pv_facts {k y x a b : Int} (h : pv k y x a b = true) : (0 ≤ k ∧ k < 17) ∧ i64 y ∧ i64 x ∧ i64 a ∧ i64 b := by
  unfold pv at h
  simp only [Bool.and_eq_true] at h
  obtain ⟨h0, h1, h2, h3⟩ := h
  have h0 := (vp_iff y x).mp h0
  have h1 := (st_iff a).mp h1
  have h2 := (st_iff b).mp h2
  have hk : 1 ≤ k ∧ k ≤ 16 := by
    by_cases hk : 1 ≤ k ∧ k ≤ 16
    · exact hk
    · rw [pj_out k y a b hk] at h3
      cases h3
  unfold i64
  omega
theorem ev_facts {a b c : Int} (h : ev a b c = true) : i64 a ∧ i64 b ∧ i64 c := by
  unfold ev at h
  simp only [Bool.and_eq_true, decide_eq_true_eq] at h
  obtain ⟨⟨h0, h1⟩, ⟨h2, h3⟩, h4, h5⟩ := h
  rw [td (by omega), w64 (by omega) (by omega)] at h5
  unfold i64
  omega
theorem wi_iff (m a : Int) : wi m a = true ↔ -m ≤ a ∧ a ≤ m := by
  unfold wi
  simp only [Bool.and_eq_true, decide_eq_true_eq]
theorem sv_facts {a b c d e f g : Int} (h : sv a b c d e f g = true) : i64 a ∧ i64 b ∧ i64 c ∧ i64 d ∧ i64 e ∧ i64 f ∧ i64 g := by
  unfold sv at h
  simp only [Bool.and_eq_true, wi_iff] at h
  unfold i64
  omega
theorem line_s (k : Nat) (q t : List UInt8) (hq : q.length ≤ 20) (ht : t.length ≤ 300) : ((some t).bind fun p => bif decide (List.length ([32] : List UInt8) + List.length p ≤ 9223372036854775807) then (bif decide (List.length q + List.length (([32] : List UInt8) ++ p) ≤ 9223372036854775807) then spec_l27Line.j1 k (q ++ (([32] : List UInt8) ++ p)) else none) else none) = some (((q ++ [32]) ++ t) ++ [10]) := by
  simp only [Option.bind_some]
  unfold spec_l27Line.j1
  simp (disch := first | omega | (simp only [List.length_append, List.length_cons, List.length_nil]; omega)) only [dt, cond_true]
  simp only [List.append_assoc]
theorem line_i (q t : List UInt8) (hq : q.length ≤ 20) (ht : t.length ≤ 300) : (bif decide (List.length q + List.length ([32] : List UInt8) ≤ 9223372036854775807) then ((some t).bind fun p => bif decide (List.length (q ++ ([32] : List UInt8)) + List.length p ≤ 9223372036854775807) then some ((q ++ ([32] : List UInt8)) ++ p) else none) else none) = some ((q ++ [32]) ++ t) := by
  simp only [Option.bind_some]
  simp (disch := first | omega | (simp only [List.length_append, List.length_cons, List.length_nil]; omega)) only [dt, cond_true]
theorem proj_line (n : Nat) {kd y x a b : Int} (h : pv kd y x a b = true) : ∃ t, spec_ProjectionText.f (n + 30) kd y x a b = some t ∧ impl_projectionText.f kd y x a b = some t ∧ t.length ≤ 300 := by
  obtain ⟨⟨h0, h1⟩, hy, hx, ha, hb⟩ := pv_facts h
  obtain ⟨q, hq, hl⟩ := names_get kd h0 h1
  have l0 := d_l hy
  have l1 := d_l hx
  have l2 := d_l ha
  have l3 := d_l hb
  refine ⟨_, ?_, ptext_i h0 h1 hq hl hy hx ha hb, ?_⟩
  · unfold spec_ProjectionText.f
    rw [proj_o, h, ptext_s (by omega) h0 h1 hq hl hy hx ha hb]
    rfl
  · unfold sp4
    simp only [List.length_append, List.length_cons, List.length_nil]
    omega
theorem ell_line (n : Nat) {a b c : Int} (h : ev a b c = true) : ∃ t, spec_EllipsoidText.f (n + 30) a b c = some t ∧ impl_ellipsoidText.f a b c = some t ∧ t.length ≤ 300 := by
  obtain ⟨ha, hb, hc⟩ := ev_facts h
  have l0 := d_l ha
  have l1 := d_l hb
  have l2 := d_l hc
  refine ⟨_, ?_, etext_i ha hb hc, ?_⟩
  · unfold spec_EllipsoidText.f
    rw [ell_o, h, etext_s (by omega) ha hb hc]
    rfl
  · unfold sl3
    simp only [List.length_append, List.length_cons, List.length_nil]
    omega
theorem shift_line (n : Nat) {a b c d e f g : Int} (h : sv a b c d e f g = true) : ∃ t, spec_ShiftText.f (n + 30) a b c d e f g = some t ∧ impl_shiftText.f (n + 30) a b c d e f g = some t ∧ t.length ≤ 300 := by
  obtain ⟨ha, hb, hc, hd, he, hf, hg⟩ := sv_facts h
  have l0 := d_l ha
  have l1 := d_l hb
  have l2 := d_l hc
  have l3 := d_l hd
  have l4 := d_l he
  have l5 := d_l hf
  have l6 := d_l hg
  refine ⟨sp7 (Lib.itoa a) (Lib.itoa b) (Lib.itoa c) (Lib.itoa d) (Lib.itoa e) (Lib.itoa f) (Lib.itoa g), ?_, ?_, ?_⟩
  rotate_left
  · unfold impl_shiftText.f
    rw [htext_i n ha hb hc hd he hf hg]
    rfl
  · unfold sp7
    simp only [List.length_append, List.length_cons, List.length_nil]
    omega
  · unfold spec_ShiftText.f
    rw [shift_s, h]
    show (spec_l23Join.f (n + 30) [a, b, c, d, e, f, g]).bind _ = _
    rw [htext_s n ha hb hc hd he hf hg]
    rfl
theorem val_1 (n : Nat) (a1 a2 a3 a4 a5 a6 a7 a8 a9 a10 a11 a12 a13 a14 a15 : Int) (h : impl_ValidStep.f (n + 4) 1 a1 a2 a3 a4 a5 a6 a7 a8 a9 a10 a11 a12 a13 a14 a15 = some true) : pv a1 a2 a3 a4 a5 = true := by
  unfold impl_ValidStep.f impl_isProjecting.f impl_isMeasuring.f impl_isShifting.f at h
  simp only [Option.bind_some, proj_i, ell_i, shift_i, bif_y, cond_true, cond_false, beq_self_eq_true, Bool.true_and, Bool.and_true, Bool.false_and, Int.reduceBEq, Option.some.injEq, Bool.and_eq_true] at h
  exact h.2
set_option maxRecDepth 100000 in
theorem sline_1 (k : Nat) (a1 a2 a3 a4 a5 a6 a7 a8 a9 a10 a11 a12 a13 a14 a15 : Int) : spec_l27Line.f k 1 a1 a2 a3 a4 a5 a6 a7 a8 a9 a10 a11 a12 a13 a14 a15 = ((spec_ProjectionText.f k a1 a2 a3 a4 a5).bind fun p => bif decide (List.length ([32] : List UInt8) + List.length p ≤ 9223372036854775807) then (bif decide (List.length ([112, 114, 111, 106, 101, 99, 116] : List UInt8) + List.length (([32] : List UInt8) ++ p) ≤ 9223372036854775807) then spec_l27Line.j1 k (([112, 114, 111, 106, 101, 99, 116] : List UInt8) ++ (([32] : List UInt8) ++ p)) else none) else none) := rfl
set_option maxRecDepth 100000 in
theorem iline_1 (k : Nat) (a1 a2 a3 a4 a5 a6 a7 a8 a9 a10 a11 a12 a13 a14 a15 : Int) : impl_stepText.f k 1 a1 a2 a3 a4 a5 a6 a7 a8 a9 a10 a11 a12 a13 a14 a15 = (bif decide (List.length ([112, 114, 111, 106, 101, 99, 116] : List UInt8) + List.length ([32] : List UInt8) ≤ 9223372036854775807) then ((impl_projectionText.f a1 a2 a3 a4 a5).bind fun p => bif decide (List.length (([112, 114, 111, 106, 101, 99, 116] : List UInt8) ++ ([32] : List UInt8)) + List.length p ≤ 9223372036854775807) then some ((([112, 114, 111, 106, 101, 99, 116] : List UInt8) ++ ([32] : List UInt8)) ++ p) else none) else none) := by kernel_rfl
theorem line_1 (n : Nat) (a1 a2 a3 a4 a5 a6 a7 a8 a9 a10 a11 a12 a13 a14 a15 : Int) (h : pv a1 a2 a3 a4 a5 = true) : ∃ t, spec_l27Line.f (n + 30) 1 a1 a2 a3 a4 a5 a6 a7 a8 a9 a10 a11 a12 a13 a14 a15 = some (t ++ [10]) ∧ impl_stepText.f (n + 30) 1 a1 a2 a3 a4 a5 a6 a7 a8 a9 a10 a11 a12 a13 a14 a15 = some t ∧ t.length ≤ 400 := by
  obtain ⟨t, e0, e1, hl⟩ := proj_line n h
  rw [sline_1, iline_1, e0, e1, line_s _ _ t (by decide) hl, line_i _ t (by decide) hl]
  refine ⟨_, rfl, rfl, ?_⟩
  simp only [List.length_append, List.length_cons, List.length_nil]
  omega
theorem val_2 (n : Nat) (a1 a2 a3 a4 a5 a6 a7 a8 a9 a10 a11 a12 a13 a14 a15 : Int) (h : impl_ValidStep.f (n + 4) 2 a1 a2 a3 a4 a5 a6 a7 a8 a9 a10 a11 a12 a13 a14 a15 = some true) : pv a1 a2 a3 a4 a5 = true := by
  unfold impl_ValidStep.f impl_isProjecting.f impl_isMeasuring.f impl_isShifting.f at h
  simp only [Option.bind_some, proj_i, ell_i, shift_i, bif_y, cond_true, cond_false, beq_self_eq_true, Bool.true_and, Bool.and_true, Bool.false_and, Int.reduceBEq, Option.some.injEq, Bool.and_eq_true] at h
  exact h.2
set_option maxRecDepth 100000 in
theorem sline_2 (k : Nat) (a1 a2 a3 a4 a5 a6 a7 a8 a9 a10 a11 a12 a13 a14 a15 : Int) : spec_l27Line.f k 2 a1 a2 a3 a4 a5 a6 a7 a8 a9 a10 a11 a12 a13 a14 a15 = ((spec_ProjectionText.f k a1 a2 a3 a4 a5).bind fun p => bif decide (List.length ([32] : List UInt8) + List.length p ≤ 9223372036854775807) then (bif decide (List.length ([117, 110, 112, 114, 111, 106, 101, 99, 116] : List UInt8) + List.length (([32] : List UInt8) ++ p) ≤ 9223372036854775807) then spec_l27Line.j1 k (([117, 110, 112, 114, 111, 106, 101, 99, 116] : List UInt8) ++ (([32] : List UInt8) ++ p)) else none) else none) := rfl
set_option maxRecDepth 100000 in
theorem iline_2 (k : Nat) (a1 a2 a3 a4 a5 a6 a7 a8 a9 a10 a11 a12 a13 a14 a15 : Int) : impl_stepText.f k 2 a1 a2 a3 a4 a5 a6 a7 a8 a9 a10 a11 a12 a13 a14 a15 = (bif decide (List.length ([117, 110, 112, 114, 111, 106, 101, 99, 116] : List UInt8) + List.length ([32] : List UInt8) ≤ 9223372036854775807) then ((impl_projectionText.f a1 a2 a3 a4 a5).bind fun p => bif decide (List.length (([117, 110, 112, 114, 111, 106, 101, 99, 116] : List UInt8) ++ ([32] : List UInt8)) + List.length p ≤ 9223372036854775807) then some ((([117, 110, 112, 114, 111, 106, 101, 99, 116] : List UInt8) ++ ([32] : List UInt8)) ++ p) else none) else none) := by kernel_rfl
theorem line_2 (n : Nat) (a1 a2 a3 a4 a5 a6 a7 a8 a9 a10 a11 a12 a13 a14 a15 : Int) (h : pv a1 a2 a3 a4 a5 = true) : ∃ t, spec_l27Line.f (n + 30) 2 a1 a2 a3 a4 a5 a6 a7 a8 a9 a10 a11 a12 a13 a14 a15 = some (t ++ [10]) ∧ impl_stepText.f (n + 30) 2 a1 a2 a3 a4 a5 a6 a7 a8 a9 a10 a11 a12 a13 a14 a15 = some t ∧ t.length ≤ 400 := by
  obtain ⟨t, e0, e1, hl⟩ := proj_line n h
  rw [sline_2, iline_2, e0, e1, line_s _ _ t (by decide) hl, line_i _ t (by decide) hl]
  refine ⟨_, rfl, rfl, ?_⟩
  simp only [List.length_append, List.length_cons, List.length_nil]
  omega
theorem val_3 (n : Nat) (a1 a2 a3 a4 a5 a6 a7 a8 a9 a10 a11 a12 a13 a14 a15 : Int) (h : impl_ValidStep.f (n + 4) 3 a1 a2 a3 a4 a5 a6 a7 a8 a9 a10 a11 a12 a13 a14 a15 = some true) : ev a6 a7 a8 = true := by
  unfold impl_ValidStep.f impl_isProjecting.f impl_isMeasuring.f impl_isShifting.f at h
  simp only [Option.bind_some, proj_i, ell_i, shift_i, bif_y, cond_true, cond_false, beq_self_eq_true, Bool.true_and, Bool.and_true, Bool.false_and, Int.reduceBEq, Option.some.injEq, Bool.and_eq_true] at h
  exact h.2
set_option maxRecDepth 100000 in
theorem sline_3 (k : Nat) (a1 a2 a3 a4 a5 a6 a7 a8 a9 a10 a11 a12 a13 a14 a15 : Int) : spec_l27Line.f k 3 a1 a2 a3 a4 a5 a6 a7 a8 a9 a10 a11 a12 a13 a14 a15 = ((spec_EllipsoidText.f k a6 a7 a8).bind fun p => bif decide (List.length ([32] : List UInt8) + List.length p ≤ 9223372036854775807) then (bif decide (List.length ([99, 97, 114, 116, 101, 115, 105, 97, 110] : List UInt8) + List.length (([32] : List UInt8) ++ p) ≤ 9223372036854775807) then spec_l27Line.j1 k (([99, 97, 114, 116, 101, 115, 105, 97, 110] : List UInt8) ++ (([32] : List UInt8) ++ p)) else none) else none) := rfl
set_option maxRecDepth 100000 in
theorem iline_3 (k : Nat) (a1 a2 a3 a4 a5 a6 a7 a8 a9 a10 a11 a12 a13 a14 a15 : Int) : impl_stepText.f k 3 a1 a2 a3 a4 a5 a6 a7 a8 a9 a10 a11 a12 a13 a14 a15 = (bif decide (List.length ([99, 97, 114, 116, 101, 115, 105, 97, 110] : List UInt8) + List.length ([32] : List UInt8) ≤ 9223372036854775807) then ((impl_ellipsoidText.f a6 a7 a8).bind fun p => bif decide (List.length (([99, 97, 114, 116, 101, 115, 105, 97, 110] : List UInt8) ++ ([32] : List UInt8)) + List.length p ≤ 9223372036854775807) then some ((([99, 97, 114, 116, 101, 115, 105, 97, 110] : List UInt8) ++ ([32] : List UInt8)) ++ p) else none) else none) := by kernel_rfl
theorem line_3 (n : Nat) (a1 a2 a3 a4 a5 a6 a7 a8 a9 a10 a11 a12 a13 a14 a15 : Int) (h : ev a6 a7 a8 = true) : ∃ t, spec_l27Line.f (n + 30) 3 a1 a2 a3 a4 a5 a6 a7 a8 a9 a10 a11 a12 a13 a14 a15 = some (t ++ [10]) ∧ impl_stepText.f (n + 30) 3 a1 a2 a3 a4 a5 a6 a7 a8 a9 a10 a11 a12 a13 a14 a15 = some t ∧ t.length ≤ 400 := by
  obtain ⟨t, e0, e1, hl⟩ := ell_line n h
  rw [sline_3, iline_3, e0, e1, line_s _ _ t (by decide) hl, line_i _ t (by decide) hl]
  refine ⟨_, rfl, rfl, ?_⟩
  simp only [List.length_append, List.length_cons, List.length_nil]
  omega
theorem val_4 (n : Nat) (a1 a2 a3 a4 a5 a6 a7 a8 a9 a10 a11 a12 a13 a14 a15 : Int) (h : impl_ValidStep.f (n + 4) 4 a1 a2 a3 a4 a5 a6 a7 a8 a9 a10 a11 a12 a13 a14 a15 = some true) : ev a6 a7 a8 = true := by
  unfold impl_ValidStep.f impl_isProjecting.f impl_isMeasuring.f impl_isShifting.f at h
  simp only [Option.bind_some, proj_i, ell_i, shift_i, bif_y, cond_true, cond_false, beq_self_eq_true, Bool.true_and, Bool.and_true, Bool.false_and, Int.reduceBEq, Option.some.injEq, Bool.and_eq_true] at h
  exact h.2
set_option maxRecDepth 100000 in
theorem sline_4 (k : Nat) (a1 a2 a3 a4 a5 a6 a7 a8 a9 a10 a11 a12 a13 a14 a15 : Int) : spec_l27Line.f k 4 a1 a2 a3 a4 a5 a6 a7 a8 a9 a10 a11 a12 a13 a14 a15 = ((spec_EllipsoidText.f k a6 a7 a8).bind fun p => bif decide (List.length ([32] : List UInt8) + List.length p ≤ 9223372036854775807) then (bif decide (List.length ([103, 101, 111, 103, 114, 97, 112, 104, 105, 99] : List UInt8) + List.length (([32] : List UInt8) ++ p) ≤ 9223372036854775807) then spec_l27Line.j1 k (([103, 101, 111, 103, 114, 97, 112, 104, 105, 99] : List UInt8) ++ (([32] : List UInt8) ++ p)) else none) else none) := rfl
set_option maxRecDepth 100000 in
theorem iline_4 (k : Nat) (a1 a2 a3 a4 a5 a6 a7 a8 a9 a10 a11 a12 a13 a14 a15 : Int) : impl_stepText.f k 4 a1 a2 a3 a4 a5 a6 a7 a8 a9 a10 a11 a12 a13 a14 a15 = (bif decide (List.length ([103, 101, 111, 103, 114, 97, 112, 104, 105, 99] : List UInt8) + List.length ([32] : List UInt8) ≤ 9223372036854775807) then ((impl_ellipsoidText.f a6 a7 a8).bind fun p => bif decide (List.length (([103, 101, 111, 103, 114, 97, 112, 104, 105, 99] : List UInt8) ++ ([32] : List UInt8)) + List.length p ≤ 9223372036854775807) then some ((([103, 101, 111, 103, 114, 97, 112, 104, 105, 99] : List UInt8) ++ ([32] : List UInt8)) ++ p) else none) else none) := by kernel_rfl
theorem line_4 (n : Nat) (a1 a2 a3 a4 a5 a6 a7 a8 a9 a10 a11 a12 a13 a14 a15 : Int) (h : ev a6 a7 a8 = true) : ∃ t, spec_l27Line.f (n + 30) 4 a1 a2 a3 a4 a5 a6 a7 a8 a9 a10 a11 a12 a13 a14 a15 = some (t ++ [10]) ∧ impl_stepText.f (n + 30) 4 a1 a2 a3 a4 a5 a6 a7 a8 a9 a10 a11 a12 a13 a14 a15 = some t ∧ t.length ≤ 400 := by
  obtain ⟨t, e0, e1, hl⟩ := ell_line n h
  rw [sline_4, iline_4, e0, e1, line_s _ _ t (by decide) hl, line_i _ t (by decide) hl]
  refine ⟨_, rfl, rfl, ?_⟩
  simp only [List.length_append, List.length_cons, List.length_nil]
  omega
theorem val_5 (n : Nat) (a1 a2 a3 a4 a5 a6 a7 a8 a9 a10 a11 a12 a13 a14 a15 : Int) (h : impl_ValidStep.f (n + 4) 5 a1 a2 a3 a4 a5 a6 a7 a8 a9 a10 a11 a12 a13 a14 a15 = some true) : sv a9 a10 a11 a12 a13 a14 a15 = true := by
  unfold impl_ValidStep.f impl_isProjecting.f impl_isMeasuring.f impl_isShifting.f at h
  simp only [Option.bind_some, proj_i, ell_i, shift_i, bif_y, cond_true, cond_false, beq_self_eq_true, Bool.true_and, Bool.and_true, Bool.false_and, Int.reduceBEq, Option.some.injEq, Bool.and_eq_true] at h
  exact h.2
set_option maxRecDepth 100000 in
theorem sline_5 (k : Nat) (a1 a2 a3 a4 a5 a6 a7 a8 a9 a10 a11 a12 a13 a14 a15 : Int) : spec_l27Line.f k 5 a1 a2 a3 a4 a5 a6 a7 a8 a9 a10 a11 a12 a13 a14 a15 = ((spec_ShiftText.f k a9 a10 a11 a12 a13 a14 a15).bind fun p => bif decide (List.length ([32] : List UInt8) + List.length p ≤ 9223372036854775807) then (bif decide (List.length ([115, 104, 105, 102, 116] : List UInt8) + List.length (([32] : List UInt8) ++ p) ≤ 9223372036854775807) then spec_l27Line.j1 k (([115, 104, 105, 102, 116] : List UInt8) ++ (([32] : List UInt8) ++ p)) else none) else none) := rfl
set_option maxRecDepth 100000 in
theorem iline_5 (k : Nat) (a1 a2 a3 a4 a5 a6 a7 a8 a9 a10 a11 a12 a13 a14 a15 : Int) : impl_stepText.f k 5 a1 a2 a3 a4 a5 a6 a7 a8 a9 a10 a11 a12 a13 a14 a15 = (bif decide (List.length ([115, 104, 105, 102, 116] : List UInt8) + List.length ([32] : List UInt8) ≤ 9223372036854775807) then ((impl_shiftText.f k a9 a10 a11 a12 a13 a14 a15).bind fun p => bif decide (List.length (([115, 104, 105, 102, 116] : List UInt8) ++ ([32] : List UInt8)) + List.length p ≤ 9223372036854775807) then some ((([115, 104, 105, 102, 116] : List UInt8) ++ ([32] : List UInt8)) ++ p) else none) else none) := by kernel_rfl
theorem line_5 (n : Nat) (a1 a2 a3 a4 a5 a6 a7 a8 a9 a10 a11 a12 a13 a14 a15 : Int) (h : sv a9 a10 a11 a12 a13 a14 a15 = true) : ∃ t, spec_l27Line.f (n + 30) 5 a1 a2 a3 a4 a5 a6 a7 a8 a9 a10 a11 a12 a13 a14 a15 = some (t ++ [10]) ∧ impl_stepText.f (n + 30) 5 a1 a2 a3 a4 a5 a6 a7 a8 a9 a10 a11 a12 a13 a14 a15 = some t ∧ t.length ≤ 400 := by
  obtain ⟨t, e0, e1, hl⟩ := shift_line n h
  rw [sline_5, iline_5, e0, e1, line_s _ _ t (by decide) hl, line_i _ t (by decide) hl]
  refine ⟨_, rfl, rfl, ?_⟩
  simp only [List.length_append, List.length_cons, List.length_nil]
  omega
theorem val_6 (n : Nat) (a1 a2 a3 a4 a5 a6 a7 a8 a9 a10 a11 a12 a13 a14 a15 : Int) (h : impl_ValidStep.f (n + 4) 6 a1 a2 a3 a4 a5 a6 a7 a8 a9 a10 a11 a12 a13 a14 a15 = some true) : sv a9 a10 a11 a12 a13 a14 a15 = true := by
  unfold impl_ValidStep.f impl_isProjecting.f impl_isMeasuring.f impl_isShifting.f at h
  simp only [Option.bind_some, proj_i, ell_i, shift_i, bif_y, cond_true, cond_false, beq_self_eq_true, Bool.true_and, Bool.and_true, Bool.false_and, Int.reduceBEq, Option.some.injEq, Bool.and_eq_true] at h
  exact h.2
set_option maxRecDepth 100000 in
theorem sline_6 (k : Nat) (a1 a2 a3 a4 a5 a6 a7 a8 a9 a10 a11 a12 a13 a14 a15 : Int) : spec_l27Line.f k 6 a1 a2 a3 a4 a5 a6 a7 a8 a9 a10 a11 a12 a13 a14 a15 = ((spec_ShiftText.f k a9 a10 a11 a12 a13 a14 a15).bind fun p => bif decide (List.length ([32] : List UInt8) + List.length p ≤ 9223372036854775807) then (bif decide (List.length ([117, 110, 115, 104, 105, 102, 116] : List UInt8) + List.length (([32] : List UInt8) ++ p) ≤ 9223372036854775807) then spec_l27Line.j1 k (([117, 110, 115, 104, 105, 102, 116] : List UInt8) ++ (([32] : List UInt8) ++ p)) else none) else none) := rfl
set_option maxRecDepth 100000 in
theorem iline_6 (k : Nat) (a1 a2 a3 a4 a5 a6 a7 a8 a9 a10 a11 a12 a13 a14 a15 : Int) : impl_stepText.f k 6 a1 a2 a3 a4 a5 a6 a7 a8 a9 a10 a11 a12 a13 a14 a15 = (bif decide (List.length ([117, 110, 115, 104, 105, 102, 116] : List UInt8) + List.length ([32] : List UInt8) ≤ 9223372036854775807) then ((impl_shiftText.f k a9 a10 a11 a12 a13 a14 a15).bind fun p => bif decide (List.length (([117, 110, 115, 104, 105, 102, 116] : List UInt8) ++ ([32] : List UInt8)) + List.length p ≤ 9223372036854775807) then some ((([117, 110, 115, 104, 105, 102, 116] : List UInt8) ++ ([32] : List UInt8)) ++ p) else none) else none) := by kernel_rfl
theorem line_6 (n : Nat) (a1 a2 a3 a4 a5 a6 a7 a8 a9 a10 a11 a12 a13 a14 a15 : Int) (h : sv a9 a10 a11 a12 a13 a14 a15 = true) : ∃ t, spec_l27Line.f (n + 30) 6 a1 a2 a3 a4 a5 a6 a7 a8 a9 a10 a11 a12 a13 a14 a15 = some (t ++ [10]) ∧ impl_stepText.f (n + 30) 6 a1 a2 a3 a4 a5 a6 a7 a8 a9 a10 a11 a12 a13 a14 a15 = some t ∧ t.length ≤ 400 := by
  obtain ⟨t, e0, e1, hl⟩ := shift_line n h
  rw [sline_6, iline_6, e0, e1, line_s _ _ t (by decide) hl, line_i _ t (by decide) hl]
  refine ⟨_, rfl, rfl, ?_⟩
  simp only [List.length_append, List.length_cons, List.length_nil]
  omega
theorem line_7 (n : Nat) (a1 a2 a3 a4 a5 a6 a7 a8 a9 a10 a11 a12 a13 a14 a15 : Int) : ∃ t, spec_l27Line.f (n + 30) 7 a1 a2 a3 a4 a5 a6 a7 a8 a9 a10 a11 a12 a13 a14 a15 = some (t ++ [10]) ∧ impl_stepText.f (n + 30) 7 a1 a2 a3 a4 a5 a6 a7 a8 a9 a10 a11 a12 a13 a14 a15 = some t ∧ t.length ≤ 400 :=
  ⟨([114, 111, 117, 110, 100] : List UInt8), rfl, rfl, by decide⟩
theorem line_both (n : Nat) (a0 a1 a2 a3 a4 a5 a6 a7 a8 a9 a10 a11 a12 a13 a14 a15 : Int) (h : impl_ValidStep.f (n + 4) a0 a1 a2 a3 a4 a5 a6 a7 a8 a9 a10 a11 a12 a13 a14 a15 = some true) : ∃ t, spec_l27Line.f (n + 30) a0 a1 a2 a3 a4 a5 a6 a7 a8 a9 a10 a11 a12 a13 a14 a15 = some (t ++ [10]) ∧ impl_stepText.f (n + 30) a0 a1 a2 a3 a4 a5 a6 a7 a8 a9 a10 a11 a12 a13 a14 a15 = some t ∧ t.length ≤ 400 := by
  by_cases hk : 1 ≤ a0 ∧ a0 ≤ 7
  · have hc : a0 = 1 ∨ a0 = 2 ∨ a0 = 3 ∨ a0 = 4 ∨ a0 = 5 ∨ a0 = 6 ∨ a0 = 7 := by omega
    rcases hc with rfl | rfl | rfl | rfl | rfl | rfl | rfl
    · exact line_1 n a1 a2 a3 a4 a5 a6 a7 a8 a9 a10 a11 a12 a13 a14 a15 (val_1 n a1 a2 a3 a4 a5 a6 a7 a8 a9 a10 a11 a12 a13 a14 a15 h)
    · exact line_2 n a1 a2 a3 a4 a5 a6 a7 a8 a9 a10 a11 a12 a13 a14 a15 (val_2 n a1 a2 a3 a4 a5 a6 a7 a8 a9 a10 a11 a12 a13 a14 a15 h)
    · exact line_3 n a1 a2 a3 a4 a5 a6 a7 a8 a9 a10 a11 a12 a13 a14 a15 (val_3 n a1 a2 a3 a4 a5 a6 a7 a8 a9 a10 a11 a12 a13 a14 a15 h)
    · exact line_4 n a1 a2 a3 a4 a5 a6 a7 a8 a9 a10 a11 a12 a13 a14 a15 (val_4 n a1 a2 a3 a4 a5 a6 a7 a8 a9 a10 a11 a12 a13 a14 a15 h)
    · exact line_5 n a1 a2 a3 a4 a5 a6 a7 a8 a9 a10 a11 a12 a13 a14 a15 (val_5 n a1 a2 a3 a4 a5 a6 a7 a8 a9 a10 a11 a12 a13 a14 a15 h)
    · exact line_6 n a1 a2 a3 a4 a5 a6 a7 a8 a9 a10 a11 a12 a13 a14 a15 (val_6 n a1 a2 a3 a4 a5 a6 a7 a8 a9 a10 a11 a12 a13 a14 a15 h)
    · exact line_7 n a1 a2 a3 a4 a5 a6 a7 a8 a9 a10 a11 a12 a13 a14 a15
  · rw [(step_out n a0 a1 a2 a3 a4 a5 a6 a7 a8 a9 a10 a11 a12 a13 a14 a15 hk).2] at h
    cases h
end Go.Proofs.YtdjagmfcfmeopaaDoor
