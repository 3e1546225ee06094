/- The plain definitions of the program and of the reference answer alike: steps and their texts: part 2. -/
import Derived.Test.YtdjagmfcfmeopaaDoorTp1
namespace Go.Proofs.YtdjagmfcfmeopaaDoor
open Go Go.Sx Go.Proofs Go.RowKit
theorem pj_con (k y a b : Int) (hk : k = 10 ∨ k = 11 ∨ k = 12) : pj k y a b = (decide (a + b ≥ 10000000) || decide (a + b ≤ -10000000)) := by
  unfold pj
  rw [if_neg (by omega), if_neg (by omega), if_pos hk]
theorem con_s (k y a b : Int) (hk : k = 10 ∨ k = 11 ∨ k = 12) (ha : st a = true) (hb : st b = true) : (bif decide (IntKind.i64.wrap (a + b) ≥ 10000000) then some true else some (decide (IntKind.i64.wrap (a + b) ≤ -10000000))) = some (pj k y a b) := by
  have h0 := (st_iff a).mp ha
  have h1 := (st_iff b).mp hb
  rw [w64 (by omega) (by omega), pj_con k y a b hk]
  cases decide (a + b ≥ 10000000) <;> rfl
theorem con_i (k y a b : Int) (hk : k = 10 ∨ k = 11 ∨ k = 12) (ha : st a = true) (hb : st b = true) : ((impl_abs.f (IntKind.i64.wrap (a + b))).bind fun p => some (decide (p ≥ 10000000))) = some (pj k y a b) := by
  have h0 := (st_iff a).mp ha
  have h1 := (st_iff b).mp hb
  rw [w64 (by omega) (by omega), abs_eq _ (by omega) (by omega), pj_con k y a b hk]
  simp only [Option.bind_some]
  congr 1
  rw [Bool.eq_iff_iff]
  simp only [Bool.or_eq_true, decide_eq_true_eq]
  split <;> omega
theorem ps_1 (y a b : Int) (ha : st a = true) (hb : st b = true) : spec_l17Ok.j1 1 y a b = some (pj 1 y a b) := by
  show (bif y == 0 then some (b == 0) else some false) = _
  rw [bif_y]; rfl
theorem pi_1 (y a b : Int) (ha : st a = true) (hb : st b = true) : impl_ValidProjection.j4 1 y a b = some (pj 1 y a b) := by
  show (bif y != 0 then some false else (bif b != 0 then some false else some true)) = _
  cases h : y == 0 <;> cases h2 : b == 0 <;> simp [bne, h, h2, pj]
theorem ps_2 (y a b : Int) (ha : st a = true) (hb : st b = true) : spec_l17Ok.j1 2 y a b = some (pj 2 y a b) := by
  show (bif y == 0 then (bif a == 0 then some (b == 0) else some false) else some false) = _
  rw [bif_y, bif_y]; rfl
theorem pi_2 (y a b : Int) (ha : st a = true) (hb : st b = true) : impl_ValidProjection.j4 2 y a b = some (pj 2 y a b) := by
  show (bif y != 0 then some false else (bif a != 0 then some false else (bif b != 0 then some false else some true))) = _
  cases h0 : y == 0 <;> cases h : a == 0 <;> cases h2 : b == 0 <;> simp [bne, h0, h, h2, pj]
theorem ps_3 (y a b : Int) (ha : st a = true) (hb : st b = true) : spec_l17Ok.j1 3 y a b = some (pj 3 y a b) := by
  show (bif y == 0 then some (b == 0) else some false) = _
  rw [bif_y]; rfl
theorem pi_3 (y a b : Int) (ha : st a = true) (hb : st b = true) : impl_ValidProjection.j4 3 y a b = some (pj 3 y a b) := by
  show (bif y != 0 then some false else (bif b != 0 then some false else some true)) = _
  cases h : y == 0 <;> cases h2 : b == 0 <;> simp [bne, h, h2, pj]
theorem ps_4 (y a b : Int) (ha : st a = true) (hb : st b = true) : spec_l17Ok.j1 4 y a b = some (pj 4 y a b) := by
  show (bif y == 0 then (bif a == 0 then some (b == 0) else some false) else some false) = _
  rw [bif_y, bif_y]; rfl
theorem pi_4 (y a b : Int) (ha : st a = true) (hb : st b = true) : impl_ValidProjection.j4 4 y a b = some (pj 4 y a b) := by
  show (bif y != 0 then some false else (bif a != 0 then some false else (bif b != 0 then some false else some true))) = _
  cases h0 : y == 0 <;> cases h : a == 0 <;> cases h2 : b == 0 <;> simp [bne, h0, h, h2, pj]
theorem ps_5 (y a b : Int) (ha : st a = true) (hb : st b = true) : spec_l17Ok.j1 5 y a b = some (pj 5 y a b) := by
  show (bif a == 0 then some (b == 0) else some false) = _
  rw [bif_y]; rfl
theorem pi_5 (y a b : Int) (ha : st a = true) (hb : st b = true) : impl_ValidProjection.j4 5 y a b = some (pj 5 y a b) := by
  show (bif a != 0 then some false else (bif b != 0 then some false else some true)) = _
  cases h : a == 0 <;> cases h2 : b == 0 <;> simp [bne, h, h2, pj]
theorem ps_6 (y a b : Int) (ha : st a = true) (hb : st b = true) : spec_l17Ok.j1 6 y a b = some (pj 6 y a b) := by
  show (bif a == 0 then some (b == 0) else some false) = _
  rw [bif_y]; rfl
theorem pi_6 (y a b : Int) (ha : st a = true) (hb : st b = true) : impl_ValidProjection.j4 6 y a b = some (pj 6 y a b) := by
  show (bif a != 0 then some false else (bif b != 0 then some false else some true)) = _
  cases h : a == 0 <;> cases h2 : b == 0 <;> simp [bne, h, h2, pj]
theorem ps_7 (y a b : Int) (ha : st a = true) (hb : st b = true) : spec_l17Ok.j1 7 y a b = some (pj 7 y a b) := by
  show (bif a == 0 then some (b == 0) else some false) = _
  rw [bif_y]; rfl
theorem pi_7 (y a b : Int) (ha : st a = true) (hb : st b = true) : impl_ValidProjection.j4 7 y a b = some (pj 7 y a b) := by
  show (bif a != 0 then some false else (bif b != 0 then some false else some true)) = _
  cases h : a == 0 <;> cases h2 : b == 0 <;> simp [bne, h, h2, pj]
theorem ps_8 (y a b : Int) (ha : st a = true) (hb : st b = true) : spec_l17Ok.j1 8 y a b = some (pj 8 y a b) := by
  show (bif a == 0 then some (b == 0) else some false) = _
  rw [bif_y]; rfl
theorem pi_8 (y a b : Int) (ha : st a = true) (hb : st b = true) : impl_ValidProjection.j4 8 y a b = some (pj 8 y a b) := by
  show (bif a != 0 then some false else (bif b != 0 then some false else some true)) = _
  cases h : a == 0 <;> cases h2 : b == 0 <;> simp [bne, h, h2, pj]
theorem ps_9 (y a b : Int) (ha : st a = true) (hb : st b = true) : spec_l17Ok.j1 9 y a b = some (pj 9 y a b) := by
  show (bif a == 0 then some (b == 0) else some false) = _
  rw [bif_y]; rfl
theorem pi_9 (y a b : Int) (ha : st a = true) (hb : st b = true) : impl_ValidProjection.j4 9 y a b = some (pj 9 y a b) := by
  show (bif a != 0 then some false else (bif b != 0 then some false else some true)) = _
  cases h : a == 0 <;> cases h2 : b == 0 <;> simp [bne, h, h2, pj]
theorem ps_10 (y a b : Int) (ha : st a = true) (hb : st b = true) : spec_l17Ok.j1 10 y a b = some (pj 10 y a b) := by
  show (bif decide (IntKind.i64.wrap (a + b) ≥ 10000000) then some true else some (decide (IntKind.i64.wrap (a + b) ≤ -10000000))) = _
  exact con_s 10 y a b (by decide) ha hb
theorem pi_10 (y a b : Int) (ha : st a = true) (hb : st b = true) : impl_ValidProjection.j4 10 y a b = some (pj 10 y a b) := by
  show ((impl_abs.f (IntKind.i64.wrap (a + b))).bind fun p => some (decide (p ≥ 10000000))) = _
  exact con_i 10 y a b (by decide) ha hb
theorem ps_11 (y a b : Int) (ha : st a = true) (hb : st b = true) : spec_l17Ok.j1 11 y a b = some (pj 11 y a b) := by
  show (bif decide (IntKind.i64.wrap (a + b) ≥ 10000000) then some true else some (decide (IntKind.i64.wrap (a + b) ≤ -10000000))) = _
  exact con_s 11 y a b (by decide) ha hb
theorem pi_11 (y a b : Int) (ha : st a = true) (hb : st b = true) : impl_ValidProjection.j4 11 y a b = some (pj 11 y a b) := by
  show ((impl_abs.f (IntKind.i64.wrap (a + b))).bind fun p => some (decide (p ≥ 10000000))) = _
  exact con_i 11 y a b (by decide) ha hb
theorem ps_12 (y a b : Int) (ha : st a = true) (hb : st b = true) : spec_l17Ok.j1 12 y a b = some (pj 12 y a b) := by
  show (bif decide (IntKind.i64.wrap (a + b) ≥ 10000000) then some true else some (decide (IntKind.i64.wrap (a + b) ≤ -10000000))) = _
  exact con_s 12 y a b (by decide) ha hb
theorem pi_12 (y a b : Int) (ha : st a = true) (hb : st b = true) : impl_ValidProjection.j4 12 y a b = some (pj 12 y a b) := by
  show ((impl_abs.f (IntKind.i64.wrap (a + b))).bind fun p => some (decide (p ≥ 10000000))) = _
  exact con_i 12 y a b (by decide) ha hb
theorem ps_13 (y a b : Int) (ha : st a = true) (hb : st b = true) : spec_l17Ok.j1 13 y a b = some (pj 13 y a b) := by
  show (bif y == 0 then (bif a == 0 then some (b == 0) else some false) else some false) = _
  rw [bif_y, bif_y]; rfl
theorem pi_13 (y a b : Int) (ha : st a = true) (hb : st b = true) : impl_ValidProjection.j4 13 y a b = some (pj 13 y a b) := by
  show (bif y != 0 then some false else (bif a != 0 then some false else (bif b != 0 then some false else some true))) = _
  cases h0 : y == 0 <;> cases h : a == 0 <;> cases h2 : b == 0 <;> simp [bne, h0, h, h2, pj]
theorem ps_14 (y a b : Int) (ha : st a = true) (hb : st b = true) : spec_l17Ok.j1 14 y a b = some (pj 14 y a b) := by
  show (bif y == 0 then (bif a == 0 then some (b == 0) else some false) else some false) = _
  rw [bif_y, bif_y]; rfl
theorem pi_14 (y a b : Int) (ha : st a = true) (hb : st b = true) : impl_ValidProjection.j4 14 y a b = some (pj 14 y a b) := by
  show (bif y != 0 then some false else (bif a != 0 then some false else (bif b != 0 then some false else some true))) = _
  cases h0 : y == 0 <;> cases h : a == 0 <;> cases h2 : b == 0 <;> simp [bne, h0, h, h2, pj]
theorem ps_15 (y a b : Int) (ha : st a = true) (hb : st b = true) : spec_l17Ok.j1 15 y a b = some (pj 15 y a b) := by
  show (bif y == 0 then (bif a == 0 then some (b == 0) else some false) else some false) = _
  rw [bif_y, bif_y]; rfl
theorem pi_15 (y a b : Int) (ha : st a = true) (hb : st b = true) : impl_ValidProjection.j4 15 y a b = some (pj 15 y a b) := by
  show (bif y != 0 then some false else (bif a != 0 then some false else (bif b != 0 then some false else some true))) = _
  cases h0 : y == 0 <;> cases h : a == 0 <;> cases h2 : b == 0 <;> simp [bne, h0, h, h2, pj]
theorem ps_16 (y a b : Int) (ha : st a = true) (hb : st b = true) : spec_l17Ok.j1 16 y a b = some (pj 16 y a b) := by
  show (bif a == 0 then some (b == 0) else some false) = _
  rw [bif_y]; rfl
theorem pi_16 (y a b : Int) (ha : st a = true) (hb : st b = true) : impl_ValidProjection.j4 16 y a b = some (pj 16 y a b) := by
  show (bif a != 0 then some false else (bif b != 0 then some false else some true)) = _
  cases h : a == 0 <;> cases h2 : b == 0 <;> simp [bne, h, h2, pj]
theorem pj_out (k y a b : Int) (hk : ¬ (1 ≤ k ∧ k ≤ 16)) : pj k y a b = false := by
  unfold pj
  rw [if_neg (by omega), if_neg (by omega), if_neg (by omega), if_neg (by omega), if_neg hk]
theorem ps_out (k y a b : Int) (hk : ¬ (1 ≤ k ∧ k ≤ 16)) : spec_l17Ok.j1 k y a b = some (pj k y a b) := by
  rw [pj_out k y a b hk]
  have h1 : (k == 1) = false := bt_f (by omega)
  have h2 : (k == 2) = false := bt_f (by omega)
  have h3 : (k == 3) = false := bt_f (by omega)
  have h4 : (k == 4) = false := bt_f (by omega)
  have h5 : (k == 5) = false := bt_f (by omega)
  have h6 : (k == 6) = false := bt_f (by omega)
  have h7 : (k == 7) = false := bt_f (by omega)
  have h8 : (k == 8) = false := bt_f (by omega)
  have h9 : (k == 9) = false := bt_f (by omega)
  have h10 : (k == 10) = false := bt_f (by omega)
  have h11 : (k == 11) = false := bt_f (by omega)
  have h12 : (k == 12) = false := bt_f (by omega)
  have h13 : (k == 13) = false := bt_f (by omega)
  have h14 : (k == 14) = false := bt_f (by omega)
  have h15 : (k == 15) = false := bt_f (by omega)
  have h16 : (k == 16) = false := bt_f (by omega)
  unfold spec_l17Ok.j1
  simp only [h1, h2, h3, h4, h5, h6, h7, h8, h9, h10, h11, h12, h13, h14, h15, h16, cond_false]
theorem ps_all (k y a b : Int) (ha : st a = true) (hb : st b = true) : spec_l17Ok.j1 k y a b = some (pj k y a b) := by
  by_cases hk : 1 ≤ k ∧ k ≤ 16
  · have h : k = 1 ∨ k = 2 ∨ k = 3 ∨ k = 4 ∨ k = 5 ∨ k = 6 ∨ k = 7 ∨ k = 8 ∨ k = 9 ∨ k = 10 ∨ k = 11 ∨ k = 12 ∨ k = 13 ∨ k = 14 ∨ k = 15 ∨ k = 16 := by omega
    rcases h with rfl | rfl | rfl | rfl | rfl | rfl | rfl | rfl | rfl | rfl | rfl | rfl | rfl | rfl | rfl | rfl
    · exact ps_1 y a b ha hb
    · exact ps_2 y a b ha hb
    · exact ps_3 y a b ha hb
    · exact ps_4 y a b ha hb
    · exact ps_5 y a b ha hb
    · exact ps_6 y a b ha hb
    · exact ps_7 y a b ha hb
    · exact ps_8 y a b ha hb
    · exact ps_9 y a b ha hb
    · exact ps_10 y a b ha hb
    · exact ps_11 y a b ha hb
    · exact ps_12 y a b ha hb
    · exact ps_13 y a b ha hb
    · exact ps_14 y a b ha hb
    · exact ps_15 y a b ha hb
    · exact ps_16 y a b ha hb
  · exact ps_out k y a b hk
theorem pi_all (k y a b : Int) (hk : 1 ≤ k ∧ k ≤ 16) (ha : st a = true) (hb : st b = true) : impl_ValidProjection.j4 k y a b = some (pj k y a b) := by
  have h : k = 1 ∨ k = 2 ∨ k = 3 ∨ k = 4 ∨ k = 5 ∨ k = 6 ∨ k = 7 ∨ k = 8 ∨ k = 9 ∨ k = 10 ∨ k = 11 ∨ k = 12 ∨ k = 13 ∨ k = 14 ∨ k = 15 ∨ k = 16 := by omega
  rcases h with rfl | rfl | rfl | rfl | rfl | rfl | rfl | rfl | rfl | rfl | rfl | rfl | rfl | rfl | rfl | rfl
  · exact pi_1 y a b ha hb
  · exact pi_2 y a b ha hb
  · exact pi_3 y a b ha hb
  · exact pi_4 y a b ha hb
  · exact pi_5 y a b ha hb
  · exact pi_6 y a b ha hb
  · exact pi_7 y a b ha hb
  · exact pi_8 y a b ha hb
  · exact pi_9 y a b ha hb
  · exact pi_10 y a b ha hb
  · exact pi_11 y a b ha hb
  · exact pi_12 y a b ha hb
  · exact pi_13 y a b ha hb
  · exact pi_14 y a b ha hb
  · exact pi_15 y a b ha hb
  · exact pi_16 y a b ha hb
def pv (k y x a b : Int) : Bool := vp y x && (st a && (st b && pj k y a b))
theorem proj_o (k y x a b : Int) : spec_l17Ok.f k y x a b = some (pv k y x a b) := by
  unfold spec_l17Ok.f pv
  simp only [sv_eq, std_s, Option.bind_some]
  cases hv : vp y x
  · rfl
  cases ha : st a
  · rfl
  cases hb : st b
  · rfl
  exact ps_all k y a b ha hb
theorem proj_s (k y x a b : Int) : spec_ValidProjection.f k y x a b = some (pv k y x a b) := by
  unfold spec_ValidProjection.f
  rw [proj_o]
  rfl
theorem proj_i (k y x a b : Int) : impl_ValidProjection.f k y x a b = some (pv k y x a b) := by
  unfold impl_ValidProjection.f pv
  simp only [iv_eq, std_i, within_eq, Option.bind_some]
  by_cases hk : 1 ≤ k ∧ k ≤ 16
  · rw [dt hk.1, dt hk.2]
    cases hv : vp y x
    · rfl
    cases ha : st a
    · rfl
    cases hb : st b
    · rfl
    exact pi_all k y a b hk ha hb
  · rw [pj_out k y a b hk, Bool.and_false, Bool.and_false, Bool.and_false]
    have h : (decide (1 ≤ k) && decide (k ≤ 16)) = false := by
      rw [← Bool.not_eq_true, Bool.and_eq_true, decide_eq_true_eq, decide_eq_true_eq]
      exact hk
    rw [h]
    rfl
end Go.Proofs.YtdjagmfcfmeopaaDoor
