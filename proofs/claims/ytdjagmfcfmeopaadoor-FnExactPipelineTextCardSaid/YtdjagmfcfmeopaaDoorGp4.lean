/- The plain definitions of the program and of the reference answer alike: whole numbers, decimals, references: part 4. -/
import Derived.Test.YtdjagmfcfmeopaaDoorGp3
namespace Go.Proofs.YtdjagmfcfmeopaaDoor
open Go Go.Sx Go.Proofs Go.RowKit
def isD (c : UInt8) : Bool := decide (48 ≤ c.toNat) && decide (c.toNat ≤ 57)
def D10 : List UInt8 := [48, 49, 50, 51, 52, 53, 54, 55, 56, 57]
theorem digit_eq (c : UInt8) : spec_l01Digit.f (c.toNat : Int) = some (isD c) := by
  unfold spec_l01Digit.f isD
  by_cases h : 48 ≤ c.toNat
  · rw [dt (p := ((c.toNat : Int) ≥ 48)) (by omega), dt h]
    simp only [cond_true, Bool.true_and]
    congr 1
    by_cases h2 : c.toNat ≤ 57
    · rw [dt h2, dt (by omega)]
    · rw [df h2, df (by omega)]
  · rw [df (p := ((c.toNat : Int) ≥ 48)) (by omega), df h]
    rfl
theorem D10_all : ∀ b : Fin 256, D10.contains (b.val : Nat).toUInt8 = (decide (48 ≤ b.val) && decide (b.val ≤ 57)) := by decide +kernel
theorem D10_eq (c : UInt8) : D10.contains c = isD c := by
  have h := D10_all ⟨c.toNat, c.toNat_lt⟩
  simpa [isD] using h
theorem drop_nil : ∀ l : List UInt8, (l.dropWhile (D10.contains ·) = []) ↔ l.all isD = true := by
  intro l
  induction l with
  | nil => exact ⟨fun _ => rfl, fun _ => rfl⟩
  | cons c r ih =>
    rw [List.dropWhile_cons, List.all_cons, D10_eq]
    cases h : isD c
    · rw [if_neg (by decide), Bool.false_and]
      constructor
      · intro h; cases h
      · intro h; cases h
    · rw [if_pos rfl, ih, Bool.true_and]
theorem trim_nil (l : List UInt8) : (Lib.trimS l D10 == []) = l.all isD := by
  unfold Lib.trimS Lib.trimLeftS Lib.trimRightS
  rw [Bool.eq_iff_iff, beq_iff_eq]
  generalize hq : l.reverse.dropWhile (D10.contains ·) = q
  cases q with
  | nil =>
    have := (drop_nil l.reverse).mp hq
    rw [List.all_reverse] at this
    exact ⟨fun _ => this, fun _ => rfl⟩
  | cons c r =>
    have h1 : D10.contains c = false := by
      have h1 := List.head_dropWhile_not (p := (D10.contains ·)) (l := l.reverse) (by rw [hq]; exact List.cons_ne_nil _ _)
      have h2 : (l.reverse.dropWhile (D10.contains ·)).head (by rw [hq]; exact List.cons_ne_nil _ _) = c := by simp only [hq, List.head_cons]
      rw [h2] at h1
      exact h1
    constructor
    · intro h
      exfalso
      rw [drop_nil, List.all_reverse, List.all_cons, ← D10_eq, h1] at h
      cases h
    · intro h
      have := (drop_nil l.reverse).mpr (by rw [List.all_reverse]; exact h)
      rw [hq] at this
      cases this
theorem trim_eq (l : List UInt8) (h : l.length ≤ 1000) : strings_Trim.f l D10 = some (Lib.trimS l D10) := by
  unfold strings_Trim.f
  rw [if_pos ⟨by omega, by decide, by decide⟩]
def dv (c : UInt8) : Int := (c.toNat : Int) - 48
theorem dv_lo {c : UInt8} (h : isD c = true) : 0 ≤ dv c := by simp [isD] at h; unfold dv; omega
theorem dv_hi {c : UInt8} (h : isD c = true) : dv c ≤ 9 := by simp [isD] at h; unfold dv; omega
theorem dv_w {c : UInt8} (h : isD c = true) : IntKind.i64.wrap (IntKind.u8.wrap ((c.toNat : Int) - 48)) = dv c := by
  have h0 := dv_lo h
  have h1 := dv_hi h
  unfold dv at *
  rw [w8 (by omega) (by omega), w64 (by omega) (by omega)]
theorem num_2 (x y : UInt8) (hx : isD x = true) (hy : isD y = true) : impl_number.f 64 [x, y] = some (10 * dv x + dv y) := by
  have a := dv_lo hx; have b := dv_hi hx; have c := dv_lo hy; have d := dv_hi hy
  have e0 : bt [x, y] 0 = (x.toNat : Int) := rfl
  have e1 : bt [x, y] 1 = (y.toNat : Int) := rfl
  have e : impl_number.f 64 [x, y] = some (IntKind.i64.wrap (IntKind.i64.wrap (10 * IntKind.i64.wrap (IntKind.i64.wrap (10 * 0) + IntKind.i64.wrap (IntKind.u8.wrap (bt [x, y] 0 - 48)))) + IntKind.i64.wrap (IntKind.u8.wrap (bt [x, y] 1 - 48)))) := rfl
  rw [e, e0, e1, dv_w hx, dv_w hy]
  simp (disch := omega) only [w64]
  congr 1
  omega
theorem num_3 (x y z : UInt8) (hx : isD x = true) (hy : isD y = true) (hz : isD z = true) : impl_number.f 64 [x, y, z] = some (10 * (10 * dv x + dv y) + dv z) := by
  have a := dv_lo hx; have b := dv_hi hx; have c := dv_lo hy; have d := dv_hi hy; have e := dv_lo hz; have f := dv_hi hz
  have e0 : bt [x, y, z] 0 = (x.toNat : Int) := rfl
  have e1 : bt [x, y, z] 1 = (y.toNat : Int) := rfl
  have e2 : bt [x, y, z] 2 = (z.toNat : Int) := rfl
  have e : impl_number.f 64 [x, y, z] = some (IntKind.i64.wrap (IntKind.i64.wrap (10 * IntKind.i64.wrap (IntKind.i64.wrap (10 * IntKind.i64.wrap (IntKind.i64.wrap (10 * 0) + IntKind.i64.wrap (IntKind.u8.wrap (bt [x, y, z] 0 - 48)))) + IntKind.i64.wrap (IntKind.u8.wrap (bt [x, y, z] 1 - 48)))) + IntKind.i64.wrap (IntKind.u8.wrap (bt [x, y, z] 2 - 48)))) := rfl
  rw [e, e0, e1, e2, dv_w hx, dv_w hy, dv_w hz]
  simp (disch := omega) only [w64]
  congr 1
  omega
section
variable (a b c d e0 e1 e2 e3 : UInt8)
theorem s_l1_8 (i k : Int) : spec_l26ReadGeoref.l1 64 64 [a, b, c, d, e0, e1, e2, e3] 0 0 0 false 3 i k 60 0 =
    some (if (isD e0 && isD e2 && (isD e1 && isD e3)) = true then .inl (([a, b, c, d, e0, e1, e2, e3], (0, (0, (0, (false, (3, (i, (k, (60, ()))))))))), ()) else .inr ((0, (0, (0, (false, ())))), ())) := by
  have f0 : bt [a, b, c, d, e0, e1, e2, e3] (IntKind.i64.wrap (4 + 0)) = (e0.toNat : Int) := rfl
  have f1 : bt [a, b, c, d, e0, e1, e2, e3] (IntKind.i64.wrap (4 + IntKind.i64.wrap (0 + 1))) = (e1.toNat : Int) := rfl
  have f2 : bt [a, b, c, d, e0, e1, e2, e3] (IntKind.i64.wrap (IntKind.i64.wrap (3 + 3) + 0)) = (e2.toNat : Int) := rfl
  have f3 : bt [a, b, c, d, e0, e1, e2, e3] (IntKind.i64.wrap (IntKind.i64.wrap (3 + 3) + IntKind.i64.wrap (0 + 1))) = (e3.toNat : Int) := rfl
  rw [show spec_l26ReadGeoref.l1 64 64 [a, b, c, d, e0, e1, e2, e3] 0 0 0 false 3 i k 60 0 = spec_l26ReadGeoref.l1 64 (63 + 1) [a, b, c, d, e0, e1, e2, e3] 0 0 0 false 3 i k 60 0 from rfl, spec_l26ReadGeoref.l1, f0, f2, digit_eq, digit_eq]
  cases h0 : isD e0
  · rfl
  · cases h2 : isD e2
    · rfl
    · show spec_l26ReadGeoref.l1 64 (62 + 1) [a, b, c, d, e0, e1, e2, e3] 0 0 0 false 3 i k 60 (IntKind.i64.wrap (0 + 1)) = _
      rw [spec_l26ReadGeoref.l1, f1, f3, digit_eq, digit_eq]
      cases h1 : isD e1
      · rfl
      · cases h3 : isD e3
        · rfl
        · rfl
theorem s_l2_8 (i k : Int) (h0 : isD e0 = true) (h1 : isD e1 = true) (h2 : isD e2 = true) (h3 : isD e3 = true) : spec_l26ReadGeoref.l2 64 64 [a, b, c, d, e0, e1, e2, e3] 0 0 0 false 3 i k 60 0 0 0 =
    some (([a, b, c, d, e0, e1, e2, e3], (0, (0, (0, (false, (3, (i, (k, (60, (10 * dv e0 + dv e1, (10 * dv e2 + dv e3, ()))))))))))), ()) := by
  have g0 := dv_lo h0; have g0' := dv_hi h0; have g1 := dv_lo h1; have g1' := dv_hi h1; have g2 := dv_lo h2; have g2' := dv_hi h2; have g3 := dv_lo h3; have g3' := dv_hi h3
  have f0 : bt [a, b, c, d, e0, e1, e2, e3] (IntKind.i64.wrap (4 + 0)) = (e0.toNat : Int) := rfl
  have f1 : bt [a, b, c, d, e0, e1, e2, e3] (IntKind.i64.wrap (4 + IntKind.i64.wrap (0 + 1))) = (e1.toNat : Int) := rfl
  have f2 : bt [a, b, c, d, e0, e1, e2, e3] (IntKind.i64.wrap (IntKind.i64.wrap (3 + 3) + 0)) = (e2.toNat : Int) := rfl
  have f3 : bt [a, b, c, d, e0, e1, e2, e3] (IntKind.i64.wrap (IntKind.i64.wrap (3 + 3) + IntKind.i64.wrap (0 + 1))) = (e3.toNat : Int) := rfl
  rw [show spec_l26ReadGeoref.l2 64 64 [a, b, c, d, e0, e1, e2, e3] 0 0 0 false 3 i k 60 0 0 0 = spec_l26ReadGeoref.l2 64 (63 + 1) [a, b, c, d, e0, e1, e2, e3] 0 0 0 false 3 i k 60 0 0 0 from rfl, spec_l26ReadGeoref.l2, f0, f2, dv_w h0, dv_w h2]
  rw [show IntKind.i64.wrap (IntKind.i64.wrap (10 * 0) + dv e0) = dv e0 by simp (disch := omega) only [w64]; omega, show IntKind.i64.wrap (IntKind.i64.wrap (10 * 0) + dv e2) = dv e2 by simp (disch := omega) only [w64]; omega]
  show spec_l26ReadGeoref.l2 64 (62 + 1) [a, b, c, d, e0, e1, e2, e3] 0 0 0 false 3 i k 60 (dv e0) (dv e2) (IntKind.i64.wrap (0 + 1)) = _
  rw [spec_l26ReadGeoref.l2, f1, f3, dv_w h1, dv_w h3]
  rw [show IntKind.i64.wrap (IntKind.i64.wrap (10 * dv e0) + dv e1) = 10 * dv e0 + dv e1 by simp (disch := omega) only [w64], show IntKind.i64.wrap (IntKind.i64.wrap (10 * dv e2) + dv e3) = 10 * dv e2 + dv e3 by simp (disch := omega) only [w64]]
  rfl
theorem sr_8 : spec_l26ReadGeoref.f 64 [a, b, c, d, e0, e1, e2, e3] = some (if (isD e0 && isD e2 && (isD e1 && isD e3)) = true ∧ okP 21600 10800 (T3 60 2) [a, b, c, d, e0, e1, e2, e3] (60 * (15 * let1 a + let1 c) + (10 * dv e0 + dv e1)) (60 * (15 * let1 b + let1 d) + (10 * dv e2 + dv e3)) then
    (60 * (15 * let1 a + let1 c) + (10 * dv e0 + dv e1), 60 * (15 * let1 b + let1 d) + (10 * dv e2 + dv e3), 3, true) else (0, 0, 0, false)) := by
  have ha := let1_lo a; have ha' := let1_hi a
  have hb := let1_lo b; have hb' := let1_hi b
  have hc := let1_lo c; have hc' := let1_hi c
  have hd := let1_lo d; have hd' := let1_hi d
  show spec_l26ReadGeoref.j3 64 [a, b, c, d, e0, e1, e2, e3] 3 = _
  unfold spec_l26ReadGeoref.j3
  rw [bt_0, bt_1, bt_2, bt_3, letter_eq, letter_eq, letter_eq, letter_eq]
  show spec_l26ReadGeoref.j2 64 [a, b, c, d, e0, e1, e2, e3] 3 (IntKind.i64.wrap (IntKind.i64.wrap (15 * let1 a) + let1 c)) (IntKind.i64.wrap (IntKind.i64.wrap (15 * let1 b) + let1 d)) = _
  simp (disch := omega) only [w64]
  show ((spec_l26ReadGeoref.l1 64 64 [a, b, c, d, e0, e1, e2, e3] 0 0 0 false 3 (15 * let1 a + let1 c) (15 * let1 b + let1 d) 60 0).bind fun p => sumE _ _ p) = _
  rw [s_l1_8]
  by_cases h : (isD e0 && isD e2 && (isD e1 && isD e3)) = true
  · rw [if_pos h]
    simp only [Bool.and_eq_true] at h
    obtain ⟨⟨h0, h2⟩, h1, h3⟩ := h
    have g0 := dv_lo h0; have g0' := dv_hi h0; have g1 := dv_lo h1; have g1' := dv_hi h1; have g2 := dv_lo h2; have g2' := dv_hi h2; have g3 := dv_lo h3; have g3' := dv_hi h3
    simp only [Option.bind_some, sumE]
    rw [s_l2_8 a b c d e0 e1 e2 e3 _ _ h0 h1 h2 h3]
    simp only [Option.bind_some]
    show spec_l26ReadGeoref.j1 64 [a, b, c, d, e0, e1, e2, e3] 3 (IntKind.i64.wrap (IntKind.i64.wrap (60 * (15 * let1 a + let1 c)) + (10 * dv e0 + dv e1))) (IntKind.i64.wrap (IntKind.i64.wrap (60 * (15 * let1 b + let1 d)) + (10 * dv e2 + dv e3))) = _
    simp (disch := omega) only [w64]
    rw [s_g3]
    simp only [h0, h1, h2, h3, Bool.and_self, true_and]
  · rw [if_neg h, if_neg (fun hh => h hh.1)]
    rfl
theorem ir_8 : impl_readGeoref.f 64 [a, b, c, d, e0, e1, e2, e3] = some (if (isD e0 && isD e2 && (isD e1 && isD e3)) = true ∧ okP 21600 10800 (T3 60 2) [a, b, c, d, e0, e1, e2, e3] (60 * (15 * let1 a + let1 c) + (10 * dv e0 + dv e1)) (60 * (15 * let1 b + let1 d) + (10 * dv e2 + dv e3)) then
    ((60 * (15 * let1 a + let1 c) + (10 * dv e0 + dv e1), 60 * (15 * let1 b + let1 d) + (10 * dv e2 + dv e3), 21600, 10800), true) else ((0, 0, 0, 0), false)) := by
  have ha := let1_lo a; have ha' := let1_hi a
  have hb := let1_lo b; have hb' := let1_hi b
  have hc := let1_lo c; have hc' := let1_hi c
  have hd := let1_lo d; have hd' := let1_hi d
  unfold impl_readGeoref.f
  have e : impl_georefLevel.f (((([a, b, c, d, e0, e1, e2, e3] : List UInt8).length : Nat) : Int)) = some 3 := rfl
  rw [e, bt_0, bt_1, bt_2, bt_3]
  have hL : ([65, 66, 67, 68, 69, 70, 71, 72, 74, 75, 76, 77, 78, 80, 81, 82, 83, 84, 85, 86, 87, 88, 89, 90] : List UInt8) = LT := rfl
  rw [hL, index_eq, index_eq, index_eq, index_eq]
  show impl_readGeoref.j2 64 [a, b, c, d, e0, e1, e2, e3] 3 (let1 a) (let1 b) (let1 c) (let1 d) = _
  unfold impl_readGeoref.j2
  rw [show impl_georefParts.f 3 = some (60, 2) from rfl]
  simp only [Option.bind_some]
  rw [show cut [a, b, c, d, e0, e1, e2, e3] 4 (((List.length [a, b, c, d, e0, e1, e2, e3]) : Nat) : Int) = [e0, e1, e2, e3] from rfl]
  rw [dt (p := ((60 : Int) > 0)) (by decide), dt (p := (4 ≤ (((List.length [a, b, c, d, e0, e1, e2, e3]) : Nat) : Int))) (by simp), dt (p := ((0 : Int) ≤ 2)) (by decide), dt (p := ((2 : Int) ≤ (((List.length [e0, e1, e2, e3]) : Nat) : Int))) (by simp)]
  rw [show cut [e0, e1, e2, e3] 0 2 = [e0, e1] from rfl, show cut [e0, e1, e2, e3] 2 (((List.length [e0, e1, e2, e3]) : Nat) : Int) = [e2, e3] from rfl]
  rw [show ([48, 49, 50, 51, 52, 53, 54, 55, 56, 57] : List UInt8) = D10 from rfl]
  simp only [cond_true, Bool.and_self]
  rw [trim_eq _ (by simp)]
  simp only [Option.bind_some]
  rw [trim_nil]
  have hall : [e0, e1, e2, e3].all isD = (isD e0 && isD e2 && (isD e1 && isD e3)) := by
    simp only [List.all_cons, List.all_nil, Bool.and_true]
    cases isD e0 <;> cases isD e1 <;> cases isD e2 <;> cases isD e3 <;> rfl
  rw [hall]
  by_cases h : (isD e0 && isD e2 && (isD e1 && isD e3)) = true
  · rw [h]
    simp only [Bool.and_eq_true] at h
    obtain ⟨⟨h0, h2⟩, h1, h3⟩ := h
    have g0 := dv_lo h0; have g0' := dv_hi h0; have g1 := dv_lo h1; have g1' := dv_hi h1; have g2 := dv_lo h2; have g2' := dv_hi h2; have g3 := dv_lo h3; have g3' := dv_hi h3
    rw [num_2 e0 e1 h0 h1, num_2 e2 e3 h2 h3]
    simp only [Option.bind_some, Bool.not_true, cond_false]
    simp (disch := omega) only [w64]
    rw [i_g3, Int.mul_comm (15 * let1 a + let1 c) 60, Int.mul_comm (15 * let1 b + let1 d) 60]
    simp only [true_and]
  · have hf : (isD e0 && isD e2 && (isD e1 && isD e3)) = false := by simpa using h
    rw [if_neg (fun hh => h hh.1), hf]
    rfl
end
end Go.Proofs.YtdjagmfcfmeopaaDoor
