/- The plain definitions of the program and of the reference answer alike: whole numbers, decimals, references: part 5. -/
import Derived.Test.YtdjagmfcfmeopaaDoorGp4
namespace Go.Proofs.YtdjagmfcfmeopaaDoor
open Go Go.Sx Go.Proofs Go.RowKit
section
variable (a b c d e0 e1 e2 e3 e4 e5 : UInt8)
theorem s_l1_10 (i k : Int) : spec_l26ReadGeoref.l1 64 64 [a, b, c, d, e0, e1, e2, e3, e4, e5] 0 0 0 false 4 i k 600 0 =
    some (if (isD e0 && isD e3 && (isD e1 && isD e4 && (isD e2 && isD e5))) = true then .inl (([a, b, c, d, e0, e1, e2, e3, e4, e5], (0, (0, (0, (false, (4, (i, (k, (600, ()))))))))), ()) else .inr ((0, (0, (0, (false, ())))), ())) := by
  have f0 : bt [a, b, c, d, e0, e1, e2, e3, e4, e5] (IntKind.i64.wrap (4 + 0)) = (e0.toNat : Int) := rfl
  have f1 : bt [a, b, c, d, e0, e1, e2, e3, e4, e5] (IntKind.i64.wrap (4 + IntKind.i64.wrap (0 + 1))) = (e1.toNat : Int) := rfl
  have f2 : bt [a, b, c, d, e0, e1, e2, e3, e4, e5] (IntKind.i64.wrap (4 + IntKind.i64.wrap (IntKind.i64.wrap (0 + 1) + 1))) = (e2.toNat : Int) := rfl
  have f3 : bt [a, b, c, d, e0, e1, e2, e3, e4, e5] (IntKind.i64.wrap (IntKind.i64.wrap (3 + 4) + 0)) = (e3.toNat : Int) := rfl
  have f4 : bt [a, b, c, d, e0, e1, e2, e3, e4, e5] (IntKind.i64.wrap (IntKind.i64.wrap (3 + 4) + IntKind.i64.wrap (0 + 1))) = (e4.toNat : Int) := rfl
  have f5 : bt [a, b, c, d, e0, e1, e2, e3, e4, e5] (IntKind.i64.wrap (IntKind.i64.wrap (3 + 4) + IntKind.i64.wrap (IntKind.i64.wrap (0 + 1) + 1))) = (e5.toNat : Int) := rfl
  rw [show spec_l26ReadGeoref.l1 64 64 [a, b, c, d, e0, e1, e2, e3, e4, e5] 0 0 0 false 4 i k 600 0 = spec_l26ReadGeoref.l1 64 (63 + 1) [a, b, c, d, e0, e1, e2, e3, e4, e5] 0 0 0 false 4 i k 600 0 from rfl, spec_l26ReadGeoref.l1, f0, f3, digit_eq, digit_eq]
  cases h0 : isD e0
  · rfl
  · cases h3 : isD e3
    · rfl
    · show spec_l26ReadGeoref.l1 64 (62 + 1) [a, b, c, d, e0, e1, e2, e3, e4, e5] 0 0 0 false 4 i k 600 (IntKind.i64.wrap (0 + 1)) = _
      rw [spec_l26ReadGeoref.l1, f1, f4, digit_eq, digit_eq]
      cases h1 : isD e1
      · rfl
      · cases h4 : isD e4
        · rfl
        · show spec_l26ReadGeoref.l1 64 (61 + 1) [a, b, c, d, e0, e1, e2, e3, e4, e5] 0 0 0 false 4 i k 600 (IntKind.i64.wrap (IntKind.i64.wrap (0 + 1) + 1)) = _
          rw [spec_l26ReadGeoref.l1, f2, f5, digit_eq, digit_eq]
          cases h2 : isD e2
          · rfl
          · cases h5 : isD e5
            · rfl
            · rfl
theorem st_0 (i k x y : Int) (n : Nat) : spec_l26ReadGeoref.l2 64 (n + 1) [a, b, c, d, e0, e1, e2, e3, e4, e5] 0 0 0 false 4 i k 600 x y 0 = spec_l26ReadGeoref.l2 64 n [a, b, c, d, e0, e1, e2, e3, e4, e5] 0 0 0 false 4 i k 600 (IntKind.i64.wrap (IntKind.i64.wrap (10 * x) + IntKind.i64.wrap (IntKind.u8.wrap ((e0.toNat : Int) - 48)))) (IntKind.i64.wrap (IntKind.i64.wrap (10 * y) + IntKind.i64.wrap (IntKind.u8.wrap ((e3.toNat : Int) - 48)))) 1 := rfl
theorem st_1 (i k x y : Int) (n : Nat) : spec_l26ReadGeoref.l2 64 (n + 1) [a, b, c, d, e0, e1, e2, e3, e4, e5] 0 0 0 false 4 i k 600 x y 1 = spec_l26ReadGeoref.l2 64 n [a, b, c, d, e0, e1, e2, e3, e4, e5] 0 0 0 false 4 i k 600 (IntKind.i64.wrap (IntKind.i64.wrap (10 * x) + IntKind.i64.wrap (IntKind.u8.wrap ((e1.toNat : Int) - 48)))) (IntKind.i64.wrap (IntKind.i64.wrap (10 * y) + IntKind.i64.wrap (IntKind.u8.wrap ((e4.toNat : Int) - 48)))) 2 := rfl
theorem st_2 (i k x y : Int) (n : Nat) : spec_l26ReadGeoref.l2 64 (n + 1) [a, b, c, d, e0, e1, e2, e3, e4, e5] 0 0 0 false 4 i k 600 x y 2 = spec_l26ReadGeoref.l2 64 n [a, b, c, d, e0, e1, e2, e3, e4, e5] 0 0 0 false 4 i k 600 (IntKind.i64.wrap (IntKind.i64.wrap (10 * x) + IntKind.i64.wrap (IntKind.u8.wrap ((e2.toNat : Int) - 48)))) (IntKind.i64.wrap (IntKind.i64.wrap (10 * y) + IntKind.i64.wrap (IntKind.u8.wrap ((e5.toNat : Int) - 48)))) 3 := rfl
theorem st_3 (i k x y : Int) (n : Nat) : spec_l26ReadGeoref.l2 64 (n + 1) [a, b, c, d, e0, e1, e2, e3, e4, e5] 0 0 0 false 4 i k 600 x y 3 = some (([a, b, c, d, e0, e1, e2, e3, e4, e5], (0, (0, (0, (false, (4, (i, (k, (600, (x, (y, ()))))))))))), ()) := rfl
theorem s_l2_10 (i k : Int) (h0 : isD e0 = true) (h1 : isD e1 = true) (h2 : isD e2 = true) (h3 : isD e3 = true) (h4 : isD e4 = true) (h5 : isD e5 = true) : spec_l26ReadGeoref.l2 64 64 [a, b, c, d, e0, e1, e2, e3, e4, e5] 0 0 0 false 4 i k 600 0 0 0 =
    some (([a, b, c, d, e0, e1, e2, e3, e4, e5], (0, (0, (0, (false, (4, (i, (k, (600, ((10 * (10 * dv e0 + dv e1) + dv e2), ((10 * (10 * dv e3 + dv e4) + dv e5), ()))))))))))), ()) := by
  have g0 := dv_lo h0; have g0' := dv_hi h0; have g1 := dv_lo h1; have g1' := dv_hi h1; have g2 := dv_lo h2; have g2' := dv_hi h2; have g3 := dv_lo h3; have g3' := dv_hi h3; have g4 := dv_lo h4; have g4' := dv_hi h4; have g5 := dv_lo h5; have g5' := dv_hi h5
  rw [st_0 a b c d e0 e1 e2 e3 e4 e5 i k 0 0 63, dv_w h0, dv_w h3]
  rw [show IntKind.i64.wrap (IntKind.i64.wrap (10 * 0) + dv e0) = dv e0 by simp (disch := omega) only [w64]; omega, show IntKind.i64.wrap (IntKind.i64.wrap (10 * 0) + dv e3) = dv e3 by simp (disch := omega) only [w64]; omega]
  rw [st_1 a b c d e0 e1 e2 e3 e4 e5 i k _ _ 62, dv_w h1, dv_w h4]
  rw [show IntKind.i64.wrap (IntKind.i64.wrap (10 * dv e0) + dv e1) = 10 * dv e0 + dv e1 by simp (disch := omega) only [w64], show IntKind.i64.wrap (IntKind.i64.wrap (10 * dv e3) + dv e4) = 10 * dv e3 + dv e4 by simp (disch := omega) only [w64]]
  rw [st_2 a b c d e0 e1 e2 e3 e4 e5 i k _ _ 61, dv_w h2, dv_w h5]
  rw [show IntKind.i64.wrap (IntKind.i64.wrap (10 * (10 * dv e0 + dv e1)) + dv e2) = (10 * (10 * dv e0 + dv e1) + dv e2) by simp (disch := omega) only [w64], show IntKind.i64.wrap (IntKind.i64.wrap (10 * (10 * dv e3 + dv e4)) + dv e5) = (10 * (10 * dv e3 + dv e4) + dv e5) by simp (disch := omega) only [w64]]
  exact st_3 a b c d e0 e1 e2 e3 e4 e5 i k _ _ 60
theorem sr_10 : spec_l26ReadGeoref.f 64 [a, b, c, d, e0, e1, e2, e3, e4, e5] = some (if (isD e0 && isD e3 && (isD e1 && isD e4 && (isD e2 && isD e5))) = true ∧ okP 216000 108000 (T3 600 3) [a, b, c, d, e0, e1, e2, e3, e4, e5] (600 * (15 * let1 a + let1 c) + (10 * (10 * dv e0 + dv e1) + dv e2)) (600 * (15 * let1 b + let1 d) + (10 * (10 * dv e3 + dv e4) + dv e5)) then ((600 * (15 * let1 a + let1 c) + (10 * (10 * dv e0 + dv e1) + dv e2)), (600 * (15 * let1 b + let1 d) + (10 * (10 * dv e3 + dv e4) + dv e5)), 4, true) else (0, 0, 0, false)) := by
  have ha := let1_lo a; have ha' := let1_hi a
  have hb := let1_lo b; have hb' := let1_hi b
  have hc := let1_lo c; have hc' := let1_hi c
  have hd := let1_lo d; have hd' := let1_hi d
  show spec_l26ReadGeoref.j3 64 [a, b, c, d, e0, e1, e2, e3, e4, e5] 4 = _
  unfold spec_l26ReadGeoref.j3
  rw [bt_0, bt_1, bt_2, bt_3, letter_eq, letter_eq, letter_eq, letter_eq]
  show spec_l26ReadGeoref.j2 64 [a, b, c, d, e0, e1, e2, e3, e4, e5] 4 (IntKind.i64.wrap (IntKind.i64.wrap (15 * let1 a) + let1 c)) (IntKind.i64.wrap (IntKind.i64.wrap (15 * let1 b) + let1 d)) = _
  simp (disch := omega) only [w64]
  show ((spec_l26ReadGeoref.l1 64 64 [a, b, c, d, e0, e1, e2, e3, e4, e5] 0 0 0 false 4 (15 * let1 a + let1 c) (15 * let1 b + let1 d) 600 0).bind fun p => sumE _ _ p) = _
  rw [s_l1_10]
  by_cases h : (isD e0 && isD e3 && (isD e1 && isD e4 && (isD e2 && isD e5))) = true
  · rw [if_pos h]
    simp only [Bool.and_eq_true] at h
    obtain ⟨⟨h0, h3⟩, ⟨h1, h4⟩, h2, h5⟩ := h
    have g0 := dv_lo h0; have g0' := dv_hi h0; have g1 := dv_lo h1; have g1' := dv_hi h1; have g2 := dv_lo h2; have g2' := dv_hi h2; have g3 := dv_lo h3; have g3' := dv_hi h3; have g4 := dv_lo h4; have g4' := dv_hi h4; have g5 := dv_lo h5; have g5' := dv_hi h5
    simp only [Option.bind_some, sumE]
    rw [s_l2_10 a b c d e0 e1 e2 e3 e4 e5 _ _ h0 h1 h2 h3 h4 h5]
    simp only [Option.bind_some]
    show spec_l26ReadGeoref.j1 64 [a, b, c, d, e0, e1, e2, e3, e4, e5] 4 (IntKind.i64.wrap (IntKind.i64.wrap (600 * (15 * let1 a + let1 c)) + (10 * (10 * dv e0 + dv e1) + dv e2))) (IntKind.i64.wrap (IntKind.i64.wrap (600 * (15 * let1 b + let1 d)) + (10 * (10 * dv e3 + dv e4) + dv e5))) = _
    simp (disch := omega) only [w64]
    rw [s_g4]
    simp only [h0, h1, h2, h3, h4, h5, Bool.and_self, true_and]
  · rw [if_neg h, if_neg (fun hh => h hh.1)]
    rfl
theorem ir_10 : impl_readGeoref.f 64 [a, b, c, d, e0, e1, e2, e3, e4, e5] = some (if (isD e0 && isD e3 && (isD e1 && isD e4 && (isD e2 && isD e5))) = true ∧ okP 216000 108000 (T3 600 3) [a, b, c, d, e0, e1, e2, e3, e4, e5] (600 * (15 * let1 a + let1 c) + (10 * (10 * dv e0 + dv e1) + dv e2)) (600 * (15 * let1 b + let1 d) + (10 * (10 * dv e3 + dv e4) + dv e5)) then (((600 * (15 * let1 a + let1 c) + (10 * (10 * dv e0 + dv e1) + dv e2)), (600 * (15 * let1 b + let1 d) + (10 * (10 * dv e3 + dv e4) + dv e5)), 216000, 108000), true) else ((0, 0, 0, 0), false)) := by
  have ha := let1_lo a; have ha' := let1_hi a
  have hb := let1_lo b; have hb' := let1_hi b
  have hc := let1_lo c; have hc' := let1_hi c
  have hd := let1_lo d; have hd' := let1_hi d
  unfold impl_readGeoref.f
  have e : impl_georefLevel.f (((([a, b, c, d, e0, e1, e2, e3, e4, e5] : List UInt8).length : Nat) : Int)) = some 4 := rfl
  rw [e, bt_0, bt_1, bt_2, bt_3]
  have hL : ([65, 66, 67, 68, 69, 70, 71, 72, 74, 75, 76, 77, 78, 80, 81, 82, 83, 84, 85, 86, 87, 88, 89, 90] : List UInt8) = LT := rfl
  rw [hL, index_eq, index_eq, index_eq, index_eq]
  show impl_readGeoref.j2 64 [a, b, c, d, e0, e1, e2, e3, e4, e5] 4 (let1 a) (let1 b) (let1 c) (let1 d) = _
  unfold impl_readGeoref.j2
  rw [show impl_georefParts.f 4 = some (600, 3) from rfl]
  simp only [Option.bind_some]
  rw [show cut [a, b, c, d, e0, e1, e2, e3, e4, e5] 4 (((List.length [a, b, c, d, e0, e1, e2, e3, e4, e5]) : Nat) : Int) = [e0, e1, e2, e3, e4, e5] from rfl]
  rw [dt (p := ((600 : Int) > 0)) (by decide), dt (p := (4 ≤ (((List.length [a, b, c, d, e0, e1, e2, e3, e4, e5]) : Nat) : Int))) (by simp), dt (p := ((0 : Int) ≤ 3)) (by decide), dt (p := ((3 : Int) ≤ (((List.length [e0, e1, e2, e3, e4, e5]) : Nat) : Int))) (by simp)]
  rw [show cut [e0, e1, e2, e3, e4, e5] 0 3 = [e0, e1, e2] from rfl, show cut [e0, e1, e2, e3, e4, e5] 3 (((List.length [e0, e1, e2, e3, e4, e5]) : Nat) : Int) = [e3, e4, e5] from rfl]
  rw [show ([48, 49, 50, 51, 52, 53, 54, 55, 56, 57] : List UInt8) = D10 from rfl]
  simp only [cond_true, Bool.and_self]
  rw [trim_eq _ (by simp)]
  simp only [Option.bind_some]
  rw [trim_nil]
  have hall : [e0, e1, e2, e3, e4, e5].all isD = (isD e0 && isD e3 && (isD e1 && isD e4 && (isD e2 && isD e5))) := by
    simp only [List.all_cons, List.all_nil, Bool.and_true]
    cases isD e0 <;> cases isD e1 <;> cases isD e2 <;> cases isD e3 <;> cases isD e4 <;> cases isD e5 <;> rfl
  rw [hall]
  by_cases h : (isD e0 && isD e3 && (isD e1 && isD e4 && (isD e2 && isD e5))) = true
  · rw [h]
    simp only [Bool.and_eq_true] at h
    obtain ⟨⟨h0, h3⟩, ⟨h1, h4⟩, h2, h5⟩ := h
    have g0 := dv_lo h0; have g0' := dv_hi h0; have g1 := dv_lo h1; have g1' := dv_hi h1; have g2 := dv_lo h2; have g2' := dv_hi h2; have g3 := dv_lo h3; have g3' := dv_hi h3; have g4 := dv_lo h4; have g4' := dv_hi h4; have g5 := dv_lo h5; have g5' := dv_hi h5
    rw [num_3 e0 e1 e2 h0 h1 h2, num_3 e3 e4 e5 h3 h4 h5]
    simp only [Option.bind_some, Bool.not_true, cond_false]
    simp (disch := omega) only [w64]
    rw [i_g4, Int.mul_comm (15 * let1 a + let1 c) 600, Int.mul_comm (15 * let1 b + let1 d) 600]
    simp only [true_and]
  · have hf : (isD e0 && isD e3 && (isD e1 && isD e4 && (isD e2 && isD e5))) = false := by simpa using h
    rw [if_neg (fun hh => h hh.1), hf]
    rfl
end
end Go.Proofs.YtdjagmfcfmeopaaDoor
