/- The plain definitions of the program and of the reference answer alike: whole numbers, decimals, references: part 6. -/
import Derived.Test.YtdjagmfcfmeopaaDoorGp5
namespace Go.Proofs.YtdjagmfcfmeopaaDoor
open Go Go.Sx Go.Proofs Go.RowKit
inductive Read (s : List UInt8) : Prop where
  | no (h0 : spec_l26ReadGeoref.f 64 s = some (0, 0, 0, false)) (h1 : impl_readGeoref.f 64 s = some ((0, 0, 0, 0), false)) : Read s
  | yes (i k lv m n : Int) (h0 : spec_l26ReadGeoref.f 64 s = some (i, k, lv, true)) (h1 : impl_readGeoref.f 64 s = some ((i, k, m, n), true))
      (hg : spec_l26Grid.f lv = some (m, n)) (hi : 0 ≤ i ∧ i < m) (hk : 0 ≤ k ∧ k < n) (hm : (m = 24 ∧ n = 12) ∨ (m = 360 ∧ n = 180) ∨ (m = 21600 ∧ n = 10800) ∨ (m = 216000 ∧ n = 108000)) : Read s
theorem read_of {s : List UInt8} {i k lv m n : Int} {T : Int → Int → List UInt8} {c : Prop} [Decidable c] (hc : c → okP m n T s i k)
    (h0 : spec_l26ReadGeoref.f 64 s = some (if c then (i, k, lv, true) else (0, 0, 0, false))) (h1 : impl_readGeoref.f 64 s = some (if c then ((i, k, m, n), true) else ((0, 0, 0, 0), false)))
    (hg : spec_l26Grid.f lv = some (m, n)) (hm : (m = 24 ∧ n = 12) ∨ (m = 360 ∧ n = 180) ∨ (m = 21600 ∧ n = 10800) ∨ (m = 216000 ∧ n = 108000)) : Read s := by
  by_cases h : c
  · rw [if_pos h] at h0 h1
    have a := (hc h).1
    exact .yes i k lv m n h0 h1 hg ⟨a.1, a.2.1⟩ ⟨a.2.2.1, a.2.2.2⟩ hm
  · rw [if_neg h] at h0 h1
    exact .no h0 h1
theorem read (s : List UInt8) : Read s := by
  by_cases h2 : s.length = 2
  · match s, h2 with
    | [a, b], _ => exact read_of (fun h => h) (sr_2 a b) (ir_2 a b) rfl (by omega)
  by_cases h4 : s.length = 4
  · match s, h4 with
    | [a, b, c, d], _ => exact read_of (fun h => h) (sr_4 a b c d) (ir_4 a b c d) rfl (by omega)
  by_cases h8 : s.length = 8
  · match s, h8 with
    | [a, b, c, d, e0, e1, e2, e3], _ => exact read_of (fun h => h.2) (sr_8 a b c d e0 e1 e2 e3) (ir_8 a b c d e0 e1 e2 e3) rfl (by omega)
  by_cases h10 : s.length = 10
  · match s, h10 with
    | [a, b, c, d, e0, e1, e2, e3, e4, e5], _ => exact read_of (fun h => h.2) (sr_10 a b c d e0 e1 e2 e3 e4 e5) (ir_10 a b c d e0 e1 e2 e3 e4 e5) rfl (by omega)
  have b2 : (((s.length : Nat) : Int) == 2) = false := bt_f (by omega)
  have b4 : (((s.length : Nat) : Int) == 4) = false := bt_f (by omega)
  have b8 : (((s.length : Nat) : Int) == 8) = false := bt_f (by omega)
  have b10 : (((s.length : Nat) : Int) == 10) = false := bt_f (by omega)
  refine .no ?_ ?_
  · unfold spec_l26ReadGeoref.f
    rw [b2, b4, b8, b10]
    rfl
  · unfold impl_readGeoref.f impl_georefLevel.f
    rw [b2, b4, b8, b10]
    rfl
def vp (y x : Int) : Bool := (decide (-900000000 ≤ y) && decide (y ≤ 900000000)) && (decide (-1799999999 ≤ x) && decide (x ≤ 1800000000))
theorem sv_eq (y x : Int) : spec_l11Ok.f y x = some (vp y x) := by
  unfold spec_l11Ok.f
  simp only [in_eq, Option.bind_some]
  unfold vp
  cases (decide (-900000000 ≤ y) && decide (y ≤ 900000000)) <;> rfl
theorem iv_eq (y x : Int) : impl_ValidPoint.f y x = some (vp y x) := by
  unfold impl_ValidPoint.f
  simp only [within_eq, Option.bind_some]
  unfold vp
  have h : decide (x > -1800000000) = decide (-1799999999 ≤ x) := by
    by_cases h : x > -1800000000
    · rw [dt h, dt (by omega)]
    · rw [df h, df (by omega)]
  rw [h]
  cases (decide (-900000000 ≤ y) && decide (y ≤ 900000000)) <;> cases decide (-1799999999 ≤ x) <;> rfl
theorem vp_iff (y x : Int) : vp y x = true ↔ (-900000000 ≤ y ∧ y ≤ 900000000) ∧ -1799999999 ≤ x ∧ x ≤ 1800000000 := by
  unfold vp
  simp only [Bool.and_eq_true, decide_eq_true_eq]
theorem cell_eq (y x m n : Int) (h : vp y x = true) (hm : 1 ≤ m ∧ m ≤ 1000000) (hn : 1 ≤ n ∧ n ≤ 1000000) : ∃ a b, spec_l26Cell.f y x m n = some (a, b) ∧ impl_cellOf.f y x m n = some (a, b, m, n) := by
  obtain ⟨⟨a0, a1⟩, b0, b1⟩ := (vp_iff y x).mp h
  have hX : spec_l26X.f y x = some ((x + 1800000000) % 3600000000) := by
    unfold spec_l26X.f
    rw [w64 (x := x + 1800000000) (by omega) (by omega)]
    by_cases h : x + 1800000000 = 3600000000
    · rw [bt_t h]
      simp only [cond_true]
      congr 1
      omega
    · rw [bt_f h]
      simp only [cond_false]
      congr 1
      omega
  have hY : spec_l26Y.f y x = some (if 1799999999 < y + 900000000 then 1799999999 else y + 900000000) := by
    unfold spec_l26Y.f
    rw [w64 (x := y + 900000000) (by omega) (by omega)]
    by_cases h : y + 900000000 = 1800000000
    · rw [bt_t h, if_pos (by omega), h]
      rfl
    · rw [bt_f h, if_neg (by omega)]
      rfl
  refine ⟨IntKind.i64.wrap (Int.tdiv (IntKind.i64.wrap (((x + 1800000000) % 3600000000) * m)) 3600000000), IntKind.i64.wrap (Int.tdiv (IntKind.i64.wrap ((if 1799999999 < y + 900000000 then 1799999999 else y + 900000000) * n)) 1800000000), ?_, ?_⟩
  rotate_left
  · unfold impl_cellOf.f
    rw [w64 (x := x + 1800000000) (by omega) (by omega), w64 (x := y + 900000000) (by omega) (by omega), tm (a := x + 1800000000) (by omega)]
  · unfold spec_l26Cell.f
    rw [hX, hY]
    rfl
theorem grid_ok {m n : Int} (hm : (m = 24 ∧ n = 12) ∨ (m = 360 ∧ n = 180) ∨ (m = 21600 ∧ n = 10800) ∨ (m = 216000 ∧ n = 108000)) : (1 ≤ m ∧ m ≤ 1000000) ∧ (1 ≤ n ∧ n ≤ 1000000) := by omega
theorem in_same (s : List UInt8) (y x : Int) : ∃ b, spec_InGeoref.f 64 s y x = some b ∧ impl_InGeoref.f 64 s y x = some b := by
  unfold spec_InGeoref.f impl_InGeoref.f
  cases read s with
  | no h0 h1 =>
    rw [h0, h1]
    exact ⟨false, rfl, rfl⟩
  | yes i k lv m n h0 h1 hg hi hk hm =>
    rw [h0, h1]
    simp only [Option.bind_some, Bool.not_true, cond_false, cond_true]
    unfold impl_cell__has.f
    rw [sv_eq, iv_eq]
    simp only [Option.bind_some]
    cases hv : vp y x
    · exact ⟨false, rfl, rfl⟩
    · obtain ⟨a, b, e0, e1⟩ := cell_eq y x m n hv (grid_ok hm).1 (grid_ok hm).2
      unfold spec_InGeoref.j1
      simp only [Bool.not_true, cond_false, cond_true, hg, Option.bind_some, e0, e1]
      refine ⟨(a == i) && (b == k), ?_, ?_⟩
      · cases a == i <;> rfl
      · simp
theorem inGeoref (s : List UInt8) (y x : Int) : laws_FnExactInGeoref.f 64 s y x = some true := by
  unfold laws_FnExactInGeoref.f
  obtain ⟨b, h0, h1⟩ := in_same s y x
  simp only [laws_toPoint.f, Option.bind_some, h0, h1]
  cases decide ((((List.length s) : Nat) : Int) > 1048576) <;> cases b <;> rfl
theorem wrap_eq (a : Int) : spec_l11Wrap.f a = impl_WrapLon.f a := by
  unfold spec_l11Wrap.f impl_WrapLon.f
  have h0 := Int.tmod_lt_of_pos a (b := 3600000000) (by omega)
  have h1 := Int.lt_tmod_of_pos a (b := 3600000000) (by omega)
  by_cases h : Int.tmod a 3600000000 > 1800000000
  · rw [dt h, w64 (x := Int.tmod a 3600000000 - 3600000000) (by omega) (by omega), df (p := (Int.tmod a 3600000000 - 3600000000 ≤ -1800000000)) (by omega)]
    rfl
  · rw [df h]
    rfl
theorem wrapLon_some (a : Int) : ∃ b, impl_WrapLon.f a = some b := by
  unfold impl_WrapLon.f
  cases decide (Int.tmod a 3600000000 > 1800000000)
  · cases decide (Int.tmod a 3600000000 ≤ -1800000000)
    · exact ⟨_, rfl⟩
    · exact ⟨_, rfl⟩
  · exact ⟨_, rfl⟩
theorem ends_eq (i m e : Int) (hi : 0 ≤ i ∧ i < m) (hm : 1 ≤ m ∧ m ≤ 1000000) : spec_l26Ends.f i m e = (impl_ceilDiv.f (IntKind.i64.wrap (i * e)) m).bind fun a => (impl_ceilDiv.f (IntKind.i64.wrap (IntKind.i64.wrap (i + 1) * e)) m).bind fun b => some (a, IntKind.i64.wrap (b - 1)) := by
  unfold spec_l26Ends.f impl_ceilDiv.f
  rw [df (p := m = 0) (by omega)]
  rfl
theorem ceil_some (i m e : Int) (hm : 1 ≤ m) : ∃ a, impl_ceilDiv.f (IntKind.i64.wrap (i * e)) m = some a := by
  unfold impl_ceilDiv.f
  rw [df (p := m = 0) (by omega)]
  exact ⟨_, rfl⟩
theorem box_same (i k m n : Int) (hi : 0 ≤ i ∧ i < m) (hk : 0 ≤ k ∧ k < n) (hm : 1 ≤ m ∧ m ≤ 1000000) (hn : 1 ≤ n ∧ n ≤ 1000000) : ∃ b, spec_l26Box.f i k m n = some b ∧ impl_cell__box.f i k m n = some b := by
  unfold spec_l26Box.f impl_cell__box.f
  rw [ends_eq i m 3600000000 hi hm, ends_eq k n 1800000000 hk hn]
  obtain ⟨a0, h0⟩ := ceil_some i m 3600000000 hm.1
  obtain ⟨a1, h1⟩ := ceil_some (IntKind.i64.wrap (i + 1)) m 3600000000 hm.1
  obtain ⟨a2, h2⟩ := ceil_some k n 1800000000 hn.1
  obtain ⟨a3, h3⟩ := ceil_some (IntKind.i64.wrap (k + 1)) n 1800000000 hn.1
  rw [h0, h1, h2, h3]
  simp only [Option.bind_some]
  unfold spec_l26Box.j1
  simp only [wrap_eq]
  obtain ⟨w0, e0⟩ := wrapLon_some (IntKind.i64.wrap (a0 - 1800000000))
  obtain ⟨w1, e1⟩ := wrapLon_some (IntKind.i64.wrap (IntKind.i64.wrap (a1 - 1) - 1800000000))
  rw [e0, e1]
  simp only [Option.bind_some]
  cases (k == IntKind.i64.wrap (n - 1))
  · exact ⟨_, rfl, rfl⟩
  · exact ⟨_, rfl, rfl⟩
theorem gbox_same (s : List UInt8) : ∃ b, spec_GeorefBox.f 64 s = some b ∧ impl_GeorefBox.f 64 s = some b := by
  unfold spec_GeorefBox.f impl_GeorefBox.f
  cases read s with
  | no h0 h1 =>
    rw [h0, h1]
    exact ⟨((0, 0), (0, 0), false), rfl, rfl⟩
  | yes i k lv m n h0 h1 hg hi hk hm =>
    rw [h0, h1]
    simp only [Option.bind_some, Bool.not_true, cond_false, hg]
    obtain ⟨b, e0, e1⟩ := box_same i k m n hi hk (grid_ok hm).1 (grid_ok hm).2
    rw [e0, e1]
    exact ⟨_, rfl, rfl⟩
theorem eqPoint_self (a b : Int) : laws_eqPoint.f a b a b = some true := by
  unfold laws_eqPoint.f
  simp
theorem georefBox (s : List UInt8) : laws_FnExactGeorefBox.f 64 s = some true := by
  unfold laws_FnExactGeorefBox.f
  obtain ⟨b, h0, h1⟩ := gbox_same s
  simp only [Option.bind_some, h0, h1, eqPoint_self, Bool.not_true, cond_false]
  cases decide ((((List.length s) : Nat) : Int) > 1048576)
  · simp
  · rfl
end Go.Proofs.YtdjagmfcfmeopaaDoor
