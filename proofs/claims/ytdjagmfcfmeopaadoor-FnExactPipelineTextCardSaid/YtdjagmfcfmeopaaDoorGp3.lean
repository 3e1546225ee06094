/- The plain definitions of the program and of the reference answer alike: whole numbers, decimals, references: part 3. -/
import Derived.Test.YtdjagmfcfmeopaaDoorGp2
namespace Go.Proofs.YtdjagmfcfmeopaaDoor
open Go Go.Sx Go.Proofs Go.RowKit
@[reducible] def SR := Int × Int × Int × Bool
@[reducible] def IR := (Int × Int × Int × Int) × Bool
theorem in_eq (x a b : Int) : spec_l00In.f x a b = some (decide (a ≤ x) && decide (x ≤ b)) := by
  unfold spec_l00In.f
  by_cases h : a ≤ x
  · rw [dt (p := x ≥ a) h]; rfl
  · rw [df (p := x ≥ a) h]; rfl
theorem within_eq (x a b : Int) : impl_within.f x a b = some (decide (a ≤ x) && decide (x ≤ b)) := in_eq x a b
def okP (m n : Int) (T : Int → Int → List UInt8) (s : List UInt8) (i k : Int) : Prop := (0 ≤ i ∧ i < m ∧ 0 ≤ k ∧ k < n) ∧ T i k = s
instance (m n : Int) (T : Int → Int → List UInt8) (s : List UInt8) (i k : Int) : Decidable (okP m n T s i k) := by unfold okP; infer_instance
theorem s_j1 (lv m n : Int) (T : Int → Int → List UInt8) (hm : 1 ≤ m ∧ m ≤ 1000000) (hn : 1 ≤ n ∧ n ≤ 1000000) (hg : spec_l26Grid.f lv = some (m, n)) (hT : ∀ i k, 0 ≤ i → i < m → 0 ≤ k → k < n → spec_l26Georef.f 64 i k lv = some (T i k))
    (s : List UInt8) (i k : Int) : spec_l26ReadGeoref.j1 64 s lv i k = some (if okP m n T s i k then (i, k, lv, true) else (0, 0, 0, false)) := by
  unfold spec_l26ReadGeoref.j1
  rw [hg]
  simp only [Option.bind_some, in_eq]
  rw [w64 (x := m - 1) (by omega) (by omega), w64 (x := n - 1) (by omega) (by omega)]
  by_cases h : 0 ≤ i ∧ i < m ∧ 0 ≤ k ∧ k < n
  · obtain ⟨h0, h1, h2, h3⟩ := h
    simp (disch := omega) only [dt, Bool.and_self, Bool.not_true, cond_false]
    rw [hT i k h0 h1 h2 h3]
    simp only [Option.bind_some]
    by_cases hs : T i k = s
    · rw [if_pos ⟨⟨h0, h1, h2, h3⟩, hs⟩]
      simp [hs]
    · rw [if_neg (fun h => hs h.2)]
      have : (T i k == s) = false := by simpa using hs
      simp [this]
  · rw [if_neg (fun h' => h h'.1)]
    by_cases h1 : 0 ≤ i ∧ i ≤ m - 1
    · have h2 : ¬ (0 ≤ k ∧ k ≤ n - 1) := by omega
      simp (disch := omega) only [dt, Bool.and_self, Bool.not_true, cond_false]
      have : (decide (0 ≤ k) && decide (k ≤ n - 1)) = false := by rw [← Bool.decide_and]; exact df h2
      rw [this]
      rfl
    · have : (decide (0 ≤ i) && decide (i ≤ m - 1)) = false := by rw [← Bool.decide_and]; exact df h1
      rw [this]
      rfl
theorem i_j1 (lv m n : Int) (T : Int → Int → List UInt8) (hm : 1 ≤ m ∧ m ≤ 1000000) (hn : 1 ≤ n ∧ n ≤ 1000000) (hg : ∀ i k, impl_georefCell.f i k lv = some (i, k, m, n)) (hT : ∀ i k, 0 ≤ i → i < m → 0 ≤ k → k < n → impl_georefText.f i k m n lv = some (T i k))
    (s : List UInt8) (i k : Int) : impl_readGeoref.j1 64 s lv i k = some (if okP m n T s i k then ((i, k, m, n), true) else ((0, 0, 0, 0), false)) := by
  unfold impl_readGeoref.j1
  rw [hg]
  simp only [Option.bind_some, within_eq]
  rw [w64 (x := m - 1) (by omega) (by omega), w64 (x := n - 1) (by omega) (by omega)]
  by_cases h : 0 ≤ i ∧ i < m ∧ 0 ≤ k ∧ k < n
  · obtain ⟨h0, h1, h2, h3⟩ := h
    simp (disch := omega) only [dt, Bool.and_self, Bool.not_true, cond_false]
    rw [hT i k h0 h1 h2 h3]
    simp only [Option.bind_some]
    by_cases hs : T i k = s
    · rw [if_pos ⟨⟨h0, h1, h2, h3⟩, hs⟩]
      simp [hs]
    · rw [if_neg (fun h => hs h.2)]
      have : (T i k == s) = false := by simpa using hs
      simp [this]
  · rw [if_neg (fun h' => h h'.1)]
    by_cases h1 : 0 ≤ i ∧ i ≤ m - 1
    · have h2 : ¬ (0 ≤ k ∧ k ≤ n - 1) := by omega
      simp (disch := omega) only [dt, Bool.and_self, Bool.not_true, cond_false]
      have : (decide (0 ≤ k) && decide (k ≤ n - 1)) = false := by rw [← Bool.decide_and]; exact df h2
      rw [this]
      rfl
    · have : (decide (0 ≤ i) && decide (i ≤ m - 1)) = false := by rw [← Bool.decide_and]; exact df h1
      rw [this]
      rfl
theorem s_g1 (s : List UInt8) (i k : Int) : spec_l26ReadGeoref.j1 64 s 1 i k = some (if okP 24 12 T1 s i k then (i, k, 1, true) else (0, 0, 0, false)) := s_j1 1 24 12 T1 (by omega) (by omega) rfl (fun i k a b c d => sg1 i k a b c d) s i k
theorem s_g2 (s : List UInt8) (i k : Int) : spec_l26ReadGeoref.j1 64 s 2 i k = some (if okP 360 180 T2 s i k then (i, k, 2, true) else (0, 0, 0, false)) := s_j1 2 360 180 T2 (by omega) (by omega) rfl (fun i k a b c d => sg2 i k a b c d) s i k
theorem s_g3 (s : List UInt8) (i k : Int) : spec_l26ReadGeoref.j1 64 s 3 i k = some (if okP 21600 10800 (T3 60 2) s i k then (i, k, 3, true) else (0, 0, 0, false)) := s_j1 3 21600 10800 _ (by omega) (by omega) rfl (fun i k a b c d => sg3 i k a b c d) s i k
theorem s_g4 (s : List UInt8) (i k : Int) : spec_l26ReadGeoref.j1 64 s 4 i k = some (if okP 216000 108000 (T3 600 3) s i k then (i, k, 4, true) else (0, 0, 0, false)) := s_j1 4 216000 108000 _ (by omega) (by omega) rfl (fun i k a b c d => sg4 i k a b c d) s i k
theorem i_g1 (s : List UInt8) (i k : Int) : impl_readGeoref.j1 64 s 1 i k = some (if okP 24 12 T1 s i k then ((i, k, 24, 12), true) else ((0, 0, 0, 0), false)) := i_j1 1 24 12 T1 (by omega) (by omega) (fun _ _ => rfl) (fun i k a b c d => ig1 i k _ _ a b c d) s i k
theorem i_g2 (s : List UInt8) (i k : Int) : impl_readGeoref.j1 64 s 2 i k = some (if okP 360 180 T2 s i k then ((i, k, 360, 180), true) else ((0, 0, 0, 0), false)) := i_j1 2 360 180 T2 (by omega) (by omega) (fun _ _ => rfl) (fun i k a b c d => ig2 i k _ _ a b c d) s i k
theorem i_g3 (s : List UInt8) (i k : Int) : impl_readGeoref.j1 64 s 3 i k = some (if okP 21600 10800 (T3 60 2) s i k then ((i, k, 21600, 10800), true) else ((0, 0, 0, 0), false)) := i_j1 3 21600 10800 _ (by omega) (by omega) (fun _ _ => rfl) (fun i k a b c d => ig3 i k _ _ a b c d) s i k
theorem i_g4 (s : List UInt8) (i k : Int) : impl_readGeoref.j1 64 s 4 i k = some (if okP 216000 108000 (T3 600 3) s i k then ((i, k, 216000, 108000), true) else ((0, 0, 0, 0), false)) := i_j1 4 216000 108000 _ (by omega) (by omega) (fun _ _ => rfl) (fun i k a b c d => ig4 i k _ _ a b c d) s i k
theorem bt_0 (a : UInt8) (r : List UInt8) : bt (a :: r) 0 = (a.toNat : Int) := rfl
theorem bt_1 (a b : UInt8) (r : List UInt8) : bt (a :: b :: r) 1 = (b.toNat : Int) := rfl
theorem bt_2 (a b c : UInt8) (r : List UInt8) : bt (a :: b :: c :: r) 2 = (c.toNat : Int) := rfl
theorem bt_3 (a b c d : UInt8) (r : List UInt8) : bt (a :: b :: c :: d :: r) 3 = (d.toNat : Int) := rfl
theorem sr_2 (a b : UInt8) : spec_l26ReadGeoref.f 64 [a, b] = some (if okP 24 12 T1 [a, b] (let1 a) (let1 b) then (let1 a, let1 b, 1, true) else (0, 0, 0, false)) := by
  rw [← s_g1]
  show spec_l26ReadGeoref.j3 64 [a, b] 1 = _
  unfold spec_l26ReadGeoref.j3
  rw [bt_0, bt_1, letter_eq, letter_eq]
  rfl
theorem ir_2 (a b : UInt8) : impl_readGeoref.f 64 [a, b] = some (if okP 24 12 T1 [a, b] (let1 a) (let1 b) then ((let1 a, let1 b, 24, 12), true) else ((0, 0, 0, 0), false)) := by
  rw [← i_g1]
  unfold impl_readGeoref.f
  have e : impl_georefLevel.f (((([a, b] : List UInt8).length : Nat) : Int)) = some 1 := rfl
  rw [e, bt_0, bt_1]
  have hb : ([65, 66, 67, 68, 69, 70, 71, 72, 74, 75, 76, 77, 78, 80, 81, 82, 83, 84, 85, 86, 87, 88, 89, 90] : List UInt8) = LT := rfl
  rw [hb, index_eq, index_eq]
  rfl
theorem sr_4 (a b c d : UInt8) : spec_l26ReadGeoref.f 64 [a, b, c, d] = some (if okP 360 180 T2 [a, b, c, d] (15 * let1 a + let1 c) (15 * let1 b + let1 d) then (15 * let1 a + let1 c, 15 * let1 b + let1 d, 2, true) else (0, 0, 0, false)) := by
  rw [← s_g2]
  show spec_l26ReadGeoref.j3 64 [a, b, c, d] 2 = _
  have ha := let1_lo a; have ha' := let1_hi a
  have hb := let1_lo b; have hb' := let1_hi b
  have hc := let1_lo c; have hc' := let1_hi c
  have hd := let1_lo d; have hd' := let1_hi d
  unfold spec_l26ReadGeoref.j3
  rw [bt_0, bt_1, bt_2, bt_3, letter_eq, letter_eq, letter_eq, letter_eq]
  show spec_l26ReadGeoref.j1 64 [a, b, c, d] 2 (IntKind.i64.wrap (IntKind.i64.wrap (15 * let1 a) + let1 c)) (IntKind.i64.wrap (IntKind.i64.wrap (15 * let1 b) + let1 d)) = _
  simp (disch := omega) only [w64]
theorem ir_4 (a b c d : UInt8) : impl_readGeoref.f 64 [a, b, c, d] = some (if okP 360 180 T2 [a, b, c, d] (15 * let1 a + let1 c) (15 * let1 b + let1 d) then ((15 * let1 a + let1 c, 15 * let1 b + let1 d, 360, 180), true) else ((0, 0, 0, 0), false)) := by
  rw [← i_g2]
  have ha := let1_lo a; have ha' := let1_hi a
  have hb := let1_lo b; have hb' := let1_hi b
  have hc := let1_lo c; have hc' := let1_hi c
  have hd := let1_lo d; have hd' := let1_hi d
  unfold impl_readGeoref.f
  have e : impl_georefLevel.f (((([a, b, c, d] : List UInt8).length : Nat) : Int)) = some 2 := rfl
  rw [e, bt_0, bt_1, bt_2, bt_3]
  have hb : ([65, 66, 67, 68, 69, 70, 71, 72, 74, 75, 76, 77, 78, 80, 81, 82, 83, 84, 85, 86, 87, 88, 89, 90] : List UInt8) = LT := rfl
  rw [hb, index_eq, index_eq, index_eq, index_eq]
  show impl_readGeoref.j2 64 [a, b, c, d] 2 (let1 a) (let1 b) (let1 c) (let1 d) = _
  unfold impl_readGeoref.j2
  show impl_readGeoref.j1 64 [a, b, c, d] 2 (IntKind.i64.wrap (IntKind.i64.wrap (IntKind.i64.wrap (IntKind.i64.wrap (15 * let1 a) + let1 c) * 1) + 0)) (IntKind.i64.wrap (IntKind.i64.wrap (IntKind.i64.wrap (IntKind.i64.wrap (15 * let1 b) + let1 d) * 1) + 0)) = _
  simp (disch := omega) only [w64, Int.mul_one, Int.add_zero]
end Go.Proofs.YtdjagmfcfmeopaaDoor
