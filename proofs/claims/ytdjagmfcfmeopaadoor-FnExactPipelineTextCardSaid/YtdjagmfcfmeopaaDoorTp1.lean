/- The plain definitions of the program and of the reference answer alike: steps and their texts: part 1. -/
import Derived.Test.YtdjagmfcfmeopaaDoorGp6
namespace Go.Proofs.YtdjagmfcfmeopaaDoor
open Go Go.Sx Go.Proofs Go.RowKit
theorem bif_y (p q : Bool) : (bif p then some q else some false) = some (p && q) := by cases p <;> rfl
theorem bif_n (p q : Bool) : (bif !p then some false else some q) = some (p && q) := by cases p <;> rfl
def ev (a b c : Int) : Bool := (decide (1000 ≤ a) && decide (a ≤ 100000000000)) && ((decide (1 ≤ c) && decide (c ≤ 1000000000000)) && (decide (0 ≤ b) && decide (b ≤ IntKind.i64.wrap (Int.tdiv c 100))))
theorem ell_s (a b c : Int) : spec_ValidEllipsoid.f a b c = some (ev a b c) := by
  unfold spec_ValidEllipsoid.f spec_l12Ok.f
  simp only [in_eq, Option.bind_some, bif_y]
  rfl
theorem ell_o (a b c : Int) : spec_l12Ok.f a b c = some (ev a b c) := by
  unfold spec_l12Ok.f
  simp only [in_eq, Option.bind_some, bif_y]
  rfl
theorem ell_i (a b c : Int) : impl_ValidEllipsoid.f a b c = some (ev a b c) := by
  unfold impl_ValidEllipsoid.f
  simp only [within_eq, Option.bind_some, bif_y]
  rfl
def wi (m a : Int) : Bool := decide (-m ≤ a) && decide (a ≤ m)
theorem aw_0 (k n : Nat) (m a b c : Int) : impl_areWithin.l1 k (n + 1) m false 3 0 [a, b, c] = ((impl_within.f a (IntKind.i64.wrap (-m)) m).bind fun p => bif !p then some (.inr ((false, ()), ())) else impl_areWithin.l1 k n m false 3 1 [a, b, c]) := rfl
theorem aw_1 (k n : Nat) (m a b c : Int) : impl_areWithin.l1 k (n + 1) m false 3 1 [a, b, c] = ((impl_within.f b (IntKind.i64.wrap (-m)) m).bind fun p => bif !p then some (.inr ((false, ()), ())) else impl_areWithin.l1 k n m false 3 2 [a, b, c]) := rfl
theorem aw_2 (k n : Nat) (m a b c : Int) : impl_areWithin.l1 k (n + 1) m false 3 2 [a, b, c] = ((impl_within.f c (IntKind.i64.wrap (-m)) m).bind fun p => bif !p then some (.inr ((false, ()), ())) else impl_areWithin.l1 k n m false 3 3 [a, b, c]) := rfl
theorem aw_3 (k n : Nat) (m a b c : Int) : impl_areWithin.l1 k (n + 1) m false 3 3 [a, b, c] = some (.inl ((false, ()), ())) := rfl
theorem aw_s0 (k n : Nat) (m a : Int) : impl_areWithin.l1 k (n + 1) m false 1 0 [a] = ((impl_within.f a (IntKind.i64.wrap (-m)) m).bind fun p => bif !p then some (.inr ((false, ()), ())) else impl_areWithin.l1 k n m false 1 1 [a]) := rfl
theorem aw_s1 (k n : Nat) (m a : Int) : impl_areWithin.l1 k (n + 1) m false 1 1 [a] = some (.inl ((false, ()), ())) := rfl
theorem aw3 (n : Nat) (m a b c : Int) (h0 : 0 ≤ m) (h1 : m ≤ 1000000000) : impl_areWithin.f (n + 4) m [a, b, c] = some (wi m a && (wi m b && wi m c)) := by
  unfold impl_areWithin.f
  rw [show ((([a, b, c].length : Nat)) : Int) = 3 from rfl, aw_0, aw_1, aw_2, aw_3, w64 (x := -m) (by omega) (by omega)]
  simp only [within_eq, Option.bind_some]
  unfold wi
  cases (decide (-m ≤ a) && decide (a ≤ m)) <;> cases (decide (-m ≤ b) && decide (b ≤ m)) <;> cases (decide (-m ≤ c) && decide (c ≤ m)) <;> rfl
theorem aw1 (n : Nat) (m a : Int) (h0 : 0 ≤ m) (h1 : m ≤ 1000000000) : impl_areWithin.f (n + 4) m [a] = some (wi m a) := by
  unfold impl_areWithin.f
  rw [show ((([a].length : Nat)) : Int) = 1 from rfl, aw_s0, aw_s1, w64 (x := -m) (by omega) (by omega)]
  simp only [within_eq, Option.bind_some]
  unfold wi
  cases (decide (-m ≤ a) && decide (a ≤ m)) <;> rfl
def sv (a b c d e f g : Int) : Bool := (wi 10000000 a && (wi 10000000 b && wi 10000000 c)) && ((wi 100000000 d && (wi 100000000 e && wi 100000000 f)) && wi 1000000 g)
theorem shift_i (n : Nat) (a b c d e f g : Int) : impl_ValidShift.f (n + 4) a b c d e f g = some (sv a b c d e f g) := by
  unfold impl_ValidShift.f
  rw [aw3 n _ _ _ _ (by omega) (by omega), aw3 n _ _ _ _ (by omega) (by omega), aw1 n _ _ (by omega) (by omega)]
  simp only [Option.bind_some, bif_y]
  rfl
theorem shift_s (k : Nat) (a b c d e f g : Int) : spec_l23Ok.f k a b c d e f g = some (sv a b c d e f g) := by
  unfold spec_l23Ok.f
  simp only [in_eq, Option.bind_some, bif_n]
  congr 1
  unfold sv wi
  ac_rfl
def st (a : Int) : Bool := decide (-890000000 ≤ a) && decide (a ≤ 890000000)
theorem std_s (a : Int) : spec_l17Standard.f a = some (st a) := by
  unfold spec_l17Standard.f
  simp only [in_eq, Option.bind_some]
  rfl
theorem std_i (a : Int) : impl_isStandard.f a = some (st a) := by
  unfold impl_isStandard.f
  simp only [within_eq, Option.bind_some]
  rfl
theorem st_iff (a : Int) : st a = true ↔ -890000000 ≤ a ∧ a ≤ 890000000 := by
  unfold st
  simp only [Bool.and_eq_true, decide_eq_true_eq]
def pj (k y a b : Int) : Bool :=
  if k = 1 then y == 0 && b == 0
  else if k = 3 then y == 0 && b == 0
  else if k = 10 ∨ k = 11 ∨ k = 12 then decide (a + b ≥ 10000000) || decide (a + b ≤ -10000000)
  else if k = 5 ∨ k = 6 ∨ k = 7 ∨ k = 8 ∨ k = 9 ∨ k = 16 then a == 0 && b == 0
  else if 1 ≤ k ∧ k ≤ 16 then y == 0 && (a == 0 && b == 0)
  else false
theorem abs_eq (s : Int) (h0 : -2000000000 ≤ s) (h1 : s ≤ 2000000000) : impl_abs.f s = some (if -s > s then -s else s) := by
  unfold impl_abs.f
  rw [w64 (x := -s) (by omega) (by omega)]
end Go.Proofs.YtdjagmfcfmeopaaDoor
