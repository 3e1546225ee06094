/- The plain definitions of the program and of the reference answer alike: whole numbers, decimals, references: part 2. -/
import Derived.Test.YtdjagmfcfmeopaaDoorGp1
namespace Go.Proofs.YtdjagmfcfmeopaaDoor
open Go Go.Sx Go.Proofs Go.RowKit
theorem dt {p : Prop} [Decidable p] (h : p) : decide p = true := decide_eq_true h
theorem df {p : Prop} [Decidable p] (h : ¬ p) : decide p = false := decide_eq_false h
theorem bt_t {a b : Int} (h : a = b) : (a == b) = true := by simpa using h
theorem bt_f {a b : Int} (h : a ≠ b) : (a == b) = false := by simpa using h
theorem td {a b : Int} (h : 0 ≤ a) : Int.tdiv a b = a / b := Int.tdiv_eq_ediv_of_nonneg h
theorem tm {a b : Int} (h : 0 ≤ a) : Int.tmod a b = a % b := Int.tmod_eq_emod_of_nonneg h
def LT : List UInt8 := [65, 66, 67, 68, 69, 70, 71, 72, 74, 75, 76, 77, 78, 80, 81, 82, 83, 84, 85, 86, 87, 88, 89, 90]
theorem letters_eq : spec_l26Letters.f = some LT := rfl
def let1 (c : UInt8) : Int := Lib.indexByte LT c
theorem letter_all : ∀ b : Fin 256, spec_l26Letter.f 64 (b.val : Int) = some (Lib.indexByte LT (b.val : Int).toNat.toUInt8) ∧ -1 ≤ Lib.indexByte LT (b.val : Int).toNat.toUInt8 ∧ Lib.indexByte LT (b.val : Int).toNat.toUInt8 ≤ 23 := by decide +kernel
theorem letter_eq (c : UInt8) : spec_l26Letter.f 64 (c.toNat : Int) = some (let1 c) := by
  have h := (letter_all ⟨c.toNat, c.toNat_lt⟩).1
  simpa [let1] using h
theorem let1_lo (c : UInt8) : -1 ≤ let1 c := by
  have h := (letter_all ⟨c.toNat, c.toNat_lt⟩).2.1
  simpa [let1] using h
theorem let1_hi (c : UInt8) : let1 c ≤ 23 := by
  have h := (letter_all ⟨c.toNat, c.toNat_lt⟩).2.2
  simpa [let1] using h
theorem index_eq (c : UInt8) : strings_IndexByte.f LT (c.toNat : Int) = some (let1 c) := by simp [strings_IndexByte.f, let1]
def two (x y : Int) : List UInt8 := List.map (fun n : Int => UInt8.ofNat n.toNat) [bt LT x, bt LT y]
theorem two_len (x y : Int) : (two x y).length = 2 := rfl
def dig (n d : Int) : List UInt8 := List.replicate (d - ((Lib.itoa n).length : Int)).toNat 48 ++ Lib.itoa n
theorem dig_len (n d : Int) (h0 : 0 ≤ n) (h1 : n ≤ 1000) (hd : d ≤ 50) : (dig n d).length ≤ 100 := by
  have := itoa_len n (by omega) (by omega)
  simp [dig]; omega
def T1 (i k : Int) : List UInt8 := two i k
def T2 (i k : Int) : List UInt8 := two (i / 15) (k / 15) ++ two (i % 15) (k % 15)
def T3 (p d i k : Int) : List UInt8 := two (i / p / 15) (k / p / 15) ++ two (i / p % 15) (k / p % 15) ++ dig (i % p) d ++ dig (k % p) d
theorem g_j1 (x y : Int) (t : List UInt8) (hx0 : 0 ≤ x) (hx1 : x < 24) (hy0 : 0 ≤ y) (hy1 : y < 24) (ht : t.length ≤ 1000) : spec_l26Georef.j1 64 LT x y t = some (two x y ++ t) := by
  have hl : ((LT.length : Nat) : Int) = 24 := rfl
  unfold spec_l26Georef.j1
  rw [hl]
  have h2 : (List.map (fun n : Int => UInt8.ofNat n.toNat) [bt LT x, bt LT y]).length = 2 := rfl
  simp (disch := omega) only [dt, h2, Bool.and_self, cond_true]
  rfl
theorem g_j2 (lv x y : Int) (t : List UInt8) (hl : 2 ≤ lv) (hx0 : 0 ≤ x) (hx1 : x < 360) (hy0 : 0 ≤ y) (hy1 : y < 180) (ht : t.length ≤ 900) : spec_l26Georef.j2 64 lv x y t = some (two (x / 15) (y / 15) ++ (two (x % 15) (y % 15) ++ t)) := by
  have hlen : ((LT.length : Nat) : Int) = 24 := rfl
  unfold spec_l26Georef.j2
  rw [letters_eq]
  simp only [Option.bind_some]
  rw [hlen]
  have h2 : (List.map (fun n : Int => UInt8.ofNat n.toNat) [bt LT (x % 15), bt LT (y % 15)]).length = 2 := rfl
  simp (disch := omega) only [td, tm, dt, w64, h2, Bool.and_self, cond_true]
  exact g_j1 _ _ _ (by omega) (by omega) (by omega) (by omega) (by simp; omega)
theorem sg1 (i k : Int) (h0 : 0 ≤ i) (h1 : i < 24) (h2 : 0 ≤ k) (h3 : k < 12) : spec_l26Georef.f 64 i k 1 = some (T1 i k) := by
  have e : spec_l26Georef.f 64 i k 1 = spec_l26Georef.j1 64 LT i k [] := rfl
  rw [e, g_j1 i k [] (by omega) (by omega) (by omega) (by omega) (by simp)]
  simp [T1]
theorem sg2 (i k : Int) (h0 : 0 ≤ i) (h1 : i < 360) (h2 : 0 ≤ k) (h3 : k < 180) : spec_l26Georef.f 64 i k 2 = some (T2 i k) := by
  have e : spec_l26Georef.f 64 i k 2 = spec_l26Georef.j2 64 2 i k [] := rfl
  rw [e, g_j2 2 i k [] (by omega) (by omega) (by omega) (by omega) (by omega) (by simp)]
  simp [T2]
theorem sg3 (i k : Int) (h0 : 0 ≤ i) (h1 : i < 21600) (h2 : 0 ≤ k) (h3 : k < 10800) : spec_l26Georef.f 64 i k 3 = some (T3 60 2 i k) := by
  have hq : ([60, 600] : List Int)[Int.toNat (IntKind.i64.wrap (3 - 3))]? = some 60 := rfl
  have hd : IntKind.i64.wrap (3 - 1) = 2 := rfl
  have l1 := dig_len (i % 60) 2 (by omega) (by omega) (by omega)
  have l2 := dig_len (k % 60) 2 (by omega) (by omega) (by omega)
  unfold spec_l26Georef.f
  rw [hq, hd]
  have c1 : (decide ((0 : Int) ≤ IntKind.i64.wrap (3 - 3)) && decide (IntKind.i64.wrap (3 - 3) < 2)) = true := rfl
  rw [c1]
  simp (disch := omega) only [dt, df, cond_true, cond_false, Option.bind_some, td, tm, w64, l26Digits_eq 64 (by omega)]
  have f1 : List.replicate (2 - ((Lib.itoa (i % 60)).length : Int)).toNat (48 : UInt8) ++ Lib.itoa (i % 60) = dig (i % 60) 2 := rfl
  have f2 : List.replicate (2 - ((Lib.itoa (k % 60)).length : Int)).toNat (48 : UInt8) ++ Lib.itoa (k % 60) = dig (k % 60) 2 := rfl
  rw [f1, f2]
  simp (disch := omega) only [dt, cond_true]
  rw [g_j2 3 _ _ _ (by omega) (by omega) (by omega) (by omega) (by omega) (by simp; omega)]
  simp [T3]
theorem sg4 (i k : Int) (h0 : 0 ≤ i) (h1 : i < 216000) (h2 : 0 ≤ k) (h3 : k < 108000) : spec_l26Georef.f 64 i k 4 = some (T3 600 3 i k) := by
  have hq : ([60, 600] : List Int)[Int.toNat (IntKind.i64.wrap (4 - 3))]? = some 600 := rfl
  have hd : IntKind.i64.wrap (4 - 1) = 3 := rfl
  have l1 := dig_len (i % 600) 3 (by omega) (by omega) (by omega)
  have l2 := dig_len (k % 600) 3 (by omega) (by omega) (by omega)
  unfold spec_l26Georef.f
  rw [hq, hd]
  have c1 : (decide ((0 : Int) ≤ IntKind.i64.wrap (4 - 3)) && decide (IntKind.i64.wrap (4 - 3) < 2)) = true := rfl
  rw [c1]
  simp (disch := omega) only [dt, df, cond_true, cond_false, Option.bind_some, td, tm, w64, l26Digits_eq 64 (by omega)]
  have f1 : List.replicate (3 - ((Lib.itoa (i % 600)).length : Int)).toNat (48 : UInt8) ++ Lib.itoa (i % 600) = dig (i % 600) 3 := rfl
  have f2 : List.replicate (3 - ((Lib.itoa (k % 600)).length : Int)).toNat (48 : UInt8) ++ Lib.itoa (k % 600) = dig (k % 600) 3 := rfl
  rw [f1, f2]
  simp (disch := omega) only [dt, cond_true]
  rw [g_j2 4 _ _ _ (by omega) (by omega) (by omega) (by omega) (by omega) (by simp; omega)]
  simp [T3]
theorem i_two (x y : Int) (hx0 : 0 ≤ x) (hx1 : x < 24) (hy0 : 0 ≤ y) (hy1 : y < 24) : impl_georefText_1.f x y = some (two x y) := by
  unfold impl_georefText_1.f
  simp (disch := omega) only [dt, Bool.and_self, cond_true]
  rfl
theorem ig1 (i k m n : Int) (h0 : 0 ≤ i) (h1 : i < 24) (h2 : 0 ≤ k) (h3 : k < 12) : impl_georefText.f i k m n 1 = some (T1 i k) := by
  have e : impl_georefParts.f 1 = some (0, 0) := rfl
  unfold impl_georefText.f
  rw [e, i_two i k (by omega) (by omega) (by omega) (by omega)]
  rfl
theorem ig2 (i k m n : Int) (h0 : 0 ≤ i) (h1 : i < 360) (h2 : 0 ≤ k) (h3 : k < 180) : impl_georefText.f i k m n 2 = some (T2 i k) := by
  have e : impl_georefParts.f 2 = some (1, 0) := rfl
  unfold impl_georefText.f
  rw [e]
  simp (disch := omega) only [Option.bind_some, bt_f, df, cond_false, td, tm, w64, i_two]
  simp [two_len, T2]
theorem ig3 (i k m n : Int) (h0 : 0 ≤ i) (h1 : i < 21600) (h2 : 0 ≤ k) (h3 : k < 10800) : impl_georefText.f i k m n 3 = some (T3 60 2 i k) := by
  have e : impl_georefParts.f 3 = some (60, 2) := rfl
  have l1 := dig_len (i % 60) 2 (by omega) (by omega) (by omega)
  have l2 := dig_len (k % 60) 2 (by omega) (by omega) (by omega)
  unfold impl_georefText.f
  rw [e]
  simp (disch := omega) only [Option.bind_some, bt_f, df, cond_false, td, tm, w64, i_two, padded_eq]
  have f1 : List.replicate (2 - ((Lib.itoa (i % 60)).length : Int)).toNat (48 : UInt8) ++ Lib.itoa (i % 60) = dig (i % 60) 2 := rfl
  have f2 : List.replicate (2 - ((Lib.itoa (k % 60)).length : Int)).toNat (48 : UInt8) ++ Lib.itoa (k % 60) = dig (k % 60) 2 := rfl
  rw [f1, f2]
  simp (disch := omega) only [dt, cond_true, List.length_append, two_len]
  rfl
theorem ig4 (i k m n : Int) (h0 : 0 ≤ i) (h1 : i < 216000) (h2 : 0 ≤ k) (h3 : k < 108000) : impl_georefText.f i k m n 4 = some (T3 600 3 i k) := by
  have e : impl_georefParts.f 4 = some (600, 3) := rfl
  have l1 := dig_len (i % 600) 3 (by omega) (by omega) (by omega)
  have l2 := dig_len (k % 600) 3 (by omega) (by omega) (by omega)
  unfold impl_georefText.f
  rw [e]
  simp (disch := omega) only [Option.bind_some, bt_f, df, cond_false, td, tm, w64, i_two, padded_eq]
  have f1 : List.replicate (3 - ((Lib.itoa (i % 600)).length : Int)).toNat (48 : UInt8) ++ Lib.itoa (i % 600) = dig (i % 600) 3 := rfl
  have f2 : List.replicate (3 - ((Lib.itoa (k % 600)).length : Int)).toNat (48 : UInt8) ++ Lib.itoa (k % 600) = dig (k % 600) 3 := rfl
  rw [f1, f2]
  simp (disch := omega) only [dt, cond_true, List.length_append, two_len]
  rfl
end Go.Proofs.YtdjagmfcfmeopaaDoor
