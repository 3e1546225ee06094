/- The plain definitions of the program and of the reference answer alike: whole numbers, decimals, references: part 1. -/
import Derived.Test.YtdjagmfcfmeopaaDoorTd
namespace Go.Proofs.YtdjagmfcfmeopaaDoor
open Go Go.Sx Go.Proofs Go.RowKit
theorem w64 {x : Int} (h0 : -9223372036854775808 ≤ x) (h1 : x ≤ 9223372036854775807) : IntKind.i64.wrap x = x := by
  rw [IntKind.wrap_i64]; omega
theorem w8 {x : Int} (h0 : 0 ≤ x) (h1 : x ≤ 255) : IntKind.u8.wrap x = x := by
  have e : IntKind.u8.wrap x = x % 256 := by simp [IntKind.wrap, IntKind.bits, IntKind.signed]
  rw [e]; omega
def digs : Nat → Nat → List Int
  | 0, _ => []
  | m + 1, u => if u = 0 then [] else digs m (u / 10) ++ [(48 : Int) + ((u % 10 : Nat) : Int)]
theorem digs_len : ∀ m u, (digs m u).length ≤ m
  | 0, _ => Nat.le_refl _
  | m + 1, u => by
    unfold digs
    split
    · simp
    · have := digs_len m (u / 10)
      simp; omega
theorem digs_dec : ∀ (m u : Nat), 0 < u → u < 10 ^ m → (digs m u).map (fun n : Int => UInt8.ofNat n.toNat) = Lib.decDigits u
  | 0, u, h0, h => by simp at h; omega
  | m + 1, u, h0, h => by
    rw [digs, if_neg (by omega), List.map_append]
    have e1 : [(48 : Int) + ((u % 10 : Nat) : Int)].map (fun n : Int => UInt8.ofNat n.toNat) = [UInt8.ofNat (48 + u % 10)] := by
      simp only [List.map_cons, List.map_nil]
      congr 2
    rw [e1, Lib.decDigits]
    by_cases hu : u < 10
    · rw [dif_pos hu]
      have e2 : digs m (u / 10) = [] := by
        have : u / 10 = 0 := by omega
        rw [this]
        cases m <;> simp [digs]
      rw [e2]
      simp [Nat.mod_eq_of_lt hu]
    · rw [dif_neg hu, digs_dec m (u / 10) (by omega) (by rw [Nat.pow_succ] at h; omega)]
theorem dec_loop (k : Nat) (a : Int) (z : List UInt8) : ∀ (m : Nat) (cur : Int) (acc : List Int), cur.natAbs < 10 ^ m → m ≤ 30 → acc.length + m ≤ 100 → -9223372036854775808 ≤ cur → cur ≤ 9223372036854775807 →
    ∀ j, spec_l01Dec.l1 k (m + 1 + j) a z cur acc = some ((a, (z, ())), (digs m cur.natAbs ++ acc, ()))
  | 0, cur, acc, h, _, _, _, _, j => by
    have h0 : cur = 0 := by simp at h; omega
    subst h0
    have e : 0 + 1 + j = j + 1 := by omega
    rw [e, spec_l01Dec.l1]
    rfl
  | m + 1, cur, acc, h, hm, ha, hl, hh, j => by
    have e : m + 1 + 1 + j = (m + 1 + j) + 1 := by omega
    rw [e, spec_l01Dec.l1]
    by_cases h0 : cur = 0
    · subst h0
      simp [digs]
    · have hb : (cur != 0) = true := by simpa using h0
      rw [hb, cond_true]
      have hd : (decide ((1 + acc.length) * 1 ≤ 140737488355328)) = true := by simp; omega
      have hab : (Int.tdiv cur 10).natAbs = cur.natAbs / 10 := by rw [Int.natAbs_tdiv]; rfl
      have hmb : (Int.tmod cur 10).natAbs = cur.natAbs % 10 := by rw [Int.natAbs_tmod]; rfl
      have hlt : cur.natAbs % 10 < 10 := Nat.mod_lt _ (by omega)
      have hq : IntKind.i64.wrap (Int.tdiv cur 10) = Int.tdiv cur 10 := w64 (by omega) (by omega)
      have ih := dec_loop k a z m (Int.tdiv cur 10) (((48 : Int) + ((cur.natAbs % 10 : Nat) : Int)) :: acc) (by rw [hab]; rw [Nat.pow_succ] at h; omega) (by omega) (by simp; omega) (by omega) (by omega) j
      rw [hab] at ih
      have hdig : digs (m + 1) cur.natAbs ++ acc = digs m (cur.natAbs / 10) ++ (((48 : Int) + ((cur.natAbs % 10 : Nat) : Int)) :: acc) := by
        rw [digs, if_neg (by omega)]
        simp
      rw [hdig, ← ih, hd, hq]
      by_cases hneg : Int.tmod cur 10 < 0
      · rw [decide_eq_true hneg]
        have e1 : Int.tmod cur 10 = -((cur.natAbs % 10 : Nat) : Int) := by omega
        have e2 : IntKind.u8.wrap (IntKind.i64.wrap (48 + IntKind.i64.wrap (-(Int.tmod cur 10)))) = (48 : Int) + ((cur.natAbs % 10 : Nat) : Int) := by
          rw [w64 (x := -(Int.tmod cur 10)) (by omega) (by omega), w64 (by omega) (by omega), w8 (by omega) (by omega)]
          omega
        rw [e2]
        rfl
      · rw [decide_eq_false hneg]
        have e1 : Int.tmod cur 10 = ((cur.natAbs % 10 : Nat) : Int) := by omega
        have e2 : IntKind.u8.wrap (IntKind.i64.wrap (48 + Int.tmod cur 10)) = (48 : Int) + ((cur.natAbs % 10 : Nat) : Int) := by
          rw [w64 (by omega) (by omega), w8 (by omega) (by omega)]
          omega
        rw [e2]
        rfl
theorem itoa_len (n : Int) (h0 : -9223372036854775808 ≤ n) (h1 : n ≤ 9223372036854775807) : (Lib.itoa n).length ≤ 21 ∧ 1 ≤ (Lib.itoa n).length := by
  have key : ∀ u : Nat, u ≤ 9223372036854775808 → (Lib.decDigits u).length ≤ 20 ∧ 1 ≤ (Lib.decDigits u).length := by
    intro u hu
    rcases Nat.eq_zero_or_pos u with rfl | hp
    · rw [Lib.decDigits]; simp
    · refine ⟨?_, ?_⟩
      · rw [← digs_dec 20 u hp (by omega), List.length_map]
        exact digs_len 20 u
      · rw [Lib.decDigits]; split <;> simp
  unfold Lib.itoa
  split
  · have := key n.natAbs (by omega)
    simp; omega
  · have := key n.toNat (by omega)
    omega
theorem l01Dec_eq (k : Nat) (hk : 30 ≤ k) (n : Int) (h0 : -9223372036854775808 ≤ n) (h1 : n ≤ 9223372036854775807) : spec_l01Dec.f k n = some (Lib.itoa n) := by
  unfold spec_l01Dec.f
  obtain ⟨j, rfl⟩ : ∃ j, k = 20 + 1 + j := ⟨k - 21, by omega⟩
  rw [dec_loop _ n [] 20 n [] (by omega) (by omega) (by simp) h0 h1 j]
  simp only [Option.bind_some, List.append_nil]
  rcases Int.lt_trichotomy n 0 with hn | hn | hn
  · have hd := digs_dec 20 n.natAbs (by omega) (by omega)
    have hl := digs_len 20 n.natAbs
    have hne : ((((digs 20 n.natAbs).length : Nat) : Int) == 0) = false := by
      rw [digs, if_neg (by omega)]
      simp; omega
    rw [hne, decide_eq_true hn, hd]
    simp only [cond_false, cond_true]
    have : decide (([45] : List UInt8).length + (Lib.decDigits n.natAbs).length ≤ 9223372036854775807) = true := by
      rw [← hd]; simp; omega
    rw [this]
    simp [Lib.itoa, hn]
  · subst hn
    have : Lib.itoa 0 = [48] := by unfold Lib.itoa; rw [if_neg (by omega), Lib.decDigits]; rfl
    rw [this]
    simp [digs]
  · have hd := digs_dec 20 n.natAbs (by omega) (by omega)
    have hne : ((((digs 20 n.natAbs).length : Nat) : Int) == 0) = false := by
      rw [digs, if_neg (by omega)]
      simp; omega
    have hnn : ¬ n < 0 := by omega
    rw [hne, decide_eq_false hnn, hd]
    simp only [cond_false]
    unfold Lib.itoa
    rw [if_neg hnn]
    congr 2
    omega
theorem decimal_eq (n : Int) (h0 : -9223372036854775808 ≤ n) (h1 : n ≤ 9223372036854775807) : impl_Decimal.f n = some (Lib.itoa n) := by
  unfold impl_Decimal.f strconv_FormatInt.f
  rw [if_pos ⟨rfl, h0, h1⟩]
  rfl
theorem repeat_zero : ∀ c, Lib.repeatL [48] c = List.replicate c 48
  | 0 => rfl
  | c + 1 => by simp [Lib.repeatL, repeat_zero c, List.replicate_succ]
theorem digits_loop (k : Nat) (z : List UInt8) (d : Int) (hd : 0 ≤ d) (hd2 : d ≤ 50) : ∀ (m : Nat) (t : List UInt8), d - t.length ≤ m → t.length ≤ 100 → ∀ j, spec_l26Digits.l1 k (m + 1 + j) d z t = some ((z, (List.replicate (d - t.length).toNat 48 ++ t, ())), ())
  | 0, t, h, ht, j => by
    have e : 0 + 1 + j = j + 1 := by omega
    have hn : ¬ ((((t.length) : Nat) : Int) < d) := by omega
    have h0 : (d - (t.length : Int)).toNat = 0 := by omega
    rw [e, spec_l26Digits.l1, decide_eq_false hn, h0]
    rfl
  | m + 1, t, h, ht, j => by
    have e : m + 1 + 1 + j = (m + 1 + j) + 1 := by omega
    rw [e, spec_l26Digits.l1]
    by_cases hn : (((t.length) : Nat) : Int) < d
    · have hl : decide (([48] : List UInt8).length + t.length ≤ 9223372036854775807) = true := by simp; omega
      rw [decide_eq_true hn, hl]
      have ih := digits_loop k z d hd hd2 m ([48] ++ t) (by simp; omega) (by simp; omega) j
      simp only [cond_true]
      rw [ih]
      have h1 : (d - (t.length : Int)).toNat = (d - ((([48] : List UInt8) ++ t).length : Int)).toNat + 1 := by simp; omega
      rw [h1, List.replicate_succ']
      simp
    · have h0 : (d - (t.length : Int)).toNat = 0 := by omega
      rw [decide_eq_false hn, h0]
      rfl
theorem l26Digits_eq (k : Nat) (hk : 60 ≤ k) (n d : Int) (h0 : -9223372036854775808 ≤ n) (h1 : n ≤ 9223372036854775807) (hd : 0 ≤ d) (hd2 : d ≤ 50) :
    spec_l26Digits.f k n d = some (List.replicate (d - ((Lib.itoa n).length : Int)).toNat 48 ++ Lib.itoa n) := by
  unfold spec_l26Digits.f
  have hl := itoa_len n h0 h1
  rw [l01Dec_eq k (by omega) n h0 h1]
  obtain ⟨j, rfl⟩ : ∃ j, k = 50 + 1 + j := ⟨k - 51, by omega⟩
  simp only [Option.bind_some]
  rw [digits_loop _ [] d hd hd2 50 _ (by omega) (by omega) j]
  rfl
theorem padded_eq (n d : Int) (h0 : -9223372036854775808 ≤ n) (h1 : n ≤ 9223372036854775807) (hd : 0 ≤ d) (hd2 : d ≤ 50) :
    impl_padded.f n d = some (List.replicate (d - ((Lib.itoa n).length : Int)).toNat 48 ++ Lib.itoa n) := by
  have hl := itoa_len n h0 h1
  unfold impl_padded.f
  rw [decimal_eq n h0 h1]
  simp only [Option.bind_some]
  rw [w64 (by omega) (by omega)]
  have hm : (if (0 : Int) > d - (((Lib.itoa n).length : Nat) : Int) then (0 : Int) else d - (((Lib.itoa n).length : Nat) : Int)) = (((d - ((Lib.itoa n).length : Int)).toNat : Nat) : Int) := by
    split <;> omega
  rw [hm]
  unfold strings_Repeat.f
  rw [if_pos ⟨by omega, by simp; omega, by omega⟩]
  simp only [Option.bind_some, Int.toNat_natCast, repeat_zero]
  have : decide ((List.replicate (d - ((Lib.itoa n).length : Int)).toNat (48 : UInt8)).length + (Lib.itoa n).length ≤ 9223372036854775807) = true := by simp; omega
  rw [this]
  rfl
end Go.Proofs.YtdjagmfcfmeopaaDoor
