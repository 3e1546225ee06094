/- The plain definitions of the program and of the reference answer alike: steps and their texts: part 4. -/
import Derived.Test.YtdjagmfcfmeopaaDoorTp3
namespace Go.Proofs.YtdjagmfcfmeopaaDoor
open Go Go.Sx Go.Proofs Go.RowKit
def i64 (x : Int) : Prop := -9223372036854775808 ≤ x ∧ x ≤ 9223372036854775807
theorem d_s {k : Nat} (hk : 30 ≤ k) {x : Int} (h : i64 x) : spec_l01Dec.f k x = some (Lib.itoa x) := l01Dec_eq k hk x h.1 h.2
theorem d_i {x : Int} (h : i64 x) : impl_Decimal.f x = some (Lib.itoa x) := decimal_eq x h.1 h.2
theorem d_l {x : Int} (h : i64 x) : (Lib.itoa x).length ≤ 21 := (itoa_len x h.1 h.2).1
theorem names_eq : spec_l17Names.f = some gl_projectionNames := rfl
theorem names_len : ((List.length gl_projectionNames : Nat) : Int) = 17 := rfl
theorem names_all : ∀ q ∈ gl_projectionNames, q.length ≤ 20 := by decide
theorem names_get (k : Int) (h0 : 0 ≤ k) (h1 : k < 17) : ∃ q, gl_projectionNames[k.toNat]? = some q ∧ q.length ≤ 20 := by
  have hl : gl_projectionNames.length = 17 := rfl
  have h : k.toNat < gl_projectionNames.length := by omega
  exact ⟨gl_projectionNames[k.toNat], List.getElem?_eq_getElem h, names_all _ (List.getElem_mem h)⟩
def sp4 (q a b c d : List UInt8) : List UInt8 := ((((((((q ++ [32]) ++ a) ++ [32]) ++ b) ++ [32]) ++ c) ++ [32]) ++ d)
theorem ptext_s {k : Nat} (hk : 30 ≤ k) {kind y x a b : Int} {q : List UInt8} (h0 : 0 ≤ kind) (h1 : kind < 17) (hq : gl_projectionNames[kind.toNat]? = some q) (hl : q.length ≤ 20) (hy : i64 y) (hx : i64 x) (ha : i64 a) (hb : i64 b) :
    spec_l17Text.f k kind y x a b = some (sp4 q (Lib.itoa y) (Lib.itoa x) (Lib.itoa a) (Lib.itoa b)) := by
  have l0 := d_l hy
  have l1 := d_l hx
  have l2 := d_l ha
  have l3 := d_l hb
  unfold spec_l17Text.f
  rw [names_eq]
  simp only [Option.bind_some]
  rw [dt h0, dt (show kind < ((List.length gl_projectionNames : Nat) : Int) from h1)]
  simp only [Option.bind_some, hq, d_s hk hy, d_s hk hx, d_s hk ha, d_s hk hb]
  simp (disch := first | omega | (simp only [List.length_append, List.length_cons, List.length_nil]; omega)) only [dt, cond_true, Bool.and_self]
  rfl
theorem join5 (q a b c d : List UInt8) : Lib.join [q, a, b, c, d] [32] = sp4 q a b c d := by
  rw [Lib.join_cons]
  simp [Lib.joinTail, sp4, List.append_assoc]
theorem ptext_i {kind y x a b : Int} {q : List UInt8} (h0 : 0 ≤ kind) (h1 : kind < 17) (hq : gl_projectionNames[kind.toNat]? = some q) (hl : q.length ≤ 20) (hy : i64 y) (hx : i64 x) (ha : i64 a) (hb : i64 b) :
    impl_projectionText.f kind y x a b = some (sp4 q (Lib.itoa y) (Lib.itoa x) (Lib.itoa a) (Lib.itoa b)) := by
  have l0 := d_l hy
  have l1 := d_l hx
  have l2 := d_l ha
  have l3 := d_l hb
  unfold impl_projectionText.f
  simp only [Option.bind_some, hq, d_i hy, d_i hx, d_i ha, d_i hb]
  rw [dt h0, dt h1]
  unfold strings_Join.f
  rw [join5, if_pos ⟨by simp, by unfold sp4; simp only [List.length_append, List.length_cons, List.length_nil]; omega⟩]
  rfl
def sl3 (a b c : List UInt8) : List UInt8 := (((a ++ [32]) ++ b) ++ [47]) ++ c
theorem etext_s {k : Nat} (hk : 30 ≤ k) {a b c : Int} (ha : i64 a) (hb : i64 b) (hc : i64 c) : spec_l12Text.f k a b c = some (sl3 (Lib.itoa a) (Lib.itoa b) (Lib.itoa c)) := by
  have l0 := d_l ha
  have l1 := d_l hb
  have l2 := d_l hc
  unfold spec_l12Text.f
  simp only [Option.bind_some, d_s hk ha, d_s hk hb, d_s hk hc]
  simp (disch := first | omega | (simp only [List.length_append, List.length_cons, List.length_nil]; omega)) only [dt, cond_true]
  rfl
theorem etext_i {a b c : Int} (ha : i64 a) (hb : i64 b) (hc : i64 c) : impl_ellipsoidText.f a b c = some (sl3 (Lib.itoa a) (Lib.itoa b) (Lib.itoa c)) := by
  have l0 := d_l ha
  have l1 := d_l hb
  have l2 := d_l hc
  unfold impl_ellipsoidText.f
  simp only [Option.bind_some, d_i ha, d_i hb, d_i hc]
  simp (disch := first | omega | (simp only [List.length_append, List.length_cons, List.length_nil]; omega)) only [dt, cond_true]
  rfl
def sp7 (a b c d e f g : List UInt8) : List UInt8 := ((((((((((((a ++ [32]) ++ b) ++ [32]) ++ c) ++ [32]) ++ d) ++ [32]) ++ e) ++ [32]) ++ f) ++ [32]) ++ g)
theorem sj_0 (k n : Nat) (z : List UInt8) (a b c d e f g : Int) : spec_l23Join.l1 k (n + 1) z [] 0 [a, b, c, d, e, f, g] = ((spec_l01Dec.f k a).bind fun p => bif decide (List.length ([] : List UInt8) + List.length p ≤ 9223372036854775807) then spec_l23Join.l1 k n z ([] ++ p) 1 [a, b, c, d, e, f, g] else none) := rfl
theorem sj_1 (k n : Nat) (z s : List UInt8) (a b c d e f g : Int) : spec_l23Join.l1 k (n + 1) z s 1 [a, b, c, d, e, f, g] = (bif decide (List.length s + List.length ([32] : List UInt8) ≤ 9223372036854775807) then ((spec_l01Dec.f k b).bind fun p => bif decide (List.length (s ++ ([32] : List UInt8)) + List.length p ≤ 9223372036854775807) then spec_l23Join.l1 k n z ((s ++ [32]) ++ p) 2 [a, b, c, d, e, f, g] else none) else none) := rfl
theorem sj_2 (k n : Nat) (z s : List UInt8) (a b c d e f g : Int) : spec_l23Join.l1 k (n + 1) z s 2 [a, b, c, d, e, f, g] = (bif decide (List.length s + List.length ([32] : List UInt8) ≤ 9223372036854775807) then ((spec_l01Dec.f k c).bind fun p => bif decide (List.length (s ++ ([32] : List UInt8)) + List.length p ≤ 9223372036854775807) then spec_l23Join.l1 k n z ((s ++ [32]) ++ p) 3 [a, b, c, d, e, f, g] else none) else none) := rfl
theorem sj_3 (k n : Nat) (z s : List UInt8) (a b c d e f g : Int) : spec_l23Join.l1 k (n + 1) z s 3 [a, b, c, d, e, f, g] = (bif decide (List.length s + List.length ([32] : List UInt8) ≤ 9223372036854775807) then ((spec_l01Dec.f k d).bind fun p => bif decide (List.length (s ++ ([32] : List UInt8)) + List.length p ≤ 9223372036854775807) then spec_l23Join.l1 k n z ((s ++ [32]) ++ p) 4 [a, b, c, d, e, f, g] else none) else none) := rfl
theorem sj_4 (k n : Nat) (z s : List UInt8) (a b c d e f g : Int) : spec_l23Join.l1 k (n + 1) z s 4 [a, b, c, d, e, f, g] = (bif decide (List.length s + List.length ([32] : List UInt8) ≤ 9223372036854775807) then ((spec_l01Dec.f k e).bind fun p => bif decide (List.length (s ++ ([32] : List UInt8)) + List.length p ≤ 9223372036854775807) then spec_l23Join.l1 k n z ((s ++ [32]) ++ p) 5 [a, b, c, d, e, f, g] else none) else none) := rfl
theorem sj_5 (k n : Nat) (z s : List UInt8) (a b c d e f g : Int) : spec_l23Join.l1 k (n + 1) z s 5 [a, b, c, d, e, f, g] = (bif decide (List.length s + List.length ([32] : List UInt8) ≤ 9223372036854775807) then ((spec_l01Dec.f k f).bind fun p => bif decide (List.length (s ++ ([32] : List UInt8)) + List.length p ≤ 9223372036854775807) then spec_l23Join.l1 k n z ((s ++ [32]) ++ p) 6 [a, b, c, d, e, f, g] else none) else none) := rfl
theorem sj_6 (k n : Nat) (z s : List UInt8) (a b c d e f g : Int) : spec_l23Join.l1 k (n + 1) z s 6 [a, b, c, d, e, f, g] = (bif decide (List.length s + List.length ([32] : List UInt8) ≤ 9223372036854775807) then ((spec_l01Dec.f k g).bind fun p => bif decide (List.length (s ++ ([32] : List UInt8)) + List.length p ≤ 9223372036854775807) then spec_l23Join.l1 k n z ((s ++ [32]) ++ p) 7 [a, b, c, d, e, f, g] else none) else none) := rfl
theorem sj_7 (k n : Nat) (z s : List UInt8) (a b c d e f g : Int) : spec_l23Join.l1 k (n + 1) z s 7 [a, b, c, d, e, f, g] = some ((z, (s, ())), ()) := rfl
theorem ij_0 (k n : Nat) (z : List UInt8) (a b c d e f g : Int) (r0 r1 r2 r3 r4 r5 r6 : List UInt8) : impl_joined.l1 k (n + 1) z 7 0 [a, b, c, d, e, f, g] [r0, r1, r2, r3, r4, r5, r6] = ((impl_Decimal.f a).bind fun p => impl_joined.l1 k n z 7 1 [a, b, c, d, e, f, g] [p, r1, r2, r3, r4, r5, r6]) := rfl
theorem ij_1 (k n : Nat) (z : List UInt8) (a b c d e f g : Int) (r0 r1 r2 r3 r4 r5 r6 : List UInt8) : impl_joined.l1 k (n + 1) z 7 1 [a, b, c, d, e, f, g] [r0, r1, r2, r3, r4, r5, r6] = ((impl_Decimal.f b).bind fun p => impl_joined.l1 k n z 7 2 [a, b, c, d, e, f, g] [r0, p, r2, r3, r4, r5, r6]) := rfl
theorem ij_2 (k n : Nat) (z : List UInt8) (a b c d e f g : Int) (r0 r1 r2 r3 r4 r5 r6 : List UInt8) : impl_joined.l1 k (n + 1) z 7 2 [a, b, c, d, e, f, g] [r0, r1, r2, r3, r4, r5, r6] = ((impl_Decimal.f c).bind fun p => impl_joined.l1 k n z 7 3 [a, b, c, d, e, f, g] [r0, r1, p, r3, r4, r5, r6]) := rfl
theorem ij_3 (k n : Nat) (z : List UInt8) (a b c d e f g : Int) (r0 r1 r2 r3 r4 r5 r6 : List UInt8) : impl_joined.l1 k (n + 1) z 7 3 [a, b, c, d, e, f, g] [r0, r1, r2, r3, r4, r5, r6] = ((impl_Decimal.f d).bind fun p => impl_joined.l1 k n z 7 4 [a, b, c, d, e, f, g] [r0, r1, r2, p, r4, r5, r6]) := rfl
theorem ij_4 (k n : Nat) (z : List UInt8) (a b c d e f g : Int) (r0 r1 r2 r3 r4 r5 r6 : List UInt8) : impl_joined.l1 k (n + 1) z 7 4 [a, b, c, d, e, f, g] [r0, r1, r2, r3, r4, r5, r6] = ((impl_Decimal.f e).bind fun p => impl_joined.l1 k n z 7 5 [a, b, c, d, e, f, g] [r0, r1, r2, r3, p, r5, r6]) := rfl
theorem ij_5 (k n : Nat) (z : List UInt8) (a b c d e f g : Int) (r0 r1 r2 r3 r4 r5 r6 : List UInt8) : impl_joined.l1 k (n + 1) z 7 5 [a, b, c, d, e, f, g] [r0, r1, r2, r3, r4, r5, r6] = ((impl_Decimal.f f).bind fun p => impl_joined.l1 k n z 7 6 [a, b, c, d, e, f, g] [r0, r1, r2, r3, r4, p, r6]) := rfl
theorem ij_6 (k n : Nat) (z : List UInt8) (a b c d e f g : Int) (r0 r1 r2 r3 r4 r5 r6 : List UInt8) : impl_joined.l1 k (n + 1) z 7 6 [a, b, c, d, e, f, g] [r0, r1, r2, r3, r4, r5, r6] = ((impl_Decimal.f g).bind fun p => impl_joined.l1 k n z 7 7 [a, b, c, d, e, f, g] [r0, r1, r2, r3, r4, r5, p]) := rfl
theorem ij_7 (k n : Nat) (z : List UInt8) (a b c d e f g : Int) (r : List (List UInt8)) : impl_joined.l1 k (n + 1) z 7 7 [a, b, c, d, e, f, g] r = some ((z, ()), (r, ())) := rfl
theorem htext_s (n : Nat) {a b c d e f g : Int} (ha : i64 a) (hb : i64 b) (hc : i64 c) (hd : i64 d) (he : i64 e) (hf : i64 f) (hg : i64 g) : spec_l23Join.f (n + 30) [a, b, c, d, e, f, g] = some (sp7 (Lib.itoa a) (Lib.itoa b) (Lib.itoa c) (Lib.itoa d) (Lib.itoa e) (Lib.itoa f) (Lib.itoa g)) := by
  have la := d_l ha
  have lb := d_l hb
  have lc := d_l hc
  have ld := d_l hd
  have le := d_l he
  have lf := d_l hf
  have lg := d_l hg
  have hk : 30 ≤ n + 30 := by omega
  unfold spec_l23Join.f
  rw [show spec_l23Join.l1 (n + 30) (n + 30) [] [] 0 [a, b, c, d, e, f, g] = spec_l23Join.l1 (n + 30) ((n + 29) + 1) [] [] 0 [a, b, c, d, e, f, g] from rfl, sj_0]
  simp only [Option.bind_some, d_s hk ha]
  simp (disch := first | omega | (simp only [List.length_append, List.length_cons, List.length_nil]; omega)) only [dt, cond_true, Option.bind_some]
  rw [show n + 29 = (n + 28) + 1 from rfl, sj_1]
  simp only [Option.bind_some, d_s hk hb]
  simp (disch := first | omega | (simp only [List.length_append, List.length_cons, List.length_nil]; omega)) only [dt, cond_true, Option.bind_some]
  rw [show n + 28 = (n + 27) + 1 from rfl, sj_2]
  simp only [Option.bind_some, d_s hk hc]
  simp (disch := first | omega | (simp only [List.length_append, List.length_cons, List.length_nil]; omega)) only [dt, cond_true, Option.bind_some]
  rw [show n + 27 = (n + 26) + 1 from rfl, sj_3]
  simp only [Option.bind_some, d_s hk hd]
  simp (disch := first | omega | (simp only [List.length_append, List.length_cons, List.length_nil]; omega)) only [dt, cond_true, Option.bind_some]
  rw [show n + 26 = (n + 25) + 1 from rfl, sj_4]
  simp only [Option.bind_some, d_s hk he]
  simp (disch := first | omega | (simp only [List.length_append, List.length_cons, List.length_nil]; omega)) only [dt, cond_true, Option.bind_some]
  rw [show n + 25 = (n + 24) + 1 from rfl, sj_5]
  simp only [Option.bind_some, d_s hk hf]
  simp (disch := first | omega | (simp only [List.length_append, List.length_cons, List.length_nil]; omega)) only [dt, cond_true, Option.bind_some]
  rw [show n + 24 = (n + 23) + 1 from rfl, sj_6]
  simp only [Option.bind_some, d_s hk hg]
  simp (disch := first | omega | (simp only [List.length_append, List.length_cons, List.length_nil]; omega)) only [dt, cond_true, Option.bind_some]
  rw [show n + 23 = (n + 22) + 1 from rfl, sj_7]
  rfl
theorem join7 (a b c d e f g : List UInt8) : Lib.join [a, b, c, d, e, f, g] [32] = sp7 a b c d e f g := by
  rw [Lib.join_cons]
  simp [Lib.joinTail, sp7, List.append_assoc]
theorem htext_i (n : Nat) {a b c d e f g : Int} (ha : i64 a) (hb : i64 b) (hc : i64 c) (hd : i64 d) (he : i64 e) (hf : i64 f) (hg : i64 g) : impl_joined.f (n + 30) [a, b, c, d, e, f, g] = some (sp7 (Lib.itoa a) (Lib.itoa b) (Lib.itoa c) (Lib.itoa d) (Lib.itoa e) (Lib.itoa f) (Lib.itoa g)) := by
  have la := d_l ha
  have lb := d_l hb
  have lc := d_l hc
  have ld := d_l hd
  have le := d_l he
  have lf := d_l hf
  have lg := d_l hg
  unfold impl_joined.f
  rw [show ((List.length [a, b, c, d, e, f, g] : Nat) : Int) = 7 from rfl, show (List.replicate (Int.toNat 7) ([] : List UInt8)) = [[], [], [], [], [], [], []] from rfl]
  rw [show impl_joined.l1 (n + 30) (n + 30) [] 7 0 [a, b, c, d, e, f, g] [[], [], [], [], [], [], []] = impl_joined.l1 (n + 30) ((n + 29) + 1) [] 7 0 [a, b, c, d, e, f, g] [[], [], [], [], [], [], []] from rfl, ij_0]
  simp only [d_i ha, d_i hb, d_i hc, d_i hd, d_i he, d_i hf, d_i hg, Option.bind_some]
  rw [show n + 29 = (n + 28) + 1 from rfl, ij_1]
  simp only [d_i hb, Option.bind_some]
  rw [show n + 28 = (n + 27) + 1 from rfl, ij_2]
  simp only [d_i hc, Option.bind_some]
  rw [show n + 27 = (n + 26) + 1 from rfl, ij_3]
  simp only [d_i hd, Option.bind_some]
  rw [show n + 26 = (n + 25) + 1 from rfl, ij_4]
  simp only [d_i he, Option.bind_some]
  rw [show n + 25 = (n + 24) + 1 from rfl, ij_5]
  simp only [d_i hf, Option.bind_some]
  rw [show n + 24 = (n + 23) + 1 from rfl, ij_6]
  simp only [d_i hg, Option.bind_some]
  rw [show n + 23 = (n + 22) + 1 from rfl, ij_7]
  simp only [Option.bind_some]
  unfold strings_Join.f
  rw [join7, if_pos ⟨by simp, by unfold sp7; simp only [List.length_append, List.length_cons, List.length_nil]; omega⟩]
  rfl
end Go.Proofs.YtdjagmfcfmeopaaDoor
