/- A part of an evaluator of the model's code, and of the proof that what it answers is what a call does. -/
import Derived.Test.YtdjagmfcfmeopaaDoorY2
import Derived.Laws.StructEq
import Derived.Laws.Strings2
import Derived.Laws.Strings3
import Derived.Laws.MakeOwn
import Derived.Laws.IdiomStrings
import Derived.Laws.BytesArg
import Derived.Maps.AppendAt
namespace Go.Sx
open Go.RowKit
variable {P : Program} {E : Env}
theorem evs1 {t : List AV} {x : Operand} {a : AV} (h : evs t [x] = some [a]) : ev t x = some a := by
  obtain ⟨a', l, h1, h2, h3⟩ := evs_cons h
  injection h3 with h3 h4
  rw [h3, h1]
theorem evs2 {t : List AV} {x y : Operand} {a b : AV} (h : evs t [x, y] = some [a, b]) : ev t x = some a ∧ ev t y = some b := by
  obtain ⟨a', l, h1, h2, h3⟩ := evs_cons h
  injection h3 with h3 h4
  rw [← h4] at h2
  exact ⟨by rw [h3, h1], evs1 h2⟩
theorem evs3 {t : List AV} {x y z : Operand} {a b c : AV} (h : evs t [x, y, z] = some [a, b, c]) : ev t x = some a ∧ ev t y = some b ∧ ev t z = some c := by
  obtain ⟨a', l, h1, h2, h3⟩ := evs_cons h
  injection h3 with h3 h4
  rw [← h4] at h2
  exact ⟨by rw [h3, h1], evs2 h2⟩
theorem vcells_eq (x : Value) : x.cells = (vcells x).toArray := by cases x <;> rfl
theorem rowTy_true {ty : TypeId} {n : Nat} (h : rowTy P ty = some (true, n)) : ∃ d, P.underlying ty = some d ∧ d.isRow = true ∧ (P.info? ty).map (·.size) = some n := by
  unfold rowTy at h
  split at h <;> simp_all [TypeDesc.isRow]
theorem rowTy_false {ty : TypeId} {n : Nat} (h : rowTy P ty = some (false, n)) : ∃ d, P.underlying ty = some d ∧ d.isRow = false ∧ (P.info? ty).map (·.size) = some n := by
  unfold rowTy at h
  split at h
  · simp at h
  · simp at h
  · rename_i d i h1 h2 h3 h4
    refine ⟨d, h3, ?_, by simp_all⟩
    cases d <;> simp_all
  · simp at h
theorem isAgg_run {ty : TypeId} {d : TypeDesc} (hu : P.underlying ty = some d) (w : World) : (isAgg ty).run P w = .ok d.isRow w := by
  unfold isAgg
  rw [Sem.run_bind, run_underlying hu w]
  cases d <;> rfl
theorem load_row {w : World} {g o off : Nat} {ty : TypeId} {cs : List Value} {x : Value} (hr : rowAt P ty cs off = some x) (hc : w.rangeAt g o cs) : (loadVar ty ⟨g, o + off, none⟩).run P w = .ok x w := by
  unfold rowAt at hr
  split at hr
  · rename_i n hq
    obtain ⟨d, hu, hd, hi⟩ := rowTy_true hq
    cases hb : Nat.ble (off + n) cs.length with
    | false => rw [hb] at hr; cases hr
    | true =>
      rw [hb] at hr
      injection hr with hr
      subst hr
      have hx := Nat.le_of_ble_eq_true hb
      refine run_loadVar_mid w g (o + off) ty _ d (range_drop hc off n) hu hd ?_
      rw [hi, List.length_take, List.length_drop]
      congr 1
      omega
  · rename_i n hq
    obtain ⟨d, hu, hd, hi⟩ := rowTy_false hq
    have h1 := hc off x hr
    unfold loadVar
    rw [Sem.run_bind, isAgg_run hu w, hd]
    simp [Sem.run_bind, h1]
  · cases hr
theorem store_run {w : World} {g off : Nat} {ty t : TypeId} {cs : List Value} {n : Nat} {x : Value} (hi : (P.info? ty).map (·.size) = some n) (hn : (vcells x).length = n) (hg : w.heap[g]? = some (.cells cs.toArray t (0, 0)))
    (hx : off + n ≤ cs.length) (h1 : (vcells x).all (·.oneCell') = true) : (storeVar ty ⟨g, off, none⟩ x).run P w = .ok () (w.setCells g off (vcells x)) := by
  have := run_storeCells_cells (P := P) g off (vcells x) 0 w (fun j hj => by
      have : off + j < cs.length := by omega
      simp [World.cell?, hg, this]) (fun j hj => by simp [World.frozen?, hg]) (fun v hv => (List.all_eq_true.1 h1) v hv)
  simp only [Nat.add_zero] at this
  cases hq : P.info? ty with
  | none => simp [hq] at hi
  | some i =>
    have hs : (vcells x).length = i.size := by simp [hq] at hi; omega
    simp [storeVar, sizeOf, typeInfo, hq, vcells_eq, hs, this]
theorem box_run {w : World} (ty : TypeId) (x : Value) : (Instr.box ty x).run P w = .ok (.pointer (some ⟨w.heap.size, 0, none⟩)) (w.alloc (.cells (vcells x).toArray ty (0, 0))) := by
  simp [Instr.box, newVar, newRow, vcells_eq]
theorem kint_some {op : BinOp} {k : IntKind} {x y : Int} {K : Value → Option Eff} {e : Eff} (h : kint op k x y K = some e) (hs : isShift op = false) :
    ∃ v, K v = some e ∧ ∀ (t : TypeId) (w : World), (binOp op t (.int k x) (.int k y)).run P w = .ok v w := by
  cases op <;> simp only [kint] at h <;> first
    | (cases h; done)
    | (refine ⟨_, h, fun t w => ?_⟩; simp [binOp, Op.intArith, Op.intCmp, intBits_and, intBits_or, intBits_xor]; done)
    | (cases hy : decide (y = 0) with
       | true => rw [hy] at h; cases h
       | false =>
         rw [hy] at h
         refine ⟨_, h, fun t w => ?_⟩
         simp at hy
         simp [binOp, Op.intDiv, hy]; done)
    | (simp [isShift] at hs; done)
    | skip
theorem kshift_some {op : BinOp} {k k' : IntKind} {x y : Int} {K : Value → Option Eff} {e : Eff} (h : kshift op k x y K = some e) :
    ∃ v, K v = some e ∧ ∀ (t : TypeId) (w : World), (binOp op t (.int k x) (.int k' y)).run P w = .ok v w := by
  cases op <;> simp only [kshift] at h <;> first
    | (cases h; done)
    | (cases hy : decide (y < 0) with
       | true => rw [hy] at h; cases h
       | false =>
         rw [hy] at h
         refine ⟨_, h, fun t w => ?_⟩
         simp at hy
         have : ¬ y < 0 := by omega
         simp [binOp, Op.shift, this]; done)
    | skip
theorem toList_toL (s : ByteArray) : s.toList = toL s := by rw [ByteArray.toList_eq]; rfl
theorem size_toL (s : ByteArray) : s.size = (toL s).length := by
  show s.data.size = s.data.toList.length
  simp
theorem append_ofL (x y : ByteArray) : x ++ y = ofL (toL x ++ toL y) := by
  apply ByteArray.ext
  rw [ByteArray.data_append]
  apply Array.ext'
  simp [ofL, toL]
theorem less_eq : ∀ x y : List UInt8, Op.bytesLess x y = less x y
  | [], [] => rfl
  | [], _ :: _ => rfl
  | _ :: _, [] => rfl
  | a :: x, b :: y => by simp only [Op.bytesLess, less, less_eq x y]
theorem kstr_some {op : BinOp} {x y : ByteArray} {K : Value → Option Eff} {e : Eff} (h : kstr op (toL x) (toL y) K = some e) :
    ∃ v, K v = some e ∧ ∀ (t : TypeId) (w : World), P.underlying t = some .string → (binOp op t (.string x) (.string y)).run P w = .ok v w := by
  cases op <;> simp only [kstr] at h <;> first
    | (cases h; done)
    | (refine ⟨_, h, fun t w ht => ?_⟩; simp [binOp, Op.stringOp, toList_toL, less_eq, Op.equal, Op.maxDepth, run_equalIn_string _ _ t x y ht]; done)
    | (cases hy : decide ((toL x).length + (toL y).length ≤ 9223372036854775807) with
       | false => rw [hy] at h; cases h
       | true =>
         rw [hy] at h
         refine ⟨_, h, fun t w ht => ?_⟩
         have hy := of_decide_eq_true hy
         have : ¬ (9223372036854775807 < ((x.size : Int) + (y.size : Int))) := by rw [size_toL, size_toL]; omega
         simp [binOp, Op.stringOp, this, append_ofL]; done)
    | skip
theorem zip_parts (f : Operand → Value) : ∀ (ps : List (Nat × Operand)) (xs : List Value), (ps.map (·.2)).map f = xs → ps.map (fun x => (x.1, f x.2)) = (ps.map (·.1)).zip xs
  | [], _, h => by subst h; rfl
  | p :: ps, xs, h => by
    subst h
    simp [zip_parts f ps _ rfl]
theorem setL_len : ∀ (vs cs : List Value) (o : Nat), (setL cs o vs).length = cs.length
  | [], _, _ => rfl
  | v :: r, cs, o => by rw [setL, setL_len r]; simp
theorem setL_get : ∀ (vs cs : List Value) (o j : Nat), (setL cs o vs)[j]? = if o ≤ j ∧ j < o + vs.length ∧ j < cs.length then vs[j - o]? else cs[j]?
  | [], cs, o, j => by
    rw [if_neg (by simp; omega)]
    rfl
  | v :: r, cs, o, j => by
    rw [setL, setL_get r]
    simp only [List.length_set, List.length_cons]
    by_cases h1 : o + 1 ≤ j ∧ j < o + 1 + r.length ∧ j < cs.length
    · rw [if_pos h1, if_pos (by omega)]
      have : j - o = (j - (o + 1)) + 1 := by omega
      rw [this, List.getElem?_cons_succ]
    · rw [if_neg h1, List.getElem?_set]
      by_cases h2 : o = j
      · subst h2
        by_cases h3 : o < cs.length
        · rw [if_pos rfl, if_pos h3, if_pos (by omega)]
          simp
        · rw [if_pos rfl, if_neg h3, if_neg (by omega)]
          simp only [Nat.not_lt] at h3
          rw [List.getElem?_eq_none h3]
      · rw [if_neg h2, if_neg (by omega)]
theorem setL_app : ∀ (xs cs pre : List Value), xs.length = cs.length → setL (pre ++ cs) pre.length xs = pre ++ xs
  | [], cs, pre, h => by
    have : cs = [] := List.eq_nil_of_length_eq_zero (by simpa using h.symm)
    subst this
    rfl
  | x :: xs, c :: cs, pre, h => by
    have h' := setL_app xs cs (pre ++ [x]) (by simpa using h)
    simp only [setL]
    have e : (pre ++ c :: cs).set pre.length x = (pre ++ [x]) ++ cs := by simp
    rw [e]
    simp only [List.length_append, List.length_cons, List.length_nil, Nat.zero_add] at h'
    rw [h']
    simp
theorem setL_full {xs cs : List Value} (h : xs.length = cs.length) : setL cs 0 xs = xs := setL_app xs cs [] h
theorem flat_set (sh : List Ck) (xs : List (Sh sh)) (k : Nat) (a a' : Sh sh) (off : Nat) (vs : List Value) (hk : xs[k]? = some a) (ha : setL (encR sh a) off vs = encR sh a') (hn : off + vs.length ≤ sh.length) :
    setL (xs.flatMap (encR sh)) (k * sh.length + off) vs = (xs.set k a').flatMap (encR sh) := by
  have hlen : ∀ ys : List (Sh sh), (ys.flatMap (encR sh)).length = ys.length * sh.length := fun ys => cells_len ⟨sh, ys⟩
  have hklt : k < xs.length := (List.getElem?_eq_some_iff.1 hk).1
  have hkk : (k + 1) * sh.length ≤ xs.length * sh.length := Nat.mul_le_mul_right _ hklt
  rw [Nat.add_mul, Nat.one_mul] at hkk
  apply List.ext_getElem?
  intro j
  rw [setL_get, hlen]
  by_cases hj : j < xs.length * sh.length
  · have hpos : 0 < sh.length := by
      rcases Nat.eq_zero_or_pos sh.length with h | h
      · rw [h, Nat.mul_zero] at hj; omega
      · exact h
    have hq : j = (j / sh.length) * sh.length + j % sh.length := by rw [Nat.mul_comm]; exact (Nat.div_add_mod j sh.length).symm
    have hm : j % sh.length < sh.length := Nat.mod_lt _ hpos
    have hql : j / sh.length < xs.length := (Nat.div_lt_iff_lt_mul hpos).2 hj
    have hL : (xs.flatMap (encR sh))[j]? = (encR sh xs[j / sh.length])[j % sh.length]? := by
      have := flat_get sh xs (j / sh.length) xs[j / sh.length] (List.getElem?_eq_getElem hql) (j % sh.length) hm
      rw [← hq] at this
      exact this
    have hR : ((xs.set k a').flatMap (encR sh))[j]? = (encR sh ((xs.set k a')[j / sh.length]'(by simpa using hql)))[j % sh.length]? := by
      have := flat_get sh (xs.set k a') (j / sh.length) _ (List.getElem?_eq_getElem (by simpa using hql)) (j % sh.length) hm
      rw [← hq] at this
      exact this
    rw [hL, hR]
    by_cases hke : j / sh.length = k
    · have hxa : xs[j / sh.length] = a := by
        rw [List.getElem?_eq_some_iff] at hk
        obtain ⟨_, hk2⟩ := hk
        simp only [hke]
        exact hk2
      have hset : (xs.set k a')[j / sh.length]'(by simpa using hql) = a' := by simp [hke]
      rw [hxa, hset, ← ha, setL_get, encR_len]
      rw [hke] at hq
      by_cases hin : off ≤ j % sh.length ∧ j % sh.length < off + vs.length
      · rw [if_pos ⟨by omega, by omega, hj⟩, if_pos ⟨hin.1, hin.2, hm⟩]
        congr 1
        omega
      · rw [if_neg (by omega), if_neg (by omega)]
    · have hset : (xs.set k a')[j / sh.length]'(by simpa using hql) = xs[j / sh.length] := by
        rw [List.getElem_set_ne (fun e => hke e.symm)]
      rw [hset, if_neg]
      intro hc
      have h3 : k * sh.length ≤ j := by omega
      have h4 : j < (k + 1) * sh.length := by rw [Nat.add_mul, Nat.one_mul]; omega
      have h5 : k ≤ j / sh.length := (Nat.le_div_iff_mul_le hpos).2 h3
      have h6 : j / sh.length < k + 1 := (Nat.div_lt_iff_lt_mul hpos).2 h4
      omega
  · rw [if_neg (by omega), List.getElem?_eq_none (by rw [hlen]; omega), List.getElem?_eq_none (by rw [hlen]; simpa using hj)]
theorem setL_take {cs vs : List Value} {off m : Nat} (h : off + vs.length ≤ m) (hm : m ≤ cs.length) : (setL cs off vs).take m = setL (cs.take m) off vs := by
  apply List.ext_getElem?
  intro j
  rw [List.getElem?_take, setL_get, setL_get, List.getElem?_take, List.length_take]
  split
  · by_cases h2 : off ≤ j ∧ j < off + vs.length ∧ j < cs.length
    · rw [if_pos h2, if_pos (by omega)]
    · rw [if_neg h2, if_neg (by omega)]
  · rename_i hj
    rw [if_neg (by omega)]
theorem cells_one {x : Value} (h : x.oneCell' = true) : x.cells = #[x] := by cases x <;> first | rfl | (simp [Value.oneCell'] at h)
theorem enc_one : ∀ (sh : List Ck) (x : Sh sh), ∀ u ∈ encR sh x, u.oneCell' = true := by
  have hc : ∀ (c : Ck) (y : c.T), (c.enc y).oneCell' = true := by
    intro c y
    cases c <;> rfl
  intro sh
  induction sh with
  | nil => intro x u hu; cases hu
  | cons c sh ih =>
    cases sh with
    | nil =>
      intro x u hu
      have hu : u ∈ [c.enc x] := hu
      rw [List.mem_singleton.1 hu]
      exact hc c x
    | cons d r =>
      intro x u hu
      have hu : u ∈ c.enc x.1 :: encR (d :: r) x.2 := hu
      rcases List.mem_cons.1 hu with rfl | hu
      · exact hc c x.1
      · exact ih x.2 u hu
theorem cells_ones (lb : LB) : ∀ u ∈ lb.cells, u.oneCell' = true := by
  intro u hu
  obtain ⟨x, _, hx⟩ := List.mem_flatMap.1 hu
  exact enc_one _ _ _ hx
theorem rowsOf_flat {sh : List Ck} : ∀ {xs : List Value} {rows : List (Sh sh)}, rowsOf sh xs = some rows → xs.flatMap vcells = rows.flatMap (encR sh) ∧ xs.length = rows.length ∧ ∀ v ∈ xs, (vcells v).length = sh.length
  | [], rows, h => by simp [rowsOf] at h; subst h; simp
  | v :: r, rows, h => by
    simp only [rowsOf] at h
    split at h
    · rename_i a l h1 h2
      injection h with h
      subst h
      obtain ⟨h3, h4, h5⟩ := rowsOf_flat h2
      have h6 := decR_ok _ _ _ h1
      refine ⟨by simp [h3, h6], by simp [h4], fun u hu => ?_⟩
      rcases List.mem_cons.1 hu with rfl | hu
      · rw [h6, encR_len]
      · exact h5 u hu
    · cases h
theorem foldl_setL : ∀ (vs : List Value) (cs : List Value) (o k : Nat), ((vs.toArray.zipIdx k).foldl (fun cs (c, j) => cs.setIfInBounds (o + j) c) cs.toArray) = (setL cs (o + k) vs).toArray
  | [], cs, o, k => rfl
  | v :: r, cs, o, k => by
    have h := foldl_setL r (cs.set (o + k) v) o (k + 1)
    rw [setL]
    have e : (v :: r).toArray.zipIdx k = ((v, k) :: (r.zipIdx (k + 1))).toArray := by simp [List.zipIdx_cons]
    have e2 : r.toArray.zipIdx (k + 1) = (r.zipIdx (k + 1)).toArray := by simp
    rw [e2] at h
    rw [e]
    simp only [List.foldl_toArray', List.foldl_cons, List.size_toArray] at h ⊢
    simp only [List.setIfInBounds_toArray]
    rw [show o + k + 1 = o + (k + 1) by omega]
    exact h
theorem fill_seq (z : Nat) : ∀ (is : List Nat) (xs : List Value) (k : Nat) (cs : List Value), seq is k = true → is.length = xs.length → (∀ v ∈ xs, (vcells v).length = z) → k * z + xs.length * z ≤ cs.length →
    Instr.fill (fun i => some (i * z, z)) cs.toArray (is.zip xs) = some (setL cs (k * z) (xs.flatMap vcells)).toArray
  | [], [], _, _, _, _, _, _ => rfl
  | i :: is, x :: xs, k, cs, h1, h2, h3, h4 => by
    simp only [seq, Bool.and_eq_true] at h1
    have hi := Nat.eq_of_beq_eq_true h1.1
    subst hi
    have hx := h3 x (by simp)
    simp only [List.length_cons, Nat.add_mul, Nat.one_mul] at h4 h2
    have ih := fill_seq z is xs (i + 1) (setL cs (i * z) (vcells x)) h1.2 (by omega) (fun v hv => h3 v (by simp [hv])) (by rw [setL_len, Nat.add_mul, Nat.one_mul]; omega)
    have hfold := foldl_setL (vcells x) cs (i * z) 0
    have hlt : ¬ (i * z + z > cs.length) := by omega
    simp only [List.zip_cons_cons, Instr.fill, vcells_eq, List.size_toArray, hx]
    rw [if_neg (by simp; omega)]
    simp only [Nat.add_zero] at hfold
    rw [show ((vcells x).toArray.zipIdx) = (vcells x).toArray.zipIdx 0 from rfl, hfold, ih]
    congr 2
    have key : ∀ (a b : List Value) (cs : List Value) (o : Nat), setL (setL cs o a) (o + a.length) b = setL cs o (a ++ b) := by
      intro a
      induction a with
      | nil => intro b cs o; rfl
      | cons v a ih =>
        intro b cs o
        simp only [setL, List.cons_append, List.length_cons]
        rw [← ih b (cs.set o v) (o + 1), show o + (a.length + 1) = o + 1 + a.length by omega]
    rw [List.flatMap_cons, ← key, hx, Nat.add_mul, Nat.one_mul]
  | [], _ :: _, _, _, _, h, _, _ => by simp at h
  | _ :: _, [], _, _, _, h, _, _ => by simp at h
theorem shOf_ok {ty : TypeId} {sh : List Ck} (h : shOf P ty = some sh) : ∃ i z, P.info? ty = some i ∧ i.zero = some z ∧ i.size = sh.length ∧ 1 ≤ sh.length ∧ kindsOf (vcells z) = some sh := by
  unfold shOf at h
  split at h
  · rename_i i hi
    split at h
    · rename_i z hz
      split at h
      · rename_i sh' hs
        cases hc : (Nat.beq i.size sh'.length && Nat.ble 1 sh'.length) with
        | false => rw [hc] at h; cases h
        | true =>
          rw [hc] at h
          injection h with h
          subst h
          simp only [Bool.and_eq_true] at hc
          exact ⟨i, z, hi, hz, Nat.eq_of_beq_eq_true hc.1, Nat.le_of_ble_eq_true hc.2, hs⟩
      · cases h
    · cases h
  · cases h
theorem kindsOf_len : ∀ {l : List Value} {sh : List Ck}, kindsOf l = some sh → l.length = sh.length
  | [], sh, h => by simp [kindsOf] at h; subst h; rfl
  | v :: r, sh, h => by
    simp only [kindsOf] at h
    split at h <;> first
      | (injection h with h; subst h; rename_i hr; simp [kindsOf_len hr]; done)
      | cases h
theorem buildSlice_run {ty el : TypeId} {n : Nat} {parts : Array (Nat × Value)} {is : List Nat} {xs : List Value} {sh : List Ck} (w : World) (hu : P.underlying ty = some (.slice el)) (hs : shOf P el = some sh)
    (hp : parts.toList = is.zip xs) (h2 : seq is 0 = true) (hl : is.length = xs.length) (h1 : xs.length = n) (h3 : ∀ v ∈ xs, (vcells v).length = sh.length) (h4 : n * sh.length ≤ 16777216) :
    (Instr.buildSlice ty n parts).run P w = .ok (.slice (some ⟨w.heap.size, 0, none⟩) n n) (w.alloc (.cells (xs.flatMap vcells).toArray el (0, 0))) := by
  obtain ⟨i, z, hq, hz, hsz, hpos, hk⟩ := shOf_ok hs
  have hzl : (vcells z).length = sh.length := kindsOf_len hk
  have hfl : (xs.flatMap vcells).length = n * sh.length := by
    subst h1
    clear hl h2 hp h4
    induction xs with
    | nil => simp
    | cons x xs ih => simp only [List.flatMap_cons, List.length_append, h3 x (by simp), ih (fun v hv => h3 v (by simp [hv])), List.length_cons, Nat.add_mul, Nat.one_mul, Nat.add_comm]
  have key : ∀ cs : List Value, cs.length = n * sh.length → Instr.fill (fun i => some (i * sh.length, sh.length)) cs.toArray (is.zip xs) = some (xs.flatMap vcells).toArray := by
    intro cs hcs
    have hfill := fill_seq sh.length is xs 0 cs h2 hl h3 (by rw [hcs, h1]; omega)
    rw [Nat.zero_mul, setL_full (by rw [hfl, hcs])] at hfill
    exact hfill
  have hrange : ∀ zc : Array Value, ∃ cs : List Value, (Array.range (n * sh.length)).map (fun x => zc[x % zc.size]!) = cs.toArray ∧ cs.length = n * sh.length :=
    fun zc => ⟨((Array.range (n * sh.length)).map (fun x => zc[x % zc.size]!)).toList, Array.toArray_toList.symm, by rw [Array.length_toList, Array.size_map, Array.size_range]⟩
  have hn1 : ¬ 16777216 < n * sh.length := by omega
  by_cases hn0 : n * sh.length = 0
  · obtain ⟨cs, e1, e2⟩ := hrange #[]
    have hfill := key cs e2
    rw [hn0] at e2
    have ecs : cs = [] := List.eq_nil_of_length_eq_zero e2
    subst ecs
    have er : ∀ f : Nat → Value, (Array.range 0).map f = #[] := fun f => Array.eq_empty_of_size_eq_zero (by rw [Array.size_map, Array.size_range])
    simp [Instr.buildSlice, run_underlying hu, sizeOf, typeInfo, hq, hsz, newRow, hp, hn0, hn1, hfill, er]
  · obtain ⟨cs, e1, e2⟩ := hrange z.cells
    have hfill := key cs e2
    rw [← e1] at hfill
    simp [Instr.buildSlice, run_underlying hu, sizeOf, typeInfo, hq, hsz, zeroValue, hz, newRow, hp, hn0, hn1, hfill]
theorem equal_bool {ty : TypeId} (hu : P.underlying ty = some .bool) (x y : Bool) (w : World) : (Op.equal ty (.bool x) (.bool y)).run P w = .ok (x == y) w := by
  show (Op.equalIn (9999 + 1) ty (.bool x) (.bool y)).run P w = _
  rw [Op.equalIn, Sem.run_bind, run_underlying hu]
  rfl
theorem run_eql {ty : TypeId} {x y : Value} {r : Bool} {w : World} (h : (Op.equal ty x y).run P w = .ok r w) : (do pure (.bool (← Op.equal ty x y)) : Sem Value).run P w = .ok (.bool r) w := by
  simp [h]
theorem run_neq {ty : TypeId} {x y : Value} {r : Bool} {w : World} (h : (Op.equal ty x y).run P w = .ok r w) : (do pure (.bool (!(← Op.equal ty x y))) : Sem Value).run P w = .ok (.bool (!r)) w := by
  simp [h]
theorem binOp_eqlB {ty : TypeId} (hu : P.underlying ty = some .bool) (x y : Bool) (w : World) : (binOp .eql ty (.bool x) (.bool y)).run P w = .ok (.bool (x == y)) w := run_eql (equal_bool hu x y w)
theorem binOp_neqB {ty : TypeId} (hu : P.underlying ty = some .bool) (x y : Bool) (w : World) : (binOp .neq ty (.bool x) (.bool y)).run P w = .ok (.bool (!(x == y))) w := run_neq (equal_bool hu x y w)
theorem binOp_eqlS {ty : TypeId} {xs ys : Array Value} {r : Bool} {w : World} (h : (Op.equal ty (.agg xs) (.agg ys)).run P w = .ok r w) : (binOp .eql ty (.agg xs) (.agg ys)).run P w = .ok (.bool r) w := run_eql h
theorem binOp_neqS {ty : TypeId} {xs ys : Array Value} {r : Bool} {w : World} (h : (Op.equal ty (.agg xs) (.agg ys)).run P w = .ok r w) : (binOp .neq ty (.agg xs) (.agg ys)).run P w = .ok (.bool (!r)) w := run_neq h
theorem fields_eq {ty : TypeId} {fs : Array Field} (hu : P.underlying ty = some (.struct fs)) : P.fieldsOf ty = fs := by simp [Program.fieldsOf, hu]
theorem eqF_run (w : World) : ∀ (n : Nat) (xs ys : Array Value) (fs : List Field) {r : Bool}, eqF P n xs.toList ys.toList fs = some r → ∀ d, n ≤ d → (Op.eqFields d xs ys fs).run P w = .ok r w
  | 0, _, _, _, r, h, _, _ => by simp [eqF] at h
  | n + 1, xs, ys, [], r, h, d, hd => by
    injection h with h
    subst h
    simp [Op.eqFields]
  | n + 1, xs, ys, f :: fs, r, h, d, hd => by
    obtain ⟨d, rfl⟩ : ∃ m, d = m + 1 := ⟨d - 1, by omega⟩
    simp only [eqF] at h
    cases hn : f.name == "_" with
    | true => rw [hn] at h; cases h
    | false =>
      rw [hn] at h
      simp only [cond_false] at h
      have hn' : f.name ≠ "_" := by simpa using hn
      have fin : ∀ (a b : Value) (q : Bool), (part f.type xs f.offset).run P w = .ok a w → (part f.type ys f.offset).run P w = .ok b w → (Op.equalIn (d + 1) f.type a b).run P w = .ok q w →
          eqR fs q (eqF P n xs.toList ys.toList fs) = some r → (Op.eqFields (d + 1) xs ys (f :: fs)).run P w = .ok r w := by
        rintro a b q ha hb he hr
        cases fs with
        | nil =>
          injection hr with hr
          subst hr
          simp only [Op.eqFields, if_pos hn', Sem.run_bind, ha, hb, he, Result.andThen_ok]
          cases q <;> simp
        | cons g gs =>
          cases hs : eqF P n xs.toList ys.toList (g :: gs) with
          | some s =>
            rw [hs] at hr
            injection hr with hr
            subst hr
            have ih := eqF_run w n xs ys (g :: gs) hs (d + 1) (by omega)
            rw [Op.eqFields]
            simp only [if_pos hn', Sem.run_bind, ha, hb, he, Result.andThen_ok]
            cases q
            · simp
            · simpa using ih
          | none => rw [hs] at hr; cases hr
      have one : ∀ {td : TypeDesc} {zs : Array Value} {a : Value}, P.underlying f.type = some td → td.isRow = false → zs.toList[f.offset]? = some a → (part f.type zs f.offset).run P w = .ok a w := by
        intro td zs a hu hrow hx
        rw [Array.getElem?_toList] at hx
        simp [part, isAgg_run hu, hrow, hx]
      split at h
      · rename_i kk hu
        split at h
        · rename_i k x k' y hx hy
          cases hk : decide (k = k') with
          | false => rw [hk] at h; cases h
          | true =>
            rw [hk] at h
            have hk := of_decide_eq_true hk
            subst hk
            refine fin _ _ (x == y) (one hu rfl hx) (one hu rfl hy) ?_ h
            simp [Op.equalIn, run_underlying hu]
        · cases h
      · rename_i hu
        split at h
        · rename_i x y hx hy
          refine fin _ _ (x == y) (one hu rfl hx) (one hu rfl hy) ?_ h
          simp [Op.equalIn, run_underlying hu]
        · cases h
      · rename_i gs hu
        split at h
        · rename_i i hi
          cases hst : P.stoodInHeld f.type with
          | true => rw [hst] at h; cases h
          | false =>
            rw [hst] at h
            simp only [cond_false] at h
            split at h
            · rename_i q hq
              have hcs : ∀ zs : Array Value, zs.extract f.offset (f.offset + i.size) = ((zs.toList.drop f.offset).take i.size).toArray := by
                intro zs
                apply Array.ext'
                simp [Array.toList_extract, List.extract_eq_take_drop]
              have agg : ∀ zs : Array Value, (part f.type zs f.offset).run P w = .ok (.agg ((zs.toList.drop f.offset).take i.size).toArray) w := by
                intro zs
                simp [part, isAgg_run hu, sizeOf, typeInfo, hi, hcs]
              refine fin _ _ q (agg xs) (agg ys) ?_ h
              rw [run_equalIn_struct (P := P) w d f.type _ _ (by rw [fields_eq hu]; exact hu) hst, fields_eq hu]
              exact eqF_run w n _ _ gs.toList hq d (by omega)
            · cases h
        · cases h
      · cases h
theorem eqS_run {ty : TypeId} {xs ys : Array Value} {r : Bool} (h : eqS P ty xs ys = some r) (w : World) : P.eqGuardType P.depth ty = false ∧ (Op.equal ty (.agg xs) (.agg ys)).run P w = .ok r w := by
  unfold eqS at h
  split at h
  · rename_i fs hu
    cases hc : (P.stoodInHeld ty || P.eqGuardType P.depth ty) with
    | true => rw [hc] at h; cases h
    | false =>
      rw [hc] at h
      simp only [Bool.or_eq_false_iff] at hc
      refine ⟨hc.2, ?_⟩
      have e := run_equalIn_struct (P := P) w (9998 + 1) ty xs ys (by rw [fields_eq hu]; exact hu) hc.1
      show (Op.equalIn (9998 + 1 + 1) ty (.agg xs) (.agg ys)).run P w = _
      rw [e, fields_eq hu]
      exact eqF_run w 64 _ _ _ h 9999 (by omega)
  · cases h
end Go.Sx
