/- A part of an evaluator of the model's code, and of the proof that what it answers is what a call does. -/
import Derived.Test.YtdjagmfcfmeopaaDoorY12
import Derived.ProofKit
import Derived.OpenShut
import Derived.Lib.LaidTab
namespace Go.Sx
open Go.RowKit Go.ChangeShapes Go.WideShapes
inductive AllCk : List Ck → List Value → Prop
  | nil : AllCk [] []
  | cons {c : Ck} {v : Value} {sh : List Ck} {cs : List Value} (x : c.T) (h : v = c.enc x) (t : AllCk sh cs) : AllCk (c :: sh) (v :: cs)
theorem AllCk.append {a b : List Ck} {c d : List Value} (h : AllCk a c) (k : AllCk b d) : AllCk (a ++ b) (c ++ d) := by
  induction h with
  | nil => exact k
  | cons x h _ ih => exact .cons x h ih
theorem AllCk.len {a : List Ck} {c : List Value} (h : AllCk a c) : c.length = a.length := by
  induction h with
  | nil => rfl
  | cons x h _ ih => simp [ih]
theorem AllCk.enc {a : List Ck} {c : List Value} (h : AllCk a c) : ∃ x : Sh a, c = encR a x := by
  induction h with
  | nil => exact ⟨(), rfl⟩
  | cons x h t ih =>
    obtain ⟨y, hy⟩ := ih
    cases t with
    | nil => exact ⟨x, by rw [h]; rfl⟩
    | cons z hz t => exact ⟨(x, y), by rw [h, hy]; rfl⟩
section
variable {H : Type} {enc : TypeId × Value → H} {P : Program} {w : World} {base : Nat} {sp : Nat → Bool} {held : Bool}
def shpF (P : Program) (rec : TypeId → Option (List Ck)) : Nat → List Field → Option (List Ck)
  | _, [] => some []
  | off, f :: r => match rec f.type with
    | some s => if f.offset = off ∧ P.cellsOf f.type = s.length then (shpF P rec (off + s.length) r).map (s ++ ·) else none
    | none => none
def shp (P : Program) : Nat → TypeId → Option (List Ck)
  | 0, _ => none
  | n + 1, t => match P.underlying t with
    | some (.int k) => some [.i k]
    | some .bool => some [.b]
    | some .string => some [.s]
    | some (.struct fs) => match shpF P (shp P n) 0 fs.toList with
      | some s => if P.cellsOf t = s.length then some s else none
      | none => none
    | _ => none
theorem fields_ok {rec : TypeId → Option (List Ck)} {cs : List Value} : ∀ (fs : List Field) (off : Nat) (sh : List Ck), shpF P rec off fs = some sh →
    (∀ f ∈ fs, ∀ s, rec f.type = some s → AllCk s ((cs.drop f.offset).take (P.cellsOf f.type))) → cs.length = off + sh.length → AllCk sh (cs.drop off)
  | [], off, sh, h, _, hl => by
    have h : some [] = some sh := h
    injection h with h
    subst h
    rw [List.drop_eq_nil_of_le (by simpa using Nat.le_of_eq hl)]
    exact .nil
  | f :: r, off, sh, h, hf, hl => by
    unfold shpF at h
    cases hs : rec f.type with
    | none => rw [hs] at h; cases h
    | some s =>
      rw [hs] at h
      have h : (if f.offset = off ∧ P.cellsOf f.type = s.length then (shpF P rec (off + s.length) r).map (s ++ ·) else none) = some sh := h
      split at h
      · rename_i hc
        obtain ⟨h1, h2⟩ := hc
        obtain ⟨sr, hr, rfl⟩ := Option.map_eq_some_iff.1 h
        have a := hf f (List.mem_cons_self ..) s hs
        rw [h1, h2] at a
        rw [List.length_append] at hl
        have b := fields_ok r (off + s.length) sr hr (fun g hg => hf g (List.mem_cons_of_mem _ hg)) (by omega)
        have e : cs.drop off = (cs.drop off).take s.length ++ cs.drop (off + s.length) := by
          rw [← List.drop_drop, List.take_append_drop]
        rw [e]
        exact a.append b
      · cases h
theorem trod_ck : ∀ (m : Nat) (n : Nat) (t : TypeId) (sh : List Ck) (cs : List Value) (x : DataW H × List MemPlace), shp P m t = some sh → DataW.trod enc P w base sp held n t cs = some x → AllCk sh cs
  | 0, _, _, _, _, _, h, _ => by cases h
  | m + 1, n, t, sh, cs, x, h, hd => by
    unfold shp at h
    split at h
    · rename_i k ht
      injection h with h
      subst h
      obtain ⟨v, e, _⟩ := DataW.trod_int ht hd
      rw [e]
      exact .cons v rfl .nil
    · rename_i ht
      injection h with h
      subst h
      obtain ⟨v, e, _⟩ := DataW.trod_bool ht hd
      rw [e]
      exact .cons v rfl .nil
    · rename_i ht
      injection h with h
      subst h
      obtain ⟨v, e, _⟩ := DataW.trod_string ht hd
      rw [e]
      exact .cons (toL v) rfl .nil
    · rename_i fs ht
      split at h
      · rename_i s hs
        split at h
        · rename_i hc
          injection h with h
          subst h
          obtain ⟨xs, k, _, _, hl, hx, hf⟩ := DataW.trod_struct ht hd
          have := fields_ok (P := P) (cs := cs) fs.toList 0 s hs (fun f hmem r hr => by
            obtain ⟨i, hi⟩ := List.mem_iff_getElem?.1 hmem
            have hi' : fs[i]? = some f := by simpa using hi
            have h1 := hf i f hi'
            have hlt : i < xs.length := by
              rw [hx]
              exact (Array.getElem?_eq_some_iff.1 hi').1
            rw [List.getElem?_eq_getElem hlt] at h1
            exact trod_ck m k f.type r _ _ hr h1) (by omega)
          simpa using this
        · cases h
      · cases h
    · cases h
theorem list_of {A : Type} {Q : Nat → A → Prop} : ∀ n : Nat, (∀ i, i < n → ∃ x, Q i x) → ∃ xs : List A, xs.length = n ∧ ∀ i x, xs[i]? = some x → Q i x
  | 0, _ => ⟨[], rfl, fun i x h => by simp at h⟩
  | n + 1, h => by
    obtain ⟨xs, hl, hx⟩ := list_of n fun i hi => h i (by omega)
    obtain ⟨y, hy⟩ := h n (by omega)
    refine ⟨xs ++ [y], by simp [hl], fun i x hi => ?_⟩
    rw [List.getElem?_append] at hi
    split at hi
    · exact hx i x hi
    · rename_i hge
      have : i = n := by
        have := (List.getElem?_eq_some_iff.1 hi).1
        simp at this
        omega
      subst this
      rw [hl, Nat.sub_self] at hi
      simp at hi
      rw [← hi]
      exact hy
theorem no_agg {r : Reach} {b0 : Nat} {t e : TypeId} {cs : Array Value} (ht : P.underlying t = some (.slice e)) (h : Cell.okWide P w r b0 t (.agg cs)) : False := by
  unfold Cell.okWide at h
  rw [ht] at h
  have h : Cell.ok P w r b0 t (.agg cs) := h
  unfold Cell.ok at h
  rw [ht] at h
  exact h
theorem open_list {r : Reach} {b0 : Nat} {t e : TypeId} {m : Nat} {sh : List Ck} {v : Value} {d : DataW H} {ps : List MemPlace} (ht : P.underlying t = some (.slice e)) (hs : shp P m e = some sh) (hz : P.cellsOf e = sh.length) (h1 : 1 ≤ sh.length)
    (hval : Value.okWide P w r b0 t v) (hd : DataW.Trod enc P w base sp held t v d ps) : ∃ xs : List (Sh sh), LAt w v ⟨sh, xs⟩ ∧ xs.length ≤ maxLen := by
  obtain ⟨fuel, hf⟩ := hd
  have hcell : Cell.okWide P w r b0 t v := by
    unfold Value.okWide at hval
    rw [ht] at hval
    exact hval
  rcases DataW.trod_slice ht hf with ⟨hcs, _⟩ | ⟨a, len, cap, elems, rest, n, _, hcs, _, _, hlc, hm, hle, hel, _, _⟩
  · have hv : v = .slice none 0 0 := by
      cases v with
      | agg cs => exact (no_agg ht hcell).elim
      | _ => simp_all [Value.cells]
    rw [hv]
    exact ⟨[], ⟨.inl ⟨rfl, rfl⟩, h1⟩, Nat.zero_le _⟩
  · have hv : v = .slice (some a) len cap := by
      cases v with
      | agg cs => exact (no_agg ht hcell).elim
      | _ => simp_all [Value.cells]
    subst hv
    have hhas : w.has P r b0 a e cap := by
      unfold Cell.okWide at hcell
      rw [ht] at hcell
      have hcell : Cell.ok P w r b0 t (.slice (some a) len cap) := hcell
      unfold Cell.ok at hcell
      rw [ht] at hcell
      exact hcell.2.2
    obtain ⟨_, hspot, row, cells, hshape, _⟩ := hhas
    obtain ⟨g, o, s⟩ := a
    have hspot : s = none := hspot
    subst hspot
    have hg : g < w.heap.size := by
      unfold World.shape? at hshape
      cases hh : w.heap[g]? with
      | none => simp [hh] at hshape
      | some ob => exact blk_lt' hh
    have hadd : ∀ k, (⟨g, o, none⟩ : Addr).add k = ⟨g, o + k, none⟩ := fun k => by
      unfold Addr.add
      split
      · rename_i hk
        rw [hk, Nat.add_zero]
      · rfl
    obtain ⟨xs, hl, hx⟩ := list_of (Q := fun i (x : Sh sh) => w.rangeAt g (o + i * sh.length) (encR sh x)) len fun i hi => by
      have h := hel i hi
      rw [hz, hadd] at h
      have hlt : i < elems.length := by omega
      rw [List.getElem?_eq_getElem hlt] at h
      obtain ⟨cs, hc, htr⟩ := Option.bind_eq_some_iff.1 h
      obtain ⟨x, hx⟩ := (trod_ck m n e sh cs _ hs htr).enc
      refine ⟨x, fun j u hj => ?_⟩
      unfold World.cells? at hc
      by_cases hb0 : base ≤ (⟨g, o + i * sh.length, none⟩ : Addr).block
      · rw [if_pos hb0] at hc
        rw [← hx] at hj
        have hlen : cs.length = sh.length := (trod_ck m n e sh cs _ hs htr).len
        have hjl : j < cs.length := (List.getElem?_eq_some_iff.1 hj).1
        obtain ⟨b, hb, hcell⟩ := Lib.mapM_at hc j j (List.getElem?_range (by omega))
        rw [hj] at hb
        injection hb with hb
        rw [hb]
        have hcell : w.cell? ((⟨g, o + i * sh.length, none⟩ : Addr).add j) = some b := hcell
        have hadd2 : (⟨g, o + i * sh.length, none⟩ : Addr).add j = ⟨g, o + i * sh.length + j, none⟩ := by
          unfold Addr.add
          split
          · rename_i hk
            rw [hk, Nat.add_zero]
          · rfl
        rw [hadd2] at hcell
        exact hcell
      · rw [if_neg hb0] at hc
        cases hc
    refine ⟨xs, ⟨.inr ⟨g, o, cap, by rw [hl], fun j u hj => ?_, hg, by show xs.length ≤ cap; omega⟩, h1⟩, by omega⟩
    have hj' : (⟨sh, xs⟩ : LB).cells[j]? = some u := hj
    have hjl := (List.getElem?_eq_some_iff.1 hj').1
    rw [cells_len] at hjl
    have hjl : j < xs.length * sh.length := hjl
    have hi : j / sh.length < xs.length := by
      rw [Nat.div_lt_iff_lt_mul (by omega)]
      exact hjl
    have hr : j % sh.length < sh.length := Nat.mod_lt _ (by omega)
    have hq := hx (j / sh.length) xs[j / sh.length] (List.getElem?_eq_getElem hi)
    have hget := lb_get (lb := ⟨sh, xs⟩) (k := j / sh.length) (a := xs[j / sh.length]) (List.getElem?_eq_getElem hi) hr
    have hjj : j / sh.length * sh.length + j % sh.length = j := by
      rw [Nat.mul_comm]
      exact Nat.div_add_mod j sh.length
    have hget : (⟨sh, xs⟩ : LB).cells[j / sh.length * sh.length + j % sh.length]? = (encR sh xs[j / sh.length])[j % sh.length]? := hget
    rw [hjj, hj'] at hget
    have := hq _ u hget.symm
    rw [Nat.add_assoc, hjj] at this
    exact this
end
end Go.Sx
