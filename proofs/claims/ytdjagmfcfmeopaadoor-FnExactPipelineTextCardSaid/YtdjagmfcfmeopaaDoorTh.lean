/- What two functions of the library compute, as contracts; the program's tables. -/
import Derived.Test.YtdjagmfcfmeopaaDoorY12
import Derived.Test.YtdjagmfcfmeopaaDoorTs
import Derived.Test.YtdjagmfcfmeopaaDoorTd
namespace Go.Proofs.YtdjagmfcfmeopaaDoor
open Go Go.Sx Go.Proofs Go.RowKit Go.Sort Go.Lib
def wordCells : List Value := gl_stepWords.map fun l => .string (ofL l)
def nameCells : List Value := gl_projectionNames.map fun l => .string (ofL l)
def gl : Gl := [(0, 0, wordCells), (1, 0, nameCells)]
def Inv (w : World) : Prop := Lib.TabIs Tryd.prog w "internal/strconv.uint64pow10" .u64 Lib.pow10Tab ∧ w.var? Tryd.prog "loop.example/g00880/impl.stepWords" = some wordCells.toArray ∧ w.var? Tryd.prog "loop.example/g00880/impl.projectionNames" = some nameCells.toArray
theorem pow_global : Tryd.prog.globalNamed "internal/strconv.uint64pow10" = some 5 := by kernel_rfl
theorem word_global : Tryd.prog.globalNamed "loop.example/g00880/impl.stepWords" = some 0 := by kernel_rfl
theorem name_global : Tryd.prog.globalNamed "loop.example/g00880/impl.projectionNames" = some 1 := by kernel_rfl
theorem var_below {n : String} {g : Nat} {cs : Array Value} (hg : Tryd.prog.globalNamed n = some g) {w w' : World} (h : w.var? Tryd.prog n = some cs) (hb : Below w.heap.size w w') : w'.var? Tryd.prog n = some cs := by
  unfold World.var? at h ⊢
  rw [hg] at h ⊢
  rw [Option.bind_some] at h ⊢
  have hlt : g < w.heap.size := by
    rcases Nat.lt_or_ge g w.heap.size with h' | h'
    · exact h'
    · rw [Array.getElem?_eq_none h'] at h
      cases h
  rw [hb.block g hlt]
  exact h
theorem inv_below (w w' : World) (h : Inv w) (hb : Below w.heap.size w w') : Inv w' := ⟨var_below pow_global h.1 hb, var_below word_global h.2.1 hb, var_below name_global h.2.2 hb⟩
theorem range_of {n : String} {g : Nat} {cs : List Value} (hg : Tryd.prog.globalNamed n = some g) {w : World} (h : w.var? Tryd.prog n = some cs.toArray) : w.rangeAt g 0 cs := fun j v hj => by
  rw [Nat.zero_add, World.var?_cell hg h j]
  simpa using hj
theorem gl_range (w : World) (g : Nat) (ty : TypeId) (cs : List Value) (h : Inv w) (hg : Gl.get gl g = some (ty, cs)) : w.rangeAt g 0 cs := by
  match g, hg with
  | 0, hg =>
    have hg : some (0, wordCells) = some (ty, cs) := hg
    injection hg with hg
    injection hg with _ hg
    subst hg
    exact range_of word_global h.2.1
  | 1, hg =>
    have hg : some (0, nameCells) = some (ty, cs) := hg
    injection hg with hg
    injection hg with _ hg
    subst hg
    exact range_of name_global h.2.2
  | _ + 2, hg =>
    have hg : none = some (ty, cs) := hg
    cases hg
theorem below_grow (w : World) (k : Nat) (os : Array Obj) : Below w.heap.size w (grow (w.drewN k) os) :=
  ⟨rfl, rfl, rfl, by simp [grow, World.drewN], fun i hi => by simp [grow, World.drewN, Array.getElem?_append_left hi]⟩
theorem hmix : Tryd.prog.follows .mixedOrders = true := by kernel_rfl
noncomputable def env : Env := ⟨Tryd.prog, gl, Inv, inv_below, gl_range, hmix⟩
theorem reps1 {w : World} {x : Value} {ys : List Value} (h : Reps w [.v x] ys) : ys = [x] := by
  cases h with
  | cons h t =>
    cases t
    have h : _ = x := h
    rw [h]
theorem reps2 {w : World} {x y : Value} {ys : List Value} (h : Reps w [.v x, .v y] ys) : ys = [x, y] := by
  cases h with
  | cons h t =>
    rw [reps1 t]
    have h : _ = x := h
    rw [h]
theorem n153 : (Tryd.f153.name == "runtime.NumGoroutine") = false := by kernel_rfl
theorem b153 : Tryd.f153.body.isSome = true := by kernel_rfl
theorem n161 : (Tryd.f161.name == "runtime.NumGoroutine") = false := by kernel_rfl
theorem b161 : Tryd.f161.body.isSome = true := by kernel_rfl
noncomputable def strconv_FormatInt.c : Ctr env := ofCalls 161 (gC (eV (cI .i64)) (g1 (eV (cI .i64)))) (r1 (rV cS)) (fun a => strconv_FormatInt.f a.1 a.2) (fun a r h => by
  unfold strconv_FormatInt.f at h
  split at h
  · rename_i hc
    obtain rfl := Option.some.inj h
    obtain ⟨h0, h1, h2⟩ := hc
    refine .inl ⟨⟨Tryd.f161, Tryd.func161, n161, b161⟩, fun w ys hI hr => ?_⟩
    rw [reps2 hr, h0]
    exact (Tryd.strconv_FormatInt_10 a.1 h1 h2 w hI.1).mono fun e w' ⟨he, k, os, hw⟩ => ⟨[_], .cons rfl .nil, he, hw ▸ below_grow w k os⟩
  · cases h)
def LBs (xs : List (List UInt8)) : LB := ⟨[.s], xs⟩
theorem cells_s : ∀ xs : List (List UInt8), (LBs xs).cells = xs.map fun l => .string (ofL l)
  | [] => rfl
  | x :: r => congrArg (List.cons (Value.string (ofL x))) (cells_s r)
theorem lat_strs {w : World} {y : Value} {xs : List (List UInt8)} (h : LAt w y (LBs xs)) :
    (y = .slice none 0 0 ∧ xs = []) ∨ ∃ g o c, y = .slice (some ⟨g, o, none⟩) xs.length c ∧ w.rangeAt g o (xs.map fun l => .string (ofL l)) ∧ g < w.heap.size ∧ xs.length ≤ c := by
  rcases h.1 with h | ⟨g, o, c, h1, h2, h3, h4⟩
  · exact .inl h
  · exact .inr ⟨g, o, c, h1, cells_s xs ▸ h2, h3, h4⟩
theorem join_calls (xs : List (List UInt8)) (sep : List UInt8) (w : World) (y : Value) (hy : LAt w y (LBs xs)) (h0 : xs.length ≤ 140737488355328) (h1 : (Lib.join xs sep).length ≤ 140737488355328) :
    Calls Tryd.prog 153 #[y, .string (ofL sep)] w fun e w' => e = .returned (.string (ofL (Lib.join xs sep))) ∧ Below w.heap.size w w' := by
  rcases lat_strs hy with ⟨rfl, rfl⟩ | ⟨g, o, c, rfl, hrange, hg, hcap⟩
  · exact (Tryd.strings_Join_none none 0 (ofL sep) w).mono fun e w' ⟨he, hw⟩ => ⟨he, hw ▸ Below.refl _ _⟩
  · have e : ((xs.map ofL).map (·.data.toList)) = xs := by
      rw [List.map_map]
      exact List.map_id xs
    have hj := Tryd.strings_Join g o c (xs.map ofL) (ofL sep) w (fun j x hj => by
        apply hrange j
        rw [List.getElem?_map] at hj ⊢
        cases hq : xs[j]? with
        | none => rw [hq] at hj; cases hj
        | some q =>
          rw [hq] at hj
          injection hj with hj
          rw [← hj]
          rfl) hg (by rw [List.length_map]; exact h0) (by rw [List.length_map]; exact hcap) (by rw [e]; exact h1)
    rw [e, List.length_map] at hj
    exact hj
noncomputable def strings_Join.c : Ctr env := ofCalls 153 (gC (eL [.s]) (g1 (eV cS))) (r1 (rV cS)) (fun a => strings_Join.f a.1 a.2) (fun a r h => by
  unfold strings_Join.f at h
  split at h
  · rename_i hc
    obtain rfl := Option.some.inj h
    obtain ⟨h0, h1⟩ := hc
    refine .inl ⟨⟨Tryd.f153, Tryd.func153, n153, b153⟩, fun w ys hI hr => ?_⟩
    cases hr with
    | cons hy t =>
      rw [reps1 t]
      exact (join_calls a.1 a.2 w _ hy h0 h1).mono fun e w' ⟨he, hb⟩ => ⟨[_], .cons rfl .nil, he, hb⟩
  · cases h)
end Go.Proofs.YtdjagmfcfmeopaaDoor
