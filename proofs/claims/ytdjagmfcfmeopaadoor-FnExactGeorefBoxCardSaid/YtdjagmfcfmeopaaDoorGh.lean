/- What four functions of the library compute, as contracts. -/
import Derived.Test.YtdjagmfcfmeopaaDoorY12
import Derived.Test.YtdjagmfcfmeopaaDoorGs
import Derived.Shelf.Strings.SlTrimAscii
import Derived.Test.YtdjagmfcfmeopaaDoorGd
namespace Go.Proofs.YtdjagmfcfmeopaaDoor
open Go Go.Sx Go.Proofs Go.RowKit Go.Sort Go.Lib
def Inv (w : World) : Prop := Lib.TabIs Tryd.prog w "internal/strconv.uint64pow10" .u64 Lib.pow10Tab
theorem pow_global : Tryd.prog.globalNamed "internal/strconv.uint64pow10" = some 5 := by kernel_rfl
theorem inv_below (w w' : World) (h : Inv w) (hb : Below w.heap.size w w') : Inv w' := by
  unfold Inv Lib.TabIs World.var? at h ⊢
  rw [pow_global] at h ⊢
  rw [Option.bind_some] at h ⊢
  have hlt : 5 < w.heap.size := by
    rcases Nat.lt_or_ge 5 w.heap.size with h' | h'
    · exact h'
    · rw [Array.getElem?_eq_none h'] at h
      cases h
  rw [hb.block 5 hlt]
  exact h
theorem below_grow (w : World) (k : Nat) (os : Array Obj) : Below w.heap.size w (grow (w.drewN k) os) :=
  ⟨rfl, rfl, rfl, by simp [grow, World.drewN], fun i hi => by simp [grow, World.drewN, Array.getElem?_append_left hi]⟩
theorem hmix : Tryd.prog.follows .mixedOrders = true := by kernel_rfl
noncomputable def env : Env := ⟨Tryd.prog, [], Inv, inv_below, fun _ _ _ _ _ h => (nomatch h), hmix⟩
theorem toL_ofL (l : List UInt8) : (ofL l).data.toList = l := rfl
theorem size_ofL (l : List UInt8) : (ofL l).size = l.length := rfl
theorem reps1 {w : World} {x : Value} {ys : List Value} (h : Reps w [.v x] ys) : ys = [x] := by
  cases h with
  | cons h t =>
    cases t
    have h : _ = x := h
    rw [h]
theorem reps2 {w : World} {x y : Value} {ys : List Value} (h : Reps w [.v x, .v y] ys) : ys = [x, y] := by
  cases h with
  | cons h t =>
    rw [reps1 t]
    have h : _ = x := h
    rw [h]
theorem n80 : (Tryd.f80.name == "runtime.NumGoroutine") = false := by kernel_rfl
theorem b80 : Tryd.f80.body.isSome = true := by kernel_rfl
theorem n82 : (Tryd.f82.name == "runtime.NumGoroutine") = false := by kernel_rfl
theorem b82 : Tryd.f82.body.isSome = true := by kernel_rfl
theorem n130 : (Tryd.f130.name == "runtime.NumGoroutine") = false := by kernel_rfl
theorem b130 : Tryd.f130.body.isSome = true := by kernel_rfl
theorem n161 : (Tryd.f161.name == "runtime.NumGoroutine") = false := by kernel_rfl
theorem b161 : Tryd.f161.body.isSome = true := by kernel_rfl
theorem callsV2 {f : FuncId} {x y r : Value} (hf : ∃ fn, Tryd.prog.funcs[f]? = some fn ∧ (fn.name == "runtime.NumGoroutine") = false ∧ fn.body.isSome = true)
    (h : ∀ w, Inv w → Calls Tryd.prog f #[x, y] w fun e w' => e = .returned r ∧ Below w.heap.size w w') : CallsV env f [.v x, .v y] [.v r] := by
  refine .inl ⟨hf, fun w ys hI hr => ?_⟩
  rw [reps2 hr]
  exact (h w hI).mono fun e w' ⟨he, hb⟩ => ⟨[r], .cons rfl .nil, he, hb⟩
noncomputable def strings_IndexByte.c : Ctr env := ofCalls 80 (gC (eV cS) (g1 (eV (cI .u8)))) (r1 (rV (cI .i64))) (fun a => strings_IndexByte.f a.1 a.2) (fun a r h => by
  obtain rfl := Option.some.inj h
  exact callsV2 ⟨Tryd.f80, Tryd.func80, n80, b80⟩ fun w _ => (Tryd.strings_IndexByte (ofL a.1) a.2 w).mono fun e w' ⟨he, hw⟩ => ⟨he, hw ▸ Below.refl _ _⟩)
theorem trim_zero : ∀ w, (zeroValue (Tryd.lays160_ren.t 116)).run Tryd.prog w = .ok (.agg (Array.replicate 256 (.bool false))) w := fun w => by kernel_rfl
theorem trim_size : (Tryd.prog.info? (Tryd.lays160_ren.t 116)).map (·.size) = some 256 := by kernel_rfl
noncomputable def strings_Trim.c : Ctr env := ofCalls 82 (gC (eV cS) (g1 (eV cS))) (r1 (rV cS)) (fun a => strings_Trim.f a.1 a.2) (fun a r h => by
  unfold strings_Trim.f at h
  split at h
  · rename_i hc
    obtain rfl := Option.some.inj h
    obtain ⟨h0, h1, h2⟩ := hc
    refine callsV2 ⟨Tryd.f82, Tryd.func82, n82, b82⟩ fun w _ => ?_
    exact Any.strings_Trim_ascii Tryd.lays160 trim_zero trim_size (ofL a.1) (ofL a.2) w h0 h1 (fun j b hj => of_decide_eq_true (List.all_eq_true.1 h2 b (List.mem_of_getElem? hj)))
  · cases h)
noncomputable def strings_Repeat.c : Ctr env := ofCalls 130 (gC (eV cS) (g1 (eV (cI .i64)))) (r1 (rV cS)) (fun a => strings_Repeat.f a.1 a.2) (fun a r h => by
  unfold strings_Repeat.f at h
  split at h
  · rename_i hc
    obtain rfl := Option.some.inj h
    obtain ⟨h0, h1, h2⟩ := hc
    refine callsV2 ⟨Tryd.f130, Tryd.func130, n130, b130⟩ fun w _ => ?_
    have e : (cI .i64).enc a.2 = .int .i64 (a.2.toNat : Int) := by
      show Value.int .i64 a.2 = _
      rw [Int.toNat_of_nonneg h0]
    rw [e]
    exact Tryd.strings_Repeat (ofL a.1) a.2.toNat w (by omega) h1
  · cases h)
noncomputable def strconv_FormatInt.c : Ctr env := ofCalls 161 (gC (eV (cI .i64)) (g1 (eV (cI .i64)))) (r1 (rV cS)) (fun a => strconv_FormatInt.f a.1 a.2) (fun a r h => by
  unfold strconv_FormatInt.f at h
  split at h
  · rename_i hc
    obtain rfl := Option.some.inj h
    obtain ⟨h0, h1, h2⟩ := hc
    refine callsV2 ⟨Tryd.f161, Tryd.func161, n161, b161⟩ fun w hI => ?_
    rw [h0]
    exact (Tryd.strconv_FormatInt_10 a.1 h1 h2 w hI).mono fun e w' ⟨he, k, os, hw⟩ => ⟨he, hw ▸ below_grow w k os⟩
  · cases h)
end Go.Proofs.YtdjagmfcfmeopaaDoor
