/- What both rows use: the tables, the arguments, the calls. -/
import Derived.Test.YtdjagmfcfmeopaaDoorGc
import Derived.Test.YtdjagmfcfmeopaaDoorGp6
import Derived.Test.YtdjagmfcfmeopaaDoorTie
import Derived.Test.YtdjagmfcfmeopaaDoorCards
import Derived.ProofKit
import Derived.OpenShut
import Derived.LaidMore
import Derived.Lay
import Derived.SevenTiedAt
import Derived.Stop.Joined
import Derived.ShutString
namespace Go.Proofs.YtdjagmfcfmeopaaDoor
open Go Go.Sx Go.Proofs Go.RowKit Go.ChangeShapes Go.WideShapes Go.ChangeAt
theorem own : ownKnob Tryd.prog.godebug = none := by kernel_rfl
def laidG : List (String × DataW Unit) := Rows.fnExactInGeorefRow.laid
theorem tPow : (Tryd.prog.globals[5]?).map (·.type) = some 215 := by kernel_rfl
set_option maxRecDepth 100000 in
theorem inv_of_laid {W : World} (h : laidMetH Tryd.prog laidG W) : Inv W := by
  rw [MakeChecks.laidMetH_plain _ _ _ (by kernel_rfl)] at h
  obtain ⟨ps, ⟨g0, t0, cs0, f0, p0, q0, hg0, ht0, hv0, hd0, ⟨g1, t1, cs1, f1, p1, q1, hg1, ht1, hv1, hd1, ⟨g2, t2, cs2, f2, p2, q2, hg2, ht2, hv2, hd2, _, _⟩, _⟩, _⟩, _, _⟩ := h
  obtain rfl := Option.some.inj (pow_global.symm.trans hg2)
  obtain rfl := Option.some.inj (tPow.symm.trans ht2)
  unfold Inv Lib.TabIs
  rw [hv2, ← Lib.cells_of_tab (k := .u64) (zs := Lib.pow10Tab) Tryd.underlying215 Tryd.underlying124 (by kernel_rfl) (by kernel_rfl) hd2]
set_option maxRecDepth 100000 in
theorem open_point {H : Type} {enc : TypeId × Value → H} {w : World} {base b0 : Nat} {sp : Nat → Bool} {held : Bool} {v : Value} {d : DataW H} {ps : List MemPlace} (hval : Value.okWide Tryd.prog w .any b0 30 v) (hd : DataW.Trod enc Tryd.prog w base sp held 30 v d ps) :
    ∃ y x : Int, v = .agg #[.int .i64 y, .int .i64 x] ∧ d = .agg [.lit (.int .i64 y), .lit (.int .i64 x)] ∧ ps = [] ∧ (Lit.int .i64 y).wf = true ∧ (Lit.int .i64 x).wf = true := by
  obtain ⟨cs, rfl, hcs⟩ := okWide_struct Tryd.underlying30 hval
  obtain ⟨fuel, hf⟩ := hd
  obtain ⟨y0, y1, n, hx, hl, h0, h1⟩ := trod_struct2 Tryd.underlying30 hf
  have c30 : Tryd.prog.cellsOf 30 = 2 := by kernel_rfl
  have c2 : Tryd.prog.cellsOf 2 = 1 := by kernel_rfl
  rw [c30] at hcs
  obtain ⟨l⟩ := cs
  match l, hcs with
  | [a, b], _ =>
    simp only [c2, Value.cells] at h0 h1
    obtain ⟨y, e1, e2, wy⟩ := DataW.trod_int Tryd.underlying2 h0
    obtain ⟨x, e3, e4, wx⟩ := DataW.trod_int Tryd.underlying2 h1
    simp at e1 e3
    subst e1; subst e3
    simp only [Prod.mk.injEq] at hx
    rw [e2, e4] at hx
    exact ⟨y, x, rfl, hx.1, hx.2, wy, wx⟩
set_option maxRecDepth 100000 in
theorem shut_point {H : Type} {enc : TypeId × Value → H} {w : World} {base : Nat} {sp : Nat → Bool} {held : Bool} {y x : Int} (wy : (Lit.int .i64 y).wf = true) (wx : (Lit.int .i64 x).wf = true) :
    DataW.Trod enc Tryd.prog w base sp held 30 (.agg #[.int .i64 y, .int .i64 x]) (.agg [.lit (.int .i64 y), .lit (.int .i64 x)]) [] :=
  ⟨3, trod_struct2_mk (y0 := (.lit (.int .i64 y), [])) (y1 := (.lit (.int .i64 x), [])) Tryd.underlying30 (by kernel_rfl)
    (trod_int_mk 1 Tryd.underlying2 wy) (trod_int_mk 1 Tryd.underlying2 wx)⟩
theorem callsOf {f : FuncId} {fn : Func} {args : List GA} {r : Value} {ys : List Value} {w : World} (hf : Tryd.prog.funcs[f]? = some fn) (hn : (fn.name == "runtime.NumGoroutine") = false) (hb : fn.body.isSome = true)
    (hc : CallsV env f args [.v r]) (hI : Inv w) (hr : Reps w args ys) : Calls Tryd.prog f ys.toArray w fun e w' => e = .returned r ∧ Below w.heap.size w w' := by
  rcases hc with ⟨_, h⟩ | ⟨vs, _, h⟩
  · refine (h w ys hI hr).mono fun e w' ⟨zs, hz, he, hb⟩ => ⟨?_, hb⟩
    cases hz with
    | cons h1 t =>
      cases t
      have h1 : _ = r := h1
      rw [he, h1]
      rfl
  · have h := h w ys hI hr
    have e1 : (callFunc f ys.toArray).run Tryd.prog w = .ok (.enter f ys.toArray) w := by
      have hne : ¬ fn.name = "runtime.NumGoroutine" := by simpa using hn
      have hbn : fn.body ≠ none := fun e => by simp [e] at hb
      simp [callFunc, hf, hne, hbn]
    rw [show env.P = Tryd.prog from rfl, e1] at h
    cases h
theorem in_calls (l : List UInt8) (y x : Int) {w : World} (hw : Inv w) : Calls Tryd.prog 4 #[.string (ofL l), .agg #[.int .i64 y, .int .i64 x]] w fun e w' => e = .returned (.bool true) ∧ Below w.heap.size w w' := by
  obtain ⟨rs, hc, he⟩ := (laws_FnExactInGeoref.c 64).ok [.v (.string (ofL l)), .v (.agg #[.int .i64 y, .int .i64 x])] (fun rs => some rs) [.v (.bool true)] (by
    show ((laws_FnExactInGeoref.f 64 l y x).bind fun r => some [RA.v (.bool r)]) = _
    rw [inGeoref]
    rfl)
  obtain rfl := Option.some.inj he
  exact callsOf Tryd.func4 (by kernel_rfl) (by kernel_rfl) hc hw (.cons rfl (.cons rfl .nil))
theorem box_calls (l : List UInt8) {w : World} (hw : Inv w) : Calls Tryd.prog 5 #[.string (ofL l)] w fun e w' => e = .returned (.bool true) ∧ Below w.heap.size w w' := by
  obtain ⟨rs, hc, he⟩ := (laws_FnExactGeorefBox.c 64).ok [.v (.string (ofL l))] (fun rs => some rs) [.v (.bool true)] (by
    show ((laws_FnExactGeorefBox.f 64 l).bind fun r => some [RA.v (.bool r)]) = _
    rw [georefBox]
    rfl)
  obtain rfl := Option.some.inj he
  exact callsOf Tryd.func5 (by kernel_rfl) (by kernel_rfl) hc hw (.cons rfl .nil)
end Go.Proofs.YtdjagmfcfmeopaaDoor
