/- What the row uses: the tables, the argument, the call. -/
import Derived.Test.YtdjagmfcfmeopaaDoorTc
import Derived.Test.YtdjagmfcfmeopaaDoorTp6
import Derived.Test.YtdjagmfcfmeopaaDoorY13
import Derived.Test.YtdjagmfcfmeopaaDoorTie
import Derived.Test.YtdjagmfcfmeopaaDoorCards
import Derived.ProofKit
import Derived.OpenShut
import Derived.OpenVars
import Derived.LaidMore
import Derived.Lay
import Derived.SevenTiedAt
import Derived.Stop.Joined
namespace Go.Proofs.YtdjagmfcfmeopaaDoor
open Go Go.Sx Go.Proofs Go.RowKit Go.ChangeShapes Go.WideShapes Go.ChangeAt
theorem own : ownKnob Tryd.prog.godebug = none := by kernel_rfl
theorem laidOut : laidOutB Tryd.prog = true := by kernel_rfl
def laidT : List (String × DataW Unit) := Rows.fnExactPipelineTextRow.laid
theorem tPow : (Tryd.prog.globals[5]?).map (·.type) = some 215 := by kernel_rfl
theorem tWord : (Tryd.prog.globals[0]?).map (·.type) = some 145 := by kernel_rfl
theorem tName : (Tryd.prog.globals[1]?).map (·.type) = some 172 := by kernel_rfl
theorem cells_of_strs {H : Type} {enc : TypeId × Value → H} {w : World} {base : Nat} {sp : Nat → Bool} {held : Bool} {fuel : Nat} {t : TypeId} {n : Nat} {cs : List Value} {ls : List (List UInt8)} {p : List MemPlace}
    (ht : Tryd.prog.underlying t = some (.array n 9)) (hct : Tryd.prog.cellsOf t = n) (h : DataW.trod enc Tryd.prog w base sp held fuel t cs = some (.agg (ls.map fun l => .lit (.string l)), p)) : cs = ls.map fun l => .string (ofL l) := by
  obtain ⟨xs, m, _, ex, hlen, hl, hel⟩ := DataW.trod_array ht h
  have c9 : Tryd.prog.cellsOf 9 = 1 := by kernel_rfl
  have hx : xs.map (·.1) = ls.map fun l => (.lit (.string l) : DataW H) := (DataW.agg.inj (Prod.mk.inj ex).1).symm
  have hll : ls.length = n := by
    have := congrArg List.length hx
    simp at this
    omega
  apply List.ext_getElem?
  intro i
  by_cases hi : i < n
  · have h0 := hel i hi
    rw [c9, Nat.mul_one, List.getElem?_eq_getElem (by omega)] at h0
    obtain ⟨s, e1, e2, _⟩ := DataW.trod_string Tryd.underlying9 h0
    have h1 : cs[i]? = some (.string s) := by
      have := congrArg (·[0]?) e1
      simpa [List.getElem?_take, List.getElem?_drop] using this
    have h2 : (xs.map (·.1))[i]? = some (.lit (.string s.data.toList)) := by
      rw [List.getElem?_map, List.getElem?_eq_getElem (by omega), e2]
      rfl
    rw [hx, List.getElem?_map] at h2
    cases hq : ls[i]? with
    | none => rw [hq] at h2; cases h2
    | some q =>
      rw [hq] at h2
      simp only [Option.map_some, Option.some.injEq, DataW.lit.injEq, Lit.string.injEq] at h2
      rw [h1, List.getElem?_map, hq, Option.map_some, h2]
      rfl
  · rw [List.getElem?_eq_none (by omega), List.getElem?_eq_none (by simp; omega)]
set_option maxRecDepth 100000 in
theorem inv_of_laid {W : World} (h : laidMetH Tryd.prog laidT W) : Inv W := by
  rw [MakeChecks.laidMetH_plain _ _ _ (by kernel_rfl)] at h
  obtain ⟨ps, ⟨g0, t0, cs0, f0, p0, q0, hg0, ht0, hv0, hd0, ⟨g1, t1, cs1, f1, p1, q1, hg1, ht1, hv1, hd1, ⟨g2, t2, cs2, f2, p2, q2, hg2, ht2, hv2, hd2, ⟨g3, t3, cs3, f3, p3, q3, hg3, ht3, hv3, hd3, ⟨g4, t4, cs4, f4, p4, q4, hg4, ht4, hv4, hd4, _, _⟩, _⟩, _⟩, _⟩, _⟩, _, _⟩ := h
  obtain rfl := Option.some.inj (pow_global.symm.trans hg2)
  obtain rfl := Option.some.inj (tPow.symm.trans ht2)
  obtain rfl := Option.some.inj (name_global.symm.trans hg3)
  obtain rfl := Option.some.inj (tName.symm.trans ht3)
  obtain rfl := Option.some.inj (word_global.symm.trans hg4)
  obtain rfl := Option.some.inj (tWord.symm.trans ht4)
  refine ⟨?_, ?_, ?_⟩
  · unfold Lib.TabIs
    rw [hv2, ← Lib.cells_of_tab (k := .u64) (zs := Lib.pow10Tab) Tryd.underlying215 Tryd.underlying124 (by kernel_rfl) (by kernel_rfl) hd2]
  · have e : cs4.toList = wordCells := cells_of_strs (ls := gl_stepWords) Tryd.underlying145 (by kernel_rfl) hd4
    rw [hv4, ← e]
  · have e : cs3.toList = nameCells := cells_of_strs (ls := gl_projectionNames) Tryd.underlying172 (by kernel_rfl) hd3
    rw [hv3, ← e]
def shStep : List Ck := [.i .i64, .i .i64, .i .i64, .i .i64, .i .i64, .i .i64, .i .i64, .i .i64, .i .i64, .i .i64, .i .i64, .i .i64, .i .i64, .i .i64, .i .i64, .i .i64]
theorem shp_step : shp Tryd.prog 8 68 = some shStep := by kernel_rfl
theorem callsOf {f : FuncId} {fn : Func} {args : List GA} {r : Value} {ys : List Value} {w : World} (hf : Tryd.prog.funcs[f]? = some fn) (hn : (fn.name == "runtime.NumGoroutine") = false) (hb : fn.body.isSome = true)
    (hc : CallsV env f args [.v r]) (hI : Inv w) (hr : Reps w args ys) : Calls Tryd.prog f ys.toArray w fun e w' => e = .returned r ∧ Below w.heap.size w w' := by
  rcases hc with ⟨_, h⟩ | ⟨vs, _, h⟩
  · refine (h w ys hI hr).mono fun e w' ⟨zs, hz, he, hb⟩ => ⟨?_, hb⟩
    cases hz with
    | cons h1 t =>
      cases t
      have h1 : _ = r := h1
      rw [he, h1]
      rfl
  · have h := h w ys hI hr
    have e1 : (callFunc f ys.toArray).run Tryd.prog w = .ok (.enter f ys.toArray) w := by
      have hne : ¬ fn.name = "runtime.NumGoroutine" := by simpa using hn
      have hbn : fn.body ≠ none := fun e => by simp [e] at hb
      simp [callFunc, hf, hne, hbn]
    rw [show env.P = Tryd.prog from rfl, e1] at h
    cases h
theorem t_calls (l : List (Sh shStep)) (hl : l.length ≤ maxLen) {y : Value} {w : World} (hy : LAt w y ⟨shStep, l⟩) (hw : Inv w) : Calls Tryd.prog 3 #[y] w fun e w' => e = .returned (.bool true) ∧ Below w.heap.size w w' := by
  have hl : List.length (α := Stp) l ≤ 9223372036854775807 := hl
  obtain ⟨rs, hc, he⟩ := (laws_FnExactPipelineText.c (List.length (α := Stp) l + 1 + 30)).ok [.l ⟨shStep, l⟩] (fun rs => some rs) [.v (.bool true)] (by
    show ((laws_FnExactPipelineText.f (List.length (α := Stp) l + 1 + 30) l).bind fun r => some [RA.v (.bool r)]) = _
    rw [pipelineText l hl]
    rfl)
  obtain rfl := Option.some.inj he
  exact callsOf Tryd.func3 (by kernel_rfl) (by kernel_rfl) hc hw (.cons hy .nil)
end Go.Proofs.YtdjagmfcfmeopaaDoor
