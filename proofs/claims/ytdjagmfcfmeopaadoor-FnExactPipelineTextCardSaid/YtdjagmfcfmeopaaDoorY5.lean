/- A part of an evaluator of the model's code, and of the proof that what it answers is what a call does. -/
import Derived.Test.YtdjagmfcfmeopaaDoorY4
namespace Go.Sx
open Go.RowKit
variable {E : Env}
theorem cond_some {α : Type} {c : Bool} {x : Option α} {a : α} (h : cond c x none = some a) : c = true ∧ x = some a := by
  cases c
  · cases h
  · exact ⟨rfl, h⟩
theorem info_size {P : Program} {ty : TypeId} {n : Nat} (h : (P.info? ty).map (·.size) = some n) : ∃ it, P.info? ty = some it ∧ it.size = n := by
  cases hq : P.info? ty with
  | none => simp [hq] at h
  | some it => exact ⟨it, rfl, by simpa [hq] using h⟩
theorem rep_addr {E : Env} {b : List (Option Box)} {ρ : Nat → Value} {d off : Nat} {y : Value} (h : (AV.p d off).rep E b ρ y) : ∃ ad, y = .pointer (some ad) := h.1
theorem rep_off {w0 w : World} {ρ : Nat → Value} {s : St} {a : Act} (h : Sim E w0 ρ s a w) {d off k : Nat} {ad : Addr} (hy : (AV.p d off).rep E s.b ρ (.pointer (some ad))) : (AV.p d (off + k)).rep E s.b ρ (.pointer (some (ad.add k))) := by
  refine ⟨⟨_, rfl⟩, fun bx hb hl => ?_⟩
  have := hy.2 bx hb hl
  injection this with this
  injection this with this
  rw [this, Addr.add_mid, Nat.add_assoc]
theorem lb_map {P : Program} {e : TypeId} {n : Nat} {cs : List Value} {lb : LB} (h : ((shOf P e).bind fun sh => (decC sh n cs).map fun xs => LB.mk sh xs) = some lb) : shOf P e = some lb.sh ∧ decC lb.sh n cs = some lb.xs := by
  obtain ⟨sh, h1, h2⟩ := Option.bind_eq_some_iff.1 h
  obtain ⟨xs, h3, h4⟩ := Option.map_eq_some_iff.1 h2
  subst h4
  exact ⟨h1, h3⟩
theorem decC_get {sh : List Ck} : ∀ {n : Nat} {cs : List Value} {xs : List (Sh sh)}, decC sh n cs = some xs → ∀ (k : Nat) (a : Sh sh), xs[k]? = some a → (cs.drop (k * sh.length)).take sh.length = encR sh a
  | 0, cs, xs, h, k, a, hk => by simp [decC] at h; subst h; simp at hk
  | n + 1, cs, xs, h, k, a, hk => by
    simp only [decC] at h
    split at h
    · rename_i x l h1 h2
      injection h with h
      subst h
      cases k with
      | zero =>
        simp only [List.getElem?_cons_zero, Option.some.injEq] at hk
        subst hk
        simpa using decR_ok _ _ _ h1
      | succ k =>
        simp only [List.getElem?_cons_succ] at hk
        have := decC_get h2 k a hk
        rw [List.drop_drop] at this
        rw [Nat.add_mul, Nat.one_mul, Nat.add_comm]
        exact this
    · cases h
theorem row_part {P : Program} {e : TypeId} {sh : List Ck} (hs : shOf P e = some sh) {cs : List Value} {off : Nat} {r : List Value} (hr : (cs.drop off).take sh.length = r) (hl : r.length = sh.length) {x : Value} (hx : rowAt P e r 0 = some x) (w : World) :
    (part e cs.toArray off).run P w = .ok x w := by
  obtain ⟨i, z, hi, hz, hsz, hpos, hk⟩ := shOf_ok hs
  unfold rowAt at hx
  split at hx
  · rename_i n hq
    obtain ⟨d, hu, hd, hi'⟩ := rowTy_true hq
    obtain ⟨it, h1, h2⟩ := info_size hi'
    rw [hi] at h1
    injection h1 with h1
    subst h1
    obtain ⟨_, hx⟩ := cond_some hx
    injection hx with hx
    have hcs : cs.toArray.extract off (off + n) = ((cs.drop off).take n).toArray := by
      apply Array.ext'
      simp [List.extract_eq_take_drop]
    have : n = sh.length := by omega
    subst this
    simp only [part]
    simp only [Sem.run_bind, isAgg_run hu, hd, Result.andThen_ok]
    simp only [sizeOf, typeInfo, hi, hsz]
    have hr' : (cs.drop off).take i.size = r := by rw [hsz]; exact hr
    have hcs' : cs.toArray.extract off (off + i.size) = r.toArray := by rw [hsz, hcs, hr]
    have hx' : x = .agg r.toArray := by rw [← hx, List.drop_zero, List.take_of_length_le (by omega)]
    simp [hcs', hx', hi, asAgg]
    exact hr'
  · rename_i n hq
    obtain ⟨d, hu, hd, hi'⟩ := rowTy_false hq
    have : cs.toArray[off]? = some x := by
      rw [← hr, List.getElem?_take_of_lt hpos, List.getElem?_drop] at hx
      simpa using hx
    simp only [part, Sem.run_bind, isAgg_run hu, hd, Result.andThen_ok]
    simp [this]
  · cases hx
theorem byte_cells : ∀ l : List Int, (LB.mk [.i .u8] l).cells = l.map (Value.int .u8)
  | [] => rfl
  | x :: r => by
    have ih := byte_cells r
    have e : List.flatMap (encR [.i .u8]) (x :: r) = encR [.i .u8] x ++ List.flatMap (encR [.i .u8]) r := List.flatMap_cons
    exact (e.trans (congrArg (fun z => encR [.i .u8] x ++ z) ih)).trans rfl
theorem str_nums (l : List Int) : strOfNums l = ofL (l.map fun n : Int => UInt8.ofNat n.toNat) := rfl
theorem bytes_convert {P : Program} {w : World} {src dst e : TypeId} (hs : P.underlying src = some (.slice e)) (he : P.underlying e = some (.int .u8)) (hd : P.underlying dst = some .string) {p : Value} {xs : List Int} (h : LAt w p ⟨[.i .u8], xs⟩) :
    (convert src dst p).run P w = .ok (.string (ofL (xs.map fun n : Int => UInt8.ofNat n.toNat))) w := by
  rcases h.1 with ⟨h1, h2⟩ | ⟨g, o, c, h1, h2, _, _⟩
  · have h2 : xs = [] := h2
    subst h2
    rw [h1]
    exact run_convert_bytes_nil (P := P) w src e hs he 0 0 dst hd
  · have h1 : p = .slice (some ⟨g, o, none⟩) xs.length c := h1
    have hrun := run_convert_bytes_arg (P := P) w src e hs he g o xs.length c xs rfl (fun i hi => by
      have : (LB.mk [.i .u8] xs).cells[i]? = some (.int .u8 (xs.getD i 0)) := by
        rw [byte_cells, List.getElem?_map, List.getD_eq_getElem?_getD, List.getElem?_eq_getElem hi]
        rfl
      exact h2 i _ this) dst hd
    rw [h1, hrun, str_nums]
theorem one_arg {t : List AV} {l : List Operand} {y : AV} (h : evs t l = some [y]) : ∃ x, l = [x] := by
  match l with
  | [] => simp [evs] at h
  | [x] => exact ⟨x, rfl⟩
  | x :: z :: r =>
    obtain ⟨_, _, _, h2, h3⟩ := evs_cons h
    injection h3 with _ h3
    subst h3
    obtain ⟨_, _, _, _, h4⟩ := evs_cons h2
    cases h4
theorem two_args {t : List AV} {l : List Operand} {y z : AV} (h : evs t l = some [y, z]) : ∃ x u, l = [x, u] ∧ ev t x = some y ∧ ev t u = some z := by
  match l with
  | [] => simp [evs] at h
  | x :: r =>
    obtain ⟨y', l', h1, h2, h3⟩ := evs_cons h
    injection h3 with h3 h4
    subst h3; subst h4
    obtain ⟨u, rfl⟩ := one_arg h2
    exact ⟨x, u, rfl, h1, evs1 h2⟩
theorem len_run {a : Act} {w : World} {o : Oper} {c : Call} {x : Operand} {e : TypeId} {ad : Option Addr} {n k : Nat} {v : Value} (hcal : c.callee = .builtin .len) (hop : o.op = .call c) (hx : c.args.toList = [x]) (e1 : a.eval x = .slice ad n k)
    (ht : (c.argTypes.toList[0]?).bind E.P.underlying = some (.slice e)) (hv : v = .int .i64 n) : (execOp a.eval o).run E.P w = .ok (.value v) w := by
  have e5 : c.args.map a.eval = #[.slice ad n k] := by
    apply Array.ext'
    rw [Array.toList_map, hx]
    simp [e1]
  cases ha : c.argTypes.toList[0]? with
  | none => rw [ha] at ht; cases ht
  | some ty =>
    rw [ha] at ht
    have hu : E.P.underlying ty = some (.slice e) := ht
    have ha' : c.argTypes[0]? = some ty := by rw [← Array.getElem?_toList]; exact ha
    simp [execOp, hop, resolve, hcal, e5, invoke, builtin, Builtin.len_, ha', run_underlying hu, goInt, hv]
theorem rowAt_len {P : Program} {ty : TypeId} {cs : List Value} {off : Nat} {x : Value} (h : rowAt P ty cs off = some x) : True := trivial
theorem op_ok {w0 w : World} {ρ : Nat → Value} {s : St} {a : Act} {o : Oper} {l : List Operand} {vs : List AV} {e : Eff} (h : Sim E w0 ρ s a w)
    (hl : opnds o.op = some l) (hv : evs s.t l = some vs) (he : keffA E o.op vs s.b some = some e) : EffOk E ρ s o a w e := by
  generalize hop : o.op = op at hl he
  unfold keffA at he
  split at he
  · simp [opnds] at hl; subst hl; injection he with he; subst he
    exact ⟨_, ev_rep h (evs1 hv), by simp [execOp, hop]⟩
  · simp [opnds] at hl; subst hl; injection he with he; subst he
    exact ⟨_, ev_rep h (evs1 hv), by simp [execOp, hop]⟩
  · simp [opnds] at hl; subst hl
    obtain ⟨h1, h2, h3⟩ := evs3 hv
    have e1 := rep_v (ev_rep h h1)
    rename_i c x y
    cases c
    · injection he with he; subst he
      exact ⟨_, ev_rep h h3, by simp [execOp, hop, e1, asBool]⟩
    · injection he with he; subst he
      exact ⟨_, ev_rep h h2, by simp [execOp, hop, e1, asBool]⟩
  · rename_i ty
    split at he
    · rename_i z hz
      injection he with he; subst he
      cases hi : E.P.info? ty with
      | none => simp [hi] at hz
      | some i =>
        have hz' : i.zero = some z := by simpa [hi] using hz
        refine ⟨.pointer (some ⟨w.heap.size, 0, none⟩), .pointer (some ⟨w.heap.size, 0, none⟩), w.alloc (.cells (vcells z).toArray ty (0, 0)), ?_, below_alloc w _, box_new w (vcells z) ty 0, fun g hg => ?_, fun d b' ρ' hb hp => rep_var b' ρ' hb hp⟩
        · simp [execOp, hop, Instr.alloc, zeroValue, typeInfo, hi, hz', newVar, newRow, vcells_eq]
        · injection hg with hg; rw [← hg]; exact Nat.le_refl _
    · cases he
  · simp [opnds] at hl; subst hl; injection he with he; subst he
    have e1 := rep_v (ev_rep h (evs1 hv))
    rename_i ty _ x
    refine ⟨.pointer (some ⟨w.heap.size, 0, none⟩), .pointer (some ⟨w.heap.size, 0, none⟩), w.alloc (.cells (vcells x).toArray ty (0, 0)), ?_, below_alloc w _, box_new w (vcells x) ty 0, fun g hg => ?_, fun d b' ρ' hb hp => rep_var b' ρ' hb hp⟩
    · simp [execOp, hop, e1, box_run]
    · injection hg with hg; rw [← hg]; exact Nat.le_refl _
  · rename_i ty ps
    simp [opnds] at hl; subst hl
    split at he
    · rename_i xs hxs
      split at he
      · rename_i cells hc
        injection he with he; subst he
        have e1 := vals_eval h hv hxs
        refine ⟨_, rfl, ?_⟩
        have e2 : (ps.map fun (i, x) => (i, a.eval x)).toList = (ps.toList.map (·.1)).zip xs := by
          rw [Array.toList_map]
          exact zip_parts a.eval _ _ e1
        simp only [execOp, hop]
        rw [← e2] at hc
        simp [run_build w _ _ _ hc]
      · cases he
    · cases he
  · rename_i ty n ps
    simp [opnds] at hl; subst hl
    split at he
    · rename_i el hu
      split at he
      · rename_i sh hs
        split at he
        · rename_i xs hxs
          obtain ⟨hc, he⟩ := cond_some he
          split at he
          · rename_i rows hrows
            injection he with he; subst he
            simp only [Bool.and_eq_true] at hc
            obtain ⟨⟨h1, h2⟩, h4⟩ := hc
            have h1 := Nat.eq_of_beq_eq_true h1
            have h4 := Nat.le_of_ble_eq_true h4
            have e1 := vals_eval h hv hxs
            have e2 : (ps.map fun (i, x) => (i, a.eval x)).toList = (ps.toList.map (·.1)).zip xs := by
              rw [Array.toList_map]
              exact zip_parts a.eval _ _ e1
            have hlen : (ps.toList.map (·.1)).length = xs.length := by rw [← e1]; simp
            obtain ⟨h5, h6, h7⟩ := rowsOf_flat hrows
            obtain ⟨i, z, _, _, _, hpos, _⟩ := shOf_ok hs
            have hn : rows.length = n := by omega
            have hrun := buildSlice_run w hu hs e2 h2 hlen h1 h7 h4
            have hpn : n ≤ n * sh.length := Nat.le_mul_of_pos_right _ hpos
            have hown := own_made (w := w) (e := el) (lb := ⟨sh, rows⟩) (maxLen_ge (by simp only [hn]; omega))
            simp only [hn] at hown
            refine ⟨.slice (some ⟨w.heap.size, 0, none⟩) n n, .slice (some ⟨w.heap.size, 0, none⟩) n n, w.alloc (.cells (xs.flatMap vcells).toArray el (0, 0)), ?_, below_alloc w _, ?_, fun g hg => ?_, fun d b' ρ' hb hp => rep_lst rfl ⟨_, n, rfl, Nat.le_refl _, fun e => by cases e⟩ b' ρ' hb hp⟩
            · simp only [execOp, hop]
              simp [hrun]
            · rw [h5]
              exact box_own (lb := ⟨sh, rows⟩) (by simp only [hn]; exact hown) hpos
            · injection hg with hg; rw [← hg]; exact Nat.le_refl _
          · cases he
        · cases he
      · cases he
    · cases he
  · simp [opnds] at hl; subst hl
    obtain ⟨h1, h2⟩ := evs2 hv
    have e1 := rep_v (ev_rep h h1)
    have e2 := rep_v (ev_rep h h2)
    rename_i ty _ _ kn n kc c
    split at he
    · rename_i el hu
      split at he
      · rename_i sh i hs hi
        split at he
        · rename_i z hz
          split at he
          · rename_i r hr
            obtain ⟨hc, he⟩ := cond_some he
            injection he with he; subst he
            simp only [Bool.and_eq_true, decide_eq_true_eq] at hc
            obtain ⟨⟨⟨rfl, h3⟩, h4⟩, h5⟩ := hc
            obtain ⟨i', z', hi', hz', hsz, hpos, hk⟩ := shOf_ok hs
            rw [hi] at hi'
            injection hi' with hi'
            subst hi'
            rw [hz] at hz'
            injection hz' with hz'
            subst hz'
            have hrun := run_make (P := E.P) w ty el i z hu hi hz kn kc n n h3 (Int.le_refl _) (by omega) (by omega)
            have hcells : (LB.mk sh (List.replicate n.toNat r)).cells.toArray = madeCells z.cells (n.toNat * i.size) := by
              have hzr := decR_ok _ _ _ hr
              have hzl : (encR sh r).length = sh.length := encR_len _ _
              apply Array.ext
              · simp [cells_len, size_madeCells, hsz]
              · intro j hj1 hj2
                simp only [List.size_toArray, cells_len, List.length_replicate] at hj1
                have hm : j % sh.length < sh.length := Nat.mod_lt _ hpos
                have hq : j = (j / sh.length) * sh.length + j % sh.length := by rw [Nat.mul_comm]; exact (Nat.div_add_mod j sh.length).symm
                have hql : j / sh.length < n.toNat := (Nat.div_lt_iff_lt_mul hpos).2 hj1
                have e3 := lb_get (lb := ⟨sh, List.replicate n.toNat r⟩) (k := j / sh.length) (a := r) (by simp [hql]) hm
                simp only [← hq] at e3
                have e4 : (LB.mk sh (List.replicate n.toNat r)).cells[j]? = some ((encR sh r)[j % sh.length]'(by omega)) := by rw [e3]; exact List.getElem?_eq_getElem _
                have e5 : (madeCells z.cells (n.toNat * i.size))[j] = z.cells[j % z.cells.size]! := by simp [madeCells]
                have e6 : z.cells = (encR sh r).toArray := by rw [vcells_eq, hzr]
                rw [e5, e6]
                simp only [List.size_toArray, hzl, List.getElem_toArray]
                rw [List.getElem?_eq_some_iff] at e4
                obtain ⟨_, e4⟩ := e4
                rw [e4]
                rw [getElem!_pos (encR sh r).toArray (j % sh.length) (by simp [hzl, hm])]
                simp
            have hown := own_made (w := w) (e := el) (lb := ⟨sh, List.replicate n.toNat r⟩) (maxLen_ge (by simp only [List.length_replicate]; omega))
            simp only [List.length_replicate] at hown
            refine ⟨.slice (some ⟨w.heap.size, 0, none⟩) n.toNat n.toNat, .slice (some ⟨w.heap.size, 0, none⟩) n.toNat n.toNat, w.alloc (.cells (LB.mk sh (List.replicate n.toNat r)).cells.toArray el (0, 0)), ?_, below_alloc w _, ?_, fun g hg => ?_, fun d b' ρ' hb hp => by rw [List.length_replicate]; exact rep_lst rfl ⟨_, n.toNat, rfl, Nat.le_refl _, fun e => by cases e⟩ b' ρ' hb hp⟩
            · simp only [execOp, hop, e1, e2]
              rw [hcells]
              simp [hrun]
            · exact box_own (lb := ⟨sh, List.replicate n.toNat r⟩) (by simp only [List.length_replicate]; exact hown) hpos
            · injection hg with hg; rw [← hg]; exact Nat.le_refl _
          · cases he
        · cases he
      · cases he
    · cases he
  · simp [opnds] at hl; subst hl
    obtain ⟨h1, h2⟩ := evs2 hv
    have e1 := ev_rep h h1
    have e2 := rep_v (ev_rep h h2)
    rename_i ty x y d ver n k i
    split at he
    · rename_i el hu
      split at he
      · rename_i z hi
        obtain ⟨hc, he⟩ := cond_some he
        injection he with he; subst he
        simp only [Bool.and_eq_true, decide_eq_true_eq] at hc
        obtain ⟨it, hq, hz⟩ := info_size hi
        obtain ⟨⟨ad, c, hy, hnc, hnil⟩, hcur⟩ := e1
        cases ad with
        | none => have := (hnil rfl).1; omega
        | some ad =>
          refine ⟨.pointer (some (ad.add (i.toNat * z))), ⟨⟨_, rfl⟩, fun bx hb => ?_⟩, ?_⟩
          · obtain ⟨c1, c2⟩ := hcur bx hb
            refine ⟨c1, fun hve hrow => ?_⟩
            have hr := c2 hve
            rw [hy] at hr
            have hat := (h.bx d bx hb).1
            unfold Box.at at hat
            split at hat
            · rename_i hls
              obtain ⟨⟨g, o, hp, _, _⟩, _⟩ := hat
              rw [hp] at hr
              cases hr
            · rename_i lb hls
              rcases hat.1.1 with ⟨hp, _⟩ | ⟨g, o, c', hp, _, _, _⟩
              · rw [hp] at hr
                injection hr with hr
                cases hr
              · rw [hp] at hr ⊢
                injection hr with hr
                injection hr with hr
                rw [hr]
                simp [gb, ob, oo, Addr.add_mid]
          · simp [execOp, hop, hy, e2, Instr.indexAt, asIntOf, run_underlying hu, hc.1, hc.2, sizeOf, typeInfo, hq, hz]
      · cases he
    · cases he
  · simp [opnds] at hl; subst hl
    obtain ⟨h1, h2⟩ := evs2 hv
    have e1 := ev_rep h h1
    have e2 := rep_v (ev_rep h h2)
    rename_i ty x y d ver z' po n k i
    split at he
    · rename_i el hu
      split at he
      · rename_i z hi
        obtain ⟨hc, he⟩ := cond_some he
        injection he with he; subst he
        simp only [Bool.and_eq_true, decide_eq_true_eq] at hc
        obtain ⟨⟨hzz, hc1⟩, hc2⟩ := hc
        have hc := And.intro hc1 hc2
        have hzz := Nat.eq_of_beq_eq_true hzz
        subst hzz
        obtain ⟨it, hq, hz⟩ := info_size hi
        obtain ⟨⟨ad, c, hy, hnc, hnil⟩, hcur⟩ := e1
        cases ad with
        | none => have := (hnil rfl).1; omega
        | some ad =>
          refine ⟨.pointer (some (ad.add (i.toNat * z))), ⟨⟨_, rfl⟩, fun bx hb => ?_⟩, ?_⟩
          · obtain ⟨c1, c2⟩ := hcur bx hb
            refine ⟨c1, fun hve hrow => ?_⟩
            obtain ⟨_, hr⟩ := c2 hve
            rcases hr hrow with hr | ⟨o', c', g, h5, h6, h7⟩
            · rw [hy] at hr; injection hr with hr; cases hr
            · rw [hy] at h6
              injection h6 with h6
              injection h6 with h6
              rcases h7 with h7 | h7
              · omega
              · have e9 : oo (ρ d) + po * z + i.toNat * z = oo (ρ d) + ((po + i.toNat) * z + 0) := by rw [Nat.add_mul]; omega
                rw [h6, h7, Addr.add_mid, e9]
                simp [gb, h5]
          · simp [execOp, hop, hy, e2, Instr.indexAt, asIntOf, run_underlying hu, hc.1, hc.2, sizeOf, typeInfo, hq, hz]
      · cases he
    · cases he
  · simp [opnds] at hl; subst hl
    obtain ⟨h1, h2⟩ := evs2 hv
    have e1 := ev_rep h h1
    have e2 := rep_v (ev_rep h h2)
    rename_i ty x y d off k i
    split at he
    · rename_i len el hu
      split at he
      · rename_i n hi
        obtain ⟨hc, he⟩ := cond_some he
        injection he with he; subst he
        simp only [Bool.and_eq_true, decide_eq_true_eq] at hc
        obtain ⟨it, hq, hz⟩ := info_size hi
        obtain ⟨ad, hy⟩ := rep_addr e1
        rw [hy] at e1
        refine ⟨_, rep_off h (k := i.toNat * n) e1, ?_⟩
        simp [execOp, hop, hy, e2, Instr.indexAt, Instr.sureAddr, asIntOf, run_underlying hu, hc.1, hc.2, sizeOf, typeInfo, hq, hz]
      · cases he
    · cases he
  · simp [opnds] at hl; subst hl
    obtain ⟨h1, h2⟩ := evs2 hv
    have e1 := ev_rep h h1
    have e2 := rep_v (ev_rep h h2)
    rename_i ty x y gl off k i
    split at he
    · rename_i len el hu
      split at he
      · rename_i n hi
        obtain ⟨hc, he⟩ := cond_some he
        injection he with he; subst he
        simp only [Bool.and_eq_true, decide_eq_true_eq] at hc
        obtain ⟨it, hq, hz⟩ := info_size hi
        have e1 : a.eval x = .pointer (some ⟨gl, off, none⟩) := e1
        refine ⟨_, ⟨it, hq, rfl⟩, ?_⟩
        simp [execOp, hop, e1, e2, Instr.indexAt, Instr.sureAddr, asIntOf, run_underlying hu, hc.1, hc.2, sizeOf, typeInfo, hq, Addr.add_mid]
      · cases he
    · cases he
  · simp [opnds] at hl; subst hl
    obtain ⟨h1, h2⟩ := evs2 hv
    have e1 := rep_v (ev_rep h h1)
    have e2 := rep_v (ev_rep h h2)
    rename_i ty x y sb k i
    split at he
    · rename_i hu
      obtain ⟨hc, he⟩ := cond_some he
      injection he with he; subst he
      simp only [Bool.and_eq_true, decide_eq_true_eq] at hc
      refine ⟨_, rfl, ?_⟩
      simp [execOp, hop, e1, e2, Instr.index, asIntOf, run_underlying hu, hc.1, getL hc.1 hc.2, bt]
    · cases he
  · simp [opnds] at hl; subst hl
    obtain ⟨h1, h2⟩ := evs2 hv
    have e1 := rep_v (ev_rep h h1)
    have e2 := rep_v (ev_rep h h2)
    rename_i ty x y cs k i
    split at he
    · rename_i len el hu
      split at he
      · rename_i lb hlb
        obtain ⟨hc, he⟩ := cond_some he
        obtain ⟨q, hq, he⟩ := Option.bind_eq_some_iff.1 he
        split at he
        · rename_i v hv'
          injection he with he; subst he
          simp only [Bool.and_eq_true, decide_eq_true_eq] at hc
          obtain ⟨hs, hd⟩ := lb_map hlb
          obtain ⟨i', z, hi, hz, hsz, hpos, hk⟩ := shOf_ok hs
          have := row_part hs (decC_get hd _ _ hq) (encR_len _ _) hv' w
          refine ⟨_, rfl, ?_⟩
          simp [execOp, hop, e1, e2, Instr.index, asIntOf, run_underlying hu, hc.1, hc.2, sizeOf, typeInfo, hi, hsz, this]
        · cases he
      · split at he
        · rename_i n hr
          obtain ⟨hc, he⟩ := cond_some he
          injection he with he; subst he
          simp only [Bool.and_eq_true, decide_eq_true_eq] at hc
          obtain ⟨td, hu2, hd, hi⟩ := rowTy_true hr
          refine ⟨_, rfl, ?_⟩
          obtain ⟨it, hq, this⟩ := info_size hi
          have hcs : cs.extract (i.toNat * n) (i.toNat * n + n) = ((cs.toList.drop (i.toNat * n)).take n).toArray := by
            apply Array.ext'
            simp [Array.toList_extract, List.extract_eq_take_drop]
          simp [execOp, hop, e1, e2, Instr.index, asIntOf, run_underlying hu, hc.1, hc.2, sizeOf, typeInfo, hq, this, part, isAgg_run hu2, hd, hcs]
        · rename_i n hr
          obtain ⟨hc, he⟩ := cond_some he
          split at he
          · rename_i x hx
            injection he with he; subst he
            simp only [Bool.and_eq_true, decide_eq_true_eq] at hc
            obtain ⟨td, hu2, hd, hi⟩ := rowTy_false hr
            refine ⟨_, rfl, ?_⟩
            obtain ⟨it, hq, this⟩ := info_size hi
            have hx' : cs[i.toNat * n]? = some x := by rw [← Array.getElem?_toList]; exact hx
            simp [execOp, hop, e1, e2, Instr.index, asIntOf, run_underlying hu, hc.1, hc.2, sizeOf, typeInfo, hq, this, part, isAgg_run hu2, hd, hx']
          · cases he
        · cases he
    · cases he
  · simp [opnds] at hl; subst hl
    have e1 := ev_rep h (evs1 hv)
    rename_i ty x d off
    split at he
    · rename_i bx hb
      split at he
      · rename_i hls
        split at he
        · rename_i v hr
          injection he with he; subst he
          obtain ⟨g, o2, _, hy, hrange, _⟩ := h.range e1 hb hls
          refine ⟨_, rfl, ?_⟩
          have := load_row hr hrange
          simp [execOp, hop, hy, Instr.loadAt, Instr.sureAddr, this]
        · cases he
      · cases he
    · cases he
  · simp [opnds] at hl; subst hl
    have e1 := ev_rep h (evs1 hv)
    rename_i ty x d ver z k off
    split at he
    · rename_i bx hb
      split at he
      · rename_i lb hls
        obtain ⟨hz, he⟩ := cond_some he
        obtain ⟨q, hq, he⟩ := Option.bind_eq_some_iff.1 he
        split at he
        · rename_i v hr
          injection he with he; subst he
          obtain ⟨g, o2, _, _, hy, hrange, _, _⟩ := h.elem e1 hb hls (Nat.eq_of_beq_eq_true hz) hq
          refine ⟨_, rfl, ?_⟩
          have := load_row hr hrange
          rw [Nat.add_assoc] at this
          simp [execOp, hop, hy, Instr.loadAt, Instr.sureAddr, this]
        · cases he
      · cases he
    · cases he
  · simp [opnds] at hl; subst hl
    have e1 := ev_rep h (evs1 hv)
    rename_i ty x gl off
    have e1 : a.eval x = .pointer (some ⟨gl, off, none⟩) := e1
    split at he
    · rename_i ty' cs hg
      split at he
      · rename_i v hr
        injection he with he; subst he
        have hrange : w.rangeAt gl 0 cs := E.hg w gl _ _ h.inv hg
        refine ⟨_, rfl, ?_⟩
        have := load_row hr hrange
        rw [Nat.zero_add] at this
        simp [execOp, hop, e1, Instr.loadAt, Instr.sureAddr, this]
      · cases he
    · cases he
  · simp [opnds] at hl; subst hl
    have e1 := ev_rep h (evs1 hv)
    rename_i ty x gl base el n k
    obtain ⟨i, hi, e1⟩ := e1
    split at he
    · rename_i ty' cs hg
      split at he
      · rename_i lb hlb
        obtain ⟨q, hq, he⟩ := Option.bind_eq_some_iff.1 he
        split at he
        · rename_i v hr
          obtain ⟨hte, he⟩ := cond_some he
          injection he with he; subst he
          have hte := of_decide_eq_true hte
          subst hte
          obtain ⟨hs, hd⟩ := lb_map hlb
          obtain ⟨i', z, hi', hz, hsz, hpos, hk⟩ := shOf_ok hs
          rw [hi] at hi'
          injection hi' with hi'
          subst hi'
          have hh := E.hg w gl _ _ h.inv hg
          have hrange : w.rangeAt gl (base + k * i.size) (encR lb.sh q) := fun j v hj => by
            have hdc := decC_get hd _ _ hq
            rw [← hdc, List.getElem?_take] at hj
            split at hj
            · rw [List.drop_drop, List.getElem?_drop] at hj
              have hj := hh _ _ hj
              rw [hsz]
              rw [Nat.zero_add] at hj
              simpa [Nat.add_assoc] using hj
            · cases hj
          refine ⟨_, rfl, ?_⟩
          have := load_row hr hrange
          rw [Nat.add_zero] at this
          simp [execOp, hop, e1, Instr.loadAt, Instr.sureAddr, this]
        · cases he
      · cases he
    · cases he
  · simp [opnds] at hl; subst hl
    obtain ⟨h1, h2⟩ := evs2 hv
    have e1 := ev_rep h h1
    have e2 := rep_v (ev_rep h h2)
    rename_i ty x y d off v
    split at he
    · rename_i bx hb
      split at he
      · rename_i n hi
        obtain ⟨hc, he⟩ := cond_some he
        injection he with he; subst he
        simp only [Bool.and_eq_true, Bool.not_eq_true', Option.isNone_iff_eq_none] at hc
        obtain ⟨⟨⟨⟨hn, ho⟩, hone⟩, hro⟩, hls⟩ := hc
        have hn := Nat.eq_of_beq_eq_true hn
        have ho := Nat.le_of_ble_eq_true ho
        have hat := (h.bx d bx hb).1
        unfold Box.at at hat
        rw [hls] at hat
        obtain ⟨g, hp, hg⟩ := hat.2 hro
        have hy := e1.2 bx hb hls
        rw [hp] at hy
        have hy : a.eval x = .pointer (some ⟨g, off, none⟩) := by rw [hy]; simp [gb, ob, oo]
        have hrun := store_run (P := E.P) hi hn hg ho hone
        refine ⟨bx, g, hb, hro, rfl, by rw [hp]; rfl, ?_, ?_, rfl, fun _ => hls, ?_, ?_⟩
        · simp [execOp, hop, hy, e2, Instr.storeAt, Instr.sureAddr, hrun]
        · have hh := heap_setCells g bx.ty (vcells v) off w bx.cs hg
          refine ⟨⟨g, 0, hp, fun j u hj => ?_, by rw [size_setCells]; exact blk_lt' hg⟩, fun _ => ⟨g, hp, hh⟩⟩
          unfold World.cell?
          simp only [Nat.zero_add, hh]
          simpa using hj
        · simp [rowN, hls]
        · simp [lenB, hls]
      · cases he
    · cases he
  · simp [opnds] at hl; subst hl
    obtain ⟨h1, h2⟩ := evs2 hv
    have e1 := ev_rep h h1
    have e2 := rep_v (ev_rep h h2)
    rename_i ty x y d ver z k off v
    split at he
    · rename_i bx hb
      split at he
      · rename_i lb hls
        split at he
        · rename_i n hi
          obtain ⟨hc, he⟩ := cond_some he
          obtain ⟨q, hq, he⟩ := Option.bind_eq_some_iff.1 he
          split at he
          · rename_i q' hq'
            injection he with he; subst he
            simp only [Bool.and_eq_true, Bool.not_eq_true'] at hc
            obtain ⟨⟨⟨⟨hz, hn⟩, ho⟩, hone⟩, hro⟩ := hc
            have hz := Nat.eq_of_beq_eq_true hz
            have hn := Nat.eq_of_beq_eq_true hn
            have ho := Nat.le_of_ble_eq_true ho
            obtain ⟨g, o2, hobg, hoo, hy, hrange, _, _⟩ := h.elem e1 hb hls hz hq
            obtain ⟨hb', hve⟩ := lst_some hb
            have hat := (h.bx d bx hb').1
            unfold Box.at at hat
            rw [hls] at hat
            have hown := hat.2 hro
            have hset := decR_ok _ _ _ hq'
            have hkl : k < lb.xs.length := (List.getElem?_eq_some_iff.1 hq).1
            obtain ⟨hl1, hl2⟩ := hown
            rcases hl2 with ⟨hp, hl2⟩ | ⟨g', cap, cur, hp, hge, hg, hnc, hcm, hcs, htake⟩
            · omega
            · have eg : g' = g := by rw [hp] at hobg; injection hobg
              subst eg
              have eo : o2 = 0 := by rw [← hoo, hp]; rfl
              subst eo
              have hflat := flat_set lb.sh lb.xs k q q' off (vcells v) hq hset (by omega)
              have hle : k * z + off + (vcells v).length ≤ lb.xs.length * lb.sh.length := by
                have : (k + 1) * lb.sh.length ≤ lb.xs.length * lb.sh.length := Nat.mul_le_mul_right _ hkl
                rw [Nat.add_mul, Nat.one_mul] at this
                rw [hz, hn]
                omega
              have hcur : lb.xs.length * lb.sh.length ≤ cur.toList.length := by
                rw [Array.length_toList, hcs]
                exact Nat.mul_le_mul_right _ hnc
              have hrun := store_run (P := E.P) (w := w) (g := g') (off := k * z + off) (cs := cur.toList) hi hn (by simpa using hg) (by omega) hone
              have hh := heap_setCells g' bx.ty (vcells v) (k * z + off) w cur.toList (by simpa using hg)
              have hy : a.eval x = .pointer (some ⟨g', k * z + off, none⟩) := by rw [hy, Nat.zero_add]
              have hsz : (lb.xs.set k q').length = lb.xs.length := by simp
              have hown' : (w.setCells g' (k * z + off) (vcells v)).ownsRow 0 bx.ty lb.sh.length (ρ d) (lb.xs.set k q').length (LB.mk lb.sh (lb.xs.set k q')).cells := by
                refine ⟨cells_len ⟨lb.sh, lb.xs.set k q'⟩, .inr ⟨g', cap, _, by rw [hsz]; exact hp, Nat.zero_le _, hh, by rw [hsz]; exact hnc, hcm, by rw [List.size_toArray, setL_len, Array.length_toList]; exact hcs, ?_⟩⟩
                simp only [hsz]
                rw [setL_take (by omega) hcur, htake]
                show setL (lb.xs.flatMap (encR lb.sh)) (k * z + off) (vcells v) = _
                rw [hz]
                exact hflat
              refine ⟨bx, g', hb', hro, rfl, hobg, ?_, ?_, rfl, fun e => (by cases e), ?_, ?_⟩
              · simp [execOp, hop, hy, e2, Instr.storeAt, Instr.sureAddr, hrun]
              · exact box_own (lb := ⟨lb.sh, lb.xs.set k q'⟩) hown' hat.1.2
              · simp [rowN, hls]
              · simp [lenB, hls]
          · cases he
        · cases he
      · cases he
    · cases he
  · rename_i ty x lo hi sb r
    simp [opnds] at hl; subst hl
    obtain ⟨y, l', hy, hl', e3⟩ := evs_cons hv
    injection e3 with e3 e4
    subst e3; subst e4
    have e1 := rep_v (ev_rep h hy)
    split at he
    · rename_i hu
      obtain ⟨lo', hi', hk, h0, h1, h2, hlo, hhi⟩ := bounds_some he hl'
      injection hk with hk; subst hk
      have hb := sliceBounds_run (P := E.P) (sl := false) h h0 h1 h2 (Nat.le_refl _) hlo hhi
      refine ⟨_, rfl, ?_⟩
      have hsz := size_toL sb
      rw [← hsz] at hb
      simp [execOp, hop, e1, Instr.sliceAt, Instr.slice, run_underlying hu, hb, cut_ofL sb h0 h1]
    · cases he
  · rename_i ty x lo hi d ver n r
    simp [opnds] at hl; subst hl
    obtain ⟨y, l', hy, hl', e3⟩ := evs_cons hv
    injection e3 with e3 e4
    subst e3; subst e4
    obtain ⟨⟨ad, c, e1, hnc, hnil⟩, hcur⟩ := ev_rep h hy
    split at he
    · rename_i el hu
      split at he
      · rename_i z hi
        obtain ⟨it, hq, hz⟩ := info_size hi
        obtain ⟨lo', hi', hk, h0, h1, h2, hlo, hhi⟩ := bounds_some he hl'
        injection hk with hk; subst hk
        have hb := sliceBounds_run (P := E.P) (sl := true) h h0 h1 h2 hnc hlo hhi
        refine ⟨.slice (if c = lo'.toNat then ad else ad.map (·.add (lo'.toNat * z))) (hi'.toNat - lo'.toNat) (c - lo'.toNat), ⟨⟨_, _, rfl, by omega, fun hn => ?_⟩, fun bx hbx => ?_⟩, ?_⟩
        · have had : ad = none := by
            split at hn
            · exact hn
            · simpa using hn
          have := hnil had
          omega
        · obtain ⟨c1, c2⟩ := hcur bx hbx
          refine ⟨c1, fun hve => ?_⟩
          have hr := c2 hve
          rw [e1] at hr
          have hat := (h.bx d bx hbx).1
          unfold Box.at at hat
          split at hat
          · obtain ⟨⟨g, o, hp, _, _⟩, _⟩ := hat
            rw [hp] at hr
            cases hr
          · rename_i lb hls
            rcases hat.1.1 with ⟨hp, hnl⟩ | ⟨g, o, c', hp, _, _, _⟩
            · rw [hp] at hr
              injection hr with hr1 hr2 hr3
              subst hr1
              refine ⟨by simp only [lenB, hls, hnl, List.length_nil]; omega, fun _ => .inl ?_⟩
              have e5 : hi'.toNat - lo'.toNat = 0 := by omega
              have e6 : c - lo'.toNat = 0 := by omega
              rw [e5, e6]
              split <;> rfl
            · rw [hp] at hr ⊢
              injection hr with hr1 hr2 hr3
              subst hr1
              refine ⟨by simp only [lenB, hls]; omega, fun hrow => .inr ?_⟩
              by_cases hcl : c = lo'.toNat
              · refine ⟨o, c - lo'.toNat, g, rfl, by rw [if_pos hcl], .inl (by omega)⟩
              · refine ⟨o + lo'.toNat * z, c - lo'.toNat, g, rfl, by rw [if_neg hcl]; simp [Addr.add_mid], .inr rfl⟩
        · simp [execOp, hop, e1, Instr.sliceAt, Instr.slice, run_underlying hu, hb, sizeOf, typeInfo, hq, hz]
      · cases he
    · cases he
  · rename_i ty x lo hi d ver z' po n r
    simp [opnds] at hl; subst hl
    obtain ⟨y, l', hy, hl', e3⟩ := evs_cons hv
    injection e3 with e3 e4
    subst e3; subst e4
    obtain ⟨⟨ad, c, e1, hnc, hnil⟩, hcur⟩ := ev_rep h hy
    split at he
    · rename_i el hu
      split at he
      · rename_i z hi
        obtain ⟨it, hq, hz⟩ := info_size hi
        obtain ⟨lo', hi', hk, h0, h1, h2, hlo, hhi⟩ := bounds_some he hl'
        obtain ⟨hzz, hk2⟩ := cond_some hk
        have hzz := Nat.eq_of_beq_eq_true hzz
        subst hzz
        injection hk2 with hk2; subst hk2
        have hb := sliceBounds_run (P := E.P) (sl := true) h h0 h1 h2 hnc hlo hhi
        refine ⟨.slice (if c = lo'.toNat then ad else ad.map (·.add (lo'.toNat * z))) (hi'.toNat - lo'.toNat) (c - lo'.toNat), ⟨⟨_, _, rfl, by omega, fun hn => ?_⟩, fun bx hbx => ?_⟩, ?_⟩
        · have had : ad = none := by
            split at hn
            · exact hn
            · simpa using hn
          have := hnil had
          omega
        · obtain ⟨c1, c2⟩ := hcur bx hbx
          refine ⟨c1, fun hve => ?_⟩
          obtain ⟨hr0, hr⟩ := c2 hve
          refine ⟨by omega, fun hrow => ?_⟩
          rcases hr hrow with hr | ⟨o', c', g, h5, h6, h7⟩
          · rw [e1] at hr
            injection hr with hr1 hr2 hr3
            subst hr1
            refine .inl ?_
            have e5 : hi'.toNat - lo'.toNat = 0 := by omega
            have e6 : c - lo'.toNat = 0 := by omega
            rw [e5, e6]
            split <;> rfl
          · rw [e1] at h6
            injection h6 with hr1 hr2 hr3
            subst hr1
            refine .inr ?_
            by_cases hcl : c = lo'.toNat
            · refine ⟨o', c - lo'.toNat, g, h5, by rw [if_pos hcl], .inl (by omega)⟩
            · refine ⟨o' + lo'.toNat * z, c - lo'.toNat, g, h5, by rw [if_neg hcl]; simp [Addr.add_mid], ?_⟩
              rcases h7 with h7 | h7
              · exact .inl (by omega)
              · exact .inr (by rw [h7, Nat.add_mul]; omega)
        · simp [execOp, hop, e1, Instr.sliceAt, Instr.slice, run_underlying hu, hb, sizeOf, typeInfo, hq, hz]
      · cases he
    · cases he
  · simp [opnds] at hl; subst hl
    obtain ⟨h1, h2⟩ := evs2 hv
    have e1 := rep_v (ev_rep h h1)
    have e2 := rep_v (ev_rep h h2)
    rename_i op ty _ _ _ k x k' y
    cases hs : isShift op with
    | true =>
      simp only [hs, cond_true] at he
      obtain ⟨v, hv', hr⟩ := kshift_some (P := E.P) (k' := k') he
      injection hv' with hv'; subst hv'
      refine ⟨_, rfl, ?_⟩
      have hr := hr ty w
      simp only [execOp, hop, e1, e2]
      simp [eqGuard, hr]
      try (split <;> simp [hr])
    | false =>
      rw [hs] at he
      cases hk : decide (k = k') with
      | false => simp [hs, hk] at he
      | true =>
        simp only [hs, hk, cond_true, cond_false] at he
        have hk := of_decide_eq_true hk
        subst hk
        obtain ⟨v, hv', hr⟩ := kint_some (P := E.P) he hs
        injection hv' with hv'; subst hv'
        refine ⟨_, rfl, ?_⟩
        have hr := hr ty w
        simp only [execOp, hop, e1, e2]
        simp [eqGuard, hr]
        try (split <;> simp [hr])
  · simp [opnds] at hl; subst hl
    obtain ⟨h1, h2⟩ := evs2 hv
    have e1 := rep_v (ev_rep h h1)
    have e2 := rep_v (ev_rep h h2)
    rename_i op ty _ _ _ x y
    split at he
    · rename_i hu
      obtain ⟨v, hv', hr⟩ := kstr_some (P := E.P) he
      injection hv' with hv'; subst hv'
      refine ⟨_, rfl, ?_⟩
      have hr := hr ty w hu
      simp only [execOp, hop, e1, e2]
      simp [eqGuard, hr]
      try (split <;> simp [hr])
    · cases he
  · simp [opnds] at hl; subst hl
    obtain ⟨h1, h2⟩ := evs2 hv
    have e1 := rep_v (ev_rep h h1)
    have e2 := rep_v (ev_rep h h2)
    split at he
    · rename_i hu
      injection he with he; subst he
      refine ⟨_, rfl, ?_⟩
      simp only [execOp, hop, e1, e2]
      simp [eqGuard, binOp_eqlB hu]
    · cases he
  · simp [opnds] at hl; subst hl
    obtain ⟨h1, h2⟩ := evs2 hv
    have e1 := rep_v (ev_rep h h1)
    have e2 := rep_v (ev_rep h h2)
    split at he
    · rename_i hu
      injection he with he; subst he
      refine ⟨_, rfl, ?_⟩
      simp only [execOp, hop, e1, e2]
      simp [eqGuard, binOp_neqB hu]
    · cases he
  · simp [opnds] at hl; subst hl
    obtain ⟨h1, h2⟩ := evs2 hv
    have e1 := rep_v (ev_rep h h1)
    have e2 := rep_v (ev_rep h h2)
    split at he
    · rename_i r hr
      injection he with he; subst he
      obtain ⟨hg, hq⟩ := eqS_run hr w
      refine ⟨_, rfl, ?_⟩
      simp only [execOp, hop, e1, e2]
      simp [eqGuard, hg, binOp_eqlS hq]
    · cases he
  · simp [opnds] at hl; subst hl
    obtain ⟨h1, h2⟩ := evs2 hv
    have e1 := rep_v (ev_rep h h1)
    have e2 := rep_v (ev_rep h h2)
    split at he
    · rename_i r hr
      injection he with he; subst he
      obtain ⟨hg, hq⟩ := eqS_run hr w
      refine ⟨_, rfl, ?_⟩
      simp only [execOp, hop, e1, e2]
      simp [eqGuard, hg, binOp_neqS hq]
    · cases he
  · simp [opnds] at hl; subst hl; injection he with he; subst he
    have e1 := rep_v (ev_rep h (evs1 hv))
    refine ⟨_, rfl, ?_⟩
    simp [execOp, hop, e1, Op.unary, Op.intArith]
  · simp [opnds] at hl; subst hl; injection he with he; subst he
    have e1 := rep_v (ev_rep h (evs1 hv))
    refine ⟨_, rfl, ?_⟩
    simp [execOp, hop, e1, Op.unary, intBits_xor]
  · simp [opnds] at hl; subst hl; injection he with he; subst he
    have e1 := rep_v (ev_rep h (evs1 hv))
    refine ⟨_, rfl, ?_⟩
    simp [execOp, hop, e1, Op.unary]
  · simp [opnds] at hl; subst hl
    have e1 := rep_v (ev_rep h (evs1 hv))
    split at he
    · rename_i d k hs hd
      injection he with he; subst he
      refine ⟨_, rfl, ?_⟩
      simp [execOp, hop, e1, convert, run_underlying hs, run_underlying hd, Conv.intToInt]
    · cases he
  · simp [opnds] at hl; subst hl
    have e1 := rep_v (ev_rep h (evs1 hv))
    rename_i src dst _ sb
    split at he
    · rename_i hs hd
      injection he with he; subst he
      refine ⟨_, rfl, ?_⟩
      simp [execOp, hop, e1, convert, run_underlying hs, run_underlying hd]
    · rename_i el hs hd
      split at he
      · rename_i hu
        injection he with he; subst he
        have hrun := run_bytes_of_string (P := E.P) w src dst el sb hs hd hu
        have hge := grownCap_ge w sb.size 0 el
        refine ⟨.slice (some ⟨w.heap.size, 0, none⟩) sb.size (grownCap w sb.size 0 el), .slice (some ⟨w.heap.size, 0, none⟩) sb.size (grownCap w sb.size 0 el),
          w.drew.alloc (.cells (bytesRow sb (grownCap w sb.size 0 el)) el ((bytesRow sb (grownCap w sb.size 0 el)).size, (bytesRow sb (grownCap w sb.size 0 el)).size + 1)), ?_, ?_, ?_, fun g hg => ?_, ?_⟩
        · simp only [execOp, hop, e1]
          simp [hrun]
        · exact ((Below.refl _ w).drew).alloc (Nat.le_refl _) _
        · have hh : (w.drew.alloc (.cells (bytesRow sb (grownCap w sb.size 0 el)) el ((bytesRow sb (grownCap w sb.size 0 el)).size, (bytesRow sb (grownCap w sb.size 0 el)).size + 1))).heap[w.heap.size]? = _ := heap_alloc_new w.drew _
          refine ⟨⟨.inr ⟨w.heap.size, 0, grownCap w sb.size 0 el, ?_, fun j v hj => ?_, blk_lt' hh, ?_⟩, Nat.le_refl _⟩, fun e => by cases e⟩
          · show _ = Value.slice _ (List.map (fun x : UInt8 => (x.toNat : Int)) (toL sb)).length _
            rw [List.length_map, ← size_toL]
          · unfold World.cell?
            simp only [Nat.zero_add, hh]
            have hj : (((toL sb).map fun x => (x.toNat : Int)).map (Value.int .u8))[j]? = some v := by rw [← byte_cells]; exact hj
            rw [List.map_map] at hj
            obtain ⟨hj1, hj2⟩ := List.getElem?_eq_some_iff.1 hj
            simp only [List.length_map] at hj1
            have hj3 : j < sb.data.size := by simpa [toL] using hj1
            rw [bytesRow_at sb _ j hj3, ← hj2]
            simp [toL]
          · show (List.map (fun x : UInt8 => (x.toNat : Int)) (toL sb)).length ≤ _
            rw [List.length_map, ← size_toL]
            exact hge
        · injection hg with hg; rw [← hg]; exact Nat.le_refl _
        · intro d b' ρ' hb hp
          rw [← hp]
          have : ((toL sb).map fun x : UInt8 => (x.toNat : Int)).length = sb.size := by rw [List.length_map]; exact (size_toL sb).symm
          rw [this]
          rw [hp]
          exact rep_lst rfl ⟨_, _, rfl, hge, fun e => by cases e⟩ b' ρ' hb hp
      · cases he
    · cases he
  · simp [opnds] at hl; subst hl
    have e1 := ev_rep h (evs1 hv)
    rename_i src dst x d ver n
    split at he
    · rename_i el hs hd
      split at he
      · rename_i bx hu hb
        split at he
        · rename_i xs hxs
          injection he with he; subst he
          obtain ⟨lb, hls, has⟩ := Option.bind_eq_some_iff.1 hxs
          obtain ⟨hb, hve⟩ := lst_some hb
          have hp := (e1.2 bx hb).2 hve
          have hat := (h.bx d bx hb).1
          unfold Box.at at hat
          rw [hls] at hat
          have hlb := lb_as has
          subst hlb
          refine ⟨_, rfl, ?_⟩
          have hrun := bytes_convert (P := E.P) hs hu hd hat.1
          rw [← hp] at hrun
          simp only [execOp, hop]
          simp [hrun]
        · cases he
      · cases he
    · cases he
  · simp [opnds] at hl; subst hl
    have e1 := ev_rep h (evs1 hv)
    rename_i ty _ f d off
    split at he
    · rename_i fs hu
      split at he
      · rename_i fl hf
        split at he
        · rename_i n hi
          cases hn : Nat.beq n 0 with
          | true => rw [hn] at he; cases he
          | false =>
            rw [hn] at he
            injection he with he; subst he
            have hn' : n ≠ 0 := fun e => by subst e; simp at hn
            have hf' : fs[f]? = some fl := by rw [← Array.getElem?_toList]; exact hf
            obtain ⟨i, hq, this⟩ := info_size hi
            obtain ⟨ad, hy⟩ := rep_addr e1
            rw [hy] at e1
            refine ⟨_, rep_off h (k := fl.offset) e1, ?_⟩
            simp [execOp, hop, hy, Instr.fieldAt, run_underlying hu, hf', Instr.sureAddr, fieldPlace, sizeOf, typeInfo, hq, this, hn']
        · cases he
      · cases he
    · cases he
  · simp [opnds] at hl; subst hl
    have e1 := ev_rep h (evs1 hv)
    rename_i ty _ f d ver z k off
    split at he
    · rename_i fs hu
      split at he
      · rename_i fl hf
        split at he
        · rename_i n hi
          cases hn : Nat.beq n 0 with
          | true => rw [hn] at he; cases he
          | false =>
            rw [hn] at he
            injection he with he; subst he
            have hn' : n ≠ 0 := fun e => by subst e; simp at hn
            have hf' : fs[f]? = some fl := by rw [← Array.getElem?_toList]; exact hf
            obtain ⟨i, hq, this⟩ := info_size hi
            obtain ⟨⟨ad, hy⟩, hcur⟩ := e1
            refine ⟨.pointer (some (ad.add fl.offset)), ⟨⟨_, rfl⟩, fun bx hb => ?_⟩, ?_⟩
            · obtain ⟨c1, c2⟩ := hcur bx hb
              refine ⟨c1, fun hve hrow => ?_⟩
              have := c2 hve hrow
              rw [hy] at this
              injection this with this
              injection this with this
              rw [this, Addr.add_mid]
              congr 3
              omega
            · simp [execOp, hop, hy, Instr.fieldAt, run_underlying hu, hf', Instr.sureAddr, fieldPlace, sizeOf, typeInfo, hq, this, hn']
        · cases he
      · cases he
    · cases he
  · simp [opnds] at hl; subst hl
    have e1 := rep_v (ev_rep h (evs1 hv))
    rename_i ty _ f cs
    split at he
    · rename_i fs hu
      split at he
      · rename_i fl hf
        have hf' : fs[f]? = some fl := by rw [← Array.getElem?_toList]; exact hf
        split at he
        · rename_i n hr
          injection he with he; subst he
          obtain ⟨d, hu2, hd, hi⟩ := rowTy_true hr
          refine ⟨_, rfl, ?_⟩
          obtain ⟨i, hq, this⟩ := info_size hi
          have hcs : cs.extract fl.offset (fl.offset + n) = ((cs.toList.drop fl.offset).take n).toArray := by
            apply Array.ext'
            simp [Array.toList_extract, List.extract_eq_take_drop]
          simp only [execOp, hop, e1, Instr.field]
          simp [run_underlying hu, hf', part, isAgg_run hu2, hd, asAgg, sizeOf, typeInfo, hq, this, hcs]
        · rename_i n hr
          split at he
          · rename_i x hx
            injection he with he; subst he
            obtain ⟨d, hu2, hd, hi⟩ := rowTy_false hr
            refine ⟨_, rfl, ?_⟩
            have hx' : cs[fl.offset]? = some x := by rw [← Array.getElem?_toList]; exact hx
            simp only [execOp, hop, e1, Instr.field]
            simp [run_underlying hu, hf', part, isAgg_run hu2, hd, asAgg, hx']
          · cases he
        · cases he
      · cases he
    · cases he
  · simp [opnds] at hl; subst hl
    have e1 := rep_v (ev_rep h (evs1 hv))
    rename_i _ i xs
    split at he
    · rename_i x hx
      injection he with he; subst he
      refine ⟨_, rfl, ?_⟩
      have hx' : xs[i]? = some x := by rw [← Array.getElem?_toList]; exact hx
      simp [execOp, hop, e1, Instr.extract, hx']
    · cases he
  · simp [opnds] at hl; subst hl
    obtain ⟨z, e1, e2, e3⟩ := ev_rep h (evs1 hv)
    rename_i _ i d n os
    split at he
    · rename_i x hx
      injection he with he; subst he
      refine ⟨_, rfl, ?_⟩
      simp [execOp, hop, e1, Instr.extract, hx]
    · rename_i hx
      injection he with he; subst he
      refine ⟨z, ⟨e2, e3⟩, ?_⟩
      simp [execOp, hop, e1, Instr.extract, hx]
    · cases he
  · simp [opnds] at hl; subst hl; injection he with he; subst he
    have e1 := ev_rep h (evs1 hv)
    obtain ⟨ad, hy⟩ := rep_addr e1
    exact ⟨_, e1, by simp [execOp, hop, hy]⟩
  · simp [opnds] at hl; subst hl; injection he with he; subst he
    have e1 := ev_rep h (evs1 hv)
    obtain ⟨ad, hy⟩ := e1.1
    exact ⟨_, e1, by simp [execOp, hop, hy]⟩
  · rename_i vs' c
    split at he
    · rename_i f0 fn fi ca r hcal
      split at he
      · rename_i h1 h2
        simp [opnds, hcal] at hl; subst hl
        obtain ⟨y, l', hy, hl', e3⟩ := evs_cons hv
        injection e3 with e3 e4
        subst e3; subst e4
        have e1 := rep_v (ev_rep h hy)
        obtain ⟨args, he, e2⟩ := gas_some h hl' he
        injection he with he; subst he
        have hfi : fi = #[] := Array.ext' h1
        have hca : ca = #[] := Array.ext' h2
        refine ⟨_, e2, ?_⟩
        have e5 : c.args.map a.eval = (c.args.toList.map a.eval).toArray := by
          apply Array.ext'
          rw [Array.toList_map]
        simp only [execOp, hop, resolve, hcal, e1, e5]
        simp [Deferred.ofValue, hfi, hca, invoke]
      · cases he
    · rename_i d ver n hcal
      split at he
      · rename_i e ht
        injection he with he; subst he
        simp [opnds, hcal] at hl; subst hl
        obtain ⟨x, hx⟩ := one_arg hv
        rw [hx] at hv
        obtain ⟨ad, k, e1, _, _⟩ := (ev_rep h (evs1 hv)).1
        exact ⟨_, rfl, len_run hcal hop hx e1 ht rfl⟩
      · cases he
    · rename_i d ver z po n hcal
      split at he
      · rename_i e ht
        injection he with he; subst he
        simp [opnds, hcal] at hl; subst hl
        obtain ⟨x, hx⟩ := one_arg hv
        rw [hx] at hv
        obtain ⟨ad, k, e1, _, _⟩ := (ev_rep h (evs1 hv)).1
        exact ⟨_, rfl, len_run hcal hop hx e1 ht rfl⟩
      · cases he
    · rename_i hcal
      split at he
      · rename_i e ht
        injection he with he; subst he
        simp [opnds, hcal] at hl; subst hl
        obtain ⟨x, hx⟩ := one_arg hv
        rw [hx] at hv
        have e1 := rep_v (ev_rep h (evs1 hv))
        exact ⟨_, rfl, len_run hcal hop hx e1 ht rfl⟩
      · cases he
    · rename_i sb hcal
      split at he
      · rename_i ht
        injection he with he; subst he
        simp [opnds, hcal] at hl; subst hl
        obtain ⟨x, hx⟩ := one_arg hv
        rw [hx] at hv
        have e1 := rep_v (ev_rep h (evs1 hv))
        refine ⟨_, rfl, ?_⟩
        have e5 : c.args.map a.eval = #[.string sb] := by
          apply Array.ext'
          rw [Array.toList_map, hx]
          simp [e1]
        cases ha : c.argTypes.toList[0]? with
        | none => rw [ha] at ht; cases ht
        | some ty =>
          rw [ha] at ht
          have hu : E.P.underlying ty = some .string := ht
          have ha' : c.argTypes[0]? = some ty := by rw [← Array.getElem?_toList]; exact ha
          simp [execOp, hop, resolve, hcal, e5, invoke, builtin, Builtin.len_, ha', run_underlying hu, goInt, size_toL]
      · cases he
    · rename_i x y hcal
      split at he
      · rename_i t t' hts
        split at he
        · rename_i el hu
          split at he
          · rename_i sh i hs hi
            have htt := Nat.eq_of_beq_eq_true (cond_some he).1
            replace he := (cond_some he).2
            subst htt
            simp [opnds, hcal] at hl; subst hl
            obtain ⟨ox, oy, hxy, hox, hoy⟩ := two_args hv
            have hrx := ev_rep h hox
            have hry := ev_rep h hoy
            have hpos : 1 ≤ sh.length := by obtain ⟨_, _, _, _, _, hp, _⟩ := shOf_ok hs; exact hp
            have e5 : c.args.map a.eval = #[a.eval ox, a.eval oy] := by
              apply Array.ext'
              rw [Array.toList_map, hxy]
              rfl
            have e6 : c.argTypes = #[t, t] := Array.ext' hts
            have hex : ∀ {v : Value} {w' : World}, (Builtin.append_ #[t, t] o.type #[a.eval ox, a.eval oy]).run E.P w = .ok v w' → (execOp a.eval o).run E.P w = .ok (.value v) w' := by
              intro v w' hr
              simp [execOp, hop, resolve, hcal, e5, e6, invoke, builtin, hr]
            split at he
            rename_i ys hys
            unfold kapnd at he
            split at he
            · obtain ⟨hc, he⟩ := cond_some he
              injection he with he; subst he
              simp only [Bool.and_eq_true, decide_eq_true_eq] at hc
              obtain ⟨⟨hb1, _⟩, hb⟩ := hc
              have hb1 := Nat.le_of_ble_eq_true hb1
              have hy := newRows_some h hry hys
              have hx : a.eval ox = .slice none 0 0 := hrx
              obtain ⟨v', w', hr, hown, hgr, hob⟩ := append_run (P := E.P) (ty := o.type) w hu hs hi hb1 (v := .slice none 0 0) (xs := []) (World.ownsRow_nil w 0 el sh.length) hy (by simpa using hb)
              rw [List.nil_append] at hown
              refine ⟨v', v', w', hex (by rw [hx]; exact hr), (Below.refl _ w).grown hgr (Nat.le_refl _) (fun k hk => by cases hk), box_own (lb := ⟨sh, ys⟩) hown hpos, fun g hg => ?_, fun d b' ρ' hbb hp => rep_lst rfl (lat_isSl (lb := ⟨sh, ys⟩) (own_at hown hpos)) b' ρ' hbb hp⟩
              rcases hob g hg with h1 | h1
              · cases h1
              · exact h1
            · rename_i d ver n
              split at he
              · rename_i bx hb
                split at he
                · rename_i xs hxs
                  obtain ⟨hc, he⟩ := cond_some he
                  injection he with he; subst he
                  simp only [Bool.and_eq_true, decide_eq_true_eq, Bool.not_eq_true'] at hc
                  obtain ⟨⟨⟨⟨hb1, _⟩, hty⟩, hro⟩, hbd⟩ := hc
                  have hb1 := Nat.le_of_ble_eq_true hb1
                  have hty := Nat.eq_of_beq_eq_true hty
                  have hy := newRows_some h hry hys
                  obtain ⟨hb, hve⟩ := lst_some hb
                  obtain ⟨lb, hls, has⟩ := Option.bind_eq_some_iff.1 hxs
                  have hlb := lb_as has
                  subst hlb
                  have hx : a.eval ox = ρ d := (hrx.2 bx hb).2 hve
                  have hat := (h.bx d bx hb).1
                  unfold Box.at at hat
                  rw [hls] at hat
                  have hown0 := hat.2 hro
                  rw [hty] at hown0
                  obtain ⟨v', w', hr, hown, hgr, hob⟩ := append_run (P := E.P) (ty := o.type) w hu hs hi hb1 (v := ρ d) (xs := xs) hown0 hy hbd
                  exact ⟨bx, v', w', hb, hro, rfl, hex (by rw [hx]; exact hr), hgr, box_own (lb := ⟨sh, xs ++ ys⟩) hown hpos, hob, by rw [← hve], by simp, lat_isSl (lb := ⟨sh, xs ++ ys⟩) (own_at hown hpos)⟩
                · cases he
              · cases he
            · cases he
            · cases he
          · cases he
        · cases he
      · cases he
    · rename_i k x k' y hcal
      injection he with he; subst he
      simp [opnds, hcal] at hl; subst hl
      have e2 := vals_eval h (xs := [.int k x, .int k' y]) hv rfl
      refine ⟨_, rfl, ?_⟩
      have e5 : c.args.map a.eval = #[.int k x, .int k' y] := by
        apply Array.ext'
        rw [Array.toList_map, e2]
      simp [execOp, hop, resolve, hcal, e5, invoke, builtin, Builtin.max_, Builtin.max2]
    · rename_i k x k' y hcal
      injection he with he; subst he
      simp [opnds, hcal] at hl; subst hl
      have e2 := vals_eval h (xs := [.int k x, .int k' y]) hv rfl
      refine ⟨_, rfl, ?_⟩
      have e5 : c.args.map a.eval = #[.int k x, .int k' y] := by
        apply Array.ext'
        rw [Array.toList_map, e2]
      simp [execOp, hop, resolve, hcal, e5, invoke, builtin, Builtin.min_, Builtin.min2]
    · cases he
  · cases he
end Go.Sx
