/- A part of an evaluator of the model's code, and of the proof that what it answers is what a call does. -/
import Derived.Test.YtdjagmfcfmeopaaDoorY3
namespace Go.Sx
open Go.RowKit
variable {E : Env}
def EffOk (E : Env) (ρ : Nat → Value) (s : St) (o : Oper) (a : Act) (w : World) : Eff → Prop
  | .pure x => ∃ y, x.rep E s.b ρ y ∧ (execOp a.eval o).run E.P w = .ok (.value y) w
  | .alloc bx m => ∃ y p w', (execOp a.eval o).run E.P w = .ok (.value y) w' ∧ Below w.heap.size w w' ∧ bx.at w' p ∧ (∀ g, ob p = some g → w.heap.size ≤ g) ∧
      ∀ (d : Nat) (b' : List (Option Box)) (ρ' : Nat → Value), (∀ bx', b'[d]? = some (some bx') → bx' = bx) → ρ' d = p → (mkA d m).rep E b' ρ' y
  | .store d off vs bx' => ∃ bx g, s.b[d]? = some (some bx) ∧ bx.ro = false ∧ bx'.ro = false ∧ ob (ρ d) = some g ∧ (execOp a.eval o).run E.P w = .ok .skip (w.setCells g off vs) ∧
      bx'.at (w.setCells g off vs) (ρ d) ∧ bx'.ver = bx.ver ∧ (bx'.ls = none → bx.ls = none) ∧ rowN bx' = rowN bx ∧ lenB bx' = lenB bx
  | .grow d bx' n => ∃ bx y w', s.b[d]? = some (some bx) ∧ bx.ro = false ∧ bx'.ro = false ∧ (execOp a.eval o).run E.P w = .ok (.value y) w' ∧ w.grownBy w' (ob (ρ d)) ∧ bx'.at w' y ∧
      (∀ g, ob y = some g → ob (ρ d) = some g ∨ w.heap.size ≤ g) ∧ bx'.ver = bx.ver + 1 ∧ bx'.ls ≠ none ∧ IsSl n y
  | .call f args => ∃ ys, Reps w args ys ∧ (execOp a.eval o).run E.P w = (callFunc f ys.toArray).run E.P w
theorem lat_isSl {w : World} {p : Value} {lb : LB} (h : LAt w p lb) : IsSl lb.xs.length p := by
  rcases h.1 with ⟨h1, h2⟩ | ⟨g, o, c, h1, _, _, h4⟩
  · exact ⟨none, 0, by rw [h1, h2]; rfl, by rw [h2]; exact Nat.le_refl _, fun _ => ⟨by rw [h2]; rfl, rfl⟩⟩
  · exact ⟨some _, c, h1, h4, fun e => by cases e⟩
theorem own_at {w : World} {e : TypeId} {p : Value} {lb : LB} (h : w.ownsRow 0 e lb.sh.length p lb.xs.length lb.cells) (hp : 1 ≤ lb.sh.length) : LAt w p lb := by
  refine ⟨?_, hp⟩
  rcases h.2 with ⟨h1, h2⟩ | ⟨g, cap, cur, h1, _, h3, h4, _, _, h7⟩
  · exact .inl ⟨h1, List.eq_nil_of_length_eq_zero h2⟩
  · refine .inr ⟨g, 0, cap, h1, fun j v hj => ?_, blk_lt' h3, h4⟩
    have := h.cells (g := g) (by rw [h1]; rfl) j v hj
    rwa [Addr.add_mid] at this
theorem box_own {w : World} {e : TypeId} {p : Value} {lb : LB} {ver : Nat} (h : w.ownsRow 0 e lb.sh.length p lb.xs.length lb.cells) (hp : 1 ≤ lb.sh.length) : (Box.mk e [] false (some lb) ver).at w p :=
  ⟨own_at h hp, fun _ => h⟩
theorem own_made {w : World} {e : TypeId} {lb : LB} (hm : lb.xs.length ≤ maxLen) :
    (w.alloc (.cells lb.cells.toArray e (0, 0))).ownsRow 0 e lb.sh.length (.slice (some ⟨w.heap.size, 0, none⟩) lb.xs.length lb.xs.length) lb.xs.length lb.cells := by
  refine ⟨cells_len lb, .inr ⟨w.heap.size, lb.xs.length, lb.cells.toArray, rfl, Nat.zero_le _, heap_alloc_new w _, Nat.le_refl _, hm, by simp [cells_len], ?_⟩⟩
  have := cells_len lb
  rw [List.take_of_length_le (by simp [cells_len])]
theorem rep_lst {E : Env} {d n : Nat} {bx : Box} {p : Value} (hv : bx.ver = 0) (hs : IsSl n p) (b' : List (Option Box)) (ρ' : Nat → Value) (hb : ∀ bx', b'[d]? = some (some bx') → bx' = bx) (hp : ρ' d = p) : (mkA d (.lst n)).rep E b' ρ' p :=
  ⟨hs, fun bx' hb' => by rw [hb bx' hb', hv]; exact ⟨Nat.le_refl _, fun _ => hp.symm⟩⟩
theorem rep_var {E : Env} {d g : Nat} {bx : Box} (b' : List (Option Box)) (ρ' : Nat → Value) (hb : ∀ bx', b'[d]? = some (some bx') → bx' = bx) (hp : ρ' d = .pointer (some ⟨g, 0, none⟩)) : (mkA d .var).rep E b' ρ' (.pointer (some ⟨g, 0, none⟩)) :=
  ⟨⟨_, rfl⟩, fun bx' hb' _ => by rw [hp]; rfl⟩
theorem range_new (w : World) (cs : List Value) (ty : TypeId) : (w.alloc (.cells cs.toArray ty (0, 0))).rangeAt w.heap.size 0 cs := fun j v hj => by
  have h : (w.alloc (.cells cs.toArray ty (0, 0))).heap[w.heap.size]? = some (.cells cs.toArray ty (0, 0)) := heap_alloc_new w _
  unfold World.cell?
  simp only [Nat.zero_add, h]
  simpa using hj
theorem box_new (w : World) (cs : List Value) (ty : TypeId) (ver : Nat) : (Box.mk ty cs false none ver).at (w.alloc (.cells cs.toArray ty (0, 0))) (.pointer (some ⟨w.heap.size, 0, none⟩)) :=
  ⟨⟨_, _, rfl, range_new w cs ty, by simp⟩, fun _ => ⟨_, rfl, heap_alloc_new w _⟩⟩
theorem below_alloc (w : World) (o : Obj) : Below w.heap.size w (w.alloc o) := (Below.refl _ w).alloc (Nat.le_refl _) o
theorem maxLen_ge {n : Nat} (h : n ≤ 140737488355328) : n ≤ maxLen := by unfold maxLen; omega
theorem gas_some {w0 w : World} {ρ : Nat → Value} {s : St} {a : Act} {R : Type} (h : Sim E w0 ρ s a w) : ∀ {l : List Operand} {vs : List AV} {ts : List TypeId} {K : List GA → Option R} {r : R}, evs s.t l = some vs → gas E.P s.b vs ts K = some r →
    ∃ args, K args = some r ∧ Reps w args (l.map a.eval)
  | [], vs, ts, K, r, h1, h2 => by
    simp [evs] at h1
    subst h1
    exact ⟨[], by simpa [gas] using h2, .nil⟩
  | x :: l, vs, ts, K, r, h1, h2 => by
    obtain ⟨y, l', hy, hl, rfl⟩ := evs_cons h1
    have hrep := ev_rep h hy
    have nxt : ∀ {g : GA} {ts : List TypeId}, g.rep w (a.eval x) → gas E.P s.b l' ts (fun l => K (g :: l)) = some r → ∃ args, K args = some r ∧ Reps w args ((x :: l).map a.eval) := by
      intro g ts hg hk
      obtain ⟨args, h3, h4⟩ := gas_some h hl hk
      exact ⟨g :: args, h3, .cons hg h4⟩
    unfold gas at h2
    split at h2
    · rename_i e; cases e
    · rename_i z r' t ts' e
      injection e with e1 e2
      subst e1; subst e2
      exact nxt (g := .v z) hrep h2
    · rename_i d off r' t ts' e
      injection e with e1 e2
      subst e1; subst e2
      split at h2
      · rename_i e' hu
        split at h2
        · rename_i i bx hi hb
          cases hc : (Nat.ble (off + i.size) bx.cs.length && bx.ls.isNone) with
          | false => rw [hc] at h2; cases h2
          | true =>
            rw [hc] at h2
            simp only [Bool.and_eq_true, Option.isNone_iff_eq_none] at hc
            obtain ⟨g, o, _, h4, h5, h6⟩ := h.range hrep hb hc.2
            exact nxt (g := .p e' ((bx.cs.drop off).take i.size)) ⟨g, o + off, h4, range_drop h5 _ _, h6⟩ h2
        · cases h2
      · cases h2
    · rename_i d ver z k off r' t ts' e
      injection e with e1 e2
      subst e1; subst e2
      split at h2
      · rename_i e' hu
        split at h2
        · rename_i i bx hi hb
          split at h2
          · rename_i lb hlb
            cases hc : (Nat.beq z lb.sh.length && Nat.ble (off + i.size) lb.sh.length) with
            | false => rw [hc] at h2; cases h2
            | true =>
              rw [hc] at h2
              simp only [Bool.and_eq_true] at hc
              obtain ⟨x', hx', h2⟩ := Option.bind_eq_some_iff.1 h2
              obtain ⟨g, o, _, _, h4, h5, _, h6⟩ := h.elem hrep hb hlb (Nat.eq_of_beq_eq_true hc.1) hx'
              exact nxt (g := .p e' (((encR lb.sh x').drop off).take i.size)) ⟨g, _, h4, by rw [← Nat.add_assoc]; exact range_drop h5 _ _, h6⟩ h2
          · cases h2
        · cases h2
      · cases h2
    · rename_i d ver n r' t ts' e
      injection e with e1 e2
      subst e1; subst e2
      split at h2
      · rename_i bx hb
        split at h2
        · rename_i lb hlb
          obtain ⟨hb, hv⟩ := lst_some hb
          have hat := (h.bx _ _ hb).1
          unfold Box.at at hat
          rw [hlb] at hat
          have := (hrep.2 bx hb).2 hv
          exact nxt (g := .l lb) (by rw [this]; exact hat.1) h2
        · cases h2
      · cases h2
    · rename_i d ver z o n r' t ts' e
      injection e with e1 e2
      subst e1; subst e2
      split at h2
      · rename_i bx hb
        split at h2
        · rename_i lb hlb
          obtain ⟨hb, hv⟩ := lst_some hb
          have hat := (h.bx _ _ hb).1
          have hlt := hat.lt
          unfold Box.at at hat
          rw [hlb] at hat
          cases hz : Nat.beq z lb.sh.length with
          | false => rw [hz] at h2; cases h2
          | true =>
          rw [hz] at h2
          simp only [cond_true] at h2
          have hz := Nat.eq_of_beq_eq_true hz
          subst hz
          obtain ⟨h3, h4⟩ := (hrep.2 bx hb).2 hv
          simp only [lenB, hlb] at h3
          have h4 := h4 (by simp [rowN, hlb])
          refine nxt (g := .l ⟨lb.sh, (lb.xs.drop o).take n⟩) ?_ h2
          have hlen : ((lb.xs.drop o).take n).length = n := by rw [List.length_take, List.length_drop]; omega
          refine ⟨?_, hat.1.2⟩
          rcases h4 with h4 | ⟨o', c, g, h5, h6, h7⟩
          · refine .inl ⟨h4, ?_⟩
            obtain ⟨ad, c, h8, _, _⟩ := hrep.1
            rw [h4] at h8
            injection h8 with _ h8 _
            exact List.eq_nil_of_length_eq_zero (by rw [hlen, ← h8])
          · refine .inr ⟨g, o', c, by rw [hlen]; exact h6, ?_, hlt g h5, ?_⟩
            · rcases h7 with h7 | h7
              · intro j v hj
                have hl0 : (LB.mk lb.sh ((lb.xs.drop o).take n)).cells.length = 0 := by rw [cells_len]; show ((lb.xs.drop o).take n).length * lb.sh.length = 0; rw [hlen, h7, Nat.zero_mul]
                rw [List.eq_nil_of_length_eq_zero hl0] at hj
                simp at hj
              · rcases hat.1.1 with ⟨h8, _⟩ | ⟨g', o2, c2, h8, h9, _, _⟩
                · rw [h8] at h5; cases h5
                · rw [h8] at h5 h7
                  injection h5 with h5
                  subst h5
                  intro j v hj
                  have hjl : j < n * lb.sh.length := by
                    have := (List.getElem?_eq_some_iff.1 hj).1
                    rw [cells_len] at this
                    simpa only [hlen] using this
                  have hpos := hat.1.2
                  have hq : j = (j / lb.sh.length) * lb.sh.length + j % lb.sh.length := by rw [Nat.mul_comm]; exact (Nat.div_add_mod j lb.sh.length).symm
                  have hm : j % lb.sh.length < lb.sh.length := Nat.mod_lt _ hpos
                  have hql : j / lb.sh.length < n := (Nat.div_lt_iff_lt_mul hpos).2 hjl
                  have hsome : ((lb.xs.drop o).take n)[j / lb.sh.length]? = some (lb.xs[o + j / lb.sh.length]'(by omega)) := by
                    rw [List.getElem?_take_of_lt hql, List.getElem?_drop, List.getElem?_eq_getElem]
                  have e1 := lb_get (lb := ⟨lb.sh, (lb.xs.drop o).take n⟩) hsome hm
                  have e2 := lb_get (lb := lb) (k := o + j / lb.sh.length) (List.getElem?_eq_getElem (by omega)) hm
                  simp only [← hq] at e1
                  rw [e1, ← e2] at hj
                  have := h9 _ v hj
                  rw [h7]
                  have e3 : o2 + ((o + j / lb.sh.length) * lb.sh.length + j % lb.sh.length) = oo (.slice (some ⟨g', o2, none⟩) lb.xs.length c2) + o * lb.sh.length + j := by
                    simp only [oo, Nat.add_mul]
                    omega
                  rw [← e3]
                  exact this
            · obtain ⟨ad, c', h8, h9, _⟩ := hrep.1
              rw [h6] at h8
              injection h8 with _ _ h8
              rw [hlen, h8]
              exact h9
        · cases h2
      · cases h2
    · cases h2
theorem newRows_some {w0 w : World} {ρ : Nat → Value} {s : St} {a : Act} (h : Sim E w0 ρ s a w) {sh : List Ck} {y : AV} {v : Value} {ys : List (Sh sh)} (hy : y.rep E s.b ρ v) (hn : newRows sh s.b y = some ys) : LAt w v ⟨sh, ys⟩ := by
  unfold newRows at hn
  split at hn
  · rename_i d ver n
    split at hn
    · rename_i bx hb
      split at hn
      · rename_i lb hlb
        obtain ⟨hb, hv⟩ := lst_some hb
        have hat := (h.bx _ _ hb).1
        unfold Box.at at hat
        rw [hlb] at hat
        rw [(hy.2 bx hb).2 hv, ← lb_as hn]
        exact hat.1
      · cases hn
    · cases hn
  · cases hn
theorem append_none {P : Program} (w : World) {t ty e : TypeId} {i : TypeInfo} (ht : P.underlying t = some (.slice e)) (hi : P.info? e = some i) (base : Option Addr) (n c : Nat) (hc : n ≤ c) :
    (Builtin.append_ #[t, t] ty #[.slice base n c, .slice none 0 0]).run P w = .ok (.slice base n c) w := by
  cases base <;> simp [Builtin.append_, run_underlying ht, sizeOf, typeInfo, hi, Builtin.lenOf, Builtin.firstCells, hc, storeCells]
theorem append_run {P : Program} (w : World) {t ty e : TypeId} {i : TypeInfo} {sh : List Ck} (ht : P.underlying t = some (.slice e)) (hs : shOf P e = some sh) (hi : P.info? e = some i) (hb1 : 1 ≤ i.bytes)
    {v y : Value} {xs ys : List (Sh sh)} (hown : w.ownsRow 0 e sh.length v xs.length (LB.mk sh xs).cells) (hy : LAt w y ⟨sh, ys⟩) (hb : (xs.length + ys.length) * i.bytes ≤ 140737488355328) :
    ∃ v' w', (Builtin.append_ #[t, t] ty #[v, y]).run P w = .ok v' w' ∧ w'.ownsRow 0 e sh.length v' (xs ++ ys).length (LB.mk sh (xs ++ ys)).cells ∧ w.grownBy w' (ob v) ∧ (∀ g, ob v' = some g → ob v = some g ∨ w.heap.size ≤ g) := by
  obtain ⟨i', z, hi', hz, hsz, hpos, hk⟩ := shOf_ok hs
  rw [hi] at hi'
  injection hi' with hi'
  subst hi'
  have hcells : (LB.mk sh (xs ++ ys)).cells = (LB.mk sh xs).cells ++ (LB.mk sh ys).cells := by simp [LB.cells]
  have hobv : ∀ v : Value, v.ownBlock = ob v ∨ (v.ownBlock = none ∧ ∀ a n c, v ≠ .slice a n c) := by
    intro v
    cases v with
    | slice a n c => cases a <;> exact .inl rfl
    | _ => exact .inr ⟨rfl, by simp⟩
  have hsl : ∃ b n c, v = .slice b n c := by
    rcases hown.2 with ⟨h, _⟩ | ⟨g, c, _, h, _⟩ <;> exact ⟨_, _, _, h⟩
  have hov : v.ownBlock = ob v := by
    obtain ⟨b, n, c, rfl⟩ := hsl
    cases b <;> rfl
  rcases hy.1 with ⟨h1, h2⟩ | ⟨g, o, c, h1, h2, h3, h4⟩
  · have h2 : ys = [] := h2
    subst h2
    subst h1
    obtain ⟨b, n, c, rfl⟩ := hsl
    have hnc : n ≤ c := by
      rcases hown.2 with ⟨h, _⟩ | ⟨g, c', _, h, _, _, h5, _⟩
      · injection h with _ h6 h7; omega
      · injection h with _ h6 h7; omega
    refine ⟨_, w, append_none w ht hi b n c hnc, by simpa using hown, ⟨rfl, rfl, rfl, Nat.le_refl _, fun _ _ _ => rfl⟩, fun g hg => .inl hg⟩
  · have hmul : xs.length + ys.length ≤ (xs.length + ys.length) * i.bytes := Nat.le_mul_of_pos_right _ hb1
    obtain ⟨v', w', hr, h5, h6, _, h8⟩ := run_append_own_at (P := P) w 0 t ty e i z sh.length i.bytes ht hi hz hsz rfl (by rw [vcells_eq, List.size_toArray]; exact kindsOf_len hk) hpos v xs.length _ hown
      ⟨g, o, none⟩ ys.length c (LB.mk sh ys).cells (cells_len ⟨sh, ys⟩) (fun j u hj => by rw [Addr.add_mid]; exact h2 j u hj) (cells_ones ⟨sh, ys⟩) (maxLen_ge (by omega)) hb (Nat.zero_le _)
    refine ⟨v', w', by rw [h1]; exact hr, by rw [hcells, List.length_append]; exact h5, by rw [← hov]; exact h6, fun g' hg' => ?_⟩
    have hov' : v'.ownBlock = ob v' := by
      rcases h5.2 with ⟨h, _⟩ | ⟨_, _, _, h, _⟩ <;> rw [h] <;> rfl
    rw [hov', hov] at h8
    rcases h8 with h8 | h8
    · exact .inl (by rw [← h8]; exact hg')
    · rw [hg'] at h8
      injection h8 with h8
      exact .inr (by omega)
theorem bounds_some {R : Type} {t : List AV} {lo hi : Option Operand} {n : Nat} {vs : List AV} {K : Int → Int → Option R} {r : R} (h : bounds lo hi n vs K = some r) (he : evs t (oneO lo ++ oneO hi) = some vs) :
    ∃ l k : Int, K l k = some r ∧ 0 ≤ l ∧ l ≤ k ∧ k ≤ n ∧ ((lo = none ∧ l = 0) ∨ ∃ x q, lo = some x ∧ ev t x = some (.v (.int q l))) ∧ ((hi = none ∧ k = n) ∨ ∃ x q, hi = some x ∧ ev t x = some (.v (.int q k))) := by
  unfold bounds at h
  split at h
  · exact ⟨0, n, h, by omega, by omega, by omega, .inl ⟨rfl, rfl⟩, .inl ⟨rfl, rfl⟩⟩
  · rename_i x q l
    cases hc : (decide (0 ≤ l) && decide (l ≤ (n : Int))) with
    | false => rw [hc] at h; cases h
    | true =>
      rw [hc] at h
      simp only [Bool.and_eq_true, decide_eq_true_eq] at hc
      exact ⟨l, n, h, hc.1, hc.2, by omega, .inr ⟨x, q, rfl, evs1 he⟩, .inl ⟨rfl, rfl⟩⟩
  · rename_i x q k
    cases hc : (decide (0 ≤ k) && decide (k ≤ (n : Int))) with
    | false => rw [hc] at h; cases h
    | true =>
      rw [hc] at h
      simp only [Bool.and_eq_true, decide_eq_true_eq] at hc
      exact ⟨0, k, h, by omega, hc.1, hc.2, .inl ⟨rfl, rfl⟩, .inr ⟨x, q, rfl, evs1 he⟩⟩
  · rename_i x y q l q' k
    cases hc : (decide (0 ≤ l) && decide (l ≤ k) && decide (k ≤ (n : Int))) with
    | false => rw [hc] at h; cases h
    | true =>
      rw [hc] at h
      simp only [Bool.and_eq_true, decide_eq_true_eq] at hc
      obtain ⟨h1, h2⟩ := evs2 he
      exact ⟨l, k, h, hc.1.1, hc.1.2, hc.2, .inr ⟨x, q, rfl, h1⟩, .inr ⟨y, q', rfl, h2⟩⟩
  · cases h
theorem sliceBounds_run {P : Program} {w0 w : World} {ρ : Nat → Value} {s : St} {a : Act} (h : Sim E w0 ρ s a w) {lo hi : Option Operand} {l k : Int} {n c : Nat} {sl : Bool} (h0 : 0 ≤ l) (h1 : l ≤ k) (h2 : k ≤ n) (hc : n ≤ c)
    (hl : (lo = none ∧ l = 0) ∨ ∃ x q, lo = some x ∧ ev s.t x = some (.v (.int q l))) (hk : (hi = none ∧ k = n) ∨ ∃ x q, hi = some x ∧ ev s.t x = some (.v (.int q k))) :
    (Instr.sliceBounds sl n c (lo.map a.eval) (hi.map a.eval) none).run P w = .ok (l.toNat, k.toNat, c) w := by
  have hck : k ≤ (c : Int) := by omega
  have hk0 : 0 ≤ k := by omega
  have hm : ((k.toNat : Nat) : Int) = k := by omega
  rcases hl with ⟨rfl, rfl⟩ | ⟨x, q, rfl, hx⟩ <;> rcases hk with ⟨rfl, rfl⟩ | ⟨y, q', rfl, hy⟩
  · simp [Instr.sliceBounds]
  · have e2 := rep_v (ev_rep h hy)
    simp [Instr.sliceBounds, Instr.sliceBound, e2, asIntOf, hk0, hck]
  · have e1 := rep_v (ev_rep h hx)
    simp [Instr.sliceBounds, Instr.sliceBound, e1, asIntOf, h0, h1]
  · have e1 := rep_v (ev_rep h hx)
    have e2 := rep_v (ev_rep h hy)
    simp [Instr.sliceBounds, Instr.sliceBound, e1, e2, asIntOf, h0, hk0, hck, hm, h1]
theorem cut_ofL (s : ByteArray) {l k : Int} (h0 : 0 ≤ l) (h1 : l ≤ k) : s.extract l.toNat k.toNat = ofL (cut (toL s) l k) := by
  apply ByteArray.ext
  rw [ByteArray.data_extract]
  apply Array.ext'
  simp only [ofL, cut, toL, Array.toList_extract, List.extract_eq_take_drop]
  rw [List.drop_take]
theorem getL {s : ByteArray} {i : Int} (h0 : 0 ≤ i) (h1 : i < ((toL s).length : Int)) : s[i.toNat]? = some ((toL s).getD i.toNat 0) := by
  have hlt : i.toNat < (toL s).length := by omega
  have hsz : i.toNat < s.size := by rw [size_toL]; exact hlt
  rw [getElem?_pos s i.toNat hsz]
  congr 1
  rw [List.getD_eq_getElem?_getD, List.getElem?_eq_getElem hlt]
  simp [toL, ByteArray.getElem_eq_getElem_data]
end Go.Sx
