/- A part of an evaluator of the model's code, and of the proof that what it answers is what a call does. -/
import Derived.Test.YtdjagmfcfmeopaaDoorY1
import Derived.Laws.AppendOwn
namespace Go.Sx
open Go.RowKit
variable {E : Env}
def ob : Value → Option Nat
  | .pointer (some a) => some a.block
  | .slice (some a) _ _ => some a.block
  | _ => none
def gb (v : Value) : Nat := (ob v).getD 0
def oo : Value → Nat
  | .pointer (some a) => a.off
  | .slice (some a) _ _ => a.off
  | _ => 0
def IsSl (n : Nat) (y : Value) : Prop := ∃ a c, y = .slice a n c ∧ n ≤ c ∧ (a = none → n = 0 ∧ c = 0)
def IsPt (y : Value) : Prop := ∃ a, y = .pointer (some a)
def rowN (bx : Box) : Nat := match bx.ls with
  | some lb => lb.sh.length
  | none => 0
def lenB (bx : Box) : Nat := match bx.ls with
  | some lb => lb.xs.length
  | none => 0
def Cur (b : List (Option Box)) (d ver : Nat) (p : Box → Prop) : Prop := ∀ bx, b[d]? = some (some bx) → ver ≤ bx.ver ∧ (bx.ver = ver → p bx)
def AV.rep (E : Env) (b : List (Option Box)) (ρ : Nat → Value) : AV → Value → Prop
  | .j, _ => True
  | .v x, y => y = x
  | .p d off, y => IsPt y ∧ ∀ bx, b[d]? = some (some bx) → bx.ls = none → y = .pointer (some ⟨gb (ρ d), oo (ρ d) + off, none⟩)
  | .l d ver n, y => IsSl n y ∧ Cur b d ver fun _ => y = ρ d
  | .w d ver z o n, y => IsSl n y ∧ Cur b d ver fun bx => o + n ≤ lenB bx ∧ (rowN bx = z → (y = .slice none 0 0 ∨ ∃ o' c gl, ob (ρ d) = some gl ∧ y = .slice (some ⟨gl, o', none⟩) n c ∧ (n = 0 ∨ o' = oo (ρ d) + o * z)))
  | .e d ver z k off, y => IsPt y ∧ Cur b d ver fun bx => rowN bx = z → y = .pointer (some ⟨gb (ρ d), oo (ρ d) + (k * z + off), none⟩)
  | .t d n vs, y => ∃ z, y = .tuple (vs.map fun o => o.getD z).toArray ∧ IsSl n z ∧ Cur b d 0 fun _ => z = ρ d
  | .g gl off, y => y = .pointer (some ⟨gl, off, none⟩)
  | .a gl base ty _ k, y => ∃ i, E.P.info? ty = some i ∧ y = .pointer (some ⟨gl, base + k * i.size, none⟩)
def PAt (w : World) (p : Value) (cs : List Value) : Prop := ∃ g o, p = .pointer (some ⟨g, o, none⟩) ∧ w.rangeAt g o cs ∧ g < w.heap.size
def LAt (w : World) (p : Value) (lb : LB) : Prop :=
  ((p = .slice none 0 0 ∧ lb.xs = []) ∨ ∃ g o c, p = .slice (some ⟨g, o, none⟩) lb.xs.length c ∧ w.rangeAt g o lb.cells ∧ g < w.heap.size ∧ lb.xs.length ≤ c) ∧ 1 ≤ lb.sh.length
def Box.at (w : World) (p : Value) (bx : Box) : Prop :=
  match bx.ls with
  | none => PAt w p bx.cs ∧ (bx.ro = false → ∃ g, p = .pointer (some ⟨g, 0, none⟩) ∧ w.heap[g]? = some (.cells bx.cs.toArray bx.ty (0, 0)))
  | some lb => LAt w p lb ∧ (bx.ro = false → w.ownsRow 0 bx.ty lb.sh.length p lb.xs.length lb.cells)
structure Sim (E : Env) (w0 : World) (ρ : Nat → Value) (s : St) (a : Act) (w : World) : Prop where
  df : a.defers = []
  sz : a.tmps.size = s.t.length
  tm : ∀ (i : Nat) (x : AV), s.t[i]? = some x → x.rep E s.b ρ (a.tmps.getD i undef)
  bx : ∀ (d : Nat) (b : Box), s.b[d]? = some (some b) → b.at w (ρ d) ∧ (b.ro = false → ∀ g, ob (ρ d) = some g → w0.heap.size ≤ g)
  inj : ∀ (d d' : Nat) (b b' : Box) (g : Nat), s.b[d]? = some (some b) → s.b[d']? = some (some b') → b.ro = false → ob (ρ d) = some g → ob (ρ d') = some g → d = d'
  bl : Below w0.heap.size w0 w
  iv : E.I w0
def GA.rep (w : World) : GA → Value → Prop
  | .v x, y => y = x
  | .p _ cs, y => PAt w y cs
  | .l lb, y => LAt w y lb
def RA.rep (w : World) (base : Nat) : RA → Value → Prop
  | .v x, y => y = x
  | .l ty lb, y => LAt w y lb ∧ w.ownsRow 0 ty lb.sh.length y lb.xs.length lb.cells ∧ ∀ g, ob y = some g → base ≤ g
inductive Reps (w : World) : List GA → List Value → Prop
  | nil : Reps w [] []
  | cons {g : GA} {y : Value} {gs : List GA} {ys : List Value} : g.rep w y → Reps w gs ys → Reps w (g :: gs) (y :: ys)
inductive RReps (w : World) (base : Nat) : List RA → List Value → Prop
  | nil : RReps w base [] []
  | cons {g : RA} {y : Value} {gs : List RA} {ys : List Value} : g.rep w base y → RReps w base gs ys → RReps w base (g :: gs) (y :: ys)
def CallsV (E : Env) (f : FuncId) (args : List GA) (rs : List RA) : Prop :=
  ((∃ fn, E.P.funcs[f]? = some fn ∧ (fn.name == "runtime.NumGoroutine") = false ∧ fn.body.isSome = true) ∧
    ∀ w ys, E.I w → Reps w args ys → Calls E.P f ys.toArray w fun e w' => ∃ zs, RReps w' w.heap.size rs zs ∧ e = .returned (resV zs) ∧ Below w.heap.size w w') ∨
  ∃ vs, ras rs = some vs ∧ ∀ w ys, E.I w → Reps w args ys → (callFunc f ys.toArray).run E.P w = .ok (.value (resV vs)) w
def NoPtr (d : Nat) (s : St) : Prop := ∀ (i : Nat) (x : AV), s.t[i]? = some x → x.to ≠ some d
theorem Sim.inv {w0 w : World} {ρ : Nat → Value} {s : St} {a : Act} (h : Sim E w0 ρ s a w) : E.I w := E.hI _ _ h.iv h.bl
theorem blk_lt' {w : World} {g : Nat} {o : Obj} (h : w.heap[g]? = some o) : g < w.heap.size := (Array.getElem?_eq_some_iff.1 h).1
theorem encR_len : ∀ (sh : List Ck) (x : Sh sh), (encR sh x).length = sh.length
  | [], _ => rfl
  | [_], _ => rfl
  | _ :: d :: r, x => by simp [encR, encR_len (d :: r) x.2]
theorem ofL_toL (s : ByteArray) : ofL (toL s) = s := rfl
theorem ck_dec {c : Ck} {v : Value} {a : c.T} (h : c.dec v = some a) : v = c.enc a := by
  cases c with
  | i k =>
    cases v <;> simp only [Ck.dec] at h <;> try (cases h; done)
    rename_i k' n
    cases hk : decide (k' = k) with
    | false => rw [hk] at h; cases h
    | true => rw [hk] at h; injection h with h; subst h; rw [of_decide_eq_true hk]; rfl
  | b => cases v <;> simp only [Ck.dec] at h <;> first | (cases h; done) | (injection h with h; subst h; rfl)
  | s => cases v <;> simp only [Ck.dec] at h <;> first | (cases h; done) | (injection h with h; subst h; rfl)
def both {A B : Type} : Option A → Option B → Option (A × B)
  | some a, some b => some (a, b)
  | _, _ => none
theorem decR_nn : decR [] [] = some () := rfl
theorem decR_nc (v : Value) (vs : List Value) : decR [] (v :: vs) = none := rfl
theorem decR_1 (c : Ck) (v : Value) : decR [c] [v] = c.dec v := rfl
theorem decR_1n (c : Ck) : decR [c] [] = none := rfl
theorem decR_1c (c : Ck) (v u : Value) (us : List Value) : decR [c] (v :: u :: us) = none := rfl
theorem decR_2n (c d : Ck) (r : List Ck) : decR (c :: d :: r) [] = none := rfl
theorem decR_2 (c d : Ck) (r : List Ck) (v : Value) (vs : List Value) : decR (c :: d :: r) (v :: vs) = both (c.dec v) (decR (d :: r) vs) := by
  show (match c.dec v, decR (d :: r) vs with
    | some a, some b => some (a, b)
    | _, _ => none) = _
  cases c.dec v <;> cases decR (d :: r) vs <;> rfl
theorem encR_2 (c d : Ck) (r : List Ck) (x : c.T) (y : Sh (d :: r)) : encR (c :: d :: r) (x, y) = c.enc x :: encR (d :: r) y := rfl
theorem decR_ok : ∀ (sh : List Ck) (l : List Value) (a : Sh sh), decR sh l = some a → l = encR sh a := by
  intro sh
  induction sh with
  | nil =>
    intro l a h
    cases l with
    | nil => rfl
    | cons v vs => rw [decR_nc] at h; cases h
  | cons c sh ih =>
    cases sh with
    | nil =>
      intro l a h
      cases l with
      | nil => rw [decR_1n] at h; cases h
      | cons v vs =>
        cases vs with
        | nil => rw [decR_1] at h; rw [ck_dec h]; rfl
        | cons u us => rw [decR_1c] at h; cases h
    | cons d r =>
      intro l a h
      cases l with
      | nil => rw [decR_2n] at h; cases h
      | cons v vs =>
        rw [decR_2] at h
        cases h1 : c.dec v with
        | none => rw [h1] at h; cases h
        | some x =>
          cases h2 : decR (d :: r) vs with
          | none => rw [h1, h2] at h; cases h
          | some y =>
            rw [h1, h2] at h
            have h : some (x, y) = some a := h
            injection h with h
            rw [ck_dec h1, ih _ _ h2, ← h]
            rfl
theorem cells_len (lb : LB) : lb.cells.length = lb.xs.length * lb.sh.length := by
  obtain ⟨sh, xs⟩ := lb
  simp only [LB.cells]
  induction xs with
  | nil => simp
  | cons x xs ih => simp only [List.flatMap_cons, List.length_append, encR_len, ih, List.length_cons, Nat.add_mul, Nat.one_mul, Nat.add_comm]
theorem flat_get (sh : List Ck) : ∀ (xs : List (Sh sh)) (k : Nat) (a : Sh sh), xs[k]? = some a → ∀ j, j < sh.length → (xs.flatMap (encR sh))[k * sh.length + j]? = (encR sh a)[j]?
  | [], _, _, h, _, _ => by simp at h
  | x :: xs, 0, a, h, j, hj => by
    simp only [List.getElem?_cons_zero, Option.some.injEq] at h
    subst h
    simp only [List.flatMap_cons, Nat.zero_mul, Nat.zero_add]
    rw [List.getElem?_append_left (by rw [encR_len]; exact hj)]
  | x :: xs, k + 1, a, h, j, hj => by
    simp only [List.getElem?_cons_succ] at h
    have ih := flat_get sh xs k a h j hj
    simp only [List.flatMap_cons]
    rw [List.getElem?_append_right (by rw [encR_len, Nat.add_mul]; omega), encR_len, ← ih]
    congr 1
    rw [Nat.add_mul]
    omega
theorem lb_get {lb : LB} {k : Nat} {a : Sh lb.sh} (h : lb.xs[k]? = some a) {j : Nat} (hj : j < lb.sh.length) : lb.cells[k * lb.sh.length + j]? = (encR lb.sh a)[j]? := flat_get _ _ _ _ h _ hj
theorem lb_as {lb : LB} {sh : List Ck} {xs : List (Sh sh)} (h : lb.as sh = some xs) : lb = ⟨sh, xs⟩ := by
  obtain ⟨sh', ys⟩ := lb
  unfold LB.as at h
  split at h
  · rename_i e
    simp only at e
    subst e
    injection h with h
    subst h
    rfl
  · cases h
theorem lst_some {b : List (Option Box)} {d ver : Nat} {bx : Box} (h : lst b d ver = some bx) : b[d]? = some (some bx) ∧ bx.ver = ver := by
  unfold lst at h
  split at h
  · rename_i bx' hb
    cases hv : Nat.beq bx'.ver ver with
    | false => rw [hv] at h; cases h
    | true =>
      rw [hv] at h
      injection h with h
      subst h
      exact ⟨hb, Nat.eq_of_beq_eq_true hv⟩
  · cases h
theorem rangeAt_block {w w' : World} {g o : Nat} {cs : List Value} (h : w.rangeAt g o cs) (hb : w'.heap[g]? = w.heap[g]?) : w'.rangeAt g o cs := fun j v hj => by
  rw [World.cell?_of_block (w := w) (a := ⟨g, o + j, none⟩) hb]; exact h j v hj
theorem PAt.world {w w' : World} {p : Value} {cs : List Value} (h : PAt w p cs) (hb : Below w.heap.size w w') : PAt w' p cs := by
  obtain ⟨g, o, h1, h2, h3⟩ := h
  exact ⟨g, o, h1, rangeAt_block h2 (hb.block g h3), Nat.lt_of_lt_of_le h3 hb.size⟩
theorem LAt.world {w w' : World} {p : Value} {lb : LB} (h : LAt w p lb) (hb : Below w.heap.size w w') : LAt w' p lb := by
  refine ⟨?_, h.2⟩
  rcases h.1 with h1 | ⟨g, o, c, h1, h2, h3, h4⟩
  · exact .inl h1
  · exact .inr ⟨g, o, c, h1, rangeAt_block h2 (hb.block g h3), Nat.lt_of_lt_of_le h3 hb.size, h4⟩
theorem owns_block {w w' : World} {base : Nat} {e : TypeId} {size : Nat} {v : Value} {n : Nat} {xs : List Value} (h : w.ownsRow base e size v n xs) (hb : ∀ g, ob v = some g → w'.heap[g]? = w.heap[g]?) : w'.ownsRow base e size v n xs := by
  obtain ⟨h1, h2⟩ := h
  refine ⟨h1, ?_⟩
  rcases h2 with h2 | ⟨g, cap, cur, hv, hg, hh, r⟩
  · exact .inl h2
  · exact .inr ⟨g, cap, cur, hv, hg, by rw [hb g (by rw [hv]; rfl)]; exact hh, r⟩
theorem owns_lt {w : World} {base : Nat} {e : TypeId} {size : Nat} {v : Value} {n : Nat} {xs : List Value} (h : w.ownsRow base e size v n xs) : ∀ g, ob v = some g → g < w.heap.size := by
  intro g hg
  rcases h.2 with ⟨rfl, _⟩ | ⟨g', cap, cur, rfl, _, hh, _⟩
  · cases hg
  · injection hg with hg
    subst hg
    exact blk_lt' hh
theorem Box.at.lt {w : World} {p : Value} {bx : Box} (h : bx.at w p) : ∀ g, ob p = some g → g < w.heap.size := by
  intro g hg
  unfold Box.at at h
  split at h
  · obtain ⟨⟨g', o, rfl, _, h3⟩, _⟩ := h
    injection hg with hg
    subst hg
    exact h3
  · rcases h.1.1 with ⟨rfl, _⟩ | ⟨g', o, c, rfl, _, h3, _⟩
    · cases hg
    · injection hg with hg
      subst hg
      exact h3
theorem Box.at.keep {w w' : World} {p : Value} {bx : Box} (h : bx.at w p) (hs : w.heap.size ≤ w'.heap.size) (hb : ∀ g, ob p = some g → w'.heap[g]? = w.heap[g]?) : bx.at w' p := by
  have hlt := h.lt
  unfold Box.at at h ⊢
  split at h
  · rename_i hl
    obtain ⟨⟨g, o, h1, h2, h3⟩, h4⟩ := h
    have hg : ob p = some g := by rw [h1]; rfl
    refine ⟨⟨g, o, h1, rangeAt_block h2 (hb g hg), Nat.lt_of_lt_of_le h3 hs⟩, fun hr => ?_⟩
    obtain ⟨g', h5, h6⟩ := h4 hr
    exact ⟨g', h5, by rw [hb g' (by rw [h5]; rfl)]; exact h6⟩
  · rename_i lb hl
    obtain ⟨⟨h1, h2⟩, h4⟩ := h
    refine ⟨⟨?_, h2⟩, fun hr => owns_block (h4 hr) hb⟩
    rcases h1 with h1 | ⟨g, o, c, h1, h5, h3, h6⟩
    · exact .inl h1
    · exact .inr ⟨g, o, c, h1, rangeAt_block h5 (hb g (by rw [h1]; rfl)), Nat.lt_of_lt_of_le h3 hs, h6⟩
theorem Box.at.world {w w' : World} {p : Value} {bx : Box} (h : bx.at w p) (hb : Below w.heap.size w w') : bx.at w' p :=
  h.keep hb.size fun g hg => hb.block g (h.lt g hg)
theorem rep_keep {b b' : List (Option Box)} {ρ ρ' : Nat → Value} {x : AV} {y : Value}
    (h : ∀ d, x.to = some d → ∀ bx', b'[d]? = some (some bx') → ∃ bx, b[d]? = some (some bx) ∧ bx.ver ≤ bx'.ver ∧ (bx'.ls = none → bx.ls = none ∧ ρ' d = ρ d) ∧ (bx'.ver = bx.ver → (rowN bx' = rowN bx ∧ lenB bx' = lenB bx) ∧ ρ' d = ρ d))
    (hx : x.rep E b ρ y) : x.rep E b' ρ' y := by
  have key : ∀ (d ver : Nat) (p p' : Box → Prop), x.to = some d → Cur b d ver p → (∀ bx bx', rowN bx' = rowN bx ∧ lenB bx' = lenB bx → ρ' d = ρ d → p bx → p' bx') → Cur b' d ver p' := by
    intro d ver p p' hd hc hp bx' hb'
    obtain ⟨bx, h1, h2, _, h4⟩ := h d hd bx' hb'
    obtain ⟨c1, c2⟩ := hc bx h1
    refine ⟨Nat.le_trans c1 h2, fun he => ?_⟩
    have e1 : bx.ver = ver := by omega
    obtain ⟨h5, h6⟩ := h4 (by omega)
    exact hp bx bx' h5 h6 (c2 e1)
  cases x with
  | j => trivial
  | v x => exact hx
  | p d off =>
    refine ⟨hx.1, fun bx' hb' hl => ?_⟩
    obtain ⟨bx, h1, _, h3, _⟩ := h d rfl bx' hb'
    obtain ⟨h4, h5⟩ := h3 hl
    rw [h5]
    exact hx.2 bx h1 h4
  | l d ver n => exact ⟨hx.1, key d ver _ _ rfl hx.2 fun _ _ _ h2 h3 => by rw [h2]; exact h3⟩
  | w d ver z o n => exact ⟨hx.1, key d ver _ _ rfl hx.2 fun _ _ h1 h2 h3 => by rw [h1.1, h1.2, h2]; exact h3⟩
  | e d ver z k off => exact ⟨hx.1, key d ver _ _ rfl hx.2 fun _ _ h1 h2 h3 => by rw [h1.1, h2]; exact h3⟩
  | t d n vs =>
    obtain ⟨z, h1, h2, h3⟩ := hx
    exact ⟨z, h1, h2, key d 0 _ _ rfl h3 fun _ _ _ h4 h5 => by rw [h4]; exact h5⟩
  | g g off => exact hx
  | a g base ty n k => exact hx
theorem Sim.put {w0 w : World} {ρ : Nat → Value} {s : St} {a : Act} (h : Sim E w0 ρ s a w) (dst : Option Tmp) {x : AV} {y : Value} (hx : x.rep E s.b ρ y) : Sim E w0 ρ (s.put dst x) (a.put dst y) w := by
  cases dst with
  | none => exact h
  | some d =>
    refine ⟨h.df, by simp [St.put, Act.put, h.sz], ?_, h.bx, h.inj, h.bl, h.iv⟩
    intro i z hz
    simp only [St.put, Act.put] at hz ⊢
    rw [List.getElem?_set] at hz
    split at hz
    · rename_i e
      subst e
      split at hz
      · rename_i hlt
        injection hz with hz
        subst hz
        have : d < a.tmps.size := by rw [h.sz]; exact hlt
        simpa [Array.getD_eq_getD_getElem?, this] using hx
      · cases hz
    · rename_i e
      have := h.tm i z hz
      simpa [Array.getD_eq_getD_getElem?, Array.getElem?_setIfInBounds, e] using this
theorem Sim.world {w0 w w' : World} {ρ : Nat → Value} {s : St} {a : Act} (h : Sim E w0 ρ s a w) (hb : Below w.heap.size w w') : Sim E w0 ρ s a w' := by
  refine ⟨h.df, h.sz, h.tm, fun d b hd => ?_, h.inj, h.bl.trans (hb.mono h.bl.size), h.iv⟩
  obtain ⟨h1, h2⟩ := h.bx d b hd
  exact ⟨h1.world hb, h2⟩
theorem Sim.alloc {w0 w w' : World} {ρ : Nat → Value} {s : St} {a : Act} (h : Sim E w0 ρ s a w) (d : Nat) (hn : NoPtr d s) (bx : Box) (p : Value) (hb : Below w.heap.size w w') (hat : bx.at w' p)
    (hf : ∀ g, ob p = some g → w.heap.size ≤ g) {x : AV} {y : Value} (hx : ∀ b' ρ', (∀ bx', b'[d]? = some (some bx') → bx' = bx) → ρ' d = p → x.rep E b' ρ' y) :
    Sim E w0 (fun i => if i = d then p else ρ i) ⟨s.t.set d x, s.b.set d (some bx)⟩ (a.put (some d) y) w' := by
  have hne : ∀ d' b g, s.b[d']? = some (some b) → ob (ρ d') = some g → g < w.heap.size := fun d' b g hd hg => (h.bx d' b hd).1.lt g hg
  have hset : ∀ bx', (s.b.set d (some bx))[d]? = some (some bx') → bx' = bx := by
    intro bx' hb'
    simp only [List.getElem?_set, if_true] at hb'
    split at hb'
    · injection hb' with hb'; injection hb' with hb'; exact hb'.symm
    · cases hb'
  refine ⟨h.df, by simp [Act.put, h.sz], ?_, ?_, ?_, h.bl.trans (hb.mono h.bl.size), h.iv⟩
  · intro i z hz
    simp only [Act.put] at hz ⊢
    rw [List.getElem?_set] at hz
    split at hz
    · rename_i e
      subst e
      split at hz
      · rename_i hlt
        injection hz with hz
        subst hz
        have : d < a.tmps.size := by rw [h.sz]; exact hlt
        have h2 : (a.tmps.setIfInBounds d y).getD d undef = y := by simp [Array.getD_eq_getD_getElem?, this]
        rw [h2]
        exact hx _ _ hset (by simp)
      · cases hz
    · rename_i e
      have h1 := h.tm i z hz
      have h2 : (a.tmps.setIfInBounds d y).getD i undef = a.tmps.getD i undef := by
        simp [Array.getD_eq_getD_getElem?, Array.getElem?_setIfInBounds, e]
      rw [h2]
      refine rep_keep (fun d' hd' bx' hb' => ?_) h1
      have hdd : d' ≠ d := fun e => hn i z hz (by rw [← e]; exact hd')
      rw [List.getElem?_set, if_neg (fun e => hdd e.symm)] at hb'
      exact ⟨bx', hb', Nat.le_refl _, fun hl => ⟨hl, by simp [hdd]⟩, fun _ => ⟨⟨rfl, rfl⟩, by simp [hdd]⟩⟩
  · intro d' b hd
    simp only [List.getElem?_set] at hd
    split at hd
    · rename_i e
      subst e
      split at hd
      · injection hd with hd
        injection hd with hd
        subst hd
        simp only [if_true]
        exact ⟨hat, fun _ g hg => Nat.le_trans h.bl.size (hf g hg)⟩
      · cases hd
    · rename_i e
      obtain ⟨h1, h2⟩ := h.bx d' b hd
      simp only [if_neg (fun e' : d' = d => e e'.symm)]
      exact ⟨h1.world hb, h2⟩
  · intro d1 d2 b1 b2 g hb1 hb2 r1 he1 he2
    simp only [List.getElem?_set] at hb1 hb2
    by_cases e1 : d1 = d <;> by_cases e2 : d2 = d
    · rw [e1, e2]
    · rw [if_neg (fun e => e2 e.symm)] at hb2
      simp only [if_pos e1] at he1
      simp only [if_neg e2] at he2
      have := hne d2 b2 g hb2 he2
      have := hf g he1
      omega
    · rw [if_neg (fun e => e1 e.symm)] at hb1
      simp only [if_neg e1] at he1
      simp only [if_pos e2] at he2
      have := hne d1 b1 g hb1 he1
      have := hf g he2
      omega
    · rw [if_neg (fun e => e1 e.symm)] at hb1
      rw [if_neg (fun e => e2 e.symm)] at hb2
      simp only [if_neg e1] at he1
      simp only [if_neg e2] at he2
      exact h.inj _ _ _ _ g hb1 hb2 r1 he1 he2
theorem Sim.change {w0 w w' : World} {ρ : Nat → Value} {s : St} {a : Act} (h : Sim E w0 ρ s a w) {d : Nat} {bx bx' : Box} (hd : s.b[d]? = some (some bx)) (hro : bx.ro = false) (hro' : bx'.ro = false) (p : Value)
    (hbl : Below w0.heap.size w w') (hblk : ∀ k, k < w.heap.size → (∀ g, ob (ρ d) = some g → k ≠ g) → w'.heap[k]? = w.heap[k]?) (hat : bx'.at w' p) (hf : ∀ g, ob p = some g → ob (ρ d) = some g ∨ w.heap.size ≤ g)
    (hv : bx.ver ≤ bx'.ver) (hv1 : bx'.ls = none → bx.ls = none ∧ p = ρ d) (hv2 : bx'.ver = bx.ver → (rowN bx' = rowN bx ∧ lenB bx' = lenB bx) ∧ p = ρ d) :
    Sim E w0 (fun i => if i = d then p else ρ i) ⟨s.t, s.b.set d (some bx')⟩ a w' := by
  have hne : ∀ d' b g, s.b[d']? = some (some b) → ob (ρ d') = some g → g < w.heap.size := fun d' b g hd hg => (h.bx d' b hd).1.lt g hg
  have hlt : d < s.b.length := (List.getElem?_eq_some_iff.1 hd).1
  have hset : (s.b.set d (some bx'))[d]? = some (some bx') := by simp [hlt]
  refine ⟨h.df, h.sz, ?_, ?_, ?_, h.bl.trans hbl, h.iv⟩
  · intro i z hz
    refine rep_keep (fun d' hd' bx2 hb' => ?_) (h.tm i z hz)
    rw [List.getElem?_set] at hb'
    split at hb'
    · rename_i e
      subst e
      injection hb' with hb'
      injection hb' with hb'
      subst hb'
      exact ⟨bx, hd, hv, fun hl => by simpa using hv1 hl, fun he => by simpa using hv2 he⟩
    · rename_i e
      have hdd : d' ≠ d := fun e' => e e'.symm
      exact ⟨bx2, hb', Nat.le_refl _, fun hl => ⟨hl, by simp [hdd]⟩, fun _ => ⟨⟨rfl, rfl⟩, by simp [hdd]⟩⟩
  · intro d' b hb
    rw [List.getElem?_set] at hb
    split at hb
    · rename_i e
      subst e
      injection hb with hb
      injection hb with hb
      subst hb
      simp only [if_true]
      refine ⟨hat, fun _ g hg => ?_⟩
      rcases hf g hg with h1 | h1
      · exact (h.bx d bx hd).2 hro g h1
      · exact Nat.le_trans h.bl.size h1
    · rename_i e
      have hdd : d' ≠ d := fun e' => e e'.symm
      obtain ⟨h1, h2⟩ := h.bx d' b hb
      simp only [if_neg hdd]
      exact ⟨h1.keep hbl.size fun g hg => hblk g (h1.lt g hg) fun g' hg' e' => hdd (h.inj d d' bx b g hd hb hro (by rw [hg', e']) hg).symm, h2⟩
  · intro d1 d2 b1 b2 g hb1 hb2 r1 he1 he2
    have key : ∀ d' b', (s.b.set d (some bx'))[d']? = some (some b') → d' ≠ d → s.b[d']? = some (some b') := by
      intro d' b' hb' hdd
      rw [List.getElem?_set, if_neg (fun e => hdd e.symm)] at hb'
      exact hb'
    by_cases e1 : d1 = d <;> by_cases e2 : d2 = d
    · rw [e1, e2]
    · simp only [if_pos e1] at he1
      simp only [if_neg e2] at he2
      have h2 := key d2 b2 hb2 e2
      rcases hf g he1 with h1 | h1
      · exact absurd (h.inj d d2 bx b2 g hd h2 hro h1 he2).symm e2
      · have := hne d2 b2 g h2 he2
        omega
    · simp only [if_neg e1] at he1
      simp only [if_pos e2] at he2
      have h1' := key d1 b1 hb1 e1
      rcases hf g he2 with h1 | h1
      · exact absurd (h.inj d1 d b1 bx g h1' hd r1 he1 h1) e1
      · have := hne d1 b1 g h1' he1
        omega
    · simp only [if_neg e1] at he1
      simp only [if_neg e2] at he2
      exact h.inj _ _ _ _ g (key d1 b1 hb1 e1) (key d2 b2 hb2 e2) r1 he1 he2
theorem heap_setCells (g : Nat) (ty : TypeId) : ∀ (vs : List Value) (off : Nat) (w : World) (cs : List Value), w.heap[g]? = some (.cells cs.toArray ty (0, 0)) →
    (w.setCells g off vs).heap[g]? = some (.cells (setL cs off vs).toArray ty (0, 0))
  | [], _, _, _, h => h
  | v :: r, off, w, cs, h => by
    rw [World.setCells, setL]
    refine heap_setCells g ty r (off + 1) _ (cs.set off v) ?_
    simp [World.setCell, Array.getElem?_modify, h]
theorem heap_setCells_far (g : Nat) : ∀ (vs : List Value) (off : Nat) (w : World) (k : Nat), k ≠ g → (w.setCells g off vs).heap[k]? = w.heap[k]?
  | [], _, _, _, _ => rfl
  | v :: r, off, w, k, h => by
    rw [World.setCells, heap_setCells_far g r _ _ k h]
    exact Below.heap_setCell _ _ _ _ h
theorem size_setCells (g : Nat) : ∀ (vs : List Value) (off : Nat) (w : World), (w.setCells g off vs).heap.size = w.heap.size
  | [], _, _ => rfl
  | v :: r, off, w => by rw [World.setCells, size_setCells g r]; simp [World.setCell]
theorem below_setCells {B : Nat} {a : World} (g : Nat) (hg : B ≤ g) : ∀ (vs : List Value) (off : Nat) (w : World), Below B a w → Below B a (w.setCells g off vs)
  | [], _, _, h => h
  | v :: r, off, w, h => by
    rw [World.setCells]
    exact below_setCells g hg r _ _ (h.setCell hg v)
theorem killB_get : ∀ (ds : List Nat) (bs : List (Option Box)) (d : Nat) (b : Box), (killB ds bs)[d]? = some (some b) → bs[d]? = some (some b)
  | [], _, _, _, h => h
  | e :: ds, bs, d, b, h => by
    have h1 := killB_get ds (bs.set e none) d b h
    rw [List.getElem?_set] at h1
    split at h1
    · split at h1 <;> simp at h1
    · exact h1
theorem killT_get : ∀ (ds : List Nat) (ts : List AV) (i : Nat) (x : AV), (killT ds ts)[i]? = some x → x = .j ∨ (i ∉ ds ∧ ts[i]? = some x)
  | [], _, _, _, h => .inr ⟨by simp, h⟩
  | d :: ds, ts, i, x, h => by
    rcases killT_get ds (ts.set d .j) i x h with h1 | ⟨h1, h2⟩
    · exact .inl h1
    · rw [List.getElem?_set] at h2
      split at h2
      · split at h2
        · injection h2 with h2; exact .inl h2.symm
        · cases h2
      · rename_i e
        exact .inr ⟨by simp [h1]; exact fun e' => e e'.symm, h2⟩
theorem killT_len : ∀ (ds : List Nat) (ts : List AV), (killT ds ts).length = ts.length
  | [], _ => rfl
  | d :: ds, ts => (killT_len ds (ts.set d .j)).trans (by simp)
theorem killV_or (ds : List Nat) (x : AV) : killV ds x = .j ∨ (killV ds x = x ∧ ∀ d, x.to = some d → ds.elem d = false) := by
  have key : ∀ (d : Nat) (y : AV), (cond (ds.elem d) AV.j y = .j) ∨ (cond (ds.elem d) AV.j y = y ∧ ∀ d', (some d : Option Nat) = some d' → ds.elem d' = false) := by
    intro d y
    cases hd : List.elem d ds with
    | true => exact .inl rfl
    | false => exact .inr ⟨rfl, fun d' h => by injection h with h; rw [← h]; exact hd⟩
  cases x with
  | j => exact .inl rfl
  | v y => exact .inr ⟨rfl, fun d hd => by cases hd⟩
  | g gl off => exact .inr ⟨rfl, fun d hd => by cases hd⟩
  | a gl base ty n k => exact .inr ⟨rfl, fun d hd => by cases hd⟩
  | p d off => exact key d _
  | l d ver n => exact key d _
  | w d ver z o n => exact key d _
  | e d ver z k off => exact key d _
  | t d n vs => exact key d _
theorem kill_get {ds : List Nat} {s : St} {i : Nat} {x : AV} (h : (s.kill ds).t[i]? = some x) : x = .j ∨ (i ∉ ds ∧ s.t[i]? = some x ∧ ∀ d, x.to = some d → d ∉ ds) := by
  cases ds with
  | nil => exact .inr ⟨by simp, h, by simp⟩
  | cons e ds =>
    rcases killT_get _ _ _ _ h with h0 | ⟨h0, hx⟩
    · exact .inl h0
    · simp only [List.getElem?_map] at hx
      cases hy : s.t[i]? with
      | none => simp [hy] at hx
      | some y =>
        simp only [hy, Option.map_some, Option.some.injEq] at hx
        rcases killV_or (e :: ds) y with h1 | ⟨h1, h2⟩
        · exact .inl (by rw [← hx, h1])
        · rw [h1] at hx
          subst hx
          refine .inr ⟨h0, rfl, fun d hd hm => ?_⟩
          have := h2 d hd
          rw [List.elem_eq_true_of_mem hm] at this
          cases this
theorem kill_b {ds : List Nat} {s : St} {d : Nat} {b : Box} (h : (s.kill ds).b[d]? = some (some b)) : s.b[d]? = some (some b) := by
  cases ds with
  | nil => exact h
  | cons e ds => exact killB_get _ _ _ _ h
theorem kill_len (ds : List Nat) (s : St) : (s.kill ds).t.length = s.t.length := by
  cases ds with
  | nil => rfl
  | cons e ds => simp [St.kill, killT_len]
theorem Sim.kill {w0 w : World} {ρ : Nat → Value} {s : St} {a : Act} (h : Sim E w0 ρ s a w) (ds : List Nat) : Sim E w0 ρ (s.kill ds) a w := by
  refine ⟨h.df, by rw [kill_len, h.sz], ?_, fun d b hd => h.bx d b (kill_b hd), fun d d' b b' g hd hd' => h.inj d d' b b' g (kill_b hd) (kill_b hd'), h.bl, h.iv⟩
  intro i x hx
  rcases kill_get hx with rfl | ⟨_, hx, _⟩
  · trivial
  · exact rep_keep (fun d _ bx' hb' => ⟨bx', kill_b hb', Nat.le_refl _, fun hl => ⟨hl, rfl⟩, fun _ => ⟨⟨rfl, rfl⟩, rfl⟩⟩) (h.tm i x hx)
theorem noPtr_kill {d : Nat} {ds : List Nat} (s : St) (h : d ∈ ds) : NoPtr d (s.kill ds) := by
  intro i x hx hto
  rcases kill_get hx with rfl | ⟨_, _, h2⟩
  · cases hto
  · exact h2 d hto h
theorem killed {d : Nat} {ds : List Nat} (s : St) (h : d ∈ ds) : ∀ x, (s.kill ds).t[d]? = some x → x = .j := by
  intro x hx
  rcases kill_get hx with h0 | ⟨h0, _⟩
  · exact h0
  · exact absurd h h0
theorem ev_rep {w0 w : World} {ρ : Nat → Value} {s : St} {a : Act} (h : Sim E w0 ρ s a w) {x : Operand} {av : AV} (hx : ev s.t x = some av) : av.rep E s.b ρ (a.eval x) := by
  cases x with
  | tmp i => exact h.tm i av hx
  | const v => simp [ev] at hx; subst hx; rfl
  | global g => simp [ev] at hx; subst hx; rfl
  | func f => simp [ev] at hx; subst hx; rfl
theorem evs_cons {t : List AV} {x : Operand} {r : List Operand} {vs : List AV} (h : evs t (x :: r) = some vs) : ∃ a l, ev t x = some a ∧ evs t r = some l ∧ vs = a :: l := by
  simp only [evs] at h
  split at h
  · rename_i a l h1 h2
    injection h with h
    exact ⟨a, l, h1, h2, h.symm⟩
  · cases h
theorem vals_eval {w0 w : World} {ρ : Nat → Value} {s : St} {a : Act} (h : Sim E w0 ρ s a w) : ∀ {l : List Operand} {vs : List AV} {xs : List Value}, evs s.t l = some vs → vals vs = some xs → l.map a.eval = xs
  | [], vs, xs, h1, h2 => by simp [evs] at h1; subst h1; simp [vals] at h2; subst h2; rfl
  | x :: r, vs, xs, h1, h2 => by
    obtain ⟨y, l, hy, hl, rfl⟩ := evs_cons h1
    cases y with
    | v z =>
      simp only [vals] at h2
      split at h2
      · rename_i zs hz
        injection h2 with h2
        subst h2
        have e1 : a.eval x = z := ev_rep h hy
        simp [e1, vals_eval h hl hz]
      · cases h2
    | _ => simp [vals] at h2
theorem rep_v {b : List (Option Box)} {ρ : Nat → Value} {x y : Value} (h : (AV.v x).rep E b ρ y) : y = x := h
theorem Sim.range {w0 w : World} {ρ : Nat → Value} {s : St} {a : Act} (h : Sim E w0 ρ s a w) {d off : Nat} {y : Value} {bx : Box} (hy : (AV.p d off).rep E s.b ρ y) (hd : s.b[d]? = some (some bx)) (hl : bx.ls = none) :
    ∃ g o, ρ d = .pointer (some ⟨g, o, none⟩) ∧ y = .pointer (some ⟨g, o + off, none⟩) ∧ w.rangeAt g o bx.cs ∧ g < w.heap.size := by
  have h1 := (h.bx d bx hd).1
  unfold Box.at at h1
  rw [hl] at h1
  obtain ⟨⟨g, o, h2, h3, h4⟩, _⟩ := h1
  refine ⟨g, o, h2, ?_, h3, h4⟩
  rw [hy.2 bx hd hl, h2]
  rfl
theorem range_drop {w : World} {g o : Nat} {cs : List Value} (h : w.rangeAt g o cs) (off n : Nat) : w.rangeAt g (o + off) ((cs.drop off).take n) := fun j v hj => by
  rw [List.getElem?_take] at hj
  split at hj
  · rw [List.getElem?_drop] at hj
    rw [Nat.add_assoc]
    exact h _ v hj
  · cases hj
theorem Sim.elem {w0 w : World} {ρ : Nat → Value} {s : St} {a : Act} (h : Sim E w0 ρ s a w) {d ver z k off : Nat} {y : Value} {bx : Box} {lb : LB} (hy : (AV.e d ver z k off).rep E s.b ρ y) (hd : lst s.b d ver = some bx)
    (hl : bx.ls = some lb) (hz : z = lb.sh.length) {x : Sh lb.sh} (hx : lb.xs[k]? = some x) :
    ∃ g o, ob (ρ d) = some g ∧ oo (ρ d) = o ∧ y = .pointer (some ⟨g, o + (k * z + off), none⟩) ∧ w.rangeAt g (o + k * z) (encR lb.sh x) ∧ w.rangeAt g o lb.cells ∧ g < w.heap.size := by
  obtain ⟨hd, hv⟩ := lst_some hd
  have h1 := (h.bx d bx hd).1
  unfold Box.at at h1
  rw [hl] at h1
  rcases h1.1.1 with ⟨_, h2⟩ | ⟨g, o, c, h2, h3, h4, _⟩
  · rw [h2] at hx
    simp at hx
  · have h5 := (hy.2 bx hd).2 hv (by simp [rowN, hl, hz])
    refine ⟨g, o, by rw [h2]; rfl, by rw [h2]; rfl, by rw [h5, h2]; rfl, fun j v hj => ?_, h3, h4⟩
    have hlt : j < lb.sh.length := by rw [← encR_len lb.sh x]; exact (List.getElem?_eq_some_iff.1 hj).1
    rw [Nat.add_assoc, hz]
    exact h3 _ v (by rw [lb_get hx hlt]; exact hj)
theorem len_ras {w : World} {base : Nat} : ∀ {rs : List RA} {vs zs : List Value}, RReps w base rs zs → ras rs = some vs → zs = vs := by
  intro rs vs zs h
  induction h generalizing vs with
  | nil => intro h; injection h
  | @cons g y gs ys hg _ ih =>
    intro h
    cases g with
    | l ty lb => simp [ras] at h
    | v x =>
      simp only [ras] at h
      split at h
      · rename_i l hl
        injection h with h
        subst h
        rw [ih hl, (hg : y = x)]
      · cases h
end Go.Sx
