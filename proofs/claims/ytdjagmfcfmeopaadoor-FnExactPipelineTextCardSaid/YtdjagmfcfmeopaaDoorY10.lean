/- A part of an evaluator of the model's code, and of the proof that what it answers is what a call does. -/
import Derived.Test.YtdjagmfcfmeopaaDoorY9
namespace Go.Sx
open Go.RowKit
variable {E : Env}
def Ex.out : Ex → Exit
  | .normal => .normal
  | .ret => .ret
  | .exit i => .exit i
def CR (E : Env) (c : Code) (s : St) (e : Ex) (s' : St) : Prop :=
  ∀ (w0 : World) (ρ : Nat → Value) (a : Act) (w : World) (Q : Exit → Act → World → Prop), Sim E w0 ρ s a w → (∀ ρ' a' w', Sim E w0 ρ' s' a' w' → Q e.out a' w') → c.wp E.P Q a w
def codeOk (P : Program) : Code → Bool
  | .region _ ops _ => seps P ops.toList
  | .seq a b => codeOk P a && codeOk P b
  | .cond _ a b => codeOk P a && codeOk P b
  | .block _ c => codeOk P c
  | .loop c => codeOk P c
  | _ => true
def loopsOf : Code → List Code
  | .seq a b => loopsOf a ++ loopsOf b
  | .cond _ a b => loopsOf a ++ loopsOf b
  | .block _ c => loopsOf c
  | .loop c => [c]
  | _ => []
section
variable {R : Type}
def LpsOk (E : Env) (L : Lps R) (cs : List Code) : Prop := ∀ c ∈ cs, codeOk E.P c = true → ∀ s (K : Ex → St → Option R) r, L c s K = some r → ∃ e s', CR E (.loop c) s e s' ∧ K e s' = some r
theorem kcode_ok {T : Orc R} (hT : OrcOk E T) {L : Lps R} : ∀ (c : Code), LpsOk E L (loopsOf c) → ∀ {s : St} {K : Ex → St → Option R} {r : R}, codeOk E.P c = true → kcode E T L c s K = some r →
    ∃ e s', CR E c s e s' ∧ K e s' = some r
  | .skip, _, s, K, r, _, h => ⟨.normal, s, fun _ ρ a w _ hs hq => wp_skip (hq ρ a w hs), h⟩
  | .region id ops d, _, s, K, r, hok, h => by
    simp only [kcode] at h
    obtain ⟨hdr, h⟩ := cond_some h
    obtain ⟨s', h1, h2⟩ := kops_run hT h
    exact ⟨.normal, s', fun _ ρ a w _ hs hq => region_wp hok hdr hs h1 hq, h2⟩
  | .seq x y, hL, s, K, r, hok, h => by
    simp only [codeOk, Bool.and_eq_true] at hok
    simp only [kcode] at h
    obtain ⟨e, s1, h1, h2⟩ := kcode_ok hT x (fun c hc => hL c (by simp [loopsOf, hc])) hok.1 h
    cases e with
    | normal =>
      obtain ⟨e, s2, h3, h4⟩ := kcode_ok hT y (fun c hc => hL c (by simp [loopsOf, hc])) hok.2 h2
      exact ⟨e, s2, fun w0 ρ a w Q hs hq => wp_seq (h1 w0 ρ a w _ hs fun ρ' a' w' hs' => h3 w0 ρ' a' w' Q hs' hq), h4⟩
    | ret => exact ⟨.ret, s1, fun w0 ρ a w Q hs hq => wp_seq (h1 w0 ρ a w _ hs hq), h2⟩
    | exit i => exact ⟨.exit i, s1, fun w0 ρ a w Q hs hq => wp_seq (h1 w0 ρ a w _ hs hq), h2⟩
  | .cond c x y, hL, s, K, r, hok, h => by
    simp only [codeOk, Bool.and_eq_true] at hok
    simp only [kcode] at h
    split at h
    · rename_i t ht
      cases t with
      | true =>
        obtain ⟨e, s1, h1, h2⟩ := kcode_ok hT x (fun c hc => hL c (by simp [loopsOf, hc])) hok.1 h
        exact ⟨e, s1, fun w0 ρ a w Q hs hq => wp_cond_true (rep_v (ev_rep hs ht)) (h1 w0 ρ a w Q hs hq), h2⟩
      | false =>
        obtain ⟨e, s1, h1, h2⟩ := kcode_ok hT y (fun c hc => hL c (by simp [loopsOf, hc])) hok.2 h
        exact ⟨e, s1, fun w0 ρ a w Q hs hq => wp_cond_false (rep_v (ev_rep hs ht)) (h1 w0 ρ a w Q hs hq), h2⟩
    · cases h
  | .block id c, hL, s, K, r, hok, h => by
    simp only [kcode] at h
    obtain ⟨e, s1, h1, h2⟩ := kcode_ok hT c hL hok h
    cases e with
    | normal => exact ⟨.normal, s1, fun w0 ρ a w Q hs hq => wp_block (h1 w0 ρ a w _ hs hq), h2⟩
    | ret => exact ⟨.ret, s1, fun w0 ρ a w Q hs hq => wp_block (h1 w0 ρ a w _ hs hq), h2⟩
    | exit i =>
      cases hb : Nat.beq i id with
      | true =>
        simp only [hb, cond_true] at h2
        have := Nat.eq_of_beq_eq_true hb
        refine ⟨.normal, s1, fun w0 ρ a w Q hs hq => wp_block (h1 w0 ρ a w _ hs fun ρ' a' w' hs' => ?_), h2⟩
        simp only [Ex.out, Exit.inBlock, this, if_true]
        exact hq ρ' a' w' hs'
      | false =>
        simp only [hb, cond_false] at h2
        have : ¬ i = id := fun e => by rw [e, Nat.beq_refl] at hb; cases hb
        refine ⟨.exit i, s1, fun w0 ρ a w Q hs hq => wp_block (h1 w0 ρ a w _ hs fun ρ' a' w' hs' => ?_), h2⟩
        simp only [Ex.out, Exit.inBlock, this, if_false]
        exact hq ρ' a' w' hs'
  | .loop c, hL, s, K, r, hok, h => hL c (by simp [loopsOf]) hok s K r h
  | .exit i, _, s, K, r, _, h => ⟨.exit i, s, fun _ ρ a w _ hs hq => wp_exit (hq ρ a w hs), h⟩
  | .ret, _, s, K, r, _, h => ⟨.ret, s, fun _ ρ a w _ hs hq => wp_ret (hq ρ a w hs), h⟩
  | .rangeFunc _ _ _ _, _, _, _, _, _, h => by simp [kcode] at h
  | .scope _, _, _, _, _, _, h => by simp [kcode] at h
  | .label _, _, _, _, _, _, h => by simp [kcode] at h
  | .goto _, _, _, _, _, _, h => by simp [kcode] at h
  | .refuse _, _, _, _, _, _, h => by simp [kcode] at h
end
def argT : Nat → List GA → List AV
  | _, [] => []
  | i, .v x :: r => .v x :: argT (i + 1) r
  | i, .p _ _ :: r => .p i 0 :: argT (i + 1) r
  | i, .l lb :: r => .l i 0 lb.xs.length :: argT (i + 1) r
def argB : List GA → List (Option Box)
  | [] => []
  | .v _ :: r => none :: argB r
  | .p ty cs :: r => some ⟨ty, cs, true, none, 0⟩ :: argB r
  | .l lb :: r => some ⟨0, [], true, some lb, 0⟩ :: argB r
def init (n : Nat) (args : List GA) : St := ⟨argT 0 args ++ List.replicate (n - args.length) (.v (.tuple #[])), argB args ++ List.replicate (n - args.length) none⟩
theorem argT_len : ∀ (i : Nat) (l : List GA), (argT i l).length = l.length
  | _, [] => rfl
  | i, .v _ :: r => by simp [argT, argT_len (i + 1) r]
  | i, .p _ _ :: r => by simp [argT, argT_len (i + 1) r]
  | i, .l _ :: r => by simp [argT, argT_len (i + 1) r]
theorem argB_len : ∀ (l : List GA), (argB l).length = l.length
  | [] => rfl
  | .v _ :: r => by simp [argB, argB_len r]
  | .p _ _ :: r => by simp [argB, argB_len r]
  | .l _ :: r => by simp [argB, argB_len r]
theorem Reps.len {w : World} {gs : List GA} {ys : List Value} (h : Reps w gs ys) : gs.length = ys.length := by
  induction h with
  | nil => rfl
  | cons _ _ ih => simp [ih]
theorem Reps.get {w : World} {gs : List GA} {ys : List Value} (h : Reps w gs ys) : ∀ (k : Nat) (g : GA), gs[k]? = some g → ∃ y, ys[k]? = some y ∧ g.rep w y := by
  induction h with
  | nil => intro k g hg; simp at hg
  | @cons g y gs ys hg _ ih =>
    intro k g' hg'
    cases k with
    | zero => simp at hg'; subst hg'; exact ⟨y, rfl, hg⟩
    | succ k => simp only [List.getElem?_cons_succ] at hg' ⊢; exact ih k g' hg'
theorem argT_get : ∀ (gs : List GA) (i k : Nat) (x : AV), (argT i gs)[k]? = some x → ∃ g, gs[k]? = some g ∧ (match g with
    | .v z => x = .v z
    | .p _ _ => x = .p (i + k) 0
    | .l lb => x = .l (i + k) 0 lb.xs.length)
  | [], i, k, x, h => by simp [argT] at h
  | g :: r, i, 0, x, h => by
    refine ⟨g, rfl, ?_⟩
    cases g <;> simp [argT] at h <;> simp [h]
  | g :: r, i, k + 1, x, h => by
    have h' : (argT (i + 1) r)[k]? = some x := by cases g <;> simpa [argT] using h
    obtain ⟨g', h1, h2⟩ := argT_get r (i + 1) k x h'
    refine ⟨g', by simpa using h1, ?_⟩
    cases g' <;> simp only at h2 ⊢ <;> first
      | exact h2
      | (rw [h2]; congr 1; omega)
theorem argB_get : ∀ (gs : List GA) (k : Nat) (b : Box), (argB gs)[k]? = some (some b) → ∃ g, gs[k]? = some g ∧ (match g with
    | .v _ => False
    | .p ty cs => b = ⟨ty, cs, true, none, 0⟩
    | .l lb => b = ⟨0, [], true, some lb, 0⟩)
  | [], k, b, h => by simp [argB] at h
  | g :: r, 0, b, h => by
    refine ⟨g, rfl, ?_⟩
    cases g <;> simp [argB] at h <;> simp [h]
  | g :: r, k + 1, b, h => by
    have h' : (argB r)[k]? = some (some b) := by cases g <;> simpa [argB] using h
    obtain ⟨g', h1, h2⟩ := argB_get r k b h'
    exact ⟨g', by simpa using h1, h2⟩
theorem argB_init {n : Nat} {args : List GA} {d : Nat} {b : Box} (h : (argB args ++ List.replicate (n - args.length) none)[d]? = some (some b)) : (argB args)[d]? = some (some b) := by
  rw [List.getElem?_append] at h
  split at h
  · exact h
  · rw [List.getElem?_replicate] at h
    split at h <;> cases h
theorem argB_ro {gs : List GA} {k : Nat} {b : Box} (h : (argB gs)[k]? = some (some b)) : b.ro = true ∧ b.ver = 0 := by
  obtain ⟨g, _, h2⟩ := argB_get gs k b h
  cases g <;> simp only at h2 <;> first
    | exact h2.elim
    | (rw [h2]; exact ⟨rfl, rfl⟩)
theorem sim_init (w : World) (hI : E.I w) (n : Nat) {args : List GA} {ys : List Value} (hr : Reps w args ys) : Sim E w (fun i => ys.getD i undef) (init n args) { tmps := ys.toArray ++ Array.replicate (n - ys.toArray.size) undef, defers := [] } w := by
  have hlen := hr.len
  refine ⟨rfl, by simp [init, argT_len, hlen], ?_, ?_, ?_, Below.refl _ _, hI⟩
  · intro i x hx
    simp only [init, List.getElem?_append, argT_len] at hx
    simp only [Array.getD_eq_getD_getElem?, Array.getElem?_append]
    split at hx
    · rename_i hi
      rw [if_pos (by simpa [← hlen] using hi)]
      obtain ⟨g, h1, h2⟩ := argT_get args 0 i x hx
      obtain ⟨y, h3, h4⟩ := hr.get i g h1
      simp only [List.getElem?_toArray, h3, Option.getD_some]
      have hyd : ys.getD i undef = y := by rw [List.getD_eq_getElem?_getD, h3]; rfl
      cases g with
      | v z => simp only at h2; subst h2; exact h4
      | p ty cs =>
        simp only [Nat.zero_add] at h2
        subst h2
        obtain ⟨g, o, h5, _, _⟩ := h4
        exact ⟨⟨_, h5⟩, fun bx hb hl => by show y = .pointer (some ⟨gb (ys.getD i undef), oo (ys.getD i undef) + 0, none⟩); rw [hyd, h5]; rfl⟩
      | l lb =>
        simp only [Nat.zero_add] at h2
        subst h2
        exact ⟨lat_isSl h4, fun bx hb => by rw [(argB_ro (argB_init hb)).2]; exact ⟨Nat.le_refl _, fun _ => hyd.symm⟩⟩
    · rename_i hi
      rw [if_neg (by simpa [← hlen] using hi)]
      rw [List.getElem?_replicate] at hx
      split at hx
      · rename_i h2
        injection hx with hx
        subst hx
        have h2' : i - ys.length < n - ys.length := by rw [← hlen]; exact h2
        simp only [AV.rep, undef, List.size_toArray, Array.getElem?_replicate, if_pos h2', Option.getD_some]
      · cases hx
  · intro d b hd
    have hd := argB_init hd
    obtain ⟨g, h1, h2⟩ := argB_get args d b hd
    obtain ⟨y, h3, h4⟩ := hr.get d g h1
    have hyd : ys.getD d undef = y := by rw [List.getD_eq_getElem?_getD, h3]; rfl
    rw [hyd]
    refine ⟨?_, fun e => by rw [(argB_ro hd).1] at e; cases e⟩
    cases g with
    | v z => exact h2.elim
    | p ty cs => simp only at h2; subst h2; exact ⟨h4, fun e => by cases e⟩
    | l lb => simp only at h2; subst h2; exact ⟨h4, fun e => by cases e⟩
  · intro d d' b b' g hd _ hro
    rw [(argB_ro (argB_init hd)).1] at hro
    cases hro
def resRun (tmps : Array Value) : ResultVar → Sem Value
  | .tmp t => pure (tmps.getD t undef)
  | .cell a t => do loadVar t (← asAddr (tmps.getD a undef))
theorem resOf_run {w0 w : World} {ρ : Nat → Value} {s : St} {a : Act} (h : Sim E w0 ρ s a w) : ∀ {rs : List ResultVar} {l : List RA}, resOf E.P s rs = some l → ∃ zs, (rs.mapM (resRun a.tmps)).run E.P w = .ok zs w ∧ RReps w w0.heap.size l zs
  | [], l, hr => by simp [resOf] at hr; subst hr; exact ⟨[], by simp, .nil⟩
  | .tmp t :: rs, l, hr => by
    simp only [resOf] at hr
    split at hr
    · rename_i x l' h1 h2
      injection hr with hr
      subst hr
      obtain ⟨zs, h3, h4⟩ := resOf_run h h2
      obtain ⟨av, h5, h6⟩ := Option.bind_eq_some_iff.1 h1
      refine ⟨a.tmps.getD t undef :: zs, by simp [List.mapM_cons, resRun, h3], .cons ?_ h4⟩
      have hrep := h.tm t av h5
      unfold resA at h6
      split at h6
      · injection h6 with h6; subst h6; exact hrep
      · rename_i d ver n
        split at h6
        · rename_i bx hb
          split at h6
          · rename_i lb hlb
            obtain ⟨hc, h6⟩ := cond_some h6
            injection h6 with h6
            subst h6
            simp only [Bool.not_eq_true'] at hc
            obtain ⟨hb, hv⟩ := lst_some hb
            obtain ⟨hat, hlo⟩ := h.bx d bx hb
            unfold Box.at at hat
            rw [hlb] at hat
            rw [(hrep.2 bx hb).2 hv]
            exact ⟨hat.1, hat.2 hc, hlo hc⟩
          · cases h6
        · cases h6
      · cases h6
    · cases hr
  | .cell t ty :: rs, l, hr => by
    simp only [resOf] at hr
    split at hr
    · rename_i d off l' h1 h2
      obtain ⟨zs, h3, h4⟩ := resOf_run h h2
      have hrep := h.tm t _ h1
      split at hr
      · rename_i bx hb
        split at hr
        · rename_i hls
          split at hr
          · rename_i x hx
            injection hr with hr
            subst hr
            obtain ⟨g, o, _, hy, hrange, _⟩ := h.range hrep hb hls
            have := load_row (P := E.P) hx hrange
            exact ⟨x :: zs, by simp [List.mapM_cons, resRun, hy, asAddr, this, h3], .cons rfl h4⟩
          · cases hr
        · cases hr
      · cases hr
    · cases hr
theorem results_run {w0 w : World} {ρ : Nat → Value} {s : St} {a : Act} (h : Sim E w0 ρ s a w) {fn : Func} {l : List RA} (hr : resOf E.P s fn.results.toList = some l) : ∃ zs, (results fn a.tmps).run E.P w = .ok (resV zs) w ∧ RReps w w0.heap.size l zs := by
  obtain ⟨zs, h1, h2⟩ := resOf_run h hr
  refine ⟨zs, ?_, h2⟩
  have e1 : (fn.results.mapM (resRun a.tmps)).run E.P w = .ok zs.toArray w := by
    rw [Array.mapM_eq_mapM_toList]
    simp [h1]
  have e2 : results fn a.tmps = (do let vs ← fn.results.mapM (resRun a.tmps); pure (if h : vs.size = 1 then vs[0] else .tuple vs)) := by
    unfold results
    congr 2
  rw [e2, Sem.run_bind, e1]
  simp only [Result.andThen_ok, Sem.run_pure]
  congr 1
  match zs with
  | [] => rfl
  | [x] => rfl
  | x :: y :: l => simp [resV]
def fin {R : Type} (P : Program) (rs : List ResultVar) (dec : List RA → Option R) : Ex → St → Option R
  | .exit _, _ => none
  | _, s => match resOf P s rs with
    | some l => dec l
    | none => none
theorem fn_calls {R : Type} {f : FuncId} {fn : Func} {c : Code} (hf : E.P.funcs[f]? = some fn) (hb : fn.body = some c) (hn : (fn.name == "runtime.NumGoroutine") = false) (hok : codeOk E.P c = true)
    {T : Orc R} (hT : OrcOk E T) {L : Lps R} (hL : LpsOk E L (loopsOf c)) {args : List GA} {dec : List RA → Option R} {enc : R → List RA} (hd : ∀ v r, dec v = some r → ∀ w base zs, RReps w base v zs → RReps w base (enc r) zs) {r : R}
    (h : kcode E T L c (init fn.ntmps args) (fin E.P fn.results.toList dec) = some r) : CallsV E f args (enc r) := by
  refine .inl ⟨⟨fn, hf, hn, by rw [hb]; rfl⟩, fun w ys hI hys => ?_⟩
  obtain ⟨e, s', h1, h2⟩ := kcode_ok hT c hL hok h
  refine calls_of_wp hf hb (h1 w _ _ w _ (sim_init w hI fn.ntmps hys) fun ρ a' w' hs => ?_)
  have key : ∀ l, resOf E.P s' fn.results.toList = some l → dec l = some r → a'.defers = [] ∧ ∃ v, (results fn a'.tmps).run E.P w' = .ok v w' ∧ (∃ zs, RReps w' w.heap.size (enc r) zs ∧ Ending.returned v = .returned (resV zs) ∧ Below w.heap.size w w') := by
    intro l h3 h4
    obtain ⟨zs, h5, h6⟩ := results_run hs h3
    exact ⟨hs.df, _, h5, zs, hd _ _ h4 _ _ _ h6, rfl, hs.bl⟩
  cases e with
  | exit i => cases h2
  | normal =>
    simp only [fin] at h2
    split at h2
    · rename_i l h3; exact key l h3 h2
    · cases h2
  | ret =>
    simp only [fin] at h2
    split at h2
    · rename_i l h3; exact key l h3 h2
    · cases h2
theorem CallsV.weak {f : FuncId} {args args' : List GA} {rs : List RA} (h : CallsV E f args' rs) (ha : ∀ w ys, Reps w args ys → Reps w args' ys) : CallsV E f args rs := by
  rcases h with ⟨h1, h2⟩ | ⟨vs, h1, h2⟩
  · exact .inl ⟨h1, fun w ys hI hy => h2 w ys hI (ha w ys hy)⟩
  · exact .inr ⟨vs, h1, fun w ys hI hy => h2 w ys hI (ha w ys hy)⟩
structure Ctr (E : Env) where
  f : FuncId
  run : {R : Type} → List GA → (List RA → Option R) → Option R
  ok : ∀ {R : Type} (args : List GA) (K : List RA → Option R) (r : R), run args K = some r → ∃ rs, CallsV E f args rs ∧ K rs = some r
def orc {E : Env} {R : Type} : List (Ctr E) → Orc R
  | [], _, _, _ => none
  | c :: l, f, args, K => cond (Nat.beq c.f f) (c.run args K) (orc l f args K)
theorem orc_ok {E : Env} {R : Type} : ∀ (l : List (Ctr E)), OrcOk E (orc l : Orc R)
  | [], _, _, _, _, h => by cases h
  | c :: l, f, args, K, r, h => by
    simp only [orc] at h
    cases hb : Nat.beq c.f f with
    | true =>
      rw [hb] at h
      obtain ⟨v, h1, h2⟩ := c.ok args K r h
      rw [Nat.eq_of_beq_eq_true hb] at h1
      exact ⟨v, h1, h2⟩
    | false =>
      rw [hb] at h
      exact orc_ok l f args K r h
def noLoop {R : Type} : Lps R := fun _ _ _ => none
theorem noLoop_ok {R : Type} (cs : List Code) : LpsOk E (noLoop : Lps R) cs := fun _ _ _ _ _ _ h => by cases h
end Go.Sx
