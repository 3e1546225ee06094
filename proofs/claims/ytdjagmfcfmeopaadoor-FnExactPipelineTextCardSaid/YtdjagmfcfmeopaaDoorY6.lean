/- A part of an evaluator of the model's code, and of the proof that what it answers is what a call does. -/
import Derived.Test.YtdjagmfcfmeopaaDoorY5
namespace Go.Sx
open Go.RowKit
variable {E : Env}
structure Dl where
  t : Option (Nat × AV)
  b : Option (Nat × Box)
def setT (l : List AV) : Option (Nat × AV) → List AV
  | some (d, x) => l.set d x
  | none => l
def setB (l : List (Option Box)) : Option (Nat × Box) → List (Option Box)
  | some (d, x) => l.set d (some x)
  | none => l
def Dl.ap (δ : Dl) (s : St) : St := ⟨setT s.t δ.t, setB s.b δ.b⟩
def to (dst : Option Tmp) (x : AV) : Option (Nat × AV) := dst.map fun d => (d, x)
def EDl (E : Env) (o : Oper) (s : St) (δ : Dl) : Eff → Prop
  | .pure x => δ = ⟨to o.dst x, none⟩
  | .alloc bx m => ∃ d, o.dst = some d ∧ δ = ⟨some (d, mkA d m), some (d, bx)⟩
  | .store d _ _ bx' => (∃ bx, s.b[d]? = some (some bx)) ∧ δ = ⟨to o.dst (.v undef), some (d, bx')⟩
  | .grow d bx' n => (∃ bx, s.b[d]? = some (some bx)) ∧ δ = ⟨to o.dst (.l d bx'.ver n), some (d, bx')⟩
  | .call f args => ∃ rs, CallsV E f args rs ∧ ((∃ vs, ras rs = some vs ∧ δ = ⟨to o.dst (.v (resV vs)), none⟩) ∨
      ∃ ty lb d, ras rs = none ∧ oneL rs = some (ty, lb) ∧ o.dst = some d ∧ isL E.P o.type = true ∧ δ = ⟨some (d, mkA d (mkR lb.xs.length (rasO rs))), some (d, lbox ty lb)⟩)
def want (ops : List Oper) (o : Oper) (t : List AV) : Option Bool :=
  match o.guard with
  | none => some true
  | some (j, wt) => match (ops[j]?).bind (·.dst) with
    | none => none
    | some g => match t[g]? with
      | some (.v (.bool c)) => some (c == wt)
      | some (.v (.tuple _)) => some false
      | _ => none
def Did (E : Env) (o : Oper) (s : St) (δ : Dl) : Prop :=
  ∃ l vs e, opnds o.op = some l ∧ evs s.t l = some vs ∧ keffA E o.op vs s.b some = some e ∧ EDl E o s δ e
def Can (E : Env) (ops : List Oper) (o : Oper) (s : St) (δ : Dl) : Prop :=
  (want ops o s.t = some true ∧ Did E o s δ) ∨ (want ops o s.t = some false ∧ δ = ⟨to o.dst (.v undef), none⟩)
theorem ap_put (s : St) (dst : Option Tmp) (x : AV) : (Dl.mk (to dst x) none).ap s = s.put dst x := by cases dst <;> rfl
section
variable {R : Type}
theorem bind_cond {α β : Type} (c : Bool) (x y : Option α) (f : α → Option β) : (cond c x y).bind f = cond c (x.bind f) (y.bind f) := by cases c <;> rfl
theorem gas_bind {P : Program} {b : List (Option Box)} {α β : Type} : ∀ (vs : List AV) (ts : List TypeId) (K : List GA → Option α) (f : α → Option β), gas P b vs ts (fun l => (K l).bind f) = (gas P b vs ts K).bind f := by
  intro vs
  induction vs with
  | nil => intro ts K f; cases ts <;> rfl
  | cons x r ih =>
    intro ts K f
    cases ts with
    | nil => cases x <;> rfl
    | cons t ts =>
      unfold gas
      cases x <;> simp only <;> first
        | rfl
        | exact ih _ (fun l => K (_ :: l)) f
        | skip
      · split
        · split
          · rw [bind_cond]; congr 1; exact ih _ (fun l => K (_ :: l)) f
          · rfl
        · rfl
      · split
        · split
          · exact ih _ (fun l => K (_ :: l)) f
          · rfl
        · rfl
      · split
        · split
          · rw [bind_cond]; congr 1; exact ih _ (fun l => K (_ :: l)) f
          · rfl
        · rfl
      · split
        · split
          · split
            · rw [bind_cond, Option.bind_assoc]; congr 2; funext a; exact ih _ (fun l => K (_ :: l)) f
            · rfl
          · rfl
        · rfl
theorem bounds_bind {α β : Type} (lo hi : Option Operand) (n : Nat) (vs : List AV) (K : Int → Int → Option α) (f : α → Option β) : bounds lo hi n vs (fun a b => (K a b).bind f) = (bounds lo hi n vs K).bind f := by
  unfold bounds
  split <;> first | rfl | (rw [bind_cond]; rfl)
theorem kint_bind {α β : Type} (op : BinOp) (k : IntKind) (x y : Int) (K : Value → Option α) (f : α → Option β) : kint op k x y (fun v => (K v).bind f) = (kint op k x y K).bind f := by
  cases op <;> simp only [kint, bind_cond] <;> rfl
theorem kshift_bind {α β : Type} (op : BinOp) (k : IntKind) (x y : Int) (K : Value → Option α) (f : α → Option β) : kshift op k x y (fun v => (K v).bind f) = (kshift op k x y K).bind f := by
  cases op <;> simp only [kshift, bind_cond] <;> rfl
theorem kstr_bind {α β : Type} (op : BinOp) (x y : List UInt8) (K : Value → Option α) (f : α → Option β) : kstr op x y (fun v => (K v).bind f) = (kstr op x y K).bind f := by
  cases op <;> simp only [kstr, bind_cond] <;> rfl
theorem kapnd_bind {α β : Type} (e : TypeId) (sh : List Ck) (i : TypeInfo) (b : List (Option Box)) (ys : List (Sh sh)) (x : AV) (K : Eff → Option α) (f : α → Option β) : kapnd e sh i b ys x (fun v => (K v).bind f) = (kapnd e sh i b ys x K).bind f := by
  unfold kapnd
  repeat' (first | rfl | (rw [bind_cond]; rfl) | split)
theorem keffA_bind (op : Op) (vs : List AV) (b : List (Option Box)) (K : Eff → Option R) : keffA E op vs b K = (keffA E op vs b some).bind K := by
  unfold keffA
  split <;> (try rfl)
  all_goals (repeat' (first
    | rfl
    | exact gas_bind _ _ (fun args => some (.call _ args)) K
    | exact bounds_bind _ _ _ _ (fun l h => some _) K
    | exact kint_bind _ _ _ _ (fun v => some (Eff.pure (AV.v v))) K
    | exact kshift_bind _ _ _ _ (fun v => some (Eff.pure (AV.v v))) K
    | exact kstr_bind _ _ _ (fun v => some (Eff.pure (AV.v v))) K
    | exact kapnd_bind _ _ _ _ _ _ some K
    | (rw [bind_cond]; congr 1; done)
    | (rw [Option.bind_assoc]; congr 1; funext a)
    | (rw [bind_cond]; congr 1)
    | split))
  · rw [← bounds_bind]
    congr 1
    funext l h
    rw [bind_cond]
    rfl
  · rename_i f fi ca r h2 x1 x0 h1 h0
    exact gas_bind _ _ (fun args => some (Eff.call f args)) K
def OrcOk (E : Env) (T : Orc R) : Prop := ∀ f args (K : List RA → Option R) r, T f args K = some r → ∃ rs, CallsV E f args rs ∧ K rs = some r
theorem kdo_did {T : Orc R} (hT : OrcOk E T) {o : Oper} {s : St} {K : St → Option R} {r : R} (h : kdo E T o s K = some r) : ∃ δ, Did E o s δ ∧ K (δ.ap s) = some r := by
  unfold kdo at h
  split at h
  · rename_i l hl
    split at h
    · rename_i vs hv
      rw [keffA_bind] at h
      obtain ⟨e, he, hk⟩ := Option.bind_eq_some_iff.1 h
      cases e with
      | pure x => exact ⟨⟨to o.dst x, none⟩, ⟨l, vs, _, hl, hv, he, rfl⟩, by rw [ap_put]; exact hk⟩
      | alloc bx m =>
        simp only [kapp] at hk
        split at hk
        · rename_i d hd
          exact ⟨⟨some (d, mkA d m), some (d, bx)⟩, ⟨l, vs, _, hl, hv, he, d, hd, rfl⟩, hk⟩
        · cases hk
      | store d off xs bx' =>
        simp only [kapp] at hk
        split at hk
        · rename_i bx hb
          refine ⟨⟨to o.dst (.v undef), some (d, bx')⟩, ⟨l, vs, _, hl, hv, he, ⟨bx, hb⟩, rfl⟩, ?_⟩
          rw [← hk]
          cases o.dst <;> rfl
        · cases hk
      | grow d bx' n =>
        simp only [kapp] at hk
        split at hk
        · rename_i bx hb
          refine ⟨⟨to o.dst (.l d bx'.ver n), some (d, bx')⟩, ⟨l, vs, _, hl, hv, he, ⟨bx, hb⟩, rfl⟩, ?_⟩
          rw [← hk]
          cases o.dst <;> rfl
        · cases hk
      | call f args =>
        obtain ⟨rs, hc, hk⟩ := hT _ _ _ _ hk
        split at hk
        · rename_i vs' hvs
          exact ⟨⟨to o.dst (.v (resV vs')), none⟩, ⟨l, vs, _, hl, hv, he, rs, hc, .inl ⟨vs', hvs, rfl⟩⟩, by rw [ap_put]; exact hk⟩
        · rename_i hn
          split at hk
          · rename_i ty lb d h1 h2
            cases hL : isL E.P o.type with
            | false => rw [hL] at hk; cases hk
            | true =>
              rw [hL] at hk
              exact ⟨_, ⟨l, vs, _, hl, hv, he, rs, hc, .inr ⟨ty, lb, d, hn, h1, h2, hL, rfl⟩⟩, hk⟩
          · cases hk
    · cases h
  · cases h
theorem set_same {l : List AV} {g : Nat} {x : AV} (h : l[g]? = some x) : l.set g x = l := by
  apply List.ext_getElem?
  intro i
  rw [List.getElem?_set]
  split
  · rename_i e; subst e
    have := (List.getElem?_eq_some_iff.1 h).1
    rw [if_pos this, h]
  · rfl
theorem kop_can {T : Orc R} (hT : OrcOk E T) {ops : List Oper} {o : Oper} {s : St} {K : St → Option R} {r : R} (h : kop E T ops o s K = some r) : ∃ δ, Can E ops o s δ ∧ K (δ.ap s) = some r := by
  unfold kop at h
  split at h
  · rename_i hg
    obtain ⟨δ, h1, h2⟩ := kdo_did hT h
    exact ⟨δ, .inl ⟨by simp [want, hg], h1⟩, h2⟩
  · rename_i j wt hg
    split at h
    · cases h
    · rename_i g hj
      split at h
      · rename_i c hc
        have hs : (⟨s.t.set g (.v (.bool c)), s.b⟩ : St) = s := by rw [set_same hc]
        have hw : want ops o s.t = some (c == wt) := by simp [want, hg, hj, hc]
        have h' : cond (c == wt) (kdo E T o s K) (K (s.put o.dst (.v undef))) = some r := by
          cases c
          · simp only [cond_false] at h; rw [hs] at h; exact h
          · simp only [cond_true] at h; rw [hs] at h; exact h
        cases hcw : c == wt with
        | true =>
          rw [hcw] at h' hw
          obtain ⟨δ, h1, h2⟩ := kdo_did hT h'
          exact ⟨δ, .inl ⟨hw, h1⟩, h2⟩
        | false =>
          rw [hcw] at h' hw
          exact ⟨⟨to o.dst (.v undef), none⟩, .inr ⟨hw, rfl⟩, by rw [ap_put]; exact h'⟩
      · rename_i x hc
        exact ⟨⟨to o.dst (.v undef), none⟩, .inr ⟨by simp [want, hg, hj, hc], rfl⟩, by rw [ap_put]; exact h⟩
      · cases h
def Run (E : Env) (ops : List Oper) : List Oper → St → St → Prop
  | [], s, s' => s' = s
  | o :: r, s, s' => ∃ δ, Can E ops o s δ ∧ Run E ops r (δ.ap s) s'
theorem kops_run {T : Orc R} (hT : OrcOk E T) {ops : List Oper} : ∀ {l : List Oper} {s : St} {K : St → Option R} {r : R}, kops E T ops l s K = some r → ∃ s', Run E ops l s s' ∧ K s' = some r
  | [], s, K, r, h => ⟨s, rfl, h⟩
  | o :: l, s, K, r, h => by
    obtain ⟨δ, h1, h2⟩ := kop_can hT h
    obtain ⟨s', h3, h4⟩ := kops_run hT h2
    exact ⟨s', ⟨δ, h1, h3⟩, h4⟩
end
end Go.Sx
