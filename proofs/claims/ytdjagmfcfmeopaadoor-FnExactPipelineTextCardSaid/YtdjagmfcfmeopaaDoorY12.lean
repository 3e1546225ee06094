/- A part of an evaluator of the model's code, and of the proof that what it answers is what a call does. -/
import Derived.Test.YtdjagmfcfmeopaaDoorY11
namespace Go.Sx
open Go.RowKit
variable {E : Env}
section
variable {P : Program}
def LW (P : Program) (c : Code) (Q : Exit → Act → World → Prop) (a : Act) (w : World) : Prop :=
  ∀ (b : Frame) (k : List Item) (cs : List Frame), ∃ e a' w', Q e a' w' ∧ Arrives P (lone (b.at a (.code c :: .inLoop c :: k)) cs w) b k cs e a' w'
theorem wp_of_LW {c : Code} {Q : Exit → Act → World → Prop} {a : Act} {w : World} (h : LW P c Q a w) : (Code.loop c).wp P Q a w :=
  fun b k cs => let ⟨e, a', w', q, r⟩ := h b k cs; ⟨e, a', w', q, .of_steps (.one step_loop) r⟩
theorem LW_of_wp {c : Code} {Q : Exit → Act → World → Prop} {a : Act} {w : World} (h : c.wp P (Exit.then (LW P c Q) Q) a w) : LW P c Q a w := by
  intro b k cs
  obtain ⟨e, a₁, w₁, hq, harr⟩ := h b (.inLoop c :: k) cs
  cases e with
  | normal =>
    obtain ⟨e₂, a₂, w₂, hq₂, harr₂⟩ := hq b k cs
    exact ⟨e₂, a₂, w₂, hq₂, .of_steps (Steps.trans harr (.one step_inLoop)) harr₂⟩
  | exit id => exact ⟨_, a₁, w₁, hq, .pass (x := .inLoop c) rfl (fun _ _ => .inl (by simp)) harr⟩
  | goto l => exact ⟨_, a₁, w₁, hq, .pass (x := .inLoop c) rfl (fun _ _ => .inl (by simp)) harr⟩
  | ret => exact ⟨_, a₁, w₁, hq, .pass (x := .inLoop c) rfl (fun _ _ => .inl (by simp)) harr⟩
  | panic ch => exact ⟨_, a₁, w₁, hq, .pass (x := .inLoop c) rfl (fun _ _ => .inl (by simp)) harr⟩
  | outgrown => exact ⟨_, a₁, w₁, hq, .pass (x := .inLoop c) rfl (fun _ _ => .inl (by simp)) harr⟩
end
def CRL (E : Env) (c : Code) (s : St) (e : Ex) (s' : St) : Prop :=
  ∀ (w0 : World) (ρ : Nat → Value) (a : Act) (w : World) (Q : Exit → Act → World → Prop), Sim E w0 ρ s a w → (∀ ρ' a' w', Sim E w0 ρ' s' a' w' → Q e.out a' w') → LW E.P c Q a w
def Wk (E : Env) (s s' : St) : Prop := ∀ (w0 : World) (ρ : Nat → Value) (a : Act) (w : World), Sim E w0 ρ s a w → ∃ ρ', Sim E w0 ρ' s' a w
theorem CRL.toCR {c : Code} {s s' : St} {e : Ex} (h : CRL E c s e s') : CR E (.loop c) s e s' := fun w0 ρ a w Q hs hq => wp_of_LW (h w0 ρ a w Q hs hq)
theorem CRL.last {c : Code} {s s' : St} {e : Ex} (h : CR E c s e s') (he : e ≠ .normal) : CRL E c s e s' := fun w0 ρ a w Q hs hq => LW_of_wp (h w0 ρ a w _ hs (by
  cases e with
  | normal => exact absurd rfl he
  | ret => exact hq
  | exit i => exact hq))
theorem CRL.more {c : Code} {s s1 s' : St} {e : Ex} (h : CR E c s .normal s1) (h2 : CRL E c s1 e s') : CRL E c s e s' := fun w0 ρ a w Q hs hq =>
  LW_of_wp (h w0 ρ a w _ hs fun ρ' a' w' hs' => h2 w0 ρ' a' w' Q hs' hq)
theorem CRL.weak {c : Code} {s s1 s' s1' : St} {e : Ex} (h : CRL E c s1 e s') (h1 : Wk E s s1) (h2 : Wk E s' s1') : CRL E c s e s1' := fun w0 ρ a w Q hs hq =>
  let ⟨ρ1, hs1⟩ := h1 _ _ _ _ hs
  h w0 ρ1 a w Q hs1 fun ρ' a' w' hs' => let ⟨ρ2, hs2⟩ := h2 _ _ _ _ hs'; hq ρ2 a' w' hs2
theorem Wk.refl (s : St) : Wk E s s := fun _ ρ _ _ h => ⟨ρ, h⟩
theorem Wk.trans {s s1 s2 : St} (h : Wk E s s1) (h2 : Wk E s1 s2) : Wk E s s2 := fun w0 ρ a w hs => let ⟨ρ1, hs1⟩ := h w0 ρ a w hs; h2 w0 ρ1 a w hs1
section
variable {R : Type}
def unroll (E : Env) (T : Orc R) : Nat → Lps R
  | 0 => fun _ _ _ => none
  | n + 1 => fun c s K => kcode E T (unroll E T n) c s fun e s' => match e with
    | .normal => unroll E T n c s' K
    | .ret => K .ret s'
    | .exit i => K (.exit i) s'
theorem unroll_crl {T : Orc R} (hT : OrcOk E T) : ∀ (n : Nat) {c : Code} {s : St} {K : Ex → St → Option R} {r : R}, codeOk E.P c = true → unroll E T n c s K = some r → ∃ e s', CRL E c s e s' ∧ K e s' = some r
  | 0, _, _, _, _, _, h => by cases h
  | n + 1, c, s, K, r, hok, h => by
    simp only [unroll] at h
    obtain ⟨e, s1, h1, h2⟩ := kcode_ok hT c (L := unroll E T n) (fun c' _ hok' s' K' r' h' => by
      obtain ⟨e, s2, h3, h4⟩ := unroll_crl hT n hok' h'
      exact ⟨e, s2, h3.toCR, h4⟩) hok h
    cases e with
    | normal =>
      obtain ⟨e, s2, h3, h4⟩ := unroll_crl hT n hok h2
      exact ⟨e, s2, CRL.more h1 h3, h4⟩
    | ret => exact ⟨.ret, s1, .last h1 (by simp), h2⟩
    | exit i => exact ⟨.exit i, s1, .last h1 (by simp), h2⟩
theorem unroll_ok {T : Orc R} (hT : OrcOk E T) (n : Nat) (cs : List Code) : LpsOk E (unroll E T n) cs := fun _ _ hok _ _ _ h =>
  let ⟨e, s', h1, h2⟩ := unroll_crl hT n hok h; ⟨e, s', h1.toCR, h2⟩
end
def isLst (b : List (Option Box)) (d : Nat) : Bool := match b[d]? with
  | some (some bx) => bx.ls.isSome && Nat.beq bx.ver 0
  | _ => false
def lenOf (b : List (Option Box)) (d : Nat) : Nat := match b[d]? with
  | some (some bx) => lenB bx
  | _ => 0
def Same (b : List (Option Box)) (x : AV) (v : AV) : Prop := x = .j ∨ x = v ∨ ∃ d n, x = .l d 0 (lenOf b d) ∧ isLst b d = true ∧ v = .l d 0 n
structure CoV (A : Type) where
  enc : List (Option Box) → A → List AV
  dec : List (Option Box) → List AV → Option A
  h : ∀ b l a, dec b l = some a → (enc b a).length = l.length ∧ ∀ (i : Nat) (x : AV), (enc b a)[i]? = some x → ∃ v, l[i]? = some v ∧ Same b x v
def vN : CoV Unit where
  enc _ _ := []
  dec _ l := match l with
    | [] => some ()
    | _ => none
  h b l a hd := by
    split at hd
    · exact ⟨rfl, fun i x hx => by simp at hx⟩
    · cases hd
theorem cov_cons {b : List (Option Box)} {x v : AV} {l l' : List AV} (hx : Same b x v) (h : l'.length = l.length ∧ ∀ (i : Nat) (x : AV), l'[i]? = some x → ∃ v, l[i]? = some v ∧ Same b x v) :
    (x :: l').length = (v :: l).length ∧ ∀ (i : Nat) (z : AV), (x :: l')[i]? = some z → ∃ u, (v :: l)[i]? = some u ∧ Same b z u := by
  refine ⟨by simp [h.1], fun i z hz => ?_⟩
  cases i with
  | zero =>
    simp at hz
    subst hz
    exact ⟨v, rfl, hx⟩
  | succ i =>
    simp only [List.getElem?_cons_succ] at hz ⊢
    exact h.2 i z hz
def vJ {A : Type} (c : CoV A) : CoV A where
  enc b a := .j :: c.enc b a
  dec b l := match l with
    | _ :: r => c.dec b r
    | [] => none
  h b l a hd := by
    split at hd
    · exact cov_cons (.inl rfl) (c.h _ _ _ hd)
    · cases hd
def vP {A : Type} (d off : Nat) (c : CoV A) : CoV A where
  enc b a := .p d off :: c.enc b a
  dec b l := match l with
    | .p e o :: r => cond (Nat.beq e d && Nat.beq o off) (c.dec b r) none
    | _ => none
  h b l a hd := by
    split at hd
    · obtain ⟨hb, hd⟩ := cond_some hd
      simp only [Bool.and_eq_true] at hb
      rw [Nat.eq_of_beq_eq_true hb.1, Nat.eq_of_beq_eq_true hb.2]
      exact cov_cons (.inr (.inl rfl)) (c.h _ _ _ hd)
    · cases hd
def vL {A : Type} (d : Nat) (c : CoV A) : CoV A where
  enc b a := .l d 0 (lenOf b d) :: c.enc b a
  dec b l := match l with
    | .l e ver _ :: r => cond (Nat.beq e d && Nat.beq ver 0 && isLst b d) (c.dec b r) none
    | _ => none
  h b l a hd := by
    split at hd
    · obtain ⟨hb, hd⟩ := cond_some hd
      simp only [Bool.and_eq_true] at hb
      rw [Nat.eq_of_beq_eq_true hb.1.1, Nat.eq_of_beq_eq_true hb.1.2]
      exact cov_cons (.inr (.inr ⟨d, _, rfl, hb.2, rfl⟩)) (c.h _ _ _ hd)
    · cases hd
def vV {A B : Type} (v : Co A) (c : CoV B) : CoV (A × B) where
  enc b a := .v (v.enc a.1) :: c.enc b a.2
  dec b l := match l with
    | .v x :: r => match v.dec x, c.dec b r with
      | some a, some b => some (a, b)
      | _, _ => none
    | _ => none
  h b l a hd := by
    split at hd
    · split at hd
      · rename_i h1 h2
        injection hd with hd
        subst hd
        exact cov_cons (.inr (.inl (by rw [← v.h _ _ h1]))) (c.h _ _ _ h2)
      · cases hd
    · cases hd
structure CoB (A : Type) where
  enc : A → List (Option Box)
  dec : List (Option Box) → Option A
  h : ∀ l a, dec l = some a → ∀ (d : Nat) (b : Box), (enc a)[d]? = some (some b) → l[d]? = some (some b)
def bN : CoB Unit where
  enc _ := []
  dec l := match l with
    | [] => some ()
    | _ => none
  h l a hd d b hb := by simp at hb
def bJ {A : Type} (c : CoB A) : CoB A where
  enc a := none :: c.enc a
  dec l := match l with
    | _ :: r => c.dec r
    | [] => none
  h l a hd d b hb := by
    split at hd
    · cases d with
      | zero => simp at hb
      | succ d => exact c.h _ _ hd d b hb
    · cases hd
def bV {A B : Type} (ty : TypeId) (v : CoL A) (c : CoB B) : CoB (A × B) where
  enc a := some ⟨ty, v.enc a.1, false, none, 0⟩ :: c.enc a.2
  dec l := match l with
    | some bx :: r => cond (Nat.beq bx.ty ty && !bx.ro && bx.ls.isNone && Nat.beq bx.ver 0) (match v.dec bx.cs, c.dec r with
      | some a, some b => some (a, b)
      | _, _ => none) none
    | _ => none
  h l a hd d b hb := by
    split at hd
    · rename_i bx r
      cases ht : (Nat.beq bx.ty ty && !bx.ro && bx.ls.isNone && Nat.beq bx.ver 0) with
      | false => rw [ht] at hd; cases hd
      | true =>
        rw [ht] at hd
        simp only [Bool.and_eq_true, Bool.not_eq_true', Option.isNone_iff_eq_none] at ht
        simp only [cond_true] at hd
        split at hd
        · rename_i h1 h2
          injection hd with hd
          subst hd
          cases d with
          | zero =>
            simp at hb
            subst hb
            have e := Nat.eq_of_beq_eq_true ht.1.1.1
            have e2 := v.h _ _ h1
            have e3 := ht.1.1.2
            have e4 := ht.1.2
            have e5 := Nat.eq_of_beq_eq_true ht.2
            cases bx
            simp only at e e2 e3 e4 e5
            subst e; subst e2; subst e3; subst e4; subst e5
            rfl
          | succ d => exact c.h _ _ h2 d b hb
        · cases hd
    · cases hd
def bL {A : Type} (ty : TypeId) (ro : Bool) (sh : List Ck) (c : CoB A) : CoB (List (Sh sh) × A) where
  enc a := some ⟨ty, [], ro, some ⟨sh, a.1⟩, 0⟩ :: c.enc a.2
  dec l := match l with
    | some bx :: r => cond (Nat.beq bx.ty ty && (bx.ro == ro) && bx.cs.isEmpty && Nat.beq bx.ver 0) (match bx.ls.bind (·.as sh), c.dec r with
      | some a, some b => some (a, b)
      | _, _ => none) none
    | _ => none
  h l a hd d b hb := by
    split at hd
    · rename_i bx r
      obtain ⟨ht, hd⟩ := cond_some hd
      simp only [Bool.and_eq_true, beq_iff_eq, List.isEmpty_iff] at ht
      split at hd
      · rename_i h1 h2
        injection hd with hd
        subst hd
        cases d with
        | zero =>
          simp at hb
          subst hb
          obtain ⟨lb, hls, has⟩ := Option.bind_eq_some_iff.1 h1
          have hlb := lb_as has
          have e := Nat.eq_of_beq_eq_true ht.1.1.1
          have e2 := ht.1.1.2
          have e3 := ht.1.2
          have e5 := Nat.eq_of_beq_eq_true ht.2
          cases bx
          simp only at e e2 e3 e5 hls
          subst e; subst e2; subst e3; subst e5; subst hls; subst hlb
          rfl
        | succ d => exact c.h _ _ h2 d b hb
      · cases hd
    · cases hd
def vJs {A : Type} : Nat → CoV A → CoV A
  | 0, c => c
  | n + 1, c => vJ (vJs n c)
def bJs {A : Type} : Nat → CoB A → CoB A
  | 0, c => c
  | n + 1, c => bJ (bJs n c)
structure CoS (E : Env) (A : Type) where
  enc : A → St
  dec : St → Option A
  h : ∀ s a, dec s = some a → Wk E s (enc a)
theorem rep_same {w0 w : World} {ρ : Nat → Value} {s : St} {a : Act} (h : Sim E w0 ρ s a w) {b' : List (Option Box)} (hb : ∀ (d : Nat) (bx : Box), b'[d]? = some (some bx) → s.b[d]? = some (some bx)) {x v : AV} {y : Value} (hs : Same b' x v) (hv : v.rep E s.b ρ y) : x.rep E b' ρ y := by
  have key : ∀ z : AV, z.rep E s.b ρ y → z.rep E b' ρ y := fun z hz => rep_keep (fun d _ bx' hb' => ⟨bx', hb d bx' hb', Nat.le_refl _, fun hl => ⟨hl, rfl⟩, fun _ => ⟨⟨rfl, rfl⟩, rfl⟩⟩) hz
  rcases hs with rfl | rfl | ⟨d, n, rfl, hl, rfl⟩
  · trivial
  · exact key _ hv
  · have h1 := key _ hv
    unfold isLst at hl
    split at hl
    · rename_i bx hbx
      simp only [Bool.and_eq_true] at hl
      have h0 := Nat.eq_of_beq_eq_true hl.2
      have hy := (h1.2 bx hbx).2 h0
      refine ⟨?_, h1.2⟩
      have hat := (h.bx d bx (hb d bx hbx)).1
      unfold Box.at at hat
      split at hat
      · rename_i hls; rw [hls] at hl; simp at hl
      · rename_i lb hls
        have e : lenOf b' d = lb.xs.length := by simp [lenOf, hbx, lenB, hls]
        rw [e, hy]
        exact lat_isSl hat.1
    · cases hl
def sS {A B : Type} (v : CoV A) (b : CoB B) : CoS E (A × B) where
  enc a := ⟨v.enc (b.enc a.2) a.1, b.enc a.2⟩
  dec s := match b.dec s.b with
    | some y => match v.dec (b.enc y) s.t with
      | some x => some (x, y)
      | none => none
    | none => none
  h s a hd := by
    split at hd
    · rename_i y h2
      split at hd
      · rename_i x h1
        injection hd with hd
        subst hd
        intro w0 ρ a w h
        obtain ⟨hl, hv⟩ := v.h _ _ _ h1
        have hb := b.h _ _ h2
        refine ⟨ρ, h.df, by rw [h.sz, ← hl], ?_, fun d bx hd => h.bx d bx (hb d bx hd), fun d d' bx bx' g hd hd' => h.inj d d' bx bx' g (hb d bx hd) (hb d' bx' hd'), h.bl, h.iv⟩
        intro i z hz
        obtain ⟨u, hu, hr⟩ := hv i z hz
        exact rep_same h hb hr (h.tm i u hu)
      · cases hd
    · cases hd
def noTo (d : Nat) (x : AV) : AV := match x.to with
  | some e => cond (Nat.beq e d) .j x
  | none => x
def mv (i : Nat) (ty : TypeId) (sh : List Ck) (s : St) : St :=
  match s.t[i]? with
  | some (.l e ver _) => match lst s.b e ver with
    | some bx => cond (!bx.ro && bx.ls.isSome && !(Nat.beq e i && Nat.beq ver 0)) ⟨((s.t.map (noTo e)).map (noTo i)).set i (.l i 0 (lenB bx)), (s.b.set e none).set i (some ⟨bx.ty, bx.cs, false, bx.ls, 0⟩)⟩ s
    | none => s
  | some (.v (.slice none 0 0)) => cond (Nat.ble 1 sh.length) ⟨(s.t.map (noTo i)).set i (.l i 0 0), s.b.set i (some ⟨ty, [], false, some ⟨sh, []⟩, 0⟩)⟩ s
  | _ => s
theorem noTo_or (d : Nat) (x : AV) : noTo d x = .j ∨ (noTo d x = x ∧ x.to ≠ some d) := by
  unfold noTo
  split
  · rename_i e he
    cases hb : Nat.beq e d with
    | true => exact .inl rfl
    | false =>
      refine .inr ⟨rfl, fun h => ?_⟩
      rw [he] at h
      injection h with h
      subst h
      rw [Nat.beq_refl] at hb
      cases hb
  · rename_i he
    exact .inr ⟨rfl, fun h => by rw [he] at h; cases h⟩
theorem mv_wk (i : Nat) (ty : TypeId) (sh : List Ck) (s : St) : Wk E s (mv i ty sh s) := by
  intro w0 ρ a w h
  unfold mv
  split
  · rename_i e ver n hi
    split
    · rename_i bx hb
      cases hc : (!bx.ro && bx.ls.isSome && !(Nat.beq e i && Nat.beq ver 0)) with
      | false => exact ⟨ρ, h⟩
      | true =>
        simp only [Bool.and_eq_true, Bool.not_eq_true'] at hc
        obtain ⟨⟨hro, hls⟩, _⟩ := hc
        obtain ⟨hbe, hve⟩ := lst_some hb
        have hy := ((h.tm i _ hi).2 bx hbe).2 hve
        obtain ⟨hat, hlo⟩ := h.bx e bx hbe
        refine ⟨fun j => if j = i then ρ e else ρ j, h.df, by simp [h.sz], ?_, ?_, ?_, h.bl, h.iv⟩
        · intro j x hx
          simp only [cond_true] at hx
          rw [List.getElem?_set] at hx
          split at hx
          · rename_i hj
            subst hj
            split at hx
            · injection hx with hx
              subst hx
              refine ⟨?_, fun bx2 hb2 => ?_⟩
              · rw [hy]
                unfold Box.at at hat
                split at hat
                · rename_i hl; rw [hl] at hls; cases hls
                · rename_i lb hl
                  simp only [lenB, hl]
                  exact lat_isSl hat.1
              · simp only [cond_true, List.getElem?_set] at hb2
                split at hb2
                · split at hb2
                  · injection hb2 with hb2; injection hb2 with hb2; subst hb2; exact ⟨Nat.le_refl _, fun _ => by simp [hy]⟩
                  · cases hb2
                · rename_i hh; exact absurd trivial hh
            · cases hx
          · rename_i hj
            simp only [List.getElem?_map, Option.map_map] at hx
            cases ht : s.t[j]? with
            | none => rw [ht] at hx; cases hx
            | some z =>
              rw [ht] at hx
              simp only [Option.map_some, Option.some.injEq, Function.comp] at hx
              rcases noTo_or e z with h1 | ⟨h1, h1'⟩
              · rw [h1] at hx
                have : x = .j := by rw [← hx]; rfl
                rw [this]; trivial
              · rw [h1] at hx
                rcases noTo_or i z with h2 | ⟨h2, h2'⟩
                · rw [h2] at hx; rw [← hx]; trivial
                · rw [h2] at hx
                  subst hx
                  refine rep_keep (fun d hd bx' hb' => ?_) (h.tm j z ht)
                  have hdi : d ≠ i := fun e' => h2' (by rw [← e']; exact hd)
                  simp only [cond_true, List.getElem?_set] at hb'
                  rw [if_neg (fun e' => hdi e'.symm)] at hb'
                  split at hb'
                  · split at hb' <;> cases hb'
                  · exact ⟨bx', hb', Nat.le_refl _, fun hl => ⟨hl, by simp [hdi]⟩, fun _ => ⟨⟨rfl, rfl⟩, by simp [hdi]⟩⟩
        · intro d bx2 hb2
          simp only [cond_true, List.getElem?_set] at hb2
          split at hb2
          · rename_i hd
            subst hd
            split at hb2
            · injection hb2 with hb2
              injection hb2 with hb2
              subst hb2
              simp only [if_true]
              refine ⟨?_, fun _ => hlo hro⟩
              unfold Box.at at hat ⊢
              split at hat
              · rename_i hl; rw [hl] at hls; cases hls
              · rename_i lb hl
                rw [hl]
                exact ⟨hat.1, fun _ => hat.2 hro⟩
            · cases hb2
          · rename_i hd
            split at hb2
            · split at hb2 <;> cases hb2
            · simp only [if_neg (fun e' : d = i => hd e'.symm)]
              exact h.bx d bx2 hb2
        · intro d1 d2 b1 b2 g hb1 hb2 r1 he1 he2
          have key : ∀ (d : Nat) (b2 : Box), ((s.b.set e none).set i (some ⟨bx.ty, bx.cs, false, bx.ls, 0⟩))[d]? = some (some b2) → (d = i) ∨ (d ≠ i ∧ d ≠ e ∧ s.b[d]? = some (some b2)) := by
            intro d b2 hb2
            simp only [List.getElem?_set] at hb2
            split at hb2
            · rename_i hd; exact .inl hd.symm
            · rename_i hd
              split at hb2
              · split at hb2 <;> cases hb2
              · rename_i hd2; exact .inr ⟨fun e' => hd e'.symm, fun e' => hd2 e'.symm, hb2⟩
          rcases key d1 b1 hb1 with e1 | ⟨n1, m1, k1⟩ <;> rcases key d2 b2 hb2 with e2 | ⟨n2, m2, k2⟩
          · rw [e1, e2]
          · simp only [if_pos e1] at he1
            simp only [if_neg n2] at he2
            exact absurd (h.inj e d2 bx b2 g hbe k2 hro he1 he2).symm m2
          · simp only [if_neg n1] at he1
            simp only [if_pos e2] at he2
            exact absurd (h.inj d1 e b1 bx g k1 hbe r1 he1 he2) m1
          · simp only [if_neg n1] at he1
            simp only [if_neg n2] at he2
            exact h.inj d1 d2 b1 b2 g k1 k2 r1 he1 he2
    · exact ⟨ρ, h⟩
  · rename_i hi
    cases hc : Nat.ble 1 sh.length with
    | false => exact ⟨ρ, h⟩
    | true =>
      have hy : a.tmps.getD i undef = .slice none 0 0 := h.tm i _ hi
      refine ⟨fun j => if j = i then .slice none 0 0 else ρ j, h.df, by simp [h.sz], ?_, ?_, ?_, h.bl, h.iv⟩
      · intro j x hx
        simp only [cond_true] at hx
        rw [List.getElem?_set] at hx
        split at hx
        · rename_i hj
          subst hj
          split at hx
          · injection hx with hx
            subst hx
            refine ⟨by rw [hy]; exact ⟨none, 0, rfl, Nat.le_refl _, fun _ => ⟨rfl, rfl⟩⟩, fun bx2 hb2 => ?_⟩
            simp only [cond_true, List.getElem?_set] at hb2
            split at hb2
            · split at hb2
              · injection hb2 with hb2; injection hb2 with hb2; subst hb2; exact ⟨Nat.le_refl _, fun _ => by simp [hy]⟩
              · cases hb2
            · rename_i hh; exact absurd trivial hh
          · cases hx
        · rename_i hj
          simp only [List.getElem?_map] at hx
          cases ht : s.t[j]? with
          | none => rw [ht] at hx; cases hx
          | some z =>
            rw [ht] at hx
            simp only [Option.map_some, Option.some.injEq] at hx
            rcases noTo_or i z with h2 | ⟨h2, h2'⟩
            · rw [h2] at hx; rw [← hx]; trivial
            · rw [h2] at hx
              subst hx
              refine rep_keep (fun d hd bx' hb' => ?_) (h.tm j z ht)
              have hdi : d ≠ i := fun e' => h2' (by rw [← e']; exact hd)
              simp only [cond_true, List.getElem?_set] at hb'
              rw [if_neg (fun e' => hdi e'.symm)] at hb'
              exact ⟨bx', hb', Nat.le_refl _, fun hl => ⟨hl, by simp [hdi]⟩, fun _ => ⟨⟨rfl, rfl⟩, by simp [hdi]⟩⟩
      · intro d bx2 hb2
        simp only [cond_true, List.getElem?_set] at hb2
        split at hb2
        · rename_i hd
          subst hd
          split at hb2
          · injection hb2 with hb2
            injection hb2 with hb2
            subst hb2
            simp only [if_true]
            exact ⟨⟨lat_nil hc, fun _ => World.ownsRow_nil _ _ _ _⟩, fun _ g hg => by cases hg⟩
          · cases hb2
        · rename_i hd
          simp only [if_neg (fun e' : d = i => hd e'.symm)]
          exact h.bx d bx2 hb2
      · intro d1 d2 b1 b2 g hb1 hb2 r1 he1 he2
        have key : ∀ (d : Nat) (b2 : Box), (s.b.set i (some ⟨ty, [], false, some ⟨sh, []⟩, 0⟩))[d]? = some (some b2) → (d = i) ∨ (d ≠ i ∧ s.b[d]? = some (some b2)) := by
          intro d b2 hb2
          simp only [List.getElem?_set] at hb2
          split at hb2
          · rename_i hd; exact .inl hd.symm
          · rename_i hd; exact .inr ⟨fun e' => hd e'.symm, hb2⟩
        rcases key d1 b1 hb1 with e1 | ⟨n1, k1⟩
        · simp only [if_pos e1] at he1; cases he1
        · rcases key d2 b2 hb2 with e2 | ⟨n2, k2⟩
          · simp only [if_pos e2] at he2; cases he2
          · simp only [if_neg n1] at he1
            simp only [if_neg n2] at he2
            exact h.inj d1 d2 b1 b2 g k1 k2 r1 he1 he2
  · exact ⟨ρ, h⟩
def mvs : List (Nat × TypeId × List Ck) → St → St
  | [], s => s
  | x :: r, s => mvs r (mv x.1 x.2.1 x.2.2 s)
theorem mvs_wk : ∀ (l : List (Nat × TypeId × List Ck)) (s : St), Wk E s (mvs l s)
  | [], s => Wk.refl s
  | x :: r, s => (mv_wk x.1 x.2.1 x.2.2 s).trans (mvs_wk r _)
def sM {A : Type} (l : List (Nat × TypeId × List Ck)) (c : CoS E A) : CoS E A where
  enc := c.enc
  dec s := c.dec (mvs l s)
  h s a hd := (mvs_wk l s).trans (c.h _ _ hd)
structure Out (E : Env) (O : Type) where
  st : O → Ex × St
  dec : Ex → St → Option O
  elim : {R : Type} → O → (Ex → St → Option R) → Option R
  h : ∀ e s o, dec e s = some o → e ≠ .normal ∧ (st o).1 = e ∧ Wk E s (st o).2
  he : ∀ {R : Type} (o : O) (K : Ex → St → Option R), elim o K = K (st o).1 (st o).2
def oX {A : Type} (id : Nat) (c : CoS E A) : Out E A where
  st a := (.exit id, c.enc a)
  dec e s := match e with
    | .exit i => cond (Nat.beq i id) (c.dec s) none
    | _ => none
  elim a K := K (.exit id) (c.enc a)
  h e s o hd := by
    split at hd
    · rename_i i
      cases hb : Nat.beq i id with
      | false => rw [hb] at hd; cases hd
      | true =>
        rw [hb] at hd
        exact ⟨by simp, by rw [Nat.eq_of_beq_eq_true hb], c.h _ _ hd⟩
    · cases hd
  he _ _ := rfl
def oR {A : Type} (c : CoS E A) : Out E A where
  st a := (.ret, c.enc a)
  dec e s := match e with
    | .ret => c.dec s
    | _ => none
  elim a K := K .ret (c.enc a)
  h e s o hd := by
    split at hd
    · exact ⟨by simp, rfl, c.h _ _ hd⟩
    · cases hd
  he _ _ := rfl
def oS {A B : Type} (x : Out E A) (y : Out E B) : Out E (A ⊕ B) where
  st o := sumE x.st y.st o
  dec e s := match x.dec e s with
    | some a => some (.inl a)
    | none => match y.dec e s with
      | some b => some (.inr b)
      | none => none
  elim o K := sumE (fun a => x.elim a K) (fun b => y.elim b K) o
  h e s o hd := by
    split at hd
    · rename_i a h1
      injection hd with hd
      subst hd
      exact x.h _ _ _ h1
    · split at hd
      · rename_i b h1
        injection hd with hd
        subst hd
        exact y.h _ _ _ h1
      · cases hd
  he o K := by
    cases o with
    | inl a => exact x.he a K
    | inr b => exact y.he b K
def loopRun {A O R : Type} (ci : CoS E A) (ou : Out E O) (g : A → Option O) (s : St) (K : Ex → St → Option R) : Option R :=
  match ci.dec s with
  | some a => (g a).bind fun o => ou.elim o K
  | none => none
def after {A O : Type} (ci : CoS E A) (ou : Out E O) (g : A → Option O) (e : Ex) (s : St) : Option O :=
  match e with
  | .normal => match ci.dec s with
    | some a => g a
    | none => none
  | .ret => ou.dec .ret s
  | .exit i => ou.dec (.exit i) s
theorem loop_crl {A O : Type} {c : Code} (hok : codeOk E.P c = true) {T : Orc O} (hT : OrcOk E T) {L : Lps O} (hL : LpsOk E L (loopsOf c)) {ci : CoS E A} {ou : Out E O} {g : Nat → A → Option O}
    (h0 : ∀ a, g 0 a = none) (hg : ∀ k a, kcode E T L c (ci.enc a) (after ci ou (g k)) = g (k + 1) a) : ∀ (k : Nat) {a : A} {o : O}, g k a = some o → CRL E c (ci.enc a) (ou.st o).1 (ou.st o).2
  | 0, a, o, h => by rw [h0] at h; cases h
  | k + 1, a, o, h => by
    rw [← hg] at h
    obtain ⟨e, s1, h1, h2⟩ := kcode_ok hT c hL hok h
    cases e with
    | normal =>
      simp only [after] at h2
      split at h2
      · rename_i a' ha
        exact CRL.more h1 ((loop_crl hok hT hL h0 hg k h2).weak (ci.h _ _ ha) (Wk.refl _))
      · cases h2
    | ret =>
      obtain ⟨h3, h4, h5⟩ := ou.h _ _ _ h2
      rw [h4]
      exact (CRL.last h1 h3).weak (Wk.refl _) h5
    | exit i =>
      obtain ⟨h3, h4, h5⟩ := ou.h _ _ _ h2
      rw [h4]
      exact (CRL.last h1 h3).weak (Wk.refl _) h5
theorem loopRun_ok {A O R : Type} {c : Code} (hok : codeOk E.P c = true) {T : Orc O} (hT : OrcOk E T) {L : Lps O} (hL : LpsOk E L (loopsOf c)) {ci : CoS E A} {ou : Out E O} {g : Nat → A → Option O}
    (h0 : ∀ a, g 0 a = none) (hg : ∀ k a, kcode E T L c (ci.enc a) (after ci ou (g k)) = g (k + 1) a) (k : Nat) {s : St} {K : Ex → St → Option R} {r : R} (h : loopRun ci ou (g k) s K = some r) : ∃ e s', CRL E c s e s' ∧ K e s' = some r := by
  unfold loopRun at h
  split at h
  · rename_i a ha
    obtain ⟨o, h1, h2⟩ := Option.bind_eq_some_iff.1 h
    rw [ou.he] at h2
    exact ⟨_, _, (loop_crl hok hT hL h0 hg k h1).weak (ci.h _ _ ha) (Wk.refl _), h2⟩
  · cases h
def rid : Code → Option Nat
  | .region id _ _ => some id
  | .seq a b => match rid a with
    | some i => some i
    | none => rid b
  | .cond _ a b => match rid a with
    | some i => some i
    | none => rid b
  | .block _ c => rid c
  | .loop c => rid c
  | .scope c => rid c
  | _ => none
structure LE (E : Env) where
  c : Code
  n : Nat
  run : {R : Type} → St → (Ex → St → Option R) → Option R
  ok : ∀ {R : Type} (s : St) (K : Ex → St → Option R) (r : R), run s K = some r → ∃ e s', CRL E c s e s' ∧ K e s' = some r
def disp {R : Type} (es : List (LE E)) (c : Code) (s : St) (K : Ex → St → Option R) : Option R :=
  match rid c, es with
  | some n, e :: r => cond (Nat.beq e.n n) (e.run s K) (disp r c s K)
  | _, _ => none
def nodup : List Nat → Bool
  | [] => true
  | n :: r => r.all (fun m => !(Nat.beq n m)) && nodup r
theorem disp_ok {R : Type} {es : List (LE E)} {cs : List Code} (h : es.map (·.c) = cs) (hr : es.map (fun e => rid e.c) = es.map (fun e => some e.n)) (hn : nodup (es.map (·.n)) = true) : LpsOk E (disp es : Lps R) cs := by
  subst h
  intro c hc _ s K r hd
  induction es with
  | nil => cases hc
  | cons e es ih =>
    simp only [List.map_cons, List.cons.injEq] at hr
    simp only [List.map_cons, nodup, Bool.and_eq_true, List.all_eq_true, Bool.not_eq_true'] at hn
    have key : ∀ c', c' ∈ es.map (·.c) → ∃ m, m ∈ es.map (·.n) ∧ rid c' = some m := by
      intro c' hc'
      obtain ⟨e', he', rfl⟩ := List.mem_map.1 hc'
      have : rid e'.c ∈ es.map (fun e => some e.n) := by rw [← hr.2]; exact List.mem_map.2 ⟨e', he', rfl⟩
      obtain ⟨e2, he2, h2⟩ := List.mem_map.1 this
      exact ⟨e2.n, List.mem_map.2 ⟨e2, he2, rfl⟩, h2.symm⟩
    rcases List.mem_cons.1 hc with rfl | hc
    · unfold disp at hd
      simp only [hr.1, Nat.beq_refl, cond_true] at hd
      obtain ⟨e', s', h1, h2⟩ := e.ok s K r hd
      exact ⟨e', s', h1.toCR, h2⟩
    · obtain ⟨m, hm, hrm⟩ := key c hc
      have hne : Nat.beq e.n m = false := hn.1 m hm
      unfold disp at hd
      simp only [hrm, hne, cond_false] at hd
      exact ih hr.2 hn.2 hc hd
def mkE {A O : Type} (c : Code) (n : Nat) (cs : List (Ctr E)) (es : List (LE E)) (ci : CoS E A) (ou : Out E O) (g : Nat → A → Option O) (k : Nat)
    (h0 : ∀ a, g 0 a = none) (hg : ∀ k a, kcode E (orc cs) (disp es) c (ci.enc a) (after ci ou (g k)) = g (k + 1) a)
    (hok : codeOk E.P c = true) (he : es.map (·.c) = loopsOf c) (hr : es.map (fun e => rid e.c) = es.map (fun e => some e.n)) (hn : nodup (es.map (·.n)) = true) : LE E where
  c := c
  n := n
  run s K := loopRun ci ou (g k) s K
  ok _ _ _ h := loopRun_ok hok (orc_ok cs) (disp_ok he hr hn) h0 hg k h
def mkU (c : Code) (n : Nat) (cs : List (Ctr E)) (hok : codeOk E.P c = true) : LE E where
  c := c
  n := n
  run s K := unroll E (orc cs) 16 c s K
  ok _ _ _ h := unroll_crl (orc_ok cs) 16 hok h
def mkD {A R : Type} (f : FuncId) {fn : Func} (hf : E.P.funcs[f]? = some fn) (cs : List (Ctr E)) (es : List (LE E)) (ci : CoG A) (co : CoR R) (g : A → Option R)
    (hg : ∀ a, kcode E (orc cs) (disp es) (bodyOf fn) (init fn.ntmps (ci.enc a)) (fin E.P fn.results.toList co.dec) = g a)
    (hb : fn.body.isSome = true := by kernel_rfl) (hn : (fn.name == "runtime.NumGoroutine") = false := by kernel_rfl) (hok : codeOk E.P (bodyOf fn) = true := by kernel_rfl)
    (he : es.map (·.c) = loopsOf (bodyOf fn) := by kernel_rfl) (hr : es.map (fun e => rid e.c) = es.map (fun e => some e.n) := by kernel_rfl) (hd : nodup (es.map (·.n)) = true := by kernel_rfl) : Ctr E :=
  mkL f hf cs ci co g hb hn hok (disp_ok he hr hd) hg
theorem rec_ok {A R : Type} {f : FuncId} {fn : Func} (hf : E.P.funcs[f]? = some fn) (cs : Nat → List (Ctr E)) (ci : CoG A) (co : CoR R) (g : Nat → A → Option R) (h0 : ∀ a, g 0 a = none)
    (hg : ∀ k (h : ∀ a r, g k a = some r → CallsV E f (ci.enc a) (co.enc r)) a, kcode E (orc (ofCalls f ci co (g k) h :: cs k)) noLoop (bodyOf fn) (init fn.ntmps (ci.enc a)) (fin E.P fn.results.toList co.dec) = g (k + 1) a)
    (hb : fn.body.isSome = true) (hn : (fn.name == "runtime.NumGoroutine") = false) (hok : codeOk E.P (bodyOf fn) = true) : ∀ k a r, g k a = some r → CallsV E f (ci.enc a) (co.enc r)
  | 0, a, r, h => by rw [h0] at h; cases h
  | k + 1, a, r, h => by
    have ih := rec_ok hf cs ci co g h0 hg hb hn hok k
    rw [← hg k ih] at h
    exact fn_calls hf (bodyOf_some hb) hn hok (orc_ok _) (noLoop_ok _) co.h h
def mkRec {A R : Type} (f : FuncId) {fn : Func} (hf : E.P.funcs[f]? = some fn) (cs : Nat → List (Ctr E)) (ci : CoG A) (co : CoR R) (g : Nat → A → Option R) (h0 : ∀ a, g 0 a = none)
    (hg : ∀ k (h : ∀ a r, g k a = some r → CallsV E f (ci.enc a) (co.enc r)) a, kcode E (orc (ofCalls f ci co (g k) h :: cs k)) noLoop (bodyOf fn) (init fn.ntmps (ci.enc a)) (fin E.P fn.results.toList co.dec) = g (k + 1) a) (k : Nat)
    (hb : fn.body.isSome = true := by kernel_rfl) (hn : (fn.name == "runtime.NumGoroutine") = false := by kernel_rfl) (hok : codeOk E.P (bodyOf fn) = true := by kernel_rfl) : Ctr E :=
  ofCalls f ci co (g k) (rec_ok hf cs ci co g h0 hg hb hn hok k)
def loopAt (c : Code) (i : Nat) : Code := (loopsOf c).getD i .skip
end Go.Sx
