/- A part of an evaluator of the model's code, and of the proof that what it answers is what a call does. -/
import Derived.Test.YtdjagmfcfmeopaaDoorY6
namespace Go.Sx
open Go.RowKit
variable {E : Env}
theorem evs_congr {t t1 : List AV} : ∀ {l : List Operand}, (∀ i ∈ tmpsOf l, t[i]? = t1[i]?) → evs t l = evs t1 l
  | [], _ => rfl
  | x :: r, h => by
    have h1 : ev t x = ev t1 x := by
      cases x with
      | tmp i => exact h i (by simp [tmpsOf])
      | _ => rfl
    have h2 : evs t r = evs t1 r := evs_congr fun i hi => h i (by cases x <;> simp [tmpsOf, hi])
    simp [evs, h1, h2]
theorem evs_mem {t : List AV} : ∀ {l : List Operand} {vs : List AV} {y : AV} {d : Nat}, evs t l = some vs → y ∈ vs → y.to = some d → ∃ i, i ∈ tmpsOf l ∧ t[i]? = some y
  | [], vs, y, d, h, hm, _ => by simp [evs] at h; subst h; cases hm
  | x :: r, vs, y, d, h, hm, hd => by
    obtain ⟨a, l, h1, h2, rfl⟩ := evs_cons h
    cases hm with
    | head =>
      cases x with
      | tmp i => exact ⟨i, by simp [tmpsOf], h1⟩
      | const v => simp [ev] at h1; subst h1; cases hd
      | global g => simp [ev] at h1; subst h1; cases hd
      | func f => simp [ev] at h1; subst h1; cases hd
    | tail _ hm =>
      obtain ⟨i, hi, ht⟩ := evs_mem h2 hm hd
      exact ⟨i, by cases x <;> simp [tmpsOf, hi], ht⟩
theorem evs_head {t : List AV} {x : Operand} {l : List Operand} {y : AV} {vs : List AV} {d : Nat} (h : evs t (x :: l) = some (y :: vs)) (hd : y.to = some d) : ∃ i, x = .tmp i ∧ t[i]? = some y := by
  obtain ⟨a, r, h1, h2, h3⟩ := evs_cons h
  injection h3 with h3 h4
  subst h3
  cases x with
  | tmp i => exact ⟨i, rfl, h1⟩
  | const v => simp [ev] at h1; subst h1; cases hd
  | global g => simp [ev] at h1; subst h1; cases hd
  | func f => simp [ev] at h1; subst h1; cases hd
theorem lst_congr {b b1 : List (Option Box)} {d ver : Nat} (h : b[d]? = b1[d]?) : lst b d ver = lst b1 d ver := by unfold lst; rw [h]
theorem gas_congr {P : Program} {R : Type} {b b1 : List (Option Box)} : ∀ {vs : List AV} {ts : List TypeId} {K : List GA → Option R}, (∀ y ∈ vs, ∀ d, y.to = some d → b[d]? = b1[d]?) → gas P b vs ts K = gas P b1 vs ts K := by
  intro vs
  induction vs with
  | nil => intro ts K _; cases ts <;> rfl
  | cons y r ih =>
    intro ts K h
    have ih' : ∀ (ts : List TypeId) (K : List GA → Option R), gas P b r ts K = gas P b1 r ts K := fun ts K => ih fun z hz => h z (List.mem_cons_of_mem _ hz)
    have hy := h y (List.Mem.head _)
    cases ts with
    | nil => cases y <;> rfl
    | cons t ts =>
      unfold gas
      cases y <;> simp only [ih'] <;> first
        | rfl
        | (rw [hy _ rfl]; done)
        | (rw [lst_congr (hy _ rfl)]; done)
        | skip
theorem newRows_congr {sh : List Ck} {b b1 : List (Option Box)} {y : AV} (h : ∀ d, y.to = some d → b[d]? = b1[d]?) : newRows sh b y = newRows sh b1 y := by
  cases y <;> first
    | rfl
    | (simp only [newRows, lst_congr (h _ rfl)])
theorem keffA_congr {o : Oper} {t : List AV} {l : List Operand} {vs : List AV} {b b1 : List (Option Box)} (hl : opnds o.op = some l) (hv : evs t l = some vs)
    (h : ∀ i ∈ aTs o, ∀ y, t[i]? = some y → ∀ d, y.to = some d → b[d]? = b1[d]?) : keffA E o.op vs b some = keffA E o.op vs b1 some := by
  generalize hop : o.op = op at hl
  unfold keffA
  split <;> (try rfl)
  · simp [opnds] at hl
    subst hl
    obtain ⟨i, rfl, ht⟩ := evs_head hv rfl
    rw [h i (by simp [aTs, hop]) _ ht _ rfl]
  · simp [opnds] at hl
    subst hl
    obtain ⟨i, rfl, ht⟩ := evs_head hv rfl
    rw [lst_congr (h i (by simp [aTs, hop]) _ ht _ rfl)]
  · simp [opnds] at hl
    subst hl
    obtain ⟨i, rfl, ht⟩ := evs_head hv rfl
    rw [h i (by simp [aTs, hop]) _ ht _ rfl]
  · simp [opnds] at hl
    subst hl
    obtain ⟨i, rfl, ht⟩ := evs_head hv rfl
    rw [lst_congr (h i (by simp [aTs, hop]) _ ht _ rfl)]
  · simp [opnds] at hl
    subst hl
    obtain ⟨i, rfl, ht⟩ := evs_head hv rfl
    rw [lst_congr (h i (by simp [aTs, hop]) _ ht _ rfl)]
  · split <;> (try rfl)
    · rename_i f0 fn fi ca r hcal
      simp [opnds, hcal] at hl
      subst hl
      obtain ⟨y, l', hy, hl', e3⟩ := evs_cons hv
      injection e3 with e3 e4
      subst e4
      rw [gas_congr (b1 := b1) fun z hz d hd => by
        obtain ⟨i, hi, ht⟩ := evs_mem hl' hz hd
        exact h i (by simp [aTs, hop, hcal, hi]) _ ht _ hd]
    · rename_i x y hcal
      simp [opnds, hcal] at hl
      have hm : ∀ z ∈ [x, y], ∀ d, z.to = some d → b[d]? = b1[d]? := fun z hz d hd => by
        rw [← hl] at hv
        obtain ⟨i, hi, ht⟩ := evs_mem hv hz hd
        exact h i (by simp [aTs, hop, hcal, hi]) _ ht _ hd
      have e1 : ∀ sh, newRows sh b y = newRows sh b1 y := fun sh => newRows_congr (hm y (by simp))
      simp only [e1]
      have e2 : ∀ (e : TypeId) (sh : List Ck) (i : TypeInfo) (ys : List (Sh sh)), kapnd e sh i b ys x some = kapnd e sh i b1 ys x some := by
        intro e sh i ys
        cases x with
        | l d ver n => simp only [kapnd, lst_congr (hm _ (List.Mem.head _) _ rfl)]
        | v z =>
          unfold kapnd
          split <;> first
            | rfl
            | (rename_i e; cases e)
        | _ => rfl
      simp only [e2]
theorem aTs_mem {o : Oper} {i : Nat} (h : i ∈ aTs o) : isLd o = true ∨ isSt o = true := by
  unfold aTs at h
  split at h
  · rename_i hop; simp [isLd, hop]
  · rename_i hop; simp [isLd, hop]
  · rename_i hop; simp [isSt, hop]
  · rename_i hop; simp [isLd, hop]
  · cases h
theorem want_congr {ops : List Oper} {o : Oper} {t t1 : List AV} (h : ∀ i ∈ looks ops o, t[i]? = t1[i]?) : want ops o t = want ops o t1 := by
  unfold want
  split
  · rfl
  · rename_i j wt hg
    split
    · rfl
    · rename_i g hj
      rw [h g (by simp [looks, hg, hj])]
def ES (E : Env) (o : Oper) (vs : List AV) : Eff → Prop
  | .pure x => ∀ d, x.to = some d → ∃ y ∈ vs, y.to = some d
  | .alloc _ _ => nmD E.P o = o.dst
  | .store d _ _ _ => (∃ ty a x, o.op = .store ty a x) ∧ ∃ y r, vs = y :: r ∧ y.to = some d
  | .grow d _ _ => (∃ c, o.op = .call c ∧ c.callee = .builtin .append) ∧ ∃ y r, vs = y :: r ∧ y.to = some d
  | .call _ _ => ∃ c, o.op = .call c ∧ mkCl c = true
theorem es_mem {o : Oper} {vs : List AV} {x : AV} (h : x ∈ vs) : ES E o vs (.pure x) := fun d hd => ⟨x, h, hd⟩
theorem es_v {o : Oper} {vs : List AV} {x : Value} : ES E o vs (.pure (.v x)) := fun _ hd => by cases hd
theorem es_to {o : Oper} {vs : List AV} {x y : AV} (h : y ∈ vs) (ht : x.to = y.to) : ES E o vs (.pure x) := fun d hd => ⟨y, h, by rw [← ht]; exact hd⟩
theorem bounds_ex {R : Type} {lo hi : Option Operand} {n : Nat} {vs : List AV} {K : Int → Int → Option R} {r : R} (h : bounds lo hi n vs K = some r) : ∃ l k, K l k = some r := by
  unfold bounds at h
  split at h
  · exact ⟨_, _, h⟩
  · exact ⟨_, _, (cond_some h).2⟩
  · exact ⟨_, _, (cond_some h).2⟩
  · exact ⟨_, _, (cond_some h).2⟩
  · cases h
theorem gas_ex {P : Program} {R : Type} {b : List (Option Box)} : ∀ {vs : List AV} {ts : List TypeId} {K : List GA → Option R} {r : R}, gas P b vs ts K = some r → ∃ l, K l = some r := by
  intro vs
  induction vs with
  | nil => intro ts K r h; exact ⟨[], by simpa [gas] using h⟩
  | cons x l ih =>
    intro ts K r h
    have nxt : ∀ {g : GA} {ts : List TypeId}, gas P b l ts (fun l => K (g :: l)) = some r → ∃ l, K l = some r := fun h => let ⟨l', hl⟩ := ih h; ⟨_, hl⟩
    unfold gas at h
    split at h
    · rename_i e; cases e
    · rename_i e; injection e with e1 e2; subst e1; subst e2; exact nxt h
    · rename_i e; injection e with e1 e2; subst e1; subst e2
      split at h
      · split at h
        · exact nxt (cond_some h).2
        · cases h
      · cases h
    · rename_i e; injection e with e1 e2; subst e1; subst e2
      split at h
      · split at h
        · split at h
          · obtain ⟨_, h⟩ := cond_some h
            obtain ⟨_, _, h⟩ := Option.bind_eq_some_iff.1 h
            exact nxt h
          · cases h
        · cases h
      · cases h
    · rename_i e; injection e with e1 e2; subst e1; subst e2
      split at h
      · split at h
        · exact nxt h
        · cases h
      · cases h
    · rename_i e; injection e with e1 e2; subst e1; subst e2
      split at h
      · split at h
        · exact nxt (cond_some h).2
        · cases h
      · cases h
    · cases h
theorem keffA_shape {o : Oper} {vs : List AV} {b : List (Option Box)} {e : Eff} (h : keffA E o.op vs b some = some e) : ES E o vs e := by
  generalize hop : o.op = op at h
  unfold keffA at h
  split at h
  · injection h with h; subst h; exact es_mem (List.Mem.head _)
  · injection h with h; subst h; exact es_mem (List.Mem.head _)
  · rename_i c x y
    cases c <;> (injection h with h; subst h; exact es_mem (by simp))
  · split at h
    · injection h with h; subst h; simp [ES, nmD, hop]
    · cases h
  · injection h with h; subst h; simp [ES, nmD, hop]
  · split at h
    · split at h
      · injection h with h; subst h; exact es_v
      · cases h
    · cases h
  · split at h
    · split at h
      · split at h
        · obtain ⟨_, h⟩ := cond_some h
          split at h
          · injection h with h; subst h; simp [ES, nmD, hop]
          · cases h
        · cases h
      · cases h
    · cases h
  · split at h
    · split at h
      · split at h
        · split at h
          · obtain ⟨_, h⟩ := cond_some h
            injection h with h; subst h; simp [ES, nmD, hop]
          · cases h
        · cases h
      · cases h
    · cases h
  · split at h
    · split at h
      · obtain ⟨_, h⟩ := cond_some h
        injection h with h; subst h; exact es_to (List.Mem.head _) rfl
      · cases h
    · cases h
  · split at h
    · split at h
      · obtain ⟨_, h⟩ := cond_some h
        injection h with h; subst h; exact es_to (List.Mem.head _) rfl
      · cases h
    · cases h
  · split at h
    · split at h
      · obtain ⟨_, h⟩ := cond_some h
        injection h with h; subst h; exact es_to (List.Mem.head _) rfl
      · cases h
    · cases h
  · split at h
    · split at h
      · obtain ⟨_, h⟩ := cond_some h
        injection h with h; subst h; exact fun d hd => by cases hd
      · cases h
    · cases h
  · split at h
    · obtain ⟨_, h⟩ := cond_some h
      injection h with h; subst h; exact es_v
    · cases h
  · split at h
    · split at h
      · obtain ⟨_, h⟩ := cond_some h
        obtain ⟨_, _, h⟩ := Option.bind_eq_some_iff.1 h
        split at h
        · injection h with h; subst h; exact es_v
        · cases h
      · split at h
        · obtain ⟨_, h⟩ := cond_some h
          injection h with h; subst h; exact es_v
        · obtain ⟨_, h⟩ := cond_some h
          split at h
          · injection h with h; subst h; exact es_v
          · cases h
        · cases h
    · cases h
  · split at h
    · split at h
      · split at h
        · injection h with h; subst h; exact es_v
        · cases h
      · cases h
    · cases h
  · split at h
    · split at h
      · obtain ⟨_, h⟩ := cond_some h
        obtain ⟨_, _, h⟩ := Option.bind_eq_some_iff.1 h
        split at h
        · injection h with h; subst h; exact es_v
        · cases h
      · cases h
    · cases h
  · split at h
    · split at h
      · injection h with h; subst h; exact es_v
      · cases h
    · cases h
  · split at h
    · split at h
      · obtain ⟨_, _, h⟩ := Option.bind_eq_some_iff.1 h
        split at h
        · obtain ⟨_, h⟩ := cond_some h
          injection h with h; subst h; exact es_v
        · cases h
      · cases h
    · cases h
  · split at h
    · split at h
      · obtain ⟨_, h⟩ := cond_some h
        injection h with h; subst h; exact ⟨⟨_, _, _, hop⟩, _, _, rfl, rfl⟩
      · cases h
    · cases h
  · split at h
    · split at h
      · split at h
        · obtain ⟨_, h⟩ := cond_some h
          obtain ⟨_, _, h⟩ := Option.bind_eq_some_iff.1 h
          split at h
          · injection h with h; subst h; exact ⟨⟨_, _, _, hop⟩, _, _, rfl, rfl⟩
          · cases h
        · cases h
      · cases h
    · cases h
  · split at h
    · obtain ⟨_, _, h⟩ := bounds_ex h
      injection h with h; subst h; exact es_v
    · cases h
  · split at h
    · split at h
      · obtain ⟨_, _, h⟩ := bounds_ex h
        injection h with h; subst h; exact es_to (List.Mem.head _) rfl
      · cases h
    · cases h
  · split at h
    · split at h
      · obtain ⟨_, _, h⟩ := bounds_ex h
        obtain ⟨_, h⟩ := cond_some h
        injection h with h; subst h; exact es_to (List.Mem.head _) rfl
      · cases h
    · cases h
  · rename_i op _ _ _ _ k x k' y
    cases hs : isShift op
    · cases hk : decide (k = k')
      · simp [hs, hk] at h
      · simp only [hs, hk, cond_true, cond_false] at h
        obtain ⟨v, hv, _⟩ := kint_some (P := E.P) h hs
        injection hv with hv; subst hv; exact es_v
    · simp only [hs, cond_true] at h
      obtain ⟨v, hv, _⟩ := kshift_some (P := E.P) (k' := k') h
      injection hv with hv; subst hv; exact es_v
  · split at h
    · obtain ⟨v, hv, _⟩ := kstr_some (P := E.P) h
      injection hv with hv; subst hv; exact es_v
    · cases h
  · split at h
    · injection h with h; subst h; exact es_v
    · cases h
  · split at h
    · injection h with h; subst h; exact es_v
    · cases h
  · split at h
    · injection h with h; subst h; exact es_v
    · cases h
  · split at h
    · injection h with h; subst h; exact es_v
    · cases h
  · injection h with h; subst h; exact es_v
  · injection h with h; subst h; exact es_v
  · injection h with h; subst h; exact es_v
  · split at h
    · injection h with h; subst h; exact es_v
    · cases h
  · split at h
    · injection h with h; subst h; exact es_v
    · rename_i hs hd
      split at h
      · injection h with h; subst h; simp [ES, nmD, hop, isSl, hd]
      · cases h
    · cases h
  · split at h
    · split at h
      · split at h
        · injection h with h; subst h; exact es_v
        · cases h
      · cases h
    · cases h
  · split at h
    · split at h
      · split at h
        · cases hc : Nat.beq _ _ with
          | true => rw [hc] at h; cases h
          | false => rw [hc] at h; injection h with h; subst h; exact es_to (List.Mem.head _) rfl
        · cases h
      · cases h
    · cases h
  · split at h
    · split at h
      · split at h
        · cases hc : Nat.beq _ _ with
          | true => rw [hc] at h; cases h
          | false => rw [hc] at h; injection h with h; subst h; exact es_to (List.Mem.head _) rfl
        · cases h
      · cases h
    · cases h
  · split at h
    · split at h
      · split at h
        · injection h with h; subst h; exact es_v
        · split at h
          · injection h with h; subst h; exact es_v
          · cases h
        · cases h
      · cases h
    · cases h
  · split at h
    · injection h with h; subst h; exact es_v
    · cases h
  · split at h
    · injection h with h; subst h; exact es_v
    · injection h with h; subst h; exact es_to (List.Mem.head _) rfl
    · cases h
  · injection h with h; subst h; exact es_mem (List.Mem.head _)
  · injection h with h; subst h; exact es_mem (List.Mem.head _)
  · split at h
    · rename_i hcal
      split at h
      · obtain ⟨_, h⟩ := gas_ex h
        injection h with h; subst h
        exact ⟨_, hop, by simp [mkCl, hcal]⟩
      · cases h
    · split at h
      · injection h with h; subst h; exact es_v
      · cases h
    · split at h
      · injection h with h; subst h; exact es_v
      · cases h
    · split at h
      · injection h with h; subst h; exact es_v
      · cases h
    · split at h
      · injection h with h; subst h; exact es_v
      · cases h
    · rename_i hcal
      split at h
      · split at h
        · split at h
          · obtain ⟨_, h⟩ := cond_some h
            split at h
            · unfold kapnd at h
              split at h
              · obtain ⟨_, h⟩ := cond_some h
                injection h with h; subst h; simp [ES, nmD, hop, mkAp, hcal]
              · split at h
                · split at h
                  · obtain ⟨_, h⟩ := cond_some h
                    injection h with h; subst h; exact ⟨⟨_, hop, hcal⟩, _, _, rfl, rfl⟩
                  · cases h
                · cases h
              · cases h
            · cases h
          · cases h
        · cases h
      · cases h
    · injection h with h; subst h; exact es_v
    · injection h with h; subst h; exact es_v
    · cases h
  · cases h
end Go.Sx
