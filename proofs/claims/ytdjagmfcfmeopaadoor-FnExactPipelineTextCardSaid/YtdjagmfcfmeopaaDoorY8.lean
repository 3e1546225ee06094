/- A part of an evaluator of the model's code, and of the proof that what it answers is what a call does. -/
import Derived.Test.YtdjagmfcfmeopaaDoorY7
namespace Go.Sx
open Go.RowKit
variable {E : Env}
theorem getT_far {l : List AV} {x : Option (Nat × AV)} {i : Nat} (h : ∀ d v, x = some (d, v) → d ≠ i) : (setT l x)[i]? = l[i]? := by
  cases x with
  | none => rfl
  | some y =>
    obtain ⟨d, v⟩ := y
    simp only [setT, List.getElem?_set]
    rw [if_neg (h d v rfl)]
theorem getB_far {l : List (Option Box)} {x : Option (Nat × Box)} {i : Nat} (h : ∀ d v, x = some (d, v) → d ≠ i) : (setB l x)[i]? = l[i]? := by
  cases x with
  | none => rfl
  | some y =>
    obtain ⟨d, v⟩ := y
    simp only [setB, List.getElem?_set]
    rw [if_neg (h d v rfl)]
theorem alD_op {o : Oper} {d : Nat} (h : alD o = some d) : o.dst = some d ∧ ((∃ ty, o.op = .alloc ty) ∨ (∃ ty x, o.op = .box ty x)) := by
  unfold alD at h
  split at h
  · rename_i ty d' h1 h2; injection h with h; subst h; exact ⟨h2, .inl ⟨_, h1⟩⟩
  · rename_i ty x d' h1 h2; injection h with h; subst h; exact ⟨h2, .inr ⟨_, _, h1⟩⟩
  · cases h
theorem alD_nmD {P : Program} {o : Oper} {d : Nat} (h : alD o = some d) : nmD P o = some d := by
  obtain ⟨h1, ⟨ty, h2⟩ | ⟨ty, x, h2⟩⟩ := alD_op h <;> simp [nmD, h1, h2]
theorem nmD_dst {P : Program} {o : Oper} {d : Nat} (h : nmD P o = some d) : o.dst = some d := by
  unfold nmD at h
  split at h <;> first
    | exact h
    | exact (cond_some h).2
    | cases h
theorem Can.writes {ops : List Oper} {o : Oper} {s : St} {δ : Dl} (h : Can E ops o s δ) : ∀ d v, δ.t = some (d, v) → o.dst = some d := by
  intro d v hd
  have key : ∀ x, δ.t = to o.dst x → o.dst = some d := by
    intro x hx
    rw [hd] at hx
    cases ho : o.dst with
    | none => rw [ho] at hx; simp [to] at hx
    | some e => rw [ho] at hx; simp [to] at hx; rw [hx.1]
  rcases h with ⟨_, l, vs, e, _, _, _, he⟩ | ⟨_, he⟩
  · cases e with
    | pure x => simp only [EDl] at he; subst he; exact key _ rfl
    | alloc bx n => obtain ⟨d', h1, h2⟩ := he; subst h2; simp at hd; rw [h1, hd.1]
    | store d' off ws bx' => obtain ⟨_, h2⟩ := he; subst h2; exact key _ rfl
    | grow d' bx' n => obtain ⟨_, h2⟩ := he; subst h2; exact key _ rfl
    | call f args =>
      obtain ⟨rs, _, ⟨vs', _, h2⟩ | ⟨ty, lb, d', _, _, h1, _, h2⟩⟩ := he
      · subst h2; exact key _ rfl
      · subst h2; simp at hd; rw [h1, hd.1]
  · subst he; exact key _ rfl
theorem looks_op {ops : List Oper} {o : Oper} {l : List Operand} (hl : opnds o.op = some l) {i : Nat} (h : i ∈ tmpsOf l) : i ∈ looks ops o := by
  simp [looks, hl, h]
theorem store_at {o : Oper} {s : St} {l : List Operand} {y : AV} {r : List AV} {d : Nat} {ty : TypeId} {a x : Operand} (hl : opnds o.op = some l) (hv : evs s.t l = some (y :: r)) (hy : y.to = some d) (h : o.op = .store ty a x) : ∃ i, a = .tmp i ∧ s.t[i]? = some y := by
  rw [h] at hl
  simp [opnds] at hl
  subst hl
  exact evs_head hv hy
theorem grow_at {o : Oper} {s : St} {l : List Operand} {y : AV} {r : List AV} {d : Nat} {c : Call} (hl : opnds o.op = some l) (hv : evs s.t l = some (y :: r)) (hy : y.to = some d) (h : o.op = .call c) (hc : c.callee = .builtin .append) : ∃ i, i ∈ aTs o ∧ s.t[i]? = some y := by
  rw [h] at hl
  simp [opnds, hc] at hl
  subst hl
  obtain ⟨i, hi, ht⟩ := evs_mem hv (List.Mem.head _) hy
  exact ⟨i, by simp [aTs, h, hc, hi], ht⟩
theorem aT_look {ops : List Oper} {o : Oper} {t : Nat} (h : t ∈ aTs o) : t ∈ looks ops o := by
  unfold aTs at h
  split at h
  · rename_i hop; simp at h; subst h; simp [looks, opnds, hop, tmpsOf]
  · rename_i hop; simp at h; subst h; simp [looks, opnds, hop, tmpsOf]
  · rename_i hop; simp at h; subst h; simp [looks, opnds, hop, tmpsOf]
  · rename_i c hop
    cases hcal : c.callee with
    | value f => rw [hcal] at h; simp only [looks, hop, opnds, hcal]; cases f <;> simp [tmpsOf, h]
    | builtin b => rw [hcal] at h; simp [looks, hop, opnds, hcal, h]
    | invoke r m => rw [hcal] at h; cases h
  · cases h
theorem Can.boxes {ops : List Oper} {o : Oper} {s : St} {δ : Dl} (h : Can E ops o s δ) : ∀ d bx, δ.b = some (d, bx) →
    nmD E.P o = some d ∨ (isSt o = true ∧ ∃ i x, i ∈ aTs o ∧ i ∈ looks ops o ∧ s.t[i]? = some x ∧ x.to = some d) := by
  intro d bx hd
  rcases h with ⟨_, l, vs, e, hl, hv, hk, he⟩ | ⟨_, he⟩
  · have hs := keffA_shape hk
    cases e with
    | pure x => simp only [EDl] at he; subst he; cases hd
    | alloc b' n =>
      obtain ⟨d', h1, h2⟩ := he
      subst h2
      simp at hd
      have hs : nmD E.P o = o.dst := hs
      exact .inl (by rw [hs, h1, hd.1])
    | store d' off ws b' =>
      obtain ⟨_, h2⟩ := he
      subst h2
      simp at hd
      obtain ⟨⟨ty, a, x, h3⟩, y, r, rfl, h4⟩ := hs
      obtain ⟨i, hi, ht⟩ := store_at hl hv h4 h3
      have hm : i ∈ aTs o := by simp [aTs, h3, hi]
      exact .inr ⟨by simp [isSt, h3], i, _, hm, aT_look hm, ht, by rw [h4, hd.1]⟩
    | grow d' b' n =>
      obtain ⟨_, h2⟩ := he
      subst h2
      simp at hd
      obtain ⟨⟨c, h3, h5⟩, y, r, rfl, h4⟩ := hs
      obtain ⟨i, hi, ht⟩ := grow_at hl hv h4 h3 h5
      exact .inr ⟨by simp [isSt, h3, mkAp, h5], i, _, hi, aT_look hi, ht, by rw [h4, hd.1]⟩
    | call f args =>
      obtain ⟨rs, _, ⟨vs', _, h2⟩ | ⟨ty, lb, d', _, _, h1, h3, h2⟩⟩ := he
      · subst h2; cases hd
      · subst h2
        simp at hd
        obtain ⟨c, h4, h5⟩ := hs
        exact .inl (by simp [nmD, h4, h5, h3, h1, hd.1])
  · subst he; cases hd
theorem mkA_to (d : Nat) (m : Mk) : (mkA d m).to = some d := by cases m <;> rfl
theorem Can.ptr {ops : List Oper} {o : Oper} {s : St} {δ : Dl} (h : Can E ops o s δ) : ∀ i x d, δ.t = some (i, x) → x.to = some d → nmD E.P o = some d ∨ ∃ (j : Nat) (y : AV), j ∈ opT o ∧ s.t[j]? = some y ∧ y.to = some d := by
  intro i x d hd hx
  have key : ∀ z, δ.t = to o.dst z → z = x := by
    intro z hz
    rw [hd] at hz
    cases ho : o.dst with
    | none => rw [ho] at hz; simp [to] at hz
    | some e => rw [ho] at hz; simp [to] at hz; rw [← hz.2]
  rcases h with ⟨_, l, vs, e, hl, hv, hk, he⟩ | ⟨_, he⟩
  · have hs := keffA_shape hk
    cases e with
    | pure z =>
      simp only [EDl] at he
      have := key z (by rw [he])
      subst this
      obtain ⟨y, hm, hy⟩ := hs d hx
      obtain ⟨j, hj, ht⟩ := evs_mem hv hm hy
      exact .inr ⟨j, y, by simp [opT, hl, hj], ht, hy⟩
    | alloc b' n =>
      obtain ⟨d', h1, h2⟩ := he
      subst h2
      simp at hd
      have hs : nmD E.P o = o.dst := hs
      rw [← hd.2, mkA_to] at hx
      exact .inl (by rw [hs, h1, hx])
    | store d' off' ws b' => obtain ⟨_, h2⟩ := he; have := key (.v undef) (by rw [h2]); subst this; cases hx
    | grow d' b' n =>
      obtain ⟨_, h2⟩ := he
      have := key (.l d' b'.ver n) (by rw [h2])
      subst this
      injection hx with hx
      subst hx
      obtain ⟨_, y, r, rfl, h4⟩ := hs
      obtain ⟨j, hj, ht⟩ := evs_mem hv (List.Mem.head _) h4
      exact .inr ⟨j, y, by simp [opT, hl, hj], ht, h4⟩
    | call f args =>
      obtain ⟨rs, _, ⟨vs', _, h2⟩ | ⟨ty, lb, d', _, _, h1, h3, h2⟩⟩ := he
      · have := key (.v (resV vs')) (by rw [h2]); subst this; cases hx
      · subst h2
        simp at hd
        obtain ⟨c, h4, h5⟩ := hs
        rw [← hd.2, mkA_to] at hx
        exact .inl (by simp [nmD, h4, h5, h3, h1, hx])
  · have := key (.v undef) (by rw [he]); subst this; cases hx
theorem NoPtr.step {ops : List Oper} {o : Oper} {s : St} {δ : Dl} (h : Can E ops o s δ) {d : Nat} (hn : NoPtr d s) (hd : nmD E.P o ≠ some d) : NoPtr d (δ.ap s) := by
  intro i x hi hto
  simp only [Dl.ap] at hi
  cases ht : δ.t with
  | none => rw [ht] at hi; exact hn i x hi hto
  | some y =>
    obtain ⟨e, v⟩ := y
    rw [ht] at hi
    simp only [setT, List.getElem?_set] at hi
    split at hi
    · split at hi
      · injection hi with hi
        subst hi
        rcases h.ptr _ _ _ ht hto with h1 | ⟨j, y, _, h1, h2⟩
        · exact hd h1
        · exact hn j y h1 h2
      · cases hi
    · exact hn i x hi hto
theorem Can.congr {ops : List Oper} {o : Oper} {s s1 : St} {δ : Dl} (h : Can E ops o s δ) (ht : ∀ i ∈ looks ops o, s.t[i]? = s1.t[i]?)
    (hb : ∀ (i : Nat) (x : AV) (d : Nat), i ∈ aTs o → s.t[i]? = some x → x.to = some d → s.b[d]? = s1.b[d]?) : Can E ops o s1 δ := by
  rcases h with ⟨hw, l, vs, e, hl, hv, hk, he⟩ | ⟨hw, he⟩
  · refine .inl ⟨by rw [← want_congr ht]; exact hw, l, vs, e, hl, ?_, ?_, ?_⟩
    · rw [← hv]; exact (evs_congr fun i hi => ht i (looks_op hl hi)).symm
    · rw [← hk]
      exact (keffA_congr hl hv fun i hi y hy d hd => hb i y d hi hy hd).symm
    · have hs := keffA_shape hk
      cases e with
      | pure x => exact he
      | alloc bx n => exact he
      | store d off ws b' =>
        obtain ⟨⟨bx, h1⟩, h2⟩ := he
        obtain ⟨⟨ty, a, x, h3⟩, y, r, rfl, h4⟩ := hs
        obtain ⟨i, hi, hti⟩ := store_at hl hv h4 h3
        exact ⟨⟨bx, by rw [← hb i _ d (by simp [aTs, h3, hi]) hti h4]; exact h1⟩, h2⟩
      | grow d b' n =>
        obtain ⟨⟨bx, h1⟩, h2⟩ := he
        obtain ⟨⟨c, h3, h5⟩, y, r, rfl, h4⟩ := hs
        obtain ⟨i, hi, hti⟩ := grow_at hl hv h4 h3 h5
        exact ⟨⟨bx, by rw [← hb i _ d hi hti h4]; exact h1⟩, h2⟩
      | call f args => exact he
  · exact .inr ⟨by rw [← want_congr ht]; exact hw, he⟩
def Inv1 (ops : List Oper) (s : St) : Prop := ∀ d ∈ allocsOf ops, (∀ (i : Nat) (x : AV), s.t[i]? = some x → x.to = some d → i ∈ der ops d) ∧ (∀ x, s.t[d]? = some x → x.to = none ∨ x.to = some d)
def Inv (t0 : List AV) (ops : List Oper) (s : St) : Prop := Inv1 ops s ∧ ∀ (t : Nat) (a : AV), t0[t]? = some a → stab ops t = true → s.t[t]? = some a
theorem keffA_al {op : Op} {vs : List AV} {b : List (Option Box)} {e : Eff} (h : keffA E op vs b some = some e) (ho : (∃ ty, op = .alloc ty) ∨ (∃ ty x, op = .box ty x)) : ∃ bx n, e = .alloc bx n := by
  rcases ho with ⟨ty, rfl⟩ | ⟨ty, x, rfl⟩
  · cases vs with
    | nil =>
      simp only [keffA] at h
      split at h
      · injection h with h; exact ⟨_, _, h.symm⟩
      · cases h
    | cons y r => simp [keffA] at h
  · match vs with
    | [] => simp [keffA] at h
    | y :: _ :: _ => cases y <;> simp [keffA] at h
    | [y] =>
      cases y with
      | v z => simp only [keffA] at h; injection h with h; exact ⟨_, _, h.symm⟩
      | _ => simp [keffA] at h
theorem Can.al {ops : List Oper} {o : Oper} {s : St} {δ : Dl} (h : Can E ops o s δ) {d : Nat} (ha : alD o = some d) : ∀ i x, δ.t = some (i, x) → x.to = none ∨ x.to = some d := by
  intro i x hx
  obtain ⟨hd, hop⟩ := alD_op ha
  rcases h with ⟨_, l, vs, e, hl, hv, hk, he⟩ | ⟨_, he⟩
  · obtain ⟨bx, n, rfl⟩ := keffA_al hk hop
    obtain ⟨d', h1, h2⟩ := he
    subst h2
    simp at hx
    rw [hd] at h1
    injection h1 with h1
    subst h1
    rw [← hx.2, mkA_to]
    exact .inr rfl
  · subst he
    simp [to, hd] at hx
    rw [← hx.2]
    exact .inl rfl
theorem Inv1.step {ops : List Oper} (hok : invOk ops = true) {o : Oper} (ho : o ∈ ops) {s : St} {δ : Dl} (h : Can E ops o s δ) (hi : Inv1 ops s) : Inv1 ops (δ.ap s) := by
  intro d hd
  simp only [invOk, List.all_eq_true, Bool.and_eq_true] at hok
  obtain ⟨hself, hall⟩ := hok d hd
  have hall := hall o ho
  obtain ⟨iA, iB⟩ := hi d hd
  have hget : ∀ (i : Nat) (x : AV), (δ.ap s).t[i]? = some x → s.t[i]? = some x ∨ δ.t = some (i, x) := by
    intro i x hx
    simp only [Dl.ap] at hx
    cases ht : δ.t with
    | none => rw [ht] at hx; exact .inl hx
    | some y =>
      obtain ⟨e, v⟩ := y
      rw [ht] at hx
      simp only [setT, List.getElem?_set] at hx
      split at hx
      · rename_i e'
        split at hx
        · injection hx with hx; subst hx; subst e'; exact .inr rfl
        · cases hx
      · exact .inl hx
  constructor
  · intro i x hx hto
    rcases hget i x hx with h1 | h1
    · exact iA i x h1 hto
    · have hdst := h.writes i x h1
      rw [hdst] at hall
      simp only [Bool.and_eq_true, Bool.or_eq_true, Bool.not_eq_true'] at hall
      rcases h.ptr _ _ _ h1 hto with h2 | ⟨j, y, hj, hy, hyd⟩
      · have := nmD_dst h2
        rw [hdst] at this
        injection this with this
        rw [this]
        exact List.mem_of_elem_eq_true hself
      · rcases hall.1 with h3 | h3
        · exfalso
          have : (opT o).any (der ops d).elem = true := List.any_eq_true.2 ⟨j, hj, List.elem_eq_true_of_mem (iA j y hy hyd)⟩
          rw [this] at h3
          cases h3
        · exact List.mem_of_elem_eq_true h3
  · intro x hx
    rcases hget d x hx with h1 | h1
    · exact iB x h1
    · have hdst := h.writes d x h1
      rw [hdst] at hall
      simp only [Bool.and_eq_true, Bool.or_eq_true, Bool.not_eq_true', Nat.beq_refl] at hall
      rcases hall.2 with h3 | h3
      · cases h3
      · cases ha : alD o with
        | none => rw [ha] at h3; cases h3
        | some a =>
          rw [ha] at h3
          rw [Nat.eq_of_beq_eq_true h3] at ha
          exact h.al ha d x h1
theorem Inv.step {t0 : List AV} {ops : List Oper} (hok : invOk ops = true) {o : Oper} (ho : o ∈ ops) {s : St} {δ : Dl} (h : Can E ops o s δ) (hi : Inv t0 ops s) : Inv t0 ops (δ.ap s) := by
  refine ⟨Inv1.step hok ho h hi.1, fun t a ha hs => ?_⟩
  have h1 := hi.2 t a ha hs
  simp only [Dl.ap]
  rw [getT_far fun d v hd e => ?_]
  · exact h1
  · subst e
    have hw := h.writes d v hd
    have := List.all_eq_true.1 hs o ho
    simp [hw] at this
theorem mem_namesOf {P : Program} {o : Oper} {d : Nat} (hd : nmD P o = some d) : ∀ (l : List Oper), o ∈ l → d ∈ namesOf P l := by
  intro l
  induction l with
  | nil => intro h; cases h
  | cons x l ih =>
    intro h
    simp only [namesOf]
    rcases List.mem_cons.1 h with rfl | h
    · rw [hd]; simp
    · have := ih h
      cases nmD P x <;> simp [this]
theorem allocs_names {P : Program} : ∀ {l : List Oper} {d : Nat}, d ∈ allocsOf l → d ∈ namesOf P l
  | [], d, h => by cases h
  | o :: l, d, h => by
    simp only [allocsOf] at h
    simp only [namesOf]
    cases ha : alD o with
    | none =>
      rw [ha] at h
      have := allocs_names (P := P) h
      cases nmD P o <;> simp [this]
    | some e =>
      rw [ha] at h
      rw [alD_nmD (P := P) ha]
      rcases List.mem_cons.1 h with rfl | h
      · simp
      · have := allocs_names (P := P) h
        simp [this]
theorem Inv1.kill (ops : List Oper) (s : St) : Inv1 ops (s.kill (namesOf E.P ops)) := fun d hd =>
  ⟨fun i x hx hto => absurd hto (noPtr_kill s (allocs_names hd) i x hx), fun x hx => by rw [killed s (allocs_names hd) x hx]; exact .inl rfl⟩
theorem fresh_ne {ops : List Oper} {x y : Oper} {s : St} (hf : fresh ops x y = true) (hi : Inv1 ops s) {t u : Nat} {a b : AV} {d e : Nat} (hx : t ∈ aTs x) (ha : s.t[t]? = some a) (hd : a.to = some d) (hy : u ∈ aTs y) (hb : s.t[u]? = some b) (he : b.to = some e) : d ≠ e := by
  simp only [fresh, Bool.and_eq_true, List.all_eq_true, Bool.not_eq_true'] at hf
  obtain ⟨h1, h2⟩ := hf.2 t hx
  have h2 := h2 u hy
  have hm := List.mem_of_elem_eq_true h1
  obtain ⟨iA, iB⟩ := hi t hm
  intro heq
  subst heq
  rcases iB a ha with h3 | h3
  · rw [hd] at h3; cases h3
  · rw [hd] at h3
    injection h3 with h3
    subst h3
    have := List.elem_eq_true_of_mem (iA u b hb he)
    rw [this] at h2
    cases h2
theorem offs_dst {ops : List Oper} {x y : Oper} (h : offs ops x y = true) {d : Nat} (hd : x.dst = some d) : y.dst ≠ some d ∧ d ∉ looks ops y := by
  simp only [offs, hd, Bool.and_eq_true, Bool.not_eq_true'] at h
  refine ⟨fun e => by simp [e] at h, fun hm => ?_⟩
  rw [List.elem_eq_true_of_mem hm] at h
  exact absurd h.2 (by simp)
theorem swap {t0 : List AV} {ops : List Oper} {x y : Oper} {s : St} {δ ε : Dl} (hx : Can E ops x s δ) (hy : Can E ops y (δ.ap s) ε) (hi : indep t0 ops x y = true) (inv : Inv t0 ops s)
    (nx : ∀ d, nmD E.P x = some d → NoPtr d s) (ny : ∀ d, nmD E.P y = some d → NoPtr d s) : Can E ops y s ε ∧ Can E ops x (ε.ap s) δ ∧ δ.ap (ε.ap s) = ε.ap (δ.ap s) := by
  simp only [indep, Bool.and_eq_true] at hi
  obtain ⟨⟨h1, h2⟩, h3⟩ := hi
  have apart : ∀ (t u : Nat) (a b : AV) (d e : Nat), (isSt x = true ∧ (isSt y = true ∨ isLd y = true)) ∨ (isSt y = true ∧ isLd x = true) → t ∈ aTs x → s.t[t]? = some a → a.to = some d → u ∈ aTs y → s.t[u]? = some b → b.to = some e → d ≠ e := by
    intro t u a b d e hm hxt ha hd hyu hb he
    simp only [memOk, Bool.or_eq_true] at h3
    rcases h3 with ((h3 | h3) | h3) | h3
    · exfalso
      simp only [Bool.and_eq_true, Bool.not_eq_true'] at h3
      rcases hm with ⟨m1, m2 | m2⟩ | ⟨m1, m2⟩ <;> simp [m1, m2] at h3
    · exact fresh_ne h3 inv.1 hxt ha hd hyu hb he
    · exact fun e' => fresh_ne h3 inv.1 hyu hb he hxt ha hd e'.symm
    · simp only [apartT, List.all_eq_true, Bool.and_eq_true] at h3
      obtain ⟨⟨s1, s2⟩, h4⟩ := h3 t hxt u hyu
      split at h4
      · rename_i a0 b0 e1 e2
        have f1 := inv.2 t a0 e1 s1
        have f2 := inv.2 u b0 e2 s2
        rw [ha] at f1
        rw [hb] at f2
        injection f1 with f1
        injection f2 with f2
        subst f1; subst f2
        rw [hd, he] at h4
        intro e'
        subst e'
        simp at h4
      · cases h4
  have ft : ∀ i ∈ looks ops y, (δ.ap s).t[i]? = s.t[i]? := fun i hi => getT_far fun d v hd e => (offs_dst h1 (hx.writes d v hd)).2 (e ▸ hi)
  have aTl : ∀ {o : Oper} {t : Nat}, t ∈ aTs o → t ∈ looks ops o := aT_look
  have hy' : Can E ops y s ε := by
    refine hy.congr ft ?_
    intro i z d hl ht hto
    rw [ft i (aTl hl)] at ht
    refine getB_far fun d' bx hb e => ?_
    subst e
    rcases hx.boxes _ _ hb with h5 | ⟨h5, t, a, hxt, _, ha, had⟩
    · exact nx _ h5 i z ht hto
    · exact apart t i a z _ _ (.inl ⟨h5, (aTs_mem hl).symm⟩) hxt ha had hl ht hto rfl
  have fx : ∀ i ∈ looks ops x, s.t[i]? = (ε.ap s).t[i]? := fun i hi => (getT_far fun d v hd e => (offs_dst h2 (hy.writes d v hd)).2 (e ▸ hi)).symm
  have hx' : Can E ops x (ε.ap s) δ := by
    refine hx.congr fx ?_
    intro i z d hl ht hto
    refine (getB_far fun d' bx hb e => ?_).symm
    subst e
    rcases hy'.boxes _ _ hb with h5 | ⟨h5, t, a, hyt, _, ha, had⟩
    · exact ny _ h5 i z ht hto
    · exact apart i t z a _ _ (by
        rcases aTs_mem hl with hm | hm
        · exact .inr ⟨h5, hm⟩
        · exact .inl ⟨hm, .inl h5⟩) hl ht hto hyt ha had rfl
  refine ⟨hy', hx', ?_⟩
  have et : ∀ d v d' v', δ.t = some (d, v) → ε.t = some (d', v') → d ≠ d' := fun d v d' v' e1 e2 e => (offs_dst h1 (hx.writes d v e1)).1 (by rw [hy.writes d' v' e2, e])
  have eb : ∀ d v d' v', δ.b = some (d, v) → ε.b = some (d', v') → d ≠ d' := by
    intro d v d' v' e1 e2 e
    subst e
    rcases hx.boxes _ _ e1 with h5 | ⟨h5, i, z, hxt, hi, ht, hz⟩
    · rcases hy'.boxes _ _ e2 with h6 | ⟨h6, i, z, _, hi, ht, hz⟩
      · exact (offs_dst h1 (nmD_dst h5)).1 (nmD_dst h6)
      · exact nx _ h5 i z ht hz
    · rcases hy'.boxes _ _ e2 with h6 | ⟨h6, j, z2, hyt, _, ht2, hz2⟩
      · exact ny _ h6 i z ht hz
      · exact apart i j z z2 _ _ (.inl ⟨h5, .inl h6⟩) hxt ht hz hyt ht2 hz2 rfl
  have e1 : setT (setT s.t ε.t) δ.t = setT (setT s.t δ.t) ε.t := by
    cases hd : δ.t with
    | none => rfl
    | some p =>
      cases he : ε.t with
      | none => rfl
      | some q =>
        obtain ⟨d, v⟩ := p
        obtain ⟨d', v'⟩ := q
        exact List.set_comm _ _ (fun e => et d v d' v' hd he e.symm)
  have e2 : setB (setB s.b ε.b) δ.b = setB (setB s.b δ.b) ε.b := by
    cases hd : δ.b with
    | none => rfl
    | some p =>
      cases he : ε.b with
      | none => rfl
      | some q =>
        obtain ⟨d, v⟩ := p
        obtain ⟨d', v'⟩ := q
        exact List.set_comm _ _ (fun e => eb d v d' v' hd he e.symm)
  simp only [Dl.ap, e1, e2]
def NP (E : Env) (l : List Oper) (s : St) : Prop := ∀ o ∈ l, ∀ d, nmD E.P o = some d → NoPtr d s
theorem sep_ne {P : Program} {x y : Oper} (h : sep P x y = true) {d : Nat} (hx : nmD P x = some d) : nmD P y ≠ some d := by
  intro hy
  simp only [sep, hx, hy, Bool.not_eq_true'] at h
  rw [Nat.beq_refl] at h
  cases h
theorem NP.next {ops : List Oper} {o : Oper} {r : List Oper} {s : St} {δ : Dl} (h : NP E (o :: r) s) (hc : Can E ops o s δ) (hs : ∀ y ∈ r, sep E.P y o = true) : NP E r (δ.ap s) := fun y hy d hd =>
  NoPtr.step hc (h y (by simp [hy]) d hd) (sep_ne (hs y hy) hd)
theorem pull {t0 : List AV} {ops : List Oper} (hok : invOk ops = true) {y : Oper} {r : List Oper} {s' : St} : ∀ {l : List Oper} {s : St}, Run E ops (l ++ y :: r) s s' → (∀ x ∈ l, x ∈ ops) → Inv t0 ops s → (∀ x ∈ l, indep t0 ops x y = true) →
    (∀ x ∈ l, sep E.P y x = true) → (∀ x ∈ l, ∀ d, nmD E.P x = some d → NoPtr d s) → (∀ d, nmD E.P y = some d → NoPtr d s) → List.Pairwise (fun x z => sep E.P z x = true) l → ∃ δ, Can E ops y s δ ∧ Run E ops (l ++ r) (δ.ap s) s'
  | [], s, h, _, _, _, _, _, _, _ => h
  | x :: l, s, h, hmem, inv, hi, hy, hn, hny, hp => by
    obtain ⟨δ, hc, hr⟩ := h
    have hp' := List.pairwise_cons.1 hp
    obtain ⟨ε, hc2, hr2⟩ := pull hok hr (fun z hz => hmem z (by simp [hz])) (Inv.step hok (hmem x (by simp)) hc inv) (fun z hz => hi z (by simp [hz])) (fun z hz => hy z (by simp [hz]))
      (fun z hz d hd => NoPtr.step hc (hn z (by simp [hz]) d hd) (sep_ne (hp'.1 z hz) hd)) (fun d hd => NoPtr.step hc (hny d hd) (sep_ne (hy x (by simp)) hd)) hp'.2
    obtain ⟨h1, h2, h3⟩ := swap hc hc2 (hi x (by simp)) inv (hn x (by simp)) hny
    exact ⟨ε, h1, δ, h2, by rw [h3]; exact hr2⟩
end Go.Sx
