/- A part of an evaluator of the model's code, and of the proof that what it answers is what a call does. -/
import Derived.Test.YtdjagmfcfmeopaaDoorY8
namespace Go.Sx
open Go.RowKit
variable {E : Env}
theorem wanted_eq {w0 w : World} {ρ : Nat → Value} {s : St} {a : Act} {ops : Array Oper} {o : Oper} {b : Bool} (h : Sim E w0 ρ s a w) (hw : want ops.toList o s.t = some b) : Region.wanted o (yielded ops a.tmps) = b := by
  unfold want at hw
  unfold Region.wanted
  split at hw
  · rename_i hg; rw [hg]; injection hw
  · rename_i j wt hg
    rw [hg]
    split at hw
    · cases hw
    · rename_i g hj
      have hj' : (ops[j]?).bind (·.dst) = some g := by rw [← Array.getElem?_toList]; exact hj
      have key : ∀ x, s.t[g]? = some (AV.v x) → a.tmps[g]? = some x := by
        intro x hx
        have h1 := h.tm g _ hx
        have hlt : g < a.tmps.size := by rw [h.sz]; exact (List.getElem?_eq_some_iff.1 hx).1
        simp only [AV.rep, Array.getD_eq_getD_getElem?] at h1
        rw [Array.getElem?_eq_getElem hlt] at h1 ⊢
        simpa using h1
      split at hw
      · rename_i c hc
        injection hw with hw
        simp only [yielded, hj', Option.bind_some, key _ hc]
        rw [← hw]
        cases c <;> cases wt <;> rfl
      · rename_i x hc
        injection hw with hw
        simp only [yielded, hj', Option.bind_some, key _ hc]
        rw [← hw]
        rfl
      · cases hw
theorem rreps_ob {w : World} {base : Nat} : ∀ {rs : List RA} {zs : List Value} {ty : TypeId} {lb : LB}, RReps w base rs zs → oneL rs = some (ty, lb) →
    ∃ z, LAt w z lb ∧ w.ownsRow 0 ty lb.sh.length z lb.xs.length lb.cells ∧ (∀ g, ob z = some g → base ≤ g) ∧ zs = (rasO rs).map fun o => o.getD z := by
  intro rs zs ty lb h
  induction h with
  | nil => intro h; cases h
  | @cons g y gs ys hg hr ih =>
    intro h
    cases g with
    | v x =>
      simp only [oneL] at h
      obtain ⟨z, h1, h2, h3, h4⟩ := ih h
      exact ⟨z, h1, h2, h3, by rw [h4, (hg : y = x)]; rfl⟩
    | l ty' lb' =>
      simp only [oneL] at h
      split at h
      · rename_i vs hvs
        injection h with h
        injection h with h1 h2
        subst h1; subst h2
        obtain ⟨g1, g2, g3⟩ := hg
        refine ⟨y, g1, g2, g3, ?_⟩
        have hys := len_ras hr hvs
        have : ∀ {gs : List RA} {vs : List Value}, ras gs = some vs → (rasO gs).map (fun o => o.getD y) = vs := by
          intro gs
          induction gs with
          | nil => intro vs h; injection h with h
          | cons x r ih =>
            intro vs h
            cases x with
            | l _ _ => simp [ras] at h
            | v x =>
              simp only [ras] at h
              split at h
              · rename_i l hl
                injection h with h
                rw [← h, ← ih hl]
                rfl
              · cases h
        rw [hys]
        show y :: vs = _
        rw [← this hvs]
        rfl
      · cases h
theorem resV_mk {z : Value} {os : List (Option Value)} {b' : List (Option Box)} {ρ' : Nat → Value} {d n : Nat} (hs : IsSl n z) (hc : Cur b' d 0 fun _ => z = ρ' d) (hn : none ∈ os) : (mkA d (mkR n os)).rep E b' ρ' (resV (os.map fun o => o.getD z)) := by
  have tup : ∀ os : List (Option Value), (∀ x, os ≠ [x]) → resV (os.map fun o => o.getD z) = .tuple (os.map fun o => o.getD z).toArray := by
    intro os h
    match os, h with
    | [], _ => rfl
    | [x], h => exact absurd rfl (h x)
    | _ :: _ :: _, _ => rfl
  match os with
  | [] => exact ⟨z, rfl, hs, hc⟩
  | [none] => exact ⟨hs, hc⟩
  | [some x] => simp at hn
  | none :: b :: r => exact ⟨z, rfl, hs, hc⟩
  | some _ :: b :: r => exact ⟨z, rfl, hs, hc⟩
theorem oneL_none : ∀ {rs : List RA} {q : TypeId × LB}, oneL rs = some q → none ∈ rasO rs
  | [], _, h => by cases h
  | .v _ :: r, q, h => by
    simp only [oneL] at h
    simp [rasO, oneL_none h]
  | .l _ _ :: r, q, h => by simp [rasO]
theorem step_wp {w0 w : World} {ρ : Nat → Value} {s : St} {a : Act} {ops : Array Oper} {o : Oper} {δ : Dl} {K : Act → World → Prop} {Q : Exit → Act → World → Prop}
    (h : Sim E w0 ρ s a w) (hc : Can E ops.toList o s δ) (hn : ∀ d, nmD E.P o = some d → NoPtr d s) (hK : ∀ ρ' a' w', Sim E w0 ρ' (δ.ap s) a' w' → K a' w') :
    if Region.wanted o (yielded ops a.tmps) = true then o.wp E.P a w K Q else K (a.put o.dst undef) w := by
  rcases hc with ⟨hw, l, vs, e, hl, hv, hk, he⟩ | ⟨hw, he⟩
  · rw [if_pos (wanted_eq h hw)]
    have ho := op_ok h hl hv hk
    have hs := keffA_shape hk
    unfold Oper.wp
    cases e with
    | pure x =>
      obtain ⟨y, h1, h2⟩ := ho
      rw [h2, Oper.upon_value]
      simp only [EDl] at he
      subst he
      exact hK ρ _ _ (by rw [ap_put]; exact h.put _ h1)
    | alloc bx n =>
      obtain ⟨d, h1, h2⟩ := he
      subst h2
      obtain ⟨y, p, w', h3, h4, h5, h6, h7⟩ := ho
      have hs : nmD E.P o = o.dst := hs
      rw [h3, Oper.upon_value, h1]
      exact hK _ _ _ (h.alloc d (hn d (by rw [hs, h1])) bx p h4 h5 h6 (h7 d))
    | store d off ws bx' =>
      obtain ⟨_, h2⟩ := he
      subst h2
      obtain ⟨bx, g, hb, hro, hro', hg, hrun, hat, hve, hls, hrow, hlen⟩ := ho
      rw [hrun, Oper.upon_skip]
      have hlo := (h.bx d bx hb).2 hro g hg
      have h3 := h.change hb hro hro' (ρ d) (below_setCells g hlo ws off w (Below.refl _ w)) (fun k _ hk => heap_setCells_far g ws off w k (hk g hg)) hat (fun g' hg' => .inl hg') (Nat.le_of_eq hve.symm) (fun e => ⟨hls e, rfl⟩) (fun _ => ⟨⟨hrow, hlen⟩, rfl⟩)
      have h4 := h3.put o.dst (x := .v undef) (y := undef) rfl
      have e1 : (St.put ⟨s.t, s.b.set d (some bx')⟩ o.dst (.v undef)) = (Dl.mk (to o.dst (.v undef)) (some (d, bx'))).ap s := by
        cases o.dst <;> rfl
      rw [e1] at h4
      exact hK _ _ _ h4
    | grow d bx' n =>
      obtain ⟨_, h2⟩ := he
      subst h2
      obtain ⟨bx, y, w', hb, hro, hro', hrun, hgr, hat, hob, hve, hls, hsl⟩ := ho
      rw [hrun, Oper.upon_value]
      have hne : bx'.ver ≠ bx.ver := by omega
      have h3 := h.change (w' := w') hb hro hro' y ((Below.refl _ w).grown hgr h.bl.size fun k hk => (h.bx d bx hb).2 hro k hk) (fun k hk hkk => hgr.block k hk (fun e => hkk k e.symm rfl)) hat hob (by omega) (fun e => absurd e hls) (fun e => absurd e hne)
      have hset : ∀ bx2, (s.b.set d (some bx'))[d]? = some (some bx2) → bx2 = bx' := by
        intro bx2 hb2
        rw [List.getElem?_set, if_pos rfl] at hb2
        split at hb2
        · injection hb2 with hb2; injection hb2 with hb2; exact hb2.symm
        · cases hb2
      have h4 := h3.put o.dst (x := .l d bx'.ver n) (y := y) ⟨hsl, fun bx2 hb2 => by rw [hset bx2 hb2]; exact ⟨Nat.le_refl _, fun _ => by simp⟩⟩
      have e1 : (St.put ⟨s.t, s.b.set d (some bx')⟩ o.dst (.l d bx'.ver n)) = (Dl.mk (to o.dst (.l d bx'.ver n)) (some (d, bx'))).ap s := by
        cases o.dst <;> rfl
      rw [e1] at h4
      exact hK _ _ _ h4
    | call f args =>
      obtain ⟨rs, h1, hrs⟩ := he
      obtain ⟨ys, hys, ho'⟩ := ho
      rw [ho']
      rcases h1 with ⟨⟨fn, hf, hnm, hb⟩, hcall⟩ | ⟨vs', hvs, hx⟩
      · have e1 : (callFunc f ys.toArray).run E.P w = .ok (.enter f ys.toArray) w := by
          have hne : ¬ fn.name = "runtime.NumGoroutine" := by simpa using hnm
          have hbn : fn.body ≠ none := fun e => by simp [e] at hb
          simp [callFunc, hf, hne, hbn]
        rw [e1, Oper.upon_enter]
        refine (hcall w ys h.inv hys).mono ?_
        rintro e w' ⟨zs, hzs, rfl, hb'⟩
        rcases hrs with ⟨vs', hvs, h2⟩ | ⟨ty, lb, d, hnone, hone, hd, hL, h2⟩
        · subst h2
          rw [len_ras hzs hvs]
          exact hK ρ _ _ (by rw [ap_put]; exact (h.world hb').put _ rfl)
        · subst h2
          obtain ⟨z, g1, g2, g3, g4⟩ := rreps_ob hzs hone
          rw [g4, hd]
          obtain ⟨c, h4, h5⟩ := hs
          refine hK _ _ _ (h.alloc d (hn d (by simp [nmD, h4, h5, hL, hd])) (lbox ty lb) z hb' ⟨g1, fun _ => g2⟩ g3 fun b' ρ' hbb hp => ?_)
          exact resV_mk (lat_isSl g1) (fun bx hbx => by rw [hbb bx hbx]; exact ⟨Nat.le_refl _, fun _ => hp.symm⟩) (oneL_none hone)
      · rw [hx w ys h.inv hys, Oper.upon_value]
        rcases hrs with ⟨vs'', hvs', h2⟩ | ⟨ty, lb, d, hnone, _⟩
        · rw [hvs] at hvs'
          injection hvs' with hvs'
          subst hvs'
          subst h2
          exact hK ρ _ _ (by rw [ap_put]; exact h.put _ rfl)
        · rw [hvs] at hnone
          cases hnone
  · have hw' := wanted_eq h hw
    rw [if_neg (by simp [hw'])]
    subst he
    exact hK ρ _ _ (by rw [ap_put]; exact h.put _ rfl)
theorem list_wp {w0 : World} {ops : Array Oper} {Q : Exit → Act → World → Prop} {s' : St} : ∀ (l : List Oper) {s : St} {a : Act} {w : World} {ρ : Nat → Value}, Sim E w0 ρ s a w → Run E ops.toList l s s' → NP E l s →
    l.Pairwise (fun x z => sep E.P z x = true) → (∀ ρ a w, Sim E w0 ρ s' a w → Q .normal a w) → wpList E.P ops Q l a w
  | [], s, a, w, ρ, h, hr, _, _, hq => by
    have : s' = s := hr
    subst this
    exact hq _ _ _ h
  | o :: l, s, a, w, ρ, h, hr, hn, hp, hq => by
    obtain ⟨δ, hc, hr⟩ := hr
    have hp' := List.pairwise_cons.1 hp
    refine wpList_step fun K hK => ?_
    refine step_wp h hc (hn o (by simp)) fun ρ' a' w' h' => hK _ _ ?_
    exact list_wp l h' hr (hn.next hc hp'.1) hp'.2 hq
theorem seps_pairwise : ∀ {l : List Oper}, seps E.P l = true → l.Pairwise (fun x z => sep E.P z x = true)
  | [], _ => .nil
  | o :: l, h => by
    simp only [seps, Bool.and_eq_true, List.all_eq_true] at h
    exact List.pairwise_cons.2 ⟨h.1, seps_pairwise h.2⟩
theorem np_kill (l : List Oper) (s : St) : NP E l (s.kill (namesOf E.P l)) := fun _ ho _ hd => noPtr_kill s (mem_namesOf hd l ho)
def rem (ops : Array Oper) (listed : Array Bool) : List Nat := (List.range ops.size).filter fun i => !listed.getD i true
def opsAt (ops : Array Oper) (l : List Nat) : List Oper := l.filterMap fun i => ops.toList[i]?
theorem rem_sorted (ops : Array Oper) (listed : Array Bool) : (rem ops listed).Pairwise (· < ·) := List.Pairwise.filter _ List.pairwise_lt_range
theorem drawOk_spec {t0 : List AV} {ops : Array Oper} (h : drawOk t0 ops.toList = true) {i : Nat} {y : Oper} (hy : ops.toList[i]? = some y) :
    (∀ e ∈ y.after.toList, Region.binds .any e = true → e.on < i) ∧ ∀ k x, k < i → ops.toList[k]? = some x → depOn y k = true ∨ indep t0 ops.toList x y = true := by
  have hi : i < ops.toList.length := (List.getElem?_eq_some_iff.1 hy).1
  simp only [drawOk, List.all_eq_true, List.mem_range] at h
  have h1 := h i hi
  rw [hy] at h1
  simp only [Bool.and_eq_true, List.all_eq_true, List.mem_range] at h1
  refine ⟨fun e he hb => ?_, fun k x hk hx => ?_⟩
  · have := h1.1 e he
    simp only [hb, Bool.not_true, Bool.false_or] at this
    simpa [Nat.blt_eq] using this
  · have := h1.2 k hk
    rw [hx] at this
    simpa using this
theorem ready_spec {ops : Array Oper} {listed : Array Bool} {i : Nat} : i ∈ Region.ready .any ops listed ↔ i ∈ rem ops listed ∧ ∃ y, ops.toList[i]? = some y ∧ ∀ e ∈ y.after.toList, Region.binds .any e = true → listed.getD e.on false = true := by
  simp only [Region.ready, rem, List.mem_filter, List.mem_range, Bool.and_eq_true, Array.getElem?_toList]
  constructor
  · rintro ⟨h1, h2, h3⟩
    refine ⟨⟨h1, h2⟩, ?_⟩
    rw [Array.getElem?_eq_getElem h1] at h3 ⊢
    refine ⟨_, rfl, fun e he hb => ?_⟩
    simp only [Option.map_some, Option.getD_some, Array.all_eq_true_iff_forall_mem] at h3
    have := h3 e (by simpa using he)
    simpa [hb] using this
  · rintro ⟨⟨h1, h2⟩, y, hy, h3⟩
    refine ⟨h1, h2, ?_⟩
    rw [hy]
    simp only [Option.map_some, Option.getD_some, Array.all_eq_true_iff_forall_mem]
    intro e he
    cases hb : Region.binds .any e
    · simp
    · simpa using h3 e (by simpa using he) hb
theorem listed_of {ops : Array Oper} {listed : Array Bool} (hs : listed.size = ops.size) {k : Nat} (h : listed.getD k false = true) : k ∉ rem ops listed := by
  intro hk
  simp only [rem, List.mem_filter, List.mem_range] at hk
  have hlt : k < listed.size := by omega
  simp only [Array.getD_eq_getD_getElem?, Array.getElem?_eq_getElem hlt, Option.getD_some] at h hk
  simp [h] at hk
theorem ready_nil {t0 : List AV} {ops : Array Oper} {listed : Array Bool} (hok : drawOk t0 ops.toList = true) (hs : listed.size = ops.size) (h : Region.ready .any ops listed = []) : rem ops listed = [] := by
  cases hr : rem ops listed with
  | nil => rfl
  | cons i l =>
    exfalso
    have hi : i ∈ rem ops listed := by rw [hr]; simp
    have hlt : i < ops.size := by simp only [rem, List.mem_filter, List.mem_range] at hi; exact hi.1
    have hy : ops.toList[i]? = some ops[i] := by simp [hlt]
    have hsort := rem_sorted ops listed
    rw [hr] at hsort
    have hmin := (List.pairwise_cons.1 hsort).1
    have : i ∈ Region.ready .any ops listed := by
      rw [ready_spec]
      refine ⟨hi, _, hy, fun e he hb => ?_⟩
      have h1 := (drawOk_spec hok hy).1 e he hb
      have h2 : e.on ∉ rem ops listed := by
        rw [hr]
        intro hm
        cases hm with
        | head => omega
        | tail _ hm => have := hmin _ hm; omega
      have h3 : e.on < listed.size := by omega
      simp only [rem, List.mem_filter, List.mem_range, not_and] at h2
      have h4 := h2 (by omega)
      simp only [Array.getD_eq_getD_getElem?, Array.getElem?_eq_getElem h3, Option.getD_some] at h4 ⊢
      simpa using h4
    rw [h] at this
    cases this
theorem rem_set {ops : Array Oper} {listed : Array Bool} (hs : listed.size = ops.size) {i : Nat} {l r : List Nat} (hr : rem ops listed = l ++ i :: r) : rem ops (listed.setIfInBounds i true) = l ++ r := by
  have hi : i ∈ rem ops listed := by rw [hr]; simp
  have hlt : i < ops.size := by simp only [rem, List.mem_filter, List.mem_range] at hi; exact hi.1
  have h1 : rem ops (listed.setIfInBounds i true) = (rem ops listed).filter (fun j => !(j == i)) := by
    simp only [rem, List.filter_filter]
    apply List.filter_congr
    intro j hj
    simp only [List.mem_range] at hj
    have hj' : j < listed.size := by omega
    by_cases e : i = j
    · subst e; simp [Array.getD_eq_getD_getElem?, hj']
    · have : ¬ j = i := fun h => e h.symm
      simp [Array.getD_eq_getD_getElem?, Array.getElem?_setIfInBounds, e, this]
  have hsort := rem_sorted ops listed
  rw [hr] at hsort
  have hp := List.pairwise_append.1 hsort
  have hp2 := List.pairwise_cons.1 hp.2.1
  rw [h1, hr, List.filter_append, List.filter_cons]
  simp only [beq_self_eq_true, Bool.not_true]
  have e1 : l.filter (fun j => !(j == i)) = l := List.filter_eq_self.2 fun j hj => by
    have := hp.2.2 j hj i (by simp)
    simp; omega
  have e2 : r.filter (fun j => !(j == i)) = r := List.filter_eq_self.2 fun j hj => by
    have := hp2.1 j hj
    simp; omega
  rw [e1, e2]
  rfl
theorem opsAt_cons {ops : Array Oper} {i : Nat} {y : Oper} (hy : ops.toList[i]? = some y) (l r : List Nat) : opsAt ops (l ++ i :: r) = opsAt ops l ++ y :: opsAt ops r := by
  simp only [opsAt, List.filterMap_append, List.filterMap_cons, hy]
theorem mem_opsAt {ops : Array Oper} {l : List Nat} {x : Oper} (h : x ∈ opsAt ops l) : x ∈ ops.toList := by
  simp only [opsAt, List.mem_filterMap] at h
  obtain ⟨i, _, hi⟩ := h
  exact List.mem_of_getElem? hi
theorem any_wp {t0 : List AV} {w0 : World} {ops : Array Oper} {Q : Exit → Act → World → Prop} {s' : St} (hok : drawOk t0 ops.toList = true) (hinv : invOk ops.toList = true) (hq : ∀ ρ a w, Sim E w0 ρ s' a w → Q .normal a w) :
    ∀ (fuel : Nat) {listed : Array Bool} {s : St} {a : Act} {w : World} {ρ : Nat → Value}, Sim E w0 ρ s a w → Run E ops.toList (opsAt ops (rem ops listed)) s s' → NP E (opsAt ops (rem ops listed)) s → Inv t0 ops.toList s →
    (opsAt ops (rem ops listed)).Pairwise (fun x z => sep E.P z x = true ∧ sep E.P x z = true) → listed.size = ops.size → (rem ops listed).length ≤ fuel → wpAny E.P .any ops Q fuel listed a w := by
  intro fuel
  induction fuel with
  | zero =>
    intro listed s a w ρ h hr hn inv hp hs hl
    have hnil : rem ops listed = [] := List.eq_nil_of_length_eq_zero (by omega)
    refine ⟨?_, ?_⟩
    · cases hrd : Region.ready .any ops listed with
      | nil => rfl
      | cons i l =>
        have hi : i ∈ Region.ready .any ops listed := by rw [hrd]; simp
        rw [ready_spec, hnil] at hi
        cases hi.1
    · rw [hnil] at hr
      have : s' = s := hr
      subst this
      exact hq _ _ _ h
  | succ fuel ih =>
    intro listed s a w ρ h hr hn inv hp hs hl
    refine ⟨fun hnil => ?_, fun i hi => ?_⟩
    · rw [ready_nil hok hs hnil] at hr
      have : s' = s := hr
      subst this
      exact hq _ _ _ h
    · obtain ⟨hir, y, hy, hdep⟩ := ready_spec.1 hi
      obtain ⟨l, r, hlr⟩ := List.append_of_mem hir
      have hsort := rem_sorted ops listed
      rw [hlr] at hsort
      have hsp := List.pairwise_append.1 hsort
      rw [hlr, opsAt_cons hy] at hr hn hp
      have hpp := List.pairwise_append.1 hp
      have hpc := List.pairwise_cons.1 hpp.2.1
      have hind : ∀ x ∈ opsAt ops l, indep t0 ops.toList x y = true := by
        intro x hx
        simp only [opsAt, List.mem_filterMap] at hx
        obtain ⟨k, hk, hkx⟩ := hx
        have hki : k < i := hsp.2.2 k hk i (by simp)
        rcases (drawOk_spec hok hy).2 k x hki hkx with h1 | h1
        · exfalso
          simp only [depOn, List.any_eq_true, Bool.and_eq_true] at h1
          obtain ⟨e, he, h2, h3⟩ := h1
          have h4 := hdep e he h3
          rw [Nat.eq_of_beq_eq_true h2] at h4
          exact listed_of hs h4 (by rw [hlr]; simp [hk])
        · exact h1
      obtain ⟨δ, hc, hr2⟩ := pull hinv hr (fun x hx => mem_opsAt hx) inv hind (fun x hx => (hpp.2.2 x hx y (by simp)).1) (fun x hx => hn x (by simp [hx])) (hn y (by simp)) (hpp.1.imp fun h => h.1)
      have hset := rem_set hs hlr
      have hops : opsAt ops (rem ops (listed.setIfInBounds i true)) = opsAt ops l ++ opsAt ops r := by rw [hset]; simp [opsAt, List.filterMap_append]
      have hy' : ops[i]? = some y := by rw [← Array.getElem?_toList]; exact hy
      have hgo := step_wp (K := wpAny E.P .any ops Q fuel (listed.setIfInBounds i true)) (Q := Q) h hc (hn y (by simp)) (fun ρ' a' w' h' => by
        refine ih h' (by rw [hops]; exact hr2) ?_ (Inv.step hinv (List.mem_of_getElem? hy) hc inv) ?_ (by simp [hs]) ?_
        · rw [hops]
          intro x hx d hd
          simp only [List.mem_append] at hx
          rcases hx with hx | hx
          · exact NoPtr.step hc (hn x (by simp [hx]) d hd) (sep_ne (hpp.2.2 x hx y (by simp)).2 hd)
          · exact NoPtr.step hc (hn x (by simp [hx]) d hd) (sep_ne (hpc.1 x hx).1 hd)
        · rw [hops]
          exact List.pairwise_append.2 ⟨hpp.1, hpc.2, fun x hx z hz => hpp.2.2 x hx z (by simp [hz])⟩
        · rw [hset]
          rw [hlr] at hl
          simp only [List.length_append, List.length_cons] at hl ⊢
          omega)
      simp only [wpOp, hy']
      by_cases hw : Region.wanted y (yielded ops a.tmps) = true
      · rw [if_pos hw] at hgo ⊢
        exact .inl hgo
      · rw [if_neg hw] at hgo ⊢
        exact hgo
theorem sep_symm {x y : Oper} (h : sep E.P x y = true) : sep E.P y x = true := by
  cases hx : nmD E.P x with
  | none => cases hy : nmD E.P y <;> simp [sep, hx, hy]
  | some d =>
    cases hy : nmD E.P y with
    | none => simp [sep, hx, hy]
    | some e =>
      simp only [sep, hx, hy] at h ⊢
      cases hb : Nat.beq e d with
      | false => rfl
      | true =>
        rw [Nat.eq_of_beq_eq_true hb, Nat.beq_refl] at h
        cases h
theorem range_get : ∀ (l pre : List Oper), (List.range' pre.length l.length).filterMap (fun i => (pre ++ l)[i]?) = l
  | [], _ => rfl
  | x :: l, pre => by
    have h := range_get l (pre ++ [x])
    simp only [List.length_append, List.length_cons, List.length_nil, List.append_assoc, List.cons_append, List.nil_append] at h
    simp only [List.length_cons, List.range'_succ]
    rw [List.filterMap_cons]
    have e : (pre ++ x :: l)[pre.length]? = some x := by simp
    rw [e]
    simp only [Nat.zero_add] at h
    rw [h]
theorem range_opsAt (ops : Array Oper) : opsAt ops (List.range ops.size) = ops.toList := by
  have := range_get ops.toList []
  simp only [List.length_nil, List.nil_append, Array.length_toList] at this
  rw [opsAt, List.range_eq_range']
  exact this
theorem region_wp {w0 w : World} {ρ : Nat → Value} {s s' : St} {a : Act} {id : Nat} {ops : Array Oper} {draw : Bool} {Q : Exit → Act → World → Prop} (hok : seps E.P ops.toList = true) (hdr : (!draw || drawn (s.kill (namesOf E.P ops.toList)).t ops.toList) = true)
    (h : Sim E w0 ρ s a w) (hr : Run E ops.toList ops.toList (s.kill (namesOf E.P ops.toList)) s') (hq : ∀ ρ a w, Sim E w0 ρ s' a w → Q .normal a w) : (Code.region id ops draw).wp E.P Q a w := by
  have hp := seps_pairwise hok
  have hn := np_kill (E := E) ops.toList s
  cases draw with
  | false => exact wp_region_list (list_wp _ (h.kill _) hr hn hp hq)
  | true =>
    have hd : invOk ops.toList = true ∧ (drawOk [] ops.toList = true ∨ drawOk (s.kill (namesOf E.P ops.toList)).t ops.toList = true) := by simpa [drawn] using hdr
    obtain ⟨t0, hdo, hiv⟩ : ∃ t0, drawOk t0 ops.toList = true ∧ Inv t0 ops.toList (s.kill (namesOf E.P ops.toList)) := by
      rcases hd.2 with h1 | h1
      · exact ⟨[], h1, Inv1.kill _ _, fun t a ha => by simp at ha⟩
      · exact ⟨_, h1, Inv1.kill _ _, fun t a ha _ => ha⟩
    refine wp_region_any E.hm ?_
    have h0 : rem ops (Array.replicate ops.size false) = List.range ops.size := by
      refine List.filter_eq_self.2 fun i hi => ?_
      simp only [List.mem_range] at hi
      simp [Array.getD_eq_getD_getElem?, hi]
    have h1 : opsAt ops (rem ops (Array.replicate ops.size false)) = ops.toList := by rw [h0, range_opsAt]
    have hw : Sim E w0 ρ (s.kill (namesOf E.P ops.toList)) a { w with drawn := w.drawn + 1 } :=
      (h.kill _).world ⟨rfl, rfl, rfl, Nat.le_refl _, fun _ _ => rfl⟩
    refine any_wp hdo hd.1 hq ops.size hw ?_ ?_ hiv ?_ (by simp) ?_
    · rw [h1]; exact hr
    · rw [h1]; exact hn
    · rw [h1]; exact hp.imp fun h => ⟨h, sep_symm h⟩
    · rw [h0]; simp
end Go.Sx
