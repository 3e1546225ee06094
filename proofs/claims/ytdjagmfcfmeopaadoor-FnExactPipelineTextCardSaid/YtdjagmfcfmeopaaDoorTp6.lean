/- The plain definitions of the program and of the reference answer alike: steps and their texts: part 6. -/
import Derived.Test.YtdjagmfcfmeopaaDoorTp5
namespace Go.Proofs.YtdjagmfcfmeopaaDoor
open Go Go.Sx Go.Proofs Go.RowKit
@[reducible] def Stp := (Int × Int × Int × Int × Int × Int × Int × Int × Int × Int × Int × Int × Int × Int × Int × Int)
theorem toStep_eq (q : Stp) : laws_toStep.f q.1 q.2.1 q.2.2.1 q.2.2.2.1 q.2.2.2.2.1 q.2.2.2.2.2.1 q.2.2.2.2.2.2.1 q.2.2.2.2.2.2.2.1 q.2.2.2.2.2.2.2.2.1 q.2.2.2.2.2.2.2.2.2.1 q.2.2.2.2.2.2.2.2.2.2.1 q.2.2.2.2.2.2.2.2.2.2.2.1 q.2.2.2.2.2.2.2.2.2.2.2.2.1 q.2.2.2.2.2.2.2.2.2.2.2.2.2.1 q.2.2.2.2.2.2.2.2.2.2.2.2.2.2.1 q.2.2.2.2.2.2.2.2.2.2.2.2.2.2.2 = some q := rfl
theorem at_some {l : List Stp} {i : Nat} (h : i < l.length) : l[(Int.toNat (i : Int))]? = some l[i] := by
  rw [Int.toNat_natCast]
  exact List.getElem?_eq_getElem h
theorem bnd {l : List Stp} {i : Nat} (h : i < l.length) : (decide (0 ≤ (i : Int)) && decide ((i : Int) < ((List.length l : Nat) : Int))) = true := by
  rw [dt (by omega), dt (by omega)]
  rfl
theorem bnd0 (i : Nat) : (decide (0 ≤ (i : Int)) && true) = true := by
  rw [dt (by omega)]
  rfl
theorem inc {i : Nat} (h : i < 1048577) : IntKind.i64.wrap ((i : Int) + 1) = ((i + 1 : Nat) : Int) := by
  rw [w64 (by omega) (by omega)]
  rfl
theorem copy_loop (k : Nat) (l : List Stp) (hl : l.length ≤ 1048576) : ∀ (m i n : Nat), i + m = l.length → m < n →
    laws_toStepS.l1 k n (i : Int) l (l.take i ++ List.replicate m (0, 0, 0, 0, 0, 0, 0, 0, 0, 0, 0, 0, 0, 0, 0, 0)) = some ((), (l, ()))
  | 0, i, n + 1, hi, hn => by
    rw [laws_toStepS.l1, df (p := (i : Int) < ((List.length l : Nat) : Int)) (by omega), cond_false, List.take_of_length_le (by omega)]
    simp
  | m + 1, i, n + 1, hi, hn => by
    have h : i < l.length := by omega
    have hlen : (l.take i ++ List.replicate (m + 1) (0, 0, 0, 0, 0, 0, 0, 0, 0, 0, 0, 0, 0, 0, 0, 0)).length = l.length := by
      simp only [List.length_append, List.length_take, List.length_replicate]
      omega
    rw [laws_toStepS.l1, dt (p := (i : Int) < ((List.length l : Nat) : Int)) (by omega), cond_true, bnd0, cond_true, at_some h, Option.bind_some, toStep_eq, Option.bind_some]
    rw [hlen, bnd h, cond_true, at_some (by rw [hlen]; exact h), Option.bind_some, inc (by omega), Int.toNat_natCast]
    have e2 : l.take (i + 1) = l.take i ++ [l[i]] := by
      rw [List.take_add_one, List.getElem?_eq_getElem h]
      rfl
    have e : List.set (l.take i ++ List.replicate (m + 1) (0, 0, 0, 0, 0, 0, 0, 0, 0, 0, 0, 0, 0, 0, 0, 0)) i l[i] = l.take (i + 1) ++ List.replicate m (0, 0, 0, 0, 0, 0, 0, 0, 0, 0, 0, 0, 0, 0, 0, 0) := by
      rw [List.set_append_right _ _ (by simp; omega), List.length_take, Nat.min_eq_left (by omega), Nat.sub_self, List.replicate_succ, List.set_cons_zero, e2, List.append_assoc]
      rfl
    show laws_toStepS.l1 k n _ l (List.set _ i l[i]) = _
    rw [e]
    exact copy_loop k l hl m (i + 1) n (by omega) (by omega)
theorem copy_eq (k : Nat) (l : List Stp) (hl : l.length ≤ 1048576) (hk : l.length < k) : laws_toStepS.f k l = some l := by
  unfold laws_toStepS.f
  rw [dt (p := (((List.length l : Nat) : Int) = ((List.length l : Nat) : Int))) rfl, dt (p := (0 ≤ ((List.length l : Nat) : Int))) (by omega), dt (p := ((128 : Int) * ((List.length l : Nat) : Int) ≤ 140737488355328)) (by omega), dt (p := (((List.length l : Nat) : Int) ≤ 140737488355328)) (by omega)]
  have h := copy_loop k l hl l.length 0 k (by omega) hk
  simp only [Bool.and_self, cond_true, Int.toNat_natCast]
  have h : laws_toStepS.l1 k k 0 l (List.replicate l.length (0, 0, 0, 0, 0, 0, 0, 0, 0, 0, 0, 0, 0, 0, 0, 0)) = some ((), (l, ())) := h
  rw [h]
  rfl
theorem eqStep_self (q : Stp) : laws_eqStep.f q.1 q.2.1 q.2.2.1 q.2.2.2.1 q.2.2.2.2.1 q.2.2.2.2.2.1 q.2.2.2.2.2.2.1 q.2.2.2.2.2.2.2.1 q.2.2.2.2.2.2.2.2.1 q.2.2.2.2.2.2.2.2.2.1 q.2.2.2.2.2.2.2.2.2.2.1 q.2.2.2.2.2.2.2.2.2.2.2.1 q.2.2.2.2.2.2.2.2.2.2.2.2.1 q.2.2.2.2.2.2.2.2.2.2.2.2.2.1 q.2.2.2.2.2.2.2.2.2.2.2.2.2.2.1 q.2.2.2.2.2.2.2.2.2.2.2.2.2.2.2 q.1 q.2.1 q.2.2.1 q.2.2.2.1 q.2.2.2.2.1 q.2.2.2.2.2.1 q.2.2.2.2.2.2.1 q.2.2.2.2.2.2.2.1 q.2.2.2.2.2.2.2.2.1 q.2.2.2.2.2.2.2.2.2.1 q.2.2.2.2.2.2.2.2.2.2.1 q.2.2.2.2.2.2.2.2.2.2.2.1 q.2.2.2.2.2.2.2.2.2.2.2.2.1 q.2.2.2.2.2.2.2.2.2.2.2.2.2.1 q.2.2.2.2.2.2.2.2.2.2.2.2.2.2.1 q.2.2.2.2.2.2.2.2.2.2.2.2.2.2.2 = some true := by
  unfold laws_eqStep.f laws_eqProjection.f laws_eqEllipsoid.f laws_eqShift.f
  simp only [bne_self_eq_false, cond_false, Option.bind_some, Bool.not_true]
theorem eq_loop (k : Nat) (l : List Stp) (hl : l.length ≤ 1048576) : ∀ (m i n : Nat), i + m = l.length → m < n →
    laws_eqStepS.l1 k n false (i : Int) l l = some (.inl ((false, ()), ()))
  | 0, i, n + 1, hi, hn => by
    rw [laws_eqStepS.l1, df (p := (i : Int) < ((List.length l : Nat) : Int)) (by omega), cond_false]
  | m + 1, i, n + 1, hi, hn => by
    have h : i < l.length := by omega
    rw [laws_eqStepS.l1, dt (p := (i : Int) < ((List.length l : Nat) : Int)) (by omega), cond_true, bnd0, cond_true, at_some h, Option.bind_some, cond_true, Option.bind_some, eqStep_self, Option.bind_some, inc (by omega)]
    exact eq_loop k l hl m (i + 1) n (by omega) (by omega)
theorem eq_self (k : Nat) (l : List Stp) (hl : l.length ≤ 1048576) (hk : l.length < k) : laws_eqStepS.f k l l = some true := by
  unfold laws_eqStepS.f
  have h : laws_eqStepS.l1 k k false 0 l l = some (.inl ((false, ()), ())) := eq_loop k l hl l.length 0 k (by omega) hk
  rw [bne_self_eq_false, cond_false, h]
  rfl
theorem end_eq (N : Nat) (l : List Stp) : ∀ (n : Nat) (form i : Int), spec_l27End.l1 (N + 4) n 0 false form i l = impl_formOf.l1 (N + 4) n 0 false form ((List.length l : Nat) : Int) i l
  | 0, _, _ => rfl
  | n + 1, form, i => by
    rw [spec_l27End.l1, impl_formOf.l1]
    cases decide (i < ((List.length l : Nat) : Int))
    · rfl
    cases (decide (0 ≤ i) && true)
    · rfl
    rw [cond_true, cond_true, cond_true, cond_true]
    cases l[(Int.toNat i)]? with
    | none => rfl
    | some q =>
      rw [Option.bind_some, Option.bind_some, forms_eq]
      obtain ⟨p, hp⟩ := forms_some q.1
      rw [hp, Option.bind_some, Option.bind_some, cond_true, Option.bind_some]
      obtain ⟨b, e0, e1⟩ := step_both N q.1 q.2.1 q.2.2.1 q.2.2.2.1 q.2.2.2.2.1 q.2.2.2.2.2.1 q.2.2.2.2.2.2.1 q.2.2.2.2.2.2.2.1 q.2.2.2.2.2.2.2.2.1 q.2.2.2.2.2.2.2.2.2.1 q.2.2.2.2.2.2.2.2.2.2.1 q.2.2.2.2.2.2.2.2.2.2.2.1 q.2.2.2.2.2.2.2.2.2.2.2.2.1 q.2.2.2.2.2.2.2.2.2.2.2.2.2.1 q.2.2.2.2.2.2.2.2.2.2.2.2.2.2.1 q.2.2.2.2.2.2.2.2.2.2.2.2.2.2.2
      rw [e0, e1, Option.bind_some, Option.bind_some]
      cases b
      · rfl
      cases (p.1 != form)
      · exact end_eq N l n _ _
      · rfl
inductive FormRes (N : Nat) (l rest : List Stp) : Option (((Int × Bool × Int × Unit) × (List Stp × Unit)) ⊕ ((Int × Bool × Unit) × Unit)) → Prop
  | no : FormRes N l rest (some (.inr ((0, (false, ())), ())))
  | yes (f : Int) (h : ∀ q ∈ rest, impl_ValidStep.f (N + 4) q.1 q.2.1 q.2.2.1 q.2.2.2.1 q.2.2.2.2.1 q.2.2.2.2.2.1 q.2.2.2.2.2.2.1 q.2.2.2.2.2.2.2.1 q.2.2.2.2.2.2.2.2.1 q.2.2.2.2.2.2.2.2.2.1 q.2.2.2.2.2.2.2.2.2.2.1 q.2.2.2.2.2.2.2.2.2.2.2.1 q.2.2.2.2.2.2.2.2.2.2.2.2.1 q.2.2.2.2.2.2.2.2.2.2.2.2.2.1 q.2.2.2.2.2.2.2.2.2.2.2.2.2.2.1 q.2.2.2.2.2.2.2.2.2.2.2.2.2.2.2 = some true) : FormRes N l rest (some (.inl ((0, (false, (f, ()))), (l, ()))))
theorem form_loop (N : Nat) (l : List Stp) (hl : l.length ≤ 1048576) : ∀ (rest : List Stp) (i n : Nat) (form : Int), l.drop i = rest → i ≤ l.length → rest.length < n →
    FormRes N l rest (impl_formOf.l1 (N + 4) n 0 false form ((List.length l : Nat) : Int) (i : Int) l)
  | [], i, n + 1, form, hi, hil, hn => by
    have : l.length ≤ i := List.drop_eq_nil_iff.mp hi
    rw [impl_formOf.l1, df (p := (i : Int) < ((List.length l : Nat) : Int)) (by omega), cond_false]
    exact .yes form (fun q hq => nomatch hq)
  | q :: rest, i, n + 1, form, hi, hil, hn => by
    have h : i < l.length := by
      rcases Nat.lt_or_ge i l.length with h | h
      · exact h
      · rw [List.drop_eq_nil_iff.mpr h] at hi
        cases hi
    have hq : l[i] = q := by
      rw [List.drop_eq_getElem_cons h] at hi
      exact (List.cons.inj hi).1
    have hr : l.drop (i + 1) = rest := by
      rw [List.drop_eq_getElem_cons h] at hi
      exact (List.cons.inj hi).2
    rw [impl_formOf.l1, dt (p := (i : Int) < ((List.length l : Nat) : Int)) (by omega), cond_true, bnd0, cond_true, at_some h, hq, Option.bind_some]
    obtain ⟨p, hp⟩ := forms_some q.1
    obtain ⟨b, _, e1⟩ := step_both N q.1 q.2.1 q.2.2.1 q.2.2.2.1 q.2.2.2.2.1 q.2.2.2.2.2.1 q.2.2.2.2.2.2.1 q.2.2.2.2.2.2.2.1 q.2.2.2.2.2.2.2.2.1 q.2.2.2.2.2.2.2.2.2.1 q.2.2.2.2.2.2.2.2.2.2.1 q.2.2.2.2.2.2.2.2.2.2.2.1 q.2.2.2.2.2.2.2.2.2.2.2.2.1 q.2.2.2.2.2.2.2.2.2.2.2.2.2.1 q.2.2.2.2.2.2.2.2.2.2.2.2.2.2.1 q.2.2.2.2.2.2.2.2.2.2.2.2.2.2.2
    rw [hp, Option.bind_some, e1, Option.bind_some, inc (by omega)]
    cases b
    · exact .no
    cases (p.1 != form)
    · rw [Bool.not_true, cond_false, cond_false]
      have ih := form_loop N l hl rest (i + 1) n p.2 hr (by omega) (by simpa using hn)
      revert ih
      generalize impl_formOf.l1 (N + 4) n 0 false p.2 ((List.length l : Nat) : Int) ((i + 1 : Nat) : Int) l = x
      intro ih
      cases ih with
      | no => exact .no
      | yes f h =>
        refine .yes f fun x hx => ?_
        cases hx with
        | head => exact e1
        | tail _ hx => exact h x hx
    · exact .no
theorem text_loop (N : Nat) (l : List Stp) (hl : l.length ≤ 12) (z : List UInt8) : ∀ (rest : List Stp) (i n : Nat) (acc : List UInt8), l.drop i = rest → i ≤ l.length → rest.length < n → acc.length ≤ 401 * i → (∀ q ∈ rest, impl_ValidStep.f (N + 4) q.1 q.2.1 q.2.2.1 q.2.2.2.1 q.2.2.2.2.1 q.2.2.2.2.2.1 q.2.2.2.2.2.2.1 q.2.2.2.2.2.2.2.1 q.2.2.2.2.2.2.2.2.1 q.2.2.2.2.2.2.2.2.2.1 q.2.2.2.2.2.2.2.2.2.2.1 q.2.2.2.2.2.2.2.2.2.2.2.1 q.2.2.2.2.2.2.2.2.2.2.2.2.1 q.2.2.2.2.2.2.2.2.2.2.2.2.2.1 q.2.2.2.2.2.2.2.2.2.2.2.2.2.2.1 q.2.2.2.2.2.2.2.2.2.2.2.2.2.2.2 = some true) →
    ∃ t, spec_l27Text.l1 (N + 30) n z acc (i : Int) l = some ((z, (t, ())), ()) ∧ impl_pipelineText.l1 (N + 30) n z acc ((List.length l : Nat) : Int) (i : Int) l = some ((z, (t, ())), ())
  | [], i, n + 1, acc, hi, hil, hn, ha, hv => by
    have : l.length ≤ i := List.drop_eq_nil_iff.mp hi
    rw [spec_l27Text.l1, impl_pipelineText.l1, df (p := (i : Int) < ((List.length l : Nat) : Int)) (by omega)]
    exact ⟨acc, rfl, rfl⟩
  | q :: rest, i, n + 1, acc, hi, hil, hn, ha, hv => by
    have h : i < l.length := by
      rcases Nat.lt_or_ge i l.length with h | h
      · exact h
      · rw [List.drop_eq_nil_iff.mpr h] at hi
        cases hi
    have hq : l[i] = q := by
      rw [List.drop_eq_getElem_cons h] at hi
      exact (List.cons.inj hi).1
    have hr : l.drop (i + 1) = rest := by
      rw [List.drop_eq_getElem_cons h] at hi
      exact (List.cons.inj hi).2
    obtain ⟨t, e0, e1, ht⟩ := line_both N q.1 q.2.1 q.2.2.1 q.2.2.2.1 q.2.2.2.2.1 q.2.2.2.2.2.1 q.2.2.2.2.2.2.1 q.2.2.2.2.2.2.2.1 q.2.2.2.2.2.2.2.2.1 q.2.2.2.2.2.2.2.2.2.1 q.2.2.2.2.2.2.2.2.2.2.1 q.2.2.2.2.2.2.2.2.2.2.2.1 q.2.2.2.2.2.2.2.2.2.2.2.2.1 q.2.2.2.2.2.2.2.2.2.2.2.2.2.1 q.2.2.2.2.2.2.2.2.2.2.2.2.2.2.1 q.2.2.2.2.2.2.2.2.2.2.2.2.2.2.2 (hv q (List.mem_cons_self ..))
    rw [spec_l27Text.l1, impl_pipelineText.l1, dt (p := (i : Int) < ((List.length l : Nat) : Int)) (by omega), cond_true, cond_true, bnd0, cond_true, cond_true, at_some h, hq, Option.bind_some, Option.bind_some, e0, e1, Option.bind_some, Option.bind_some, inc (by omega)]
    have hlt : (t ++ [10]).length ≤ 401 := by
      rw [List.length_append]
      simp; omega
    rw [dt (p := t.length + ([10] : List UInt8).length ≤ 9223372036854775807) (by simp; omega), cond_true, dt (p := acc.length + (t ++ ([10] : List UInt8)).length ≤ 9223372036854775807) (by omega), cond_true, cond_true]
    exact text_loop N l hl z rest (i + 1) n (acc ++ (t ++ [10])) hr (by omega) (by simpa using hn) (by rw [List.length_append]; omega) (fun x hx => hv x (List.mem_cons_of_mem _ hx))
theorem texts (N : Nat) (l : List Stp) (hl : l.length ≤ 1048576) (hN : l.length < N) : ∃ t, spec_PipelineText.f (N + 30) l = some t ∧ impl_PipelineText.f (N + 30) l = some t := by
  have hf := form_loop (N + 26) l hl l 0 (N + 30) 1 rfl (by omega) (by omega)
  have he := end_eq (N + 26) l (N + 30) 1 0
  unfold spec_PipelineText.f spec_l27Ok.f spec_l27End.f impl_PipelineText.f impl_ValidPipeline.f impl_formOf.f
  have he : spec_l27End.l1 (N + 30) (N + 30) 0 false 1 0 l = impl_formOf.l1 (N + 30) (N + 30) 0 false 1 ((List.length l : Nat) : Int) 0 l := he
  have hf : FormRes (N + 26) l l (impl_formOf.l1 (N + 30) (N + 30) 0 false 1 ((List.length l : Nat) : Int) 0 l) := hf
  rw [he]
  revert hf
  generalize impl_formOf.l1 (N + 30) (N + 30) 0 false 1 ((List.length l : Nat) : Int) 0 l = x
  intro hf
  cases hf with
  | no => exact ⟨[], rfl, rfl⟩
  | yes f hv =>
    by_cases h12 : l.length ≤ 12
    · obtain ⟨t, e0, e1⟩ := text_loop N l h12 [] l 0 (N + 30) [] rfl (by omega) (by omega) (by simp) hv
      have e0 : spec_l27Text.l1 (N + 30) (N + 30) [] [] 0 l = some (([], (t, ())), ()) := e0
      have e1 : impl_pipelineText.l1 (N + 30) (N + 30) [] [] ((List.length l : Nat) : Int) 0 l = some (([], (t, ())), ()) := e1
      refine ⟨t, ?_, ?_⟩
      · simp only [Option.bind_some, sumE]
        rw [dt (p := ((List.length l : Nat) : Int) ≤ 12) (by omega)]
        unfold spec_l27Text.f
        rw [e0]
        rfl
      · simp only [Option.bind_some, sumE]
        rw [dt (p := ((List.length l : Nat) : Int) ≤ 12) (by omega)]
        unfold impl_pipelineText.f
        rw [e1]
        rfl
    · refine ⟨[], ?_, ?_⟩
      · simp only [Option.bind_some, sumE]
        rw [df (p := ((List.length l : Nat) : Int) ≤ 12) (by omega)]
        rfl
      · simp only [Option.bind_some, sumE]
        rw [df (p := ((List.length l : Nat) : Int) ≤ 12) (by omega)]
        rfl
theorem pipelineText (l : List Stp) (hl : l.length ≤ 9223372036854775807) : laws_FnExactPipelineText.f (l.length + 1 + 30) l = some true := by
  unfold laws_FnExactPipelineText.f laws_szStepS.f
  rw [w64 (x := 1048576 - ((List.length l : Nat) : Int)) (by omega) (by omega)]
  by_cases h : l.length ≤ 1048576
  · rw [df (p := (1048576 - ((List.length l : Nat) : Int) < 0)) (by omega), cond_false, Option.bind_some, df (p := (1048576 - ((List.length l : Nat) : Int) < 0)) (by omega), cond_false, copy_eq _ l h (by omega), Option.bind_some]
    obtain ⟨t, e0, e1⟩ := texts (l.length + 1) l h (by omega)
    rw [e0, Option.bind_some, Option.bind_some, e1, Option.bind_some, beq_self_eq_true, Bool.not_true, cond_false, Option.bind_some, eq_self _ l h (by omega)]
    rfl
  · rw [dt (p := (1048576 - ((List.length l : Nat) : Int) < 0)) (by omega)]
    rfl
end Go.Proofs.YtdjagmfcfmeopaaDoor
