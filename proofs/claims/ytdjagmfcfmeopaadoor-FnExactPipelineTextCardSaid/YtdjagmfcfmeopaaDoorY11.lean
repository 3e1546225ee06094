/- A part of an evaluator of the model's code, and of the proof that what it answers is what a call does. -/
import Derived.Test.YtdjagmfcfmeopaaDoorY10
namespace Go.Sx
open Go.RowKit
variable {E : Env}
structure Co (A : Type) where
  enc : A → Value
  dec : Value → Option A
  h : ∀ v a, dec v = some a → v = enc a
structure CoL (A : Type) where
  enc : A → List Value
  dec : List Value → Option A
  h : ∀ v a, dec v = some a → v = enc a
def cI (k : IntKind) : Co Int where
  enc n := .int k n
  dec v := match v with
    | .int k' n => cond (decide (k' = k)) (some n) none
    | _ => none
  h v a hd := by
    split at hd
    · rename_i k' n
      cases hk : decide (k' = k) with
      | false => rw [hk] at hd; cases hd
      | true =>
        rw [hk] at hd
        injection hd with hd
        rw [of_decide_eq_true hk, hd]
    · cases hd
def cB : Co Bool where
  enc b := .bool b
  dec v := match v with
    | .bool b => some b
    | _ => none
  h v a hd := by
    split at hd
    · injection hd with hd; rw [hd]
    · cases hd
def cS : Co (List UInt8) where
  enc l := .string (ofL l)
  dec v := match v with
    | .string s => some (toL s)
    | _ => none
  h v a hd := by
    split at hd
    · injection hd with hd; rw [← hd]; rfl
    · cases hd
def cF (f : FuncId) : Co Unit where
  enc _ := .func (.func f) #[] #[]
  dec v := match v with
    | .func (.func g) x y => match x.toList, y.toList with
      | [], [] => cond (Nat.beq g f) (some ()) none
      | _, _ => none
    | _ => none
  h v a hd := by
    split at hd
    · rename_i g x y
      split at hd
      · rename_i hx hy
        have e1 : x = #[] := Array.ext' hx
        have e2 : y = #[] := Array.ext' hy
        cases hk : Nat.beq g f with
        | false => rw [hk] at hd; cases hd
        | true => rw [e1, e2, Nat.eq_of_beq_eq_true hk]
      · cases hd
    · cases hd
def c0 : CoL Unit where
  enc _ := []
  dec l := match l with
    | [] => some ()
    | _ => none
  h v a hd := by
    split at hd
    · rfl
    · cases hd
def c1 {A : Type} (c : Co A) : CoL A where
  enc a := [c.enc a]
  dec l := match l with
    | [x] => c.dec x
    | _ => none
  h v a hd := by
    split at hd
    · rw [c.h _ _ hd]
    · cases hd
def cC {A B : Type} (c : Co A) (d : CoL B) : CoL (A × B) where
  enc a := c.enc a.1 :: d.enc a.2
  dec l := match l with
    | x :: r => match c.dec x, d.dec r with
      | some a, some b => some (a, b)
      | _, _ => none
    | [] => none
  h v a hd := by
    split at hd
    · split at hd
      · rename_i h1 h2
        injection hd with hd
        rw [← hd, c.h _ _ h1, d.h _ _ h2]
      · cases hd
    · cases hd
def cA {A : Type} (c : CoL A) : Co A where
  enc a := .agg (c.enc a).toArray
  dec v := match v with
    | .agg xs => c.dec xs.toList
    | _ => none
  h v a hd := by
    split at hd
    · rename_i xs
      rw [← c.h _ _ hd]
    · cases hd
structure CoE (A : Type) where
  enc : A → GA
  dec : GA → Option A
  h : ∀ v a, dec v = some a → ∀ w y, v.rep w y → (enc a).rep w y
structure CoG (A : Type) where
  enc : A → List GA
  dec : List GA → Option A
  h : ∀ v a, dec v = some a → ∀ w ys, Reps w v ys → Reps w (enc a) ys
def eV {A : Type} (c : Co A) : CoE A where
  enc a := .v (c.enc a)
  dec g := match g with
    | .v x => c.dec x
    | _ => none
  h v a hd w y hy := by
    split at hd
    · rw [← c.h _ _ hd]; exact hy
    · cases hd
def eP {A : Type} (ty : TypeId) (c : CoL A) : CoE A where
  enc a := .p ty (c.enc a)
  dec g := match g with
    | .p t cs => cond (Nat.beq t ty) (c.dec cs) none
    | _ => none
  h v a hd w y hy := by
    split at hd
    · rw [← c.h _ _ (cond_some hd).2]; exact hy
    · cases hd
theorem lat_nil {w : World} {sh : List Ck} (h : Nat.ble 1 sh.length = true) : LAt w (.slice none 0 0) ⟨sh, []⟩ := ⟨.inl ⟨rfl, rfl⟩, Nat.le_of_ble_eq_true h⟩
def eL (sh : List Ck) : CoE (List (Sh sh)) where
  enc xs := .l ⟨sh, xs⟩
  dec g := match g with
    | .l lb => lb.as sh
    | .v (.slice none 0 0) => cond (Nat.ble 1 sh.length) (some []) none
    | _ => none
  h v a hd w y hy := by
    split at hd
    · rw [← lb_as hd]; exact hy
    · obtain ⟨h1, h2⟩ := cond_some hd
      injection h2 with h2
      subst h2
      have hy : y = .slice none 0 0 := hy
      rw [hy]
      exact lat_nil h1
    · cases hd
def g0 : CoG Unit where
  enc _ := []
  dec l := match l with
    | [] => some ()
    | _ => none
  h v a hd w ys hy := by
    split at hd
    · exact hy
    · cases hd
def g1 {A : Type} (c : CoE A) : CoG A where
  enc a := [c.enc a]
  dec l := match l with
    | [x] => c.dec x
    | _ => none
  h v a hd w ys hy := by
    split at hd
    · cases hy with
      | cons h1 h2 => exact .cons (c.h _ _ hd _ _ h1) h2
    · cases hd
def gC {A B : Type} (c : CoE A) (d : CoG B) : CoG (A × B) where
  enc a := c.enc a.1 :: d.enc a.2
  dec l := match l with
    | x :: r => match c.dec x, d.dec r with
      | some a, some b => some (a, b)
      | _, _ => none
    | [] => none
  h v a hd w ys hy := by
    split at hd
    · split at hd
      · rename_i h1 h2
        injection hd with hd
        rw [← hd]
        cases hy with
        | cons g1 g2 => exact .cons (c.h _ _ h1 _ _ g1) (d.h _ _ h2 _ _ g2)
      · cases hd
    · cases hd
structure CoRA (A : Type) where
  enc : A → RA
  dec : RA → Option A
  h : ∀ v a, dec v = some a → ∀ w base y, v.rep w base y → (enc a).rep w base y
structure CoR (A : Type) where
  enc : A → List RA
  dec : List RA → Option A
  h : ∀ v a, dec v = some a → ∀ w base ys, RReps w base v ys → RReps w base (enc a) ys
def rV {A : Type} (c : Co A) : CoRA A where
  enc a := .v (c.enc a)
  dec g := match g with
    | .v x => c.dec x
    | _ => none
  h v a hd w base y hy := by
    split at hd
    · rw [← c.h _ _ hd]; exact hy
    · cases hd
def rL (ty : TypeId) (sh : List Ck) : CoRA (List (Sh sh)) where
  enc xs := .l ty ⟨sh, xs⟩
  dec g := match g with
    | .l t lb => cond (Nat.beq t ty) (lb.as sh) none
    | .v (.slice none 0 0) => cond (Nat.ble 1 sh.length) (some []) none
    | _ => none
  h v a hd w base y hy := by
    split at hd
    · obtain ⟨h1, h2⟩ := cond_some hd
      have h1 := Nat.eq_of_beq_eq_true h1
      subst h1
      rw [← lb_as h2]
      exact hy
    · obtain ⟨h1, h2⟩ := cond_some hd
      injection h2 with h2
      subst h2
      have hy : y = .slice none 0 0 := hy
      rw [hy]
      exact ⟨lat_nil h1, World.ownsRow_nil _ _ _ _, fun g hg => by cases hg⟩
    · cases hd
def r0 : CoR Unit where
  enc _ := []
  dec l := match l with
    | [] => some ()
    | _ => none
  h v a hd w base ys hy := by
    split at hd
    · exact hy
    · cases hd
def r1 {A : Type} (c : CoRA A) : CoR A where
  enc a := [c.enc a]
  dec l := match l with
    | [x] => c.dec x
    | _ => none
  h v a hd w base ys hy := by
    split at hd
    · cases hy with
      | cons h1 h2 => exact .cons (c.h _ _ hd _ _ _ h1) h2
    · cases hd
def rC {A B : Type} (c : CoRA A) (d : CoR B) : CoR (A × B) where
  enc a := c.enc a.1 :: d.enc a.2
  dec l := match l with
    | x :: r => match c.dec x, d.dec r with
      | some a, some b => some (a, b)
      | _, _ => none
    | [] => none
  h v a hd w base ys hy := by
    split at hd
    · split at hd
      · rename_i h1 h2
        injection hd with hd
        rw [← hd]
        cases hy with
        | cons g1 g2 => exact .cons (c.h _ _ h1 _ _ _ g1) (d.h _ _ h2 _ _ _ g2)
      · cases hd
    · cases hd
def bodyOf (fn : Func) : Code := fn.body.getD .skip
theorem bodyOf_some {fn : Func} (h : fn.body.isSome = true) : fn.body = some (bodyOf fn) := by
  cases hb : fn.body with
  | none => rw [hb] at h; cases h
  | some c => simp [bodyOf, hb]
def ofCalls {A R : Type} (f : FuncId) (ci : CoG A) (co : CoR R) (g : A → Option R) (h : ∀ a r, g a = some r → CallsV E f (ci.enc a) (co.enc r)) : Ctr E where
  f := f
  run args K := match ci.dec args with
    | some a => (g a).bind fun r => K (co.enc r)
    | none => none
  ok args K r hr := by
    split at hr
    · rename_i a ha
      obtain ⟨x, h1, h2⟩ := Option.bind_eq_some_iff.1 hr
      exact ⟨co.enc x, (h a x h1).weak (ci.h _ _ ha), h2⟩
    · cases hr
def mkL {A R : Type} (f : FuncId) {fn : Func} (hf : E.P.funcs[f]? = some fn) (cs : List (Ctr E)) (ci : CoG A) (co : CoR R) (g : A → Option R)
    (hb : fn.body.isSome = true) (hn : (fn.name == "runtime.NumGoroutine") = false) (hok : codeOk E.P (bodyOf fn) = true) {L : Lps R} (hL : LpsOk E L (loopsOf (bodyOf fn)))
    (hg : ∀ a, kcode E (orc cs) L (bodyOf fn) (init fn.ntmps (ci.enc a)) (fin E.P fn.results.toList co.dec) = g a) : Ctr E :=
  ofCalls f ci co g fun a r h => fn_calls hf (bodyOf_some hb) hn hok (orc_ok cs) hL co.h (by rw [hg a]; exact h)
def mk {A R : Type} (f : FuncId) {fn : Func} (hf : E.P.funcs[f]? = some fn) (cs : List (Ctr E)) (ci : CoG A) (co : CoR R) (g : A → Option R)
    (hg : ∀ a, kcode E (orc cs) noLoop (bodyOf fn) (init fn.ntmps (ci.enc a)) (fin E.P fn.results.toList co.dec) = g a)
    (hb : fn.body.isSome = true := by kernel_rfl) (hn : (fn.name == "runtime.NumGoroutine") = false := by kernel_rfl) (hok : codeOk E.P (bodyOf fn) = true := by kernel_rfl) : Ctr E :=
  mkL f hf cs ci co g hb hn hok (noLoop_ok _) hg
end Go.Sx
