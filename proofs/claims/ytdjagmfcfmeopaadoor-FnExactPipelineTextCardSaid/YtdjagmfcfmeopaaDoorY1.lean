/- A part of an evaluator of the model's code, and of the proof that what it answers is what a call does. -/
import Derived.RowKit3
import Derived.Below
import Derived.Orders
import Derived.Laws.Entries
import Derived.Laws.Tables
import Derived.Laws.Externs
import Derived.Deep.MidRow
import Derived.KernelRfl
namespace Go.Sx
open Go.RowKit
def sumE {A B C : Type} (f : A → C) (g : B → C) : A ⊕ B → C
  | .inl a => f a
  | .inr b => g b
inductive Ck where
  | i (k : IntKind)
  | b
  | s
  deriving DecidableEq
def Ck.T : Ck → Type
  | .i _ => Int
  | .b => Bool
  | .s => List UInt8
def Sh : List Ck → Type
  | [] => Unit
  | [c] => c.T
  | c :: d :: r => c.T × Sh (d :: r)
def ofL (l : List UInt8) : ByteArray := ⟨l.toArray⟩
def toL (s : ByteArray) : List UInt8 := s.data.toList
def Ck.enc : (c : Ck) → c.T → Value
  | .i k, n => .int k n
  | .b, x => .bool x
  | .s, x => .string (ofL x)
def Ck.dec : (c : Ck) → Value → Option c.T
  | .i k, .int k' n => cond (decide (k' = k)) (some n) none
  | .b, .bool x => some x
  | .s, .string x => some (toL x)
  | _, _ => none
def encR : (l : List Ck) → Sh l → List Value
  | [], _ => []
  | [c], x => [c.enc x]
  | c :: d :: r, x => c.enc x.1 :: encR (d :: r) x.2
def decR : (l : List Ck) → List Value → Option (Sh l)
  | [], [] => some ()
  | [c], [v] => c.dec v
  | c :: d :: r, v :: vs => match c.dec v, decR (d :: r) vs with
    | some a, some b => some (a, b)
    | _, _ => none
  | _, _ => none
structure LB where
  sh : List Ck
  xs : List (Sh sh)
def LB.as (l : LB) (sh : List Ck) : Option (List (Sh sh)) := if h : l.sh = sh then some (h ▸ l.xs) else none
def LB.cells (l : LB) : List Value := l.xs.flatMap (encR l.sh)
def decC (sh : List Ck) : Nat → List Value → Option (List (Sh sh))
  | 0, _ => some []
  | n + 1, cs => match decR sh (cs.take sh.length), decC sh n (cs.drop sh.length) with
    | some a, some l => some (a :: l)
    | _, _ => none
def kindsOf : List Value → Option (List Ck)
  | [] => some []
  | v :: r => match v, kindsOf r with
    | .int k _, some l => some (.i k :: l)
    | .bool _, some l => some (.b :: l)
    | .string _, some l => some (.s :: l)
    | _, _ => none
def vcells : Value → List Value
  | .agg cs => cs.toList
  | v => [v]
def shOf (P : Program) (ty : TypeId) : Option (List Ck) :=
  match P.info? ty with
  | some i => match i.zero with
    | some z => match kindsOf (vcells z) with
      | some sh => cond (Nat.beq i.size sh.length && Nat.ble 1 sh.length) (some sh) none
      | none => none
    | none => none
  | none => none
inductive AV where
  | j
  | v (x : Value)
  | p (d off : Nat)
  | l (d ver n : Nat)
  | w (d ver z o n : Nat)
  | e (d ver z k off : Nat)
  | t (d : Nat) (n : Nat) (vs : List (Option Value))
  | g (g off : Nat)
  | a (g base : Nat) (ty : TypeId) (n k : Nat)
structure Box where
  ty : TypeId
  cs : List Value
  ro : Bool := false
  ls : Option LB := none
  ver : Nat := 0
inductive GA where
  | v (x : Value)
  | p (ty : TypeId) (cs : List Value)
  | l (lb : LB)
inductive RA where
  | v (x : Value)
  | l (ty : TypeId) (lb : LB)
structure St where
  t : List AV
  b : List (Option Box)
inductive Mk where
  | var
  | lst (n : Nat)
  | tup (n : Nat) (vs : List (Option Value))
inductive Eff where
  | pure (x : AV)
  | alloc (bx : Box) (m : Mk)
  | store (d off : Nat) (vs : List Value) (bx : Box)
  | grow (d : Nat) (bx : Box) (n : Nat)
  | call (f : FuncId) (args : List GA)
def AV.to : AV → Option Nat
  | .p d _ => some d
  | .l d _ _ => some d
  | .w d _ _ _ _ => some d
  | .e d _ _ _ _ => some d
  | .t d _ _ => some d
  | _ => none
def mkA (d : Nat) : Mk → AV
  | .var => .p d 0
  | .lst n => .l d 0 n
  | .tup n vs => .t d n vs
def setL : List Value → Nat → List Value → List Value
  | cs, _, [] => cs
  | cs, o, v :: r => setL (cs.set o v) (o + 1) r
def rowTy (P : Program) (ty : TypeId) : Option (Bool × Nat) :=
  match P.underlying ty, P.info? ty with
  | some (.struct _), some i => some (true, i.size)
  | some (.array _ _), some i => some (true, i.size)
  | some _, some i => some (false, i.size)
  | _, _ => none
def vals : List AV → Option (List Value)
  | [] => some []
  | .v x :: r => match vals r with
    | some l => some (x :: l)
    | none => none
  | _ => none
@[reducible] def Gl := List (Nat × TypeId × List Value)
def Gl.get : Gl → Nat → Option (TypeId × List Value)
  | [], _ => none
  | e :: r, g => cond (Nat.beq e.1 g) (some e.2) (Gl.get r g)
structure Env where
  P : Program
  gl : Gl
  I : World → Prop
  hI : ∀ w w', I w → Below w.heap.size w w' → I w'
  hg : ∀ w g ty cs, I w → Gl.get gl g = some (ty, cs) → w.rangeAt g 0 cs
  hm : P.follows .mixedOrders = true
def ev (t : List AV) : Operand → Option AV
  | .tmp i => t[i]?
  | .const v => some (.v v)
  | .func f => some (.v (.func (.func f) #[] #[]))
  | .global g => some (.g g 0)
def evs (t : List AV) : List Operand → Option (List AV)
  | [] => some []
  | x :: r => match ev t x, evs t r with
    | some a, some l => some (a :: l)
    | _, _ => none
def oneO : Option Operand → List Operand
  | some x => [x]
  | none => []
def opnds : Op → Option (List Operand)
  | .move x => some [x]
  | .assign x => some [x]
  | .pick c a b => some [c, a, b]
  | .alloc _ => some []
  | .box _ x => some [x]
  | .build _ ps => some (ps.toList.map (·.2))
  | .buildSlice _ _ ps => some (ps.toList.map (·.2))
  | .indexAddr _ x i => some [x, i]
  | .index _ x i => some [x, i]
  | .load _ x => some [x]
  | .store _ a v => some [a, v]
  | .binOp _ _ x y _ => some [x, y]
  | .unOp _ _ x => some [x]
  | .convert _ _ x => some [x]
  | .fieldAddr _ x _ => some [x]
  | .field _ x _ => some [x]
  | .extract t _ => some [t]
  | .nilCheck x => some [x]
  | .makeSlice _ n c => some [n, c]
  | .slice _ x lo hi none => some (x :: (oneO lo ++ oneO hi))
  | .call c => match c.callee with
    | .value f => some (f :: c.args.toList)
    | .builtin _ => some c.args.toList
    | .invoke _ _ => none
  | _ => none
def seq : List Nat → Nat → Bool
  | [], _ => true
  | i :: r, k => Nat.beq i k && seq r (k + 1)
def eqR : List Field → Bool → Option Bool → Option Bool
  | [], q, _ => some q
  | _ :: _, q, some s => some (q && s)
  | _ :: _, _, none => none
def eqF (P : Program) : Nat → List Value → List Value → List Field → Option Bool
  | 0, _, _, _ => none
  | _ + 1, _, _, [] => some true
  | n + 1, xs, ys, f :: r => cond (f.name == "_") none (match P.underlying f.type with
    | some (.int _) => match xs[f.offset]?, ys[f.offset]? with
      | some (.int k x), some (.int k' y) => cond (decide (k = k')) (eqR r (x == y) (eqF P n xs ys r)) none
      | _, _ => none
    | some .bool => match xs[f.offset]?, ys[f.offset]? with
      | some (.bool x), some (.bool y) => eqR r (x == y) (eqF P n xs ys r)
      | _, _ => none
    | some (.struct fs) => match P.info? f.type with
      | some i => cond (P.stoodInHeld f.type) none (match eqF P n ((xs.drop f.offset).take i.size) ((ys.drop f.offset).take i.size) fs.toList with
        | some q => eqR r q (eqF P n xs ys r)
        | none => none)
      | none => none
    | _ => none)
def eqS (P : Program) (ty : TypeId) (xs ys : Array Value) : Option Bool :=
  match P.underlying ty with
  | some (.struct fs) => cond (P.stoodInHeld ty || P.eqGuardType P.depth ty) none (eqF P 64 xs.toList ys.toList fs.toList)
  | _ => none
def bt (s : List UInt8) (i : Int) : Int := ((s.getD i.toNat 0).toNat : Int)
def cut (s : List UInt8) (a b : Int) : List UInt8 := (s.take b.toNat).drop a.toNat
def less : List UInt8 → List UInt8 → Bool
  | _, [] => false
  | [], _ :: _ => true
  | a :: x, b :: y => decide (a < b) || (a == b && less x y)
section
variable {R : Type}
def kint (op : BinOp) (k : IntKind) (x y : Int) (K : Value → Option R) : Option R :=
  match op with
  | .add => K (.int k (k.wrap (x + y)))
  | .sub => K (.int k (k.wrap (x - y)))
  | .mul => K (.int k (k.wrap (x * y)))
  | .quo => cond (decide (y = 0)) none (K (.int k (k.wrap (x.tdiv y))))
  | .rem => cond (decide (y = 0)) none (K (.int k (x.tmod y)))
  | .and => K (.int k (bits .and k x y))
  | .or => K (.int k (bits .or k x y))
  | .xor => K (.int k (bits .xor k x y))
  | .eql => K (.bool (x == y))
  | .neq => K (.bool (x != y))
  | .lss => K (.bool (decide (x < y)))
  | .leq => K (.bool (decide (x ≤ y)))
  | .gtr => K (.bool (decide (x > y)))
  | .geq => K (.bool (decide (x ≥ y)))
  | _ => none
def kshift (op : BinOp) (k : IntKind) (x y : Int) (K : Value → Option R) : Option R :=
  match op with
  | .shl => cond (decide (y < 0)) none (K (.int k (k.wrap (x * 2 ^ min y.toNat k.bits))))
  | .shr => cond (decide (y < 0)) none (K (.int k (x.fdiv (2 ^ min y.toNat k.bits))))
  | _ => none
def kstr (op : BinOp) (x y : List UInt8) (K : Value → Option R) : Option R :=
  match op with
  | .add => cond (decide (x.length + y.length ≤ 9223372036854775807)) (K (.string (ofL (x ++ y)))) none
  | .eql => K (.bool (x == y))
  | .neq => K (.bool (!(x == y)))
  | .lss => K (.bool (less x y))
  | .leq => K (.bool (less x y || (x == y)))
  | .gtr => K (.bool (!(less x y || (x == y))))
  | .geq => K (.bool (!less x y))
  | _ => none
def isShift : BinOp → Bool
  | .shl => true
  | .shr => true
  | _ => false
def rowAt (P : Program) (ty : TypeId) (cs : List Value) (off : Nat) : Option Value :=
  match rowTy P ty with
  | some (true, n) => cond (Nat.ble (off + n) cs.length) (some (.agg ((cs.drop off).take n).toArray)) none
  | some (false, _) => cs[off]?
  | none => none
def lst (b : List (Option Box)) (d ver : Nat) : Option Box :=
  match b[d]? with
  | some (some bx) => cond (Nat.beq bx.ver ver) (some bx) none
  | _ => none
def gas (P : Program) (b : List (Option Box)) : List AV → List TypeId → (List GA → Option R) → Option R
  | [], _, K => K []
  | .v x :: r, _ :: ts, K => gas P b r ts fun l => K (.v x :: l)
  | .p d off :: r, t :: ts, K => match P.underlying t with
    | some (.pointer e) => match P.info? e, b[d]? with
      | some i, some (some bx) => cond (Nat.ble (off + i.size) bx.cs.length && bx.ls.isNone) (gas P b r ts fun l => K (.p e ((bx.cs.drop off).take i.size) :: l)) none
      | _, _ => none
    | _ => none
  | .e d ver z k off :: r, t :: ts, K => match P.underlying t with
    | some (.pointer e) => match P.info? e, lst b d ver with
      | some i, some bx => match bx.ls with
        | some lb => cond (Nat.beq z lb.sh.length && Nat.ble (off + i.size) lb.sh.length) ((lb.xs[k]?).bind fun a => gas P b r ts fun l => K (.p e (((encR lb.sh a).drop off).take i.size) :: l)) none
        | none => none
      | _, _ => none
    | _ => none
  | .l d ver _ :: r, _ :: ts, K => match lst b d ver with
    | some bx => match bx.ls with
      | some lb => gas P b r ts fun l => K (.l lb :: l)
      | none => none
    | none => none
  | .w d ver z o n :: r, _ :: ts, K => match lst b d ver with
    | some bx => match bx.ls with
      | some lb => cond (Nat.beq z lb.sh.length) (gas P b r ts fun l => K (.l ⟨lb.sh, (lb.xs.drop o).take n⟩ :: l)) none
      | none => none
    | none => none
  | _, _, _ => none
def newRows (sh : List Ck) (b : List (Option Box)) : AV → Option (List (Sh sh))
  | .l d ver _ => match lst b d ver with
    | some bx => match bx.ls with
      | some lb => lb.as sh
      | none => none
    | none => none
  | _ => none
def rowsOf (sh : List Ck) : List Value → Option (List (Sh sh))
  | [] => some []
  | v :: r => match decR sh (vcells v), rowsOf sh r with
    | some a, some l => some (a :: l)
    | _, _ => none
def bounds (lo hi : Option Operand) (n : Nat) (vs : List AV) (K : Int → Int → Option R) : Option R :=
  match lo, hi, vs with
  | none, none, [] => K 0 n
  | some _, none, [.v (.int _ l)] => cond (decide (0 ≤ l) && decide (l ≤ (n : Int))) (K l n) none
  | none, some _, [.v (.int _ h)] => cond (decide (0 ≤ h) && decide (h ≤ (n : Int))) (K 0 h) none
  | some _, some _, [.v (.int _ l), .v (.int _ h)] => cond (decide (0 ≤ l) && decide (l ≤ h) && decide (h ≤ (n : Int))) (K l h) none
  | _, _, _ => none
def kapnd (e : TypeId) (sh : List Ck) (i : TypeInfo) (b : List (Option Box)) (ys : List (Sh sh)) (x : AV) (K : Eff → Option R) : Option R :=
  match x with
  | .v (.slice none 0 0) => cond (Nat.ble 1 i.bytes && i.zero.isSome && decide (ys.length * i.bytes ≤ 140737488355328)) (K (.alloc ⟨e, [], false, some ⟨sh, ys⟩, 0⟩ (.lst ys.length))) none
  | .l d ver _ => match lst b d ver with
    | some bx => match bx.ls.bind (·.as sh) with
      | some xs => cond (Nat.ble 1 i.bytes && i.zero.isSome && Nat.beq bx.ty e && !bx.ro && decide ((xs.length + ys.length) * i.bytes ≤ 140737488355328))
        (K (.grow d ⟨e, [], false, some ⟨sh, xs ++ ys⟩, ver + 1⟩ (xs ++ ys).length)) none
      | none => none
    | none => none
  | _ => none
def keffA (E : Env) (op : Op) (vs : List AV) (b : List (Option Box)) (K : Eff → Option R) : Option R :=
  match op, vs with
  | .move _, [a] => K (.pure a)
  | .assign _, [a] => K (.pure a)
  | .pick _ _ _, [.v (.bool c), a, b] => cond c (K (.pure a)) (K (.pure b))
  | .alloc ty, [] => match (E.P.info? ty).bind (·.zero) with
    | some z => K (.alloc ⟨ty, vcells z, false, none, 0⟩ .var)
    | none => none
  | .box ty _, [.v x] => K (.alloc ⟨ty, vcells x, false, none, 0⟩ .var)
  | .build ty ps, vs => match vals vs with
    | some xs => match E.P.built ty ((ps.toList.map (·.1)).zip xs) with
      | some cells => K (.pure (.v (.agg cells)))
      | none => none
    | none => none
  | .buildSlice ty n ps, vs => match E.P.underlying ty with
    | some (.slice e) => match shOf E.P e with
      | some sh => match vals vs with
        | some xs => cond (Nat.beq xs.length n && seq (ps.toList.map (·.1)) 0 && Nat.ble (n * sh.length) 16777216) (match rowsOf sh xs with
          | some rows => K (.alloc ⟨e, [], false, some ⟨sh, rows⟩, 0⟩ (.lst n))
          | none => none) none
        | none => none
      | none => none
    | _ => none
  | .makeSlice ty _ _, [.v (.int _ n), .v (.int _ c)] => match E.P.underlying ty with
    | some (.slice e) => match shOf E.P e, E.P.info? e with
      | some sh, some i => match i.zero with
        | some z => match decR sh (vcells z) with
          | some a => cond (decide (n = c) && decide (0 ≤ n) && decide ((i.bytes : Int) * n ≤ 140737488355328) && decide (n ≤ 140737488355328)) (K (.alloc ⟨e, [], false, some ⟨sh, List.replicate n.toNat a⟩, 0⟩ (.lst (List.replicate n.toNat a).length))) none
          | none => none
        | none => none
      | _, _ => none
    | _ => none
  | .indexAddr ty _ _, [.l d ver n, .v (.int _ i)] => match E.P.underlying ty with
    | some (.slice e) => match (E.P.info? e).map (·.size) with
      | some z => cond (decide (0 ≤ i) && decide (i < (n : Int))) (K (.pure (.e d ver z i.toNat 0))) none
      | none => none
    | _ => none
  | .indexAddr ty _ _, [.w d ver z' o n, .v (.int _ i)] => match E.P.underlying ty with
    | some (.slice e) => match (E.P.info? e).map (·.size) with
      | some z => cond (Nat.beq z z' && decide (0 ≤ i) && decide (i < (n : Int))) (K (.pure (.e d ver z (o + i.toNat) 0))) none
      | none => none
    | _ => none
  | .indexAddr ty _ _, [.p d off, .v (.int _ i)] => match E.P.underlying ty with
    | some (.array len e) => match (E.P.info? e).map (·.size) with
      | some n => cond (decide (0 ≤ i) && decide (i < len)) (K (.pure (.p d (off + i.toNat * n)))) none
      | none => none
    | _ => none
  | .indexAddr ty _ _, [.g g off, .v (.int _ i)] => match E.P.underlying ty with
    | some (.array len e) => match (E.P.info? e).map (·.size) with
      | some _ => cond (decide (0 ≤ i) && decide (i < len)) (K (.pure (.a g off e len i.toNat))) none
      | none => none
    | _ => none
  | .index ty _ _, [.v (.string s), .v (.int _ i)] => match E.P.underlying ty with
    | some .string => cond (decide (0 ≤ i) && decide (i < ((toL s).length : Int))) (K (.pure (.v (.int .u8 (bt (toL s) i))))) none
    | _ => none
  | .index ty _ _, [.v (.agg cs), .v (.int _ i)] => match E.P.underlying ty with
    | some (.array len e) => match (shOf E.P e).bind fun sh => (decC sh len cs.toList).map fun xs => LB.mk sh xs with
      | some lb => cond (decide (0 ≤ i) && decide (i < len)) ((lb.xs[i.toNat]?).bind fun a => match rowAt E.P e (encR lb.sh a) 0 with
        | some x => K (.pure (.v x))
        | none => none) none
      | none => match rowTy E.P e with
        | some (true, n) => cond (decide (0 ≤ i) && decide (i < len)) (K (.pure (.v (.agg ((cs.toList.drop (i.toNat * n)).take n).toArray)))) none
        | some (false, n) => cond (decide (0 ≤ i) && decide (i < len)) (match cs.toList[i.toNat * n]? with
          | some x => K (.pure (.v x))
          | none => none) none
        | none => none
    | _ => none
  | .load ty _, [.p d off] => match b[d]? with
    | some (some bx) => match bx.ls with
      | none => match rowAt E.P ty bx.cs off with
        | some x => K (.pure (.v x))
        | none => none
      | some _ => none
    | _ => none
  | .load ty _, [.e d ver z k off] => match lst b d ver with
    | some bx => match bx.ls with
      | some lb => cond (Nat.beq z lb.sh.length) ((lb.xs[k]?).bind fun a => match rowAt E.P ty (encR lb.sh a) off with
        | some x => K (.pure (.v x))
        | none => none) none
      | none => none
    | none => none
  | .load ty _, [.g g off] => match E.gl.get g with
    | some (_, cs) => match rowAt E.P ty cs off with
      | some x => K (.pure (.v x))
      | none => none
    | none => none
  | .load ty _, [.a g base e n k] => match E.gl.get g with
    | some (_, cs) => match (shOf E.P e).bind fun sh => (decC sh n (cs.drop base)).map fun xs => LB.mk sh xs with
      | some lb => (lb.xs[k]?).bind fun a => match rowAt E.P ty (encR lb.sh a) 0 with
        | some x => cond (decide (ty = e)) (K (.pure (.v x))) none
        | none => none
      | none => none
    | none => none
  | .store ty _ _, [.p d off, .v x] => match b[d]? with
    | some (some bx) => match (E.P.info? ty).map (·.size) with
      | some n => cond (Nat.beq (vcells x).length n && Nat.ble (off + n) bx.cs.length && (vcells x).all (·.oneCell') && !bx.ro && bx.ls.isNone) (K (.store d off (vcells x) ⟨bx.ty, setL bx.cs off (vcells x), false, none, bx.ver⟩)) none
      | none => none
    | _ => none
  | .store ty _ _, [.e d ver z k off, .v x] => match lst b d ver with
    | some bx => match bx.ls with
      | some lb => match (E.P.info? ty).map (·.size) with
        | some n => cond (Nat.beq z lb.sh.length && Nat.beq (vcells x).length n && Nat.ble (off + n) lb.sh.length && (vcells x).all (·.oneCell') && !bx.ro)
          ((lb.xs[k]?).bind fun a => match decR lb.sh (setL (encR lb.sh a) off (vcells x)) with
          | some a' => K (.store d (k * z + off) (vcells x) ⟨bx.ty, [], false, some ⟨lb.sh, lb.xs.set k a'⟩, bx.ver⟩)
          | none => none) none
        | none => none
      | none => none
    | none => none
  | .slice ty _ lo hi none, .v (.string s) :: r => match E.P.underlying ty with
    | some .string => bounds lo hi (toL s).length r fun l h => K (.pure (.v (.string (ofL (cut (toL s) l h)))))
    | _ => none
  | .slice ty _ lo hi none, .l d ver n :: r => match E.P.underlying ty with
    | some (.slice e) => match (E.P.info? e).map (·.size) with
      | some z => bounds lo hi n r fun l h => K (.pure (.w d ver z l.toNat (h.toNat - l.toNat)))
      | none => none
    | _ => none
  | .slice ty _ lo hi none, .w d ver z' o n :: r => match E.P.underlying ty with
    | some (.slice e) => match (E.P.info? e).map (·.size) with
      | some z => bounds lo hi n r fun l h => cond (Nat.beq z z') (K (.pure (.w d ver z (o + l.toNat) (h.toNat - l.toNat)))) none
      | none => none
    | _ => none
  | .binOp op _ _ _ _, [.v (.int k x), .v (.int k' y)] =>
    cond (isShift op) (kshift op k x y fun v => K (.pure (.v v))) (cond (decide (k = k')) (kint op k x y fun v => K (.pure (.v v))) none)
  | .binOp op ty _ _ _, [.v (.string x), .v (.string y)] => match E.P.underlying ty with
    | some .string => kstr op (toL x) (toL y) fun v => K (.pure (.v v))
    | _ => none
  | .binOp .eql ty _ _ _, [.v (.bool x), .v (.bool y)] => match E.P.underlying ty with
    | some .bool => K (.pure (.v (.bool (x == y))))
    | _ => none
  | .binOp .neq ty _ _ _, [.v (.bool x), .v (.bool y)] => match E.P.underlying ty with
    | some .bool => K (.pure (.v (.bool (!(x == y)))))
    | _ => none
  | .binOp .eql ty _ _ _, [.v (.agg xs), .v (.agg ys)] => match eqS E.P ty xs ys with
    | some r => K (.pure (.v (.bool r)))
    | none => none
  | .binOp .neq ty _ _ _, [.v (.agg xs), .v (.agg ys)] => match eqS E.P ty xs ys with
    | some r => K (.pure (.v (.bool (!r))))
    | none => none
  | .unOp .neg _ _, [.v (.int k n)] => K (.pure (.v (.int k (k.wrap (-n)))))
  | .unOp .xor _ _, [.v (.int k n)] => K (.pure (.v (.int k (bits .xor k (if k.signed then -1 else k.max) n))))
  | .unOp .not _ _, [.v (.bool c)] => K (.pure (.v (.bool (!c))))
  | .convert src dst _, [.v (.int _ n)] => match E.P.underlying src, E.P.underlying dst with
    | some _, some (.int k) => K (.pure (.v (.int k (k.wrap n))))
    | _, _ => none
  | .convert src dst _, [.v (.string s)] => match E.P.underlying src, E.P.underlying dst with
    | some .string, some .string => K (.pure (.v (.string s)))
    | some .string, some (.slice e) => match E.P.underlying e with
      | some (.int .u8) => K (.alloc ⟨e, [], true, some ⟨[.i .u8], (toL s).map fun x => (x.toNat : Int)⟩, 0⟩ (.lst ((toL s).map fun x : UInt8 => (x.toNat : Int)).length))
      | _ => none
    | _, _ => none
  | .convert src dst _, [.l d ver _] => match E.P.underlying src, E.P.underlying dst with
    | some (.slice e), some .string => match E.P.underlying e, lst b d ver with
      | some (.int .u8), some bx => match bx.ls.bind (·.as [.i .u8]) with
        | some xs => K (.pure (.v (.string (ofL (List.map (fun n : Int => UInt8.ofNat n.toNat) xs)))))
        | none => none
      | _, _ => none
    | _, _ => none
  | .fieldAddr ty _ f, [.p d off] => match E.P.underlying ty with
    | some (.struct fs) => match fs.toList[f]? with
      | some fl => match (E.P.info? fl.type).map (·.size) with
        | some n => cond (Nat.beq n 0) none (K (.pure (.p d (off + fl.offset))))
        | none => none
      | none => none
    | _ => none
  | .fieldAddr ty _ f, [.e d ver z k off] => match E.P.underlying ty with
    | some (.struct fs) => match fs.toList[f]? with
      | some fl => match (E.P.info? fl.type).map (·.size) with
        | some n => cond (Nat.beq n 0) none (K (.pure (.e d ver z k (off + fl.offset))))
        | none => none
      | none => none
    | _ => none
  | .field ty _ f, [.v (.agg cs)] => match E.P.underlying ty with
    | some (.struct fs) => match fs.toList[f]? with
      | some fl => match rowTy E.P fl.type with
        | some (true, n) => K (.pure (.v (.agg ((cs.toList.drop fl.offset).take n).toArray)))
        | some (false, _) => match cs.toList[fl.offset]? with
          | some x => K (.pure (.v x))
          | none => none
        | none => none
      | none => none
    | _ => none
  | .extract _ i, [.v (.tuple xs)] => match xs.toList[i]? with
    | some x => K (.pure (.v x))
    | none => none
  | .extract _ i, [.t d n vs] => match vs[i]? with
    | some (some x) => K (.pure (.v x))
    | some none => K (.pure (.l d 0 n))
    | none => none
  | .nilCheck _, [.p d off] => K (.pure (.p d off))
  | .nilCheck _, [.e d ver z k off] => K (.pure (.e d ver z k off))
  | .call c, vs => match c.callee, vs with
    | .value _, .v (.func (.func f) fi ca) :: r => match fi.toList, ca.toList with
      | [], [] => gas E.P b r c.argTypes.toList fun args => K (.call f args)
      | _, _ => none
    | .builtin .len, [.l _ _ n] => match (c.argTypes.toList[0]?).bind E.P.underlying with
      | some (.slice _) => K (.pure (.v (.int .i64 n)))
      | _ => none
    | .builtin .len, [.w _ _ _ _ n] => match (c.argTypes.toList[0]?).bind E.P.underlying with
      | some (.slice _) => K (.pure (.v (.int .i64 n)))
      | _ => none
    | .builtin .len, [.v (.slice none 0 0)] => match (c.argTypes.toList[0]?).bind E.P.underlying with
      | some (.slice _) => K (.pure (.v (.int .i64 (0 : Nat))))
      | _ => none
    | .builtin .len, [.v (.string s)] => match (c.argTypes.toList[0]?).bind E.P.underlying with
      | some .string => K (.pure (.v (.int .i64 (toL s).length)))
      | _ => none
    | .builtin .append, [x, y] => match c.argTypes.toList with
      | [t, t'] => match E.P.underlying t with
        | some (.slice e) => match shOf E.P e, E.P.info? e with
          | some sh, some i => cond (Nat.beq t t') (match newRows sh b y with
            | some ys => kapnd e sh i b ys x K
            | none => none) none
          | _, _ => none
        | _ => none
      | _ => none
    | .builtin .max, [.v (.int k x), .v (.int _ y)] => K (.pure (.v (.int k (if y > x then y else x))))
    | .builtin .min, [.v (.int k x), .v (.int _ y)] => K (.pure (.v (.int k (if y < x then y else x))))
    | _, _ => none
  | _, _ => none
def St.put (s : St) (dst : Option Tmp) (x : AV) : St :=
  match dst with
  | some d => ⟨s.t.set d x, s.b⟩
  | none => s
@[reducible] def Orc (R : Type) := FuncId → List GA → (List RA → Option R) → Option R
def isSl (P : Program) (t : TypeId) : Bool :=
  match P.underlying t with
  | some (.slice _) => true
  | _ => false
def isL (P : Program) (t : TypeId) : Bool :=
  match P.underlying t with
  | some (.slice _) => true
  | some (.tuple ts) => ts.toList.any (isSl P)
  | _ => false
def ras : List RA → Option (List Value)
  | [] => some []
  | .v x :: r => match ras r with
    | some l => some (x :: l)
    | none => none
  | .l _ _ :: _ => none
def rasO : List RA → List (Option Value)
  | [] => []
  | .v x :: r => some x :: rasO r
  | .l _ _ :: r => none :: rasO r
def oneL : List RA → Option (TypeId × LB)
  | [] => none
  | .v _ :: r => oneL r
  | .l ty lb :: r => match ras r with
    | some _ => some (ty, lb)
    | none => none
def resV : List Value → Value
  | [x] => x
  | l => .tuple l.toArray
def lbox (ty : TypeId) (lb : LB) : Box := ⟨ty, [], false, some lb, 0⟩
def mkR (n : Nat) : List (Option Value) → Mk
  | [none] => .lst n
  | l => .tup n l
def kapp (P : Program) (T : Orc R) (o : Oper) (s : St) (K : St → Option R) : Eff → Option R
  | .pure x => K (s.put o.dst x)
  | .alloc bx m => match o.dst with
    | some d => K ⟨s.t.set d (mkA d m), s.b.set d (some bx)⟩
    | none => none
  | .store d _ _ bx => match s.b[d]? with
    | some (some _) => K (St.put ⟨s.t, s.b.set d (some bx)⟩ o.dst (.v undef))
    | _ => none
  | .grow d bx n => match s.b[d]? with
    | some (some _) => K (St.put ⟨s.t, s.b.set d (some bx)⟩ o.dst (.l d bx.ver n))
    | _ => none
  | .call f args => T f args fun rs => match ras rs with
    | some vs => K (s.put o.dst (.v (resV vs)))
    | none => match oneL rs, o.dst with
      | some (ty, lb), some d => cond (isL P o.type) (K ⟨s.t.set d (mkA d (mkR lb.xs.length (rasO rs))), s.b.set d (some (lbox ty lb))⟩) none
      | _, _ => none
def kdo (E : Env) (T : Orc R) (o : Oper) (s : St) (K : St → Option R) : Option R :=
  match opnds o.op with
  | some l => match evs s.t l with
    | some vs => keffA E o.op vs s.b (kapp E.P T o s K)
    | none => none
  | none => none
def kop (E : Env) (T : Orc R) (ops : List Oper) (o : Oper) (s : St) (K : St → Option R) : Option R :=
  match o.guard with
  | none => kdo E T o s K
  | some (j, want) => match (ops[j]?).bind (·.dst) with
    | none => none
    | some g => match s.t[g]? with
      | some (.v (.bool c)) =>
        cond c (cond (true == want) (kdo E T o ⟨s.t.set g (.v (.bool true)), s.b⟩ K) (K (St.put ⟨s.t.set g (.v (.bool true)), s.b⟩ o.dst (.v undef))))
          (cond (false == want) (kdo E T o ⟨s.t.set g (.v (.bool false)), s.b⟩ K) (K (St.put ⟨s.t.set g (.v (.bool false)), s.b⟩ o.dst (.v undef))))
      | some (.v (.tuple _)) => K (s.put o.dst (.v undef))
      | _ => none
def kops (E : Env) (T : Orc R) (ops : List Oper) : List Oper → St → (St → Option R) → Option R
  | [], s, K => K s
  | o :: r, s, K => kop E T ops o s fun s' => kops E T ops r s' K
end
def alD (o : Oper) : Option Nat :=
  match o.op, o.dst with
  | .alloc _, some d => some d
  | .box _ _, some d => some d
  | _, _ => none
def mkAp (c : Call) : Bool := match c.callee with
  | .builtin .append => true
  | _ => false
def mkCl (c : Call) : Bool := match c.callee with
  | .value _ => true
  | _ => false
def nmD (P : Program) (o : Oper) : Option Nat :=
  match o.op with
  | .alloc _ => o.dst
  | .box _ _ => o.dst
  | .buildSlice _ _ _ => o.dst
  | .makeSlice _ _ _ => o.dst
  | .convert _ t _ => cond (isSl P t) o.dst none
  | .call c => cond (mkAp c || (mkCl c && isL P o.type)) o.dst none
  | _ => none
def allocsOf : List Oper → List Nat
  | [] => []
  | o :: r => match alD o with
    | some d => d :: allocsOf r
    | none => allocsOf r
def namesOf (P : Program) : List Oper → List Nat
  | [] => []
  | o :: r => match nmD P o with
    | some d => d :: namesOf P r
    | none => namesOf P r
def killV (ds : List Nat) (x : AV) : AV :=
  match x with
  | .j => .j
  | .v y => .v y
  | .g g off => .g g off
  | .a g b t n k => .a g b t n k
  | .p d off => cond (ds.elem d) .j (.p d off)
  | .l d ver n => cond (ds.elem d) .j (.l d ver n)
  | .w d ver z o n => cond (ds.elem d) .j (.w d ver z o n)
  | .e d ver z k off => cond (ds.elem d) .j (.e d ver z k off)
  | .t d n vs => cond (ds.elem d) .j (.t d n vs)
def killB (ds : List Nat) : List (Option Box) → List (Option Box)
  | bs => ds.foldl (fun l d => l.set d none) bs
def killT (ds : List Nat) : List AV → List AV
  | ts => ds.foldl (fun l d => l.set d .j) ts
def St.kill (s : St) (ds : List Nat) : St :=
  match ds with
  | [] => s
  | d :: r => ⟨killT (d :: r) (s.t.map (killV (d :: r))), killB (d :: r) s.b⟩
def tmpsOf : List Operand → List Tmp
  | [] => []
  | .tmp t :: r => t :: tmpsOf r
  | _ :: r => tmpsOf r
def looks (ops : List Oper) (o : Oper) : List Tmp :=
  (match opnds o.op with
   | some l => tmpsOf l
   | none => []) ++
  (match o.guard with
   | none => []
   | some (j, _) => match (ops[j]?).bind (·.dst) with
     | some g => [g]
     | none => [])
def isLd (o : Oper) : Bool := match o.op with
  | .load _ _ => true
  | .convert _ _ _ => true
  | .call _ => true
  | _ => false
def isSt (o : Oper) : Bool := match o.op with
  | .store _ _ _ => true
  | .call c => mkAp c
  | _ => false
def offs (ops : List Oper) (x y : Oper) : Bool :=
  match x.dst with
  | some d => !(y.dst == some d) && !(looks ops y).elem d
  | none => true
def opT (o : Oper) : List Tmp := match opnds o.op with
  | some l => tmpsOf l
  | none => []
def aTs (o : Oper) : List Tmp := match o.op with
  | .load _ (.tmp t) => [t]
  | .convert _ _ (.tmp t) => [t]
  | .store _ (.tmp t) _ => [t]
  | .call c => match c.callee with
    | .invoke _ _ => []
    | _ => tmpsOf c.args.toList
  | _ => []
def der (ops : List Oper) (d : Nat) : List Tmp :=
  ops.foldl (fun ds o => cond ((opT o).any ds.elem) (match o.dst with
    | some e => e :: ds
    | none => ds) ds) [d]
def fresh (ops : List Oper) (x y : Oper) : Bool :=
  isSt x && (aTs x).all fun d => (allocsOf ops).elem d && (aTs y).all fun u => !(der ops d).elem u
def stab (ops : List Oper) (t : Tmp) : Bool := ops.all fun o => !(o.dst == some t)
def apartT (t0 : List AV) (ops : List Oper) (x y : Oper) : Bool :=
  (aTs x).all fun t => (aTs y).all fun u => stab ops t && stab ops u && (match t0[t]?, t0[u]? with
    | some a, some b => (match a.to, b.to with
      | some d, some e => !(Nat.beq d e)
      | _, _ => true)
    | _, _ => false)
def memOk (t0 : List AV) (ops : List Oper) (x y : Oper) : Bool :=
  (!(isSt x && (isSt y || isLd y)) && !(isSt y && isLd x)) || fresh ops x y || fresh ops y x || apartT t0 ops x y
def indep (t0 : List AV) (ops : List Oper) (x y : Oper) : Bool := offs ops x y && offs ops y x && memOk t0 ops x y
def invOk (ops : List Oper) : Bool :=
  (allocsOf ops).all fun d => (der ops d).elem d && ops.all fun o => (match o.dst with
    | some e => (!((opT o).any (der ops d).elem) || (der ops d).elem e) && (!(Nat.beq e d) || (match alD o with
      | some a => Nat.beq a d
      | none => false))
    | none => true)
def depOn (o : Oper) (k : Nat) : Bool := o.after.toList.any fun e => Nat.beq e.on k && Region.binds .any e
def drawOk (t0 : List AV) (ops : List Oper) : Bool :=
  (List.range ops.length).all fun i => match ops[i]? with
    | some y => (y.after.toList.all fun e => !Region.binds .any e || Nat.blt e.on i) &&
      (List.range i).all fun k => match ops[k]? with
        | some x => depOn y k || indep t0 ops x y
        | none => true
    | none => true
def sep (P : Program) (x y : Oper) : Bool :=
  match nmD P x, nmD P y with
  | some d, some e => !(Nat.beq d e)
  | _, _ => true
def seps (P : Program) : List Oper → Bool
  | [] => true
  | o :: r => r.all (fun z => sep P z o) && seps P r
def drawn (t0 : List AV) (ops : List Oper) : Bool := invOk ops && (drawOk [] ops || drawOk t0 ops)
inductive Ex where
  | normal
  | ret
  | exit (id : Nat)
section
variable {R : Type}
@[reducible] def Lps (R : Type) := Code → St → (Ex → St → Option R) → Option R
def kcode (E : Env) (T : Orc R) (L : Lps R) : Code → St → (Ex → St → Option R) → Option R
  | .skip, s, K => K .normal s
  | .region _ ops d, s, K => cond (!d || drawn (s.kill (namesOf E.P ops.toList)).t ops.toList) (kops E T ops.toList ops.toList (s.kill (namesOf E.P ops.toList)) (K .normal)) none
  | .seq a b, s, K => kcode E T L a s fun e s' => match e with
    | .normal => kcode E T L b s' K
    | .ret => K .ret s'
    | .exit i => K (.exit i) s'
  | .cond c x y, s, K => match ev s.t c with
    | some (.v (.bool t)) => cond t (kcode E T L x s K) (kcode E T L y s K)
    | _ => none
  | .block id c, s, K => kcode E T L c s fun e s' => match e with
    | .normal => K .normal s'
    | .ret => K .ret s'
    | .exit i => cond (Nat.beq i id) (K .normal s') (K (.exit i) s')
  | .loop c, s, K => L c s K
  | .exit i, s, K => K (.exit i) s
  | .ret, s, K => K .ret s
  | _, _, _ => none
end
def resA (s : St) : AV → Option RA
  | .v x => some (.v x)
  | .l d ver _ => match lst s.b d ver with
    | some bx => match bx.ls with
      | some lb => cond (!bx.ro) (some (.l bx.ty lb)) none
      | none => none
    | none => none
  | _ => none
def resOf (P : Program) (s : St) : List ResultVar → Option (List RA)
  | [] => some []
  | .tmp t :: r => match (s.t[t]?).bind (resA s), resOf P s r with
    | some x, some l => some (x :: l)
    | _, _ => none
  | .cell a ty :: r => match s.t[a]?, resOf P s r with
    | some (.p d off), some l => match s.b[d]? with
      | some (some bx) => match bx.ls with
        | none => match rowAt P ty bx.cs off with
          | some x => some (.v x :: l)
          | none => none
        | some _ => none
      | _ => none
    | _, _ => none
end Go.Sx
