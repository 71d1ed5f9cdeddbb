/- ### Banks: a perfect tree of places, read and written by closures that the kernel keeps -/
import Derived.Calls
namespace Go.Ev
def U : Nat := 18446744073709551616
inductive Tr (α : Type) where
 | leaf
 | node (l : Tr α) (v : Option α) (r : Tr α)
noncomputable def Tr.get {α : Type} (t : Tr α) : List Bool -> Option α :=
 Tr.rec (motive := fun _ => List Bool -> Option α) (fun _ => none)
  (fun _ v _ gl gr p => List.rec (motive := fun _ => Option α) v (fun b q _ => Bool.rec (motive := fun _ => Option α) (gl q) (gr q) b) p) t
noncomputable def Tr.put {α : Type} (x : Option α) (p : List Bool) : Tr α -> Tr α :=
 List.rec (motive := fun _ => Tr α -> Tr α)
  (fun t => Tr.rec (motive := fun _ => Tr α) (.node .leaf x .leaf) (fun l _ r _ _ => .node l x r) t)
  (fun b _ ih t => Tr.rec (motive := fun _ => Tr α) (Bool.rec (motive := fun _ => Tr α) (.node (ih .leaf) none .leaf) (.node .leaf none (ih .leaf)) b)
   (fun l v r _ _ => Bool.rec (motive := fun _ => Tr α) (.node (ih l) v r) (.node l v (ih r)) b) t) p
noncomputable def bits (f : Nat) : Nat -> List Bool :=
 Nat.rec (motive := fun _ => Nat -> List Bool) (fun _ => [])
  (fun _ ih n => Bool.rec (motive := fun _ => List Bool) (Nat.beq (Nat.mod n 2) 1 :: ih (Nat.div n 2)) [] (Nat.beq n 0)) f
noncomputable def path (n : Nat) : List Bool := bits n n
structure B16 (α : Type) where
 mk :: (a0 a1 a2 a3 a4 a5 a6 a7 a8 a9 a10 a11 a12 a13 a14 a15 : α)
noncomputable def PT (α : Type) (k : Nat) : Type := Nat.rec (motive := fun _ => Type) α (fun _ t => B16 t) k
structure Fn1 (σ τ : Type) where
 f : σ -> τ
structure Fn2 (α σ : Type) where
 f : α -> σ -> σ
structure FnM (α : Type) where
 f : (α -> α) -> B16 α -> B16 α
noncomputable def full {α : Type} (d : α) (k : Nat) : PT α k := Nat.rec (motive := PT α) d (fun _ t => B16.mk t t t t t t t t t t t t t t t t) k
noncomputable def if16 {β : Type} (r : Nat) (x0 x1 x2 x3 x4 x5 x6 x7 x8 x9 x10 x11 x12 x13 x14 x15 : β) : β :=
 Bool.rec (motive := fun _ => β) (Bool.rec (motive := fun _ => β) (Bool.rec (motive := fun _ => β) (Bool.rec (motive := fun _ => β) (Bool.rec (motive := fun _ => β) (Bool.rec (motive := fun _ => β) (Bool.rec (motive := fun _ => β) (Bool.rec (motive := fun _ => β) (Bool.rec (motive := fun _ => β) (Bool.rec (motive := fun _ => β) (Bool.rec (motive := fun _ => β) (Bool.rec (motive := fun _ => β) (Bool.rec (motive := fun _ => β) (Bool.rec (motive := fun _ => β) (Bool.rec (motive := fun _ => β) (x15) x14 (Nat.beq r 14)) x13 (Nat.beq r 13)) x12 (Nat.beq r 12)) x11 (Nat.beq r 11)) x10 (Nat.beq r 10)) x9 (Nat.beq r 9)) x8 (Nat.beq r 8)) x7 (Nat.beq r 7)) x6 (Nat.beq r 6)) x5 (Nat.beq r 5)) x4 (Nat.beq r 4)) x3 (Nat.beq r 3)) x2 (Nat.beq r 2)) x1 (Nat.beq r 1)) x0 (Nat.beq r 0)
noncomputable def selG (α : Type) (r : Nat) : Fn1 (B16 α) α :=
 if16 r ⟨fun t => t.a0⟩ ⟨fun t => t.a1⟩ ⟨fun t => t.a2⟩ ⟨fun t => t.a3⟩ ⟨fun t => t.a4⟩ ⟨fun t => t.a5⟩ ⟨fun t => t.a6⟩ ⟨fun t => t.a7⟩ ⟨fun t => t.a8⟩ ⟨fun t => t.a9⟩ ⟨fun t => t.a10⟩ ⟨fun t => t.a11⟩ ⟨fun t => t.a12⟩ ⟨fun t => t.a13⟩ ⟨fun t => t.a14⟩ ⟨fun t => t.a15⟩
noncomputable def selM (α : Type) (r : Nat) : FnM α :=
 if16 r ⟨fun h t => B16.rec (motive := fun _ => B16 α) (fun a0 a1 a2 a3 a4 a5 a6 a7 a8 a9 a10 a11 a12 a13 a14 a15 => B16.mk (h a0) a1 a2 a3 a4 a5 a6 a7 a8 a9 a10 a11 a12 a13 a14 a15) t⟩
  ⟨fun h t => B16.rec (motive := fun _ => B16 α) (fun a0 a1 a2 a3 a4 a5 a6 a7 a8 a9 a10 a11 a12 a13 a14 a15 => B16.mk a0 (h a1) a2 a3 a4 a5 a6 a7 a8 a9 a10 a11 a12 a13 a14 a15) t⟩
  ⟨fun h t => B16.rec (motive := fun _ => B16 α) (fun a0 a1 a2 a3 a4 a5 a6 a7 a8 a9 a10 a11 a12 a13 a14 a15 => B16.mk a0 a1 (h a2) a3 a4 a5 a6 a7 a8 a9 a10 a11 a12 a13 a14 a15) t⟩
  ⟨fun h t => B16.rec (motive := fun _ => B16 α) (fun a0 a1 a2 a3 a4 a5 a6 a7 a8 a9 a10 a11 a12 a13 a14 a15 => B16.mk a0 a1 a2 (h a3) a4 a5 a6 a7 a8 a9 a10 a11 a12 a13 a14 a15) t⟩
  ⟨fun h t => B16.rec (motive := fun _ => B16 α) (fun a0 a1 a2 a3 a4 a5 a6 a7 a8 a9 a10 a11 a12 a13 a14 a15 => B16.mk a0 a1 a2 a3 (h a4) a5 a6 a7 a8 a9 a10 a11 a12 a13 a14 a15) t⟩
  ⟨fun h t => B16.rec (motive := fun _ => B16 α) (fun a0 a1 a2 a3 a4 a5 a6 a7 a8 a9 a10 a11 a12 a13 a14 a15 => B16.mk a0 a1 a2 a3 a4 (h a5) a6 a7 a8 a9 a10 a11 a12 a13 a14 a15) t⟩
  ⟨fun h t => B16.rec (motive := fun _ => B16 α) (fun a0 a1 a2 a3 a4 a5 a6 a7 a8 a9 a10 a11 a12 a13 a14 a15 => B16.mk a0 a1 a2 a3 a4 a5 (h a6) a7 a8 a9 a10 a11 a12 a13 a14 a15) t⟩
  ⟨fun h t => B16.rec (motive := fun _ => B16 α) (fun a0 a1 a2 a3 a4 a5 a6 a7 a8 a9 a10 a11 a12 a13 a14 a15 => B16.mk a0 a1 a2 a3 a4 a5 a6 (h a7) a8 a9 a10 a11 a12 a13 a14 a15) t⟩
  ⟨fun h t => B16.rec (motive := fun _ => B16 α) (fun a0 a1 a2 a3 a4 a5 a6 a7 a8 a9 a10 a11 a12 a13 a14 a15 => B16.mk a0 a1 a2 a3 a4 a5 a6 a7 (h a8) a9 a10 a11 a12 a13 a14 a15) t⟩
  ⟨fun h t => B16.rec (motive := fun _ => B16 α) (fun a0 a1 a2 a3 a4 a5 a6 a7 a8 a9 a10 a11 a12 a13 a14 a15 => B16.mk a0 a1 a2 a3 a4 a5 a6 a7 a8 (h a9) a10 a11 a12 a13 a14 a15) t⟩
  ⟨fun h t => B16.rec (motive := fun _ => B16 α) (fun a0 a1 a2 a3 a4 a5 a6 a7 a8 a9 a10 a11 a12 a13 a14 a15 => B16.mk a0 a1 a2 a3 a4 a5 a6 a7 a8 a9 (h a10) a11 a12 a13 a14 a15) t⟩
  ⟨fun h t => B16.rec (motive := fun _ => B16 α) (fun a0 a1 a2 a3 a4 a5 a6 a7 a8 a9 a10 a11 a12 a13 a14 a15 => B16.mk a0 a1 a2 a3 a4 a5 a6 a7 a8 a9 a10 (h a11) a12 a13 a14 a15) t⟩
  ⟨fun h t => B16.rec (motive := fun _ => B16 α) (fun a0 a1 a2 a3 a4 a5 a6 a7 a8 a9 a10 a11 a12 a13 a14 a15 => B16.mk a0 a1 a2 a3 a4 a5 a6 a7 a8 a9 a10 a11 (h a12) a13 a14 a15) t⟩
  ⟨fun h t => B16.rec (motive := fun _ => B16 α) (fun a0 a1 a2 a3 a4 a5 a6 a7 a8 a9 a10 a11 a12 a13 a14 a15 => B16.mk a0 a1 a2 a3 a4 a5 a6 a7 a8 a9 a10 a11 a12 (h a13) a14 a15) t⟩
  ⟨fun h t => B16.rec (motive := fun _ => B16 α) (fun a0 a1 a2 a3 a4 a5 a6 a7 a8 a9 a10 a11 a12 a13 a14 a15 => B16.mk a0 a1 a2 a3 a4 a5 a6 a7 a8 a9 a10 a11 a12 a13 (h a14) a15) t⟩
  ⟨fun h t => B16.rec (motive := fun _ => B16 α) (fun a0 a1 a2 a3 a4 a5 a6 a7 a8 a9 a10 a11 a12 a13 a14 a15 => B16.mk a0 a1 a2 a3 a4 a5 a6 a7 a8 a9 a10 a11 a12 a13 a14 (h a15)) t⟩
noncomputable def mkG (α : Type) (k : Nat) : Nat -> Fn1 (PT α k) α :=
 Nat.rec (motive := fun k => Nat -> Fn1 (PT α k) α) (fun _ => ⟨fun v => v⟩)
  (fun k ih n => ⟨fun t : B16 (PT α k) => (ih (Nat.div n 16)).f ((selG (PT α k) (Nat.mod n 16)).f t)⟩) k
noncomputable def mkP (α : Type) (k : Nat) : Nat -> Fn2 α (PT α k) :=
 Nat.rec (motive := fun k => Nat -> Fn2 α (PT α k)) (fun _ => ⟨fun v _ => v⟩)
  (fun k ih n => ⟨fun v (t : B16 (PT α k)) => (selM (PT α k) (Nat.mod n 16)).f ((ih (Nat.div n 16)).f v) t⟩) k
structure Bank (α : Type) (k : Nat) where
 lo : PT α k
 hi : Tr α
noncomputable def orD {α : Type} (d : α) (x : Option α) : α := Option.rec (motive := fun _ => α) d (fun v => v) x
noncomputable def getF {α : Type} (d : α) (k n : Nat) : Fn1 (Bank α k) α :=
 Bool.rec (motive := fun _ => Fn1 (Bank α k) α) ⟨fun b => orD d (b.hi.get (path n))⟩ ⟨fun b => (mkG α k n).f b.lo⟩ (Nat.ble (Nat.succ n) (Nat.pow 16 k))
noncomputable def putF (α : Type) (k n : Nat) : Fn2 α (Bank α k) :=
 Bool.rec (motive := fun _ => Fn2 α (Bank α k)) ⟨fun v b => ⟨b.lo, b.hi.put (some v) (path n)⟩⟩ ⟨fun v b => ⟨(mkP α k n).f v b.lo, b.hi⟩⟩ (Nat.ble (Nat.succ n) (Nat.pow 16 k))
noncomputable def bank {α : Type} (d : α) (k : Nat) : Bank α k := ⟨full d k, .leaf⟩
noncomputable def fN {β : Type} (n : Nat) (k : Nat -> β) : β := Nat.rec (motive := fun _ => β) (k 0) (fun m _ => k (Nat.succ m)) n
noncomputable def fI {β : Type} (n : Int) (k : Int -> β) : β := Int.rec (motive := fun _ => β) (fun m => fN m fun m => k (.ofNat m)) (fun m => fN m fun m => k (.negSucc m)) n
noncomputable def bnd {α β : Type} (x : Option α) (f : α -> Option β) : Option β := Option.rec (motive := fun _ => Option β) none f x
noncomputable def orO {α : Type} (a b : Option α) : Option α := Option.rec (motive := fun _ => Option α) b (fun x => some x) a
noncomputable def chk {β : Type} (b : Bool) (x : Option β) : Option β := Bool.rec (motive := fun _ => Option β) none x b
noncomputable def ifB {β : Type} (b : Bool) (x y : β) : β := Bool.rec (motive := fun _ => β) y x b
noncomputable def dropL {α : Type} (n : Nat) : List α -> List α :=
 Nat.rec (motive := fun _ => List α -> List α) (fun l => l) (fun _ ih l => List.rec (motive := fun _ => List α) [] (fun _ t _ => ih t) l) n
noncomputable def takeL {α : Type} (n : Nat) : List α -> List α :=
 Nat.rec (motive := fun _ => List α -> List α) (fun _ => []) (fun _ ih l => List.rec (motive := fun _ => List α) [] (fun a t _ => a :: ih t) l) n
noncomputable def appL {α : Type} (l m : List α) : List α := List.rec (motive := fun _ => List α) m (fun a _ ih => a :: ih) l
noncomputable def lenL {α : Type} (l : List α) : Nat := List.rec (motive := fun _ => Nat) 0 (fun _ _ ih => Nat.succ ih) l
noncomputable def nthL {α : Type} (n : Nat) : List α -> Option α :=
 Nat.rec (motive := fun _ => List α -> Option α) (fun l => List.rec (motive := fun _ => Option α) none (fun a _ _ => some a) l)
  (fun _ ih l => List.rec (motive := fun _ => Option α) none (fun _ t _ => ih t) l) n
noncomputable def mapL {α β : Type} (f : α -> β) (l : List α) : List β := List.rec (motive := fun _ => List β) [] (fun a _ ih => f a :: ih) l
noncomputable def takeN {α : Type} (n : Nat) : List α -> Option (List α) :=
 Nat.rec (motive := fun _ => List α -> Option (List α)) (fun _ => some [])
  (fun _ ih l => List.rec (motive := fun _ => Option (List α)) none (fun a t _ => bnd (ih t) fun r => some (a :: r)) l) n
noncomputable def repL {α : Type} (x : List α) (n : Nat) : List α := Nat.rec (motive := fun _ => List α) [] (fun _ ih => appL x ih) n
inductive Acc where
 | rw
 | fz
 | still
noncomputable def isRw (a : Acc) : Bool := Acc.rec (motive := fun _ => Bool) true false false a
noncomputable def isW (a : Acc) : Bool := Acc.rec (motive := fun _ => Bool) true true false a
inductive Blk where
 | cells (cs : List Value) (elem : TypeId) (ro : Acc)
 | map (es : List MapEntry) (clock : Nat)
 | iter (s : List UInt8) (pos : Nat)
 | box (v : Value)
 | mit (m : Option Nat) (since : Nat) (seen : List Nat) (last : Nat)
structure Heap where
 blks : Bank (Option Blk) 5
 next : Nat
abbrev Tm := Bank Value 2
abbrev Res := Option (Value × Heap)
abbrev Call := FuncId -> List Value -> Heap -> Res
noncomputable def Heap.get (H : Heap) (b : Nat) : Option Blk := (getF none 5 b).f H.blks
noncomputable def Heap.set (H : Heap) (b : Nat) (x : Blk) : Heap := ⟨(putF (Option Blk) 5 b).f (some x) H.blks, H.next⟩
noncomputable def Heap.del (H : Heap) (b : Nat) : Heap := ⟨(putF (Option Blk) 5 b).f none H.blks, H.next⟩
noncomputable def Heap.empty : Heap := ⟨bank none 5, 0⟩
structure Fun where
 body : Code
 ntmps : Nat
 results : List ResultVar
structure Env where
 und : TypeId -> Option TypeDesc
 info : TypeId -> Option TypeInfo
 func : FuncId -> Option Fun
 eqok : TypeId -> Bool
 spec : FuncId -> Option (List Value -> Heap -> Res)
 symBin : BinOp -> Value -> Value -> Option Value
 symConv : TypeDesc -> Value -> Option Value
 symStr : List Value -> Option Value
 symSlice : Value -> Option Value -> Option Value -> Option Value
 symLen : Nat -> Option Value
 symIndex : Value -> Value -> Option Value
 symUn : UnOp -> Value -> Option Value
 symKey : Value -> Value -> Option Bool := fun _ _ => none
abbrev Dyn := Env -> Call -> Nat -> Tm -> Heap -> Res
noncomputable def retO (v : Option Value) (H : Heap) : Res := bnd v fun v => some (v, H)
def plain : Value -> Bool
 | .bool _ | .int _ _ | .string _ | .pointer none | .slice none 0 0 | .map none | .nilFunc | .nilIface => true
 | _ => false
noncomputable def slot (tm : Tm) (t : Nat) : Value := (getF undef 2 t).f tm
noncomputable def evalS (x : Operand) : Fn1 Tm (Option Value) :=
 Operand.casesOn (motive := fun _ => Fn1 Tm (Option Value)) x (fun t => ⟨fun tm => some ((getF undef 2 t).f tm)⟩) (fun v => ⟨fun _ => chk (plain v) (some v)⟩) (fun _ => ⟨fun _ => none⟩) (fun f => ⟨fun _ => some (.func (.func f) #[] #[])⟩)
noncomputable def eval (tm : Tm) (x : Operand) : Option Value := (evalS x).f tm
noncomputable def evals (tm : Tm) (l : List Operand) : Option (List Value) :=
 List.rec (motive := fun _ => Option (List Value)) (some []) (fun x _ ih => bnd (eval tm x) fun v => bnd ih fun vs => some (v :: vs)) l
noncomputable def putS (dst : Option Tmp) : Fn2 Value Tm := Option.rec (motive := fun _ => Fn2 Value Tm) ⟨fun _ tm => tm⟩ (fun d => putF Value 2 d) dst
noncomputable def putT (tm : Tm) (dst : Option Tmp) (v : Value) : Tm := (putS dst).f v tm
def isAggD : TypeDesc -> Bool
 | .struct _ | .array _ _ => true
 | _ => false
noncomputable def Env.shape (env : Env) (t : TypeId) : Option (Bool × Nat) := bnd (env.info t) fun i => bnd (env.und t) fun d => some (isAggD d, i.size)
noncomputable def Env.size (env : Env) (t : TypeId) : Option Nat := bnd (env.info t) fun i => some i.size
noncomputable def Env.zero (env : Env) (t : TypeId) : Option Value := bnd (env.info t) fun i => i.zero
def asSlice : TypeDesc -> Option TypeId
 | .slice e => some e
 | _ => none
def asMap : TypeDesc -> Option (TypeId × TypeId)
 | .map k e => some (k, e)
 | _ => none
def asStruct : TypeDesc -> Option (List Field)
 | .struct fs => some fs.toList
 | _ => none
noncomputable def Env.slice (env : Env) (t : TypeId) : Option TypeId := bnd (env.und t) asSlice
noncomputable def Env.map (env : Env) (t : TypeId) : Option (TypeId × TypeId) := bnd (env.und t) asMap
noncomputable def Env.struct (env : Env) (t : TypeId) : Option (List Field) := bnd (env.und t) asStruct
noncomputable def addrOf (v : Value) : Option Addr := Value.rec (motive_1 := fun _ => Option Addr) (motive_2 := fun _ => PUnit) (motive_3 := fun _ => PUnit) (fun _ => none) (fun _ _ => none) (fun _ _ => none) (fun _ _ _ => none) (fun _ => none) (fun a => a) (fun _ _ _ => none) (fun _ => none) (fun _ => none) (fun _ _ _ _ _ => none) none (fun _ _ _ => none) none (fun _ _ => none) (fun _ _ => none) (fun _ _ => PUnit.unit) PUnit.unit (fun _ _ _ _ => PUnit.unit) v
noncomputable def intOf' (v : Value) : Option Int := Value.rec (motive_1 := fun _ => Option Int) (motive_2 := fun _ => PUnit) (motive_3 := fun _ => PUnit) (fun _ => none) (fun _ n => some n) (fun _ _ => none) (fun _ _ _ => none) (fun _ => none) (fun _ => none) (fun _ _ _ => none) (fun _ => none) (fun _ => none) (fun _ _ _ _ _ => none) none (fun _ _ _ => none) none (fun _ _ => none) (fun _ _ => none) (fun _ _ => PUnit.unit) PUnit.unit (fun _ _ _ _ => PUnit.unit) v
noncomputable def strOf (v : Value) : Option (List UInt8) := Value.rec (motive_1 := fun _ => Option (List UInt8)) (motive_2 := fun _ => PUnit) (motive_3 := fun _ => PUnit) (fun _ => none) (fun _ _ => none) (fun _ _ => none) (fun _ _ _ => none) (fun s => some s.data.toList) (fun _ => none) (fun _ _ _ => none) (fun _ => none) (fun _ => none) (fun _ _ _ _ _ => none) none (fun _ _ _ => none) none (fun _ _ => none) (fun _ _ => none) (fun _ _ => PUnit.unit) PUnit.unit (fun _ _ _ _ => PUnit.unit) v
noncomputable def boolOf (v : Value) : Option Bool := Value.rec (motive_1 := fun _ => Option Bool) (motive_2 := fun _ => PUnit) (motive_3 := fun _ => PUnit) (fun b => some b) (fun _ _ => none) (fun _ _ => none) (fun _ _ _ => none) (fun _ => none) (fun _ => none) (fun _ _ _ => none) (fun _ => none) (fun _ => none) (fun _ _ _ _ _ => none) none (fun _ _ _ => none) none (fun _ _ => none) (fun _ _ => none) (fun _ _ => PUnit.unit) PUnit.unit (fun _ _ _ _ => PUnit.unit) v
noncomputable def sliceParts (v : Value) : Option (Option Addr × Nat × Nat) := Value.rec (motive_1 := fun _ => Option (Option Addr × Nat × Nat)) (motive_2 := fun _ => PUnit) (motive_3 := fun _ => PUnit) (fun _ => none) (fun _ _ => none) (fun _ _ => none) (fun _ _ _ => none) (fun _ => none) (fun _ => none) (fun a n c => some (a, n, c)) (fun _ => none) (fun _ => none) (fun _ _ _ _ _ => none) none (fun _ _ _ => none) none (fun _ _ => none) (fun _ _ => none) (fun _ _ => PUnit.unit) PUnit.unit (fun _ _ _ _ => PUnit.unit) v
noncomputable def aggOf (v : Value) : Option (List Value) := Value.rec (motive_1 := fun _ => Option (List Value)) (motive_2 := fun _ => PUnit) (motive_3 := fun _ => PUnit) (fun _ => none) (fun _ _ => none) (fun _ _ => none) (fun _ _ _ => none) (fun _ => none) (fun _ => none) (fun _ _ _ => none) (fun _ => none) (fun _ => none) (fun _ _ _ _ _ => none) none (fun _ _ _ => none) none (fun cs _ => some cs.toList) (fun _ _ => none) (fun _ _ => PUnit.unit) PUnit.unit (fun _ _ _ _ => PUnit.unit) v
noncomputable def tupleOf (v : Value) : Option (List Value) := Value.rec (motive_1 := fun _ => Option (List Value)) (motive_2 := fun _ => PUnit) (motive_3 := fun _ => PUnit) (fun _ => none) (fun _ _ => none) (fun _ _ => none) (fun _ _ _ => none) (fun _ => none) (fun _ => none) (fun _ _ _ => none) (fun _ => none) (fun _ => none) (fun _ _ _ _ _ => none) none (fun _ _ _ => none) none (fun _ _ => none) (fun vs _ => some vs.toList) (fun _ _ => PUnit.unit) PUnit.unit (fun _ _ _ _ => PUnit.unit) v
noncomputable def ifaceOf (v : Value) : Option (TypeId × Value) := Value.rec (motive_1 := fun _ => Option (TypeId × Value)) (motive_2 := fun _ => PUnit) (motive_3 := fun _ => PUnit) (fun _ => none) (fun _ _ => none) (fun _ _ => none) (fun _ _ _ => none) (fun _ => none) (fun _ => none) (fun _ _ _ => none) (fun _ => none) (fun _ => none) (fun _ _ _ _ _ => none) none (fun t v _ => some (t, v)) none (fun _ _ => none) (fun _ _ => none) (fun _ _ => PUnit.unit) PUnit.unit (fun _ _ _ _ => PUnit.unit) v
noncomputable def mapRef (v : Value) : Option (Option Nat) := Value.rec (motive_1 := fun _ => Option (Option Nat)) (motive_2 := fun _ => PUnit) (motive_3 := fun _ => PUnit) (fun _ => none) (fun _ _ => none) (fun _ _ => none) (fun _ _ _ => none) (fun _ => none) (fun _ => none) (fun _ _ _ => none) (fun r => some r) (fun _ => none) (fun _ _ _ _ _ => none) none (fun _ _ _ => none) none (fun _ _ => none) (fun _ _ => none) (fun _ _ => PUnit.unit) PUnit.unit (fun _ _ _ _ => PUnit.unit) v
def isF64 (k : FloatKind) : Bool := match k with
 | .f64 => true
 | .f32 => false
noncomputable def cellsV (v : Value) : Option (List Value) := Value.rec (motive_1 := fun _ => Option (List Value)) (motive_2 := fun _ => PUnit) (motive_3 := fun _ => PUnit) (fun _ => some [v]) (fun _ _ => some [v]) (fun k _ => ifB (isF64 k) (some [v]) none) (fun _ _ _ => some [v]) (fun _ => some [v]) (fun _ => some [v]) (fun _ _ _ => some [v]) (fun _ => some [v]) (fun _ => some [v]) (fun _ _ _ _ _ => some [v]) (some [v]) (fun _ _ _ => some [v]) (some [v]) (fun cs _ => some cs.toList) (fun _ _ => none) (fun _ _ => PUnit.unit) PUnit.unit (fun _ _ _ _ => PUnit.unit) v
noncomputable def noSpot (a : Addr) : Bool := Option.rec (motive := fun _ => Bool) true (fun _ => false) a.spot
noncomputable def cellsOf (x : Blk) : Option (List Value × TypeId × Acc) := Blk.rec (motive := fun _ => Option (List Value × TypeId × Acc)) (fun cs e ro => some (cs, e, ro)) (fun _ _ => none) (fun _ _ => none) (fun _ => none) (fun _ _ _ _ => none) x
noncomputable def cellsAt (H : Heap) (a : Addr) (n : Nat) : Option (List Value) :=
 chk (noSpot a) (bnd (H.get a.block) fun b => bnd (cellsOf b) fun c => takeN n (dropL a.off c.1))
noncomputable def writeAt (vs : List Value) : Nat -> List Value -> Option (List Value) := fun i cs =>
 chk (Nat.ble (Nat.add i (lenL vs)) (lenL cs)) (some (appL (takeL i cs) (appL vs (dropL (Nat.add i (lenL vs)) cs))))
noncomputable def storeAt (H : Heap) (a : Addr) (vs : List Value) : Option Heap :=
 chk (noSpot a) (bnd (H.get a.block) fun b => bnd (cellsOf b) fun c => chk (isRw c.2.2) (bnd (writeAt vs a.off c.1) fun cs => some (H.set a.block (.cells cs c.2.1 .rw))))
noncomputable def oneL (cs : List Value) : Option Value :=
 List.rec (motive := fun _ => Option Value) none (fun v t _ => List.rec (motive := fun _ => Option Value) (some v) (fun _ _ _ => none) t) cs
noncomputable def toVal (agg : Bool) (cs : List Value) : Option Value := ifB agg (some (.agg ⟨cs⟩)) (oneL cs)
noncomputable def loadVar (env : Env) (H : Heap) (t : TypeId) (a : Addr) : Option Value :=
 bnd (env.shape t) fun s => bnd (cellsAt H a s.2) fun l => toVal s.1 l
noncomputable def mkPtr (id : Nat) : Value := .pointer (some ⟨id, 0, none⟩)
noncomputable def newCells (env : Env) (H : Heap) (id : Nat) (elem : TypeId) (v : Value) : Res :=
 bnd (env.info elem) fun _ => bnd (cellsV v) fun cs => fN id fun id => some (mkPtr id, H.set id (.cells cs elem .rw))
noncomputable def kn (k : IntKind) : Nat := IntKind.rec (motive := fun _ => Nat) 0 1 2 3 4 5 6 7 k
noncomputable def kbits (k : IntKind) : Nat := IntKind.rec (motive := fun _ => Nat) 8 16 32 64 8 16 32 64 k
noncomputable def ksigned (k : IntKind) : Bool := IntKind.rec (motive := fun _ => Bool) true true true true false false false false k
noncomputable def kmod (k : IntKind) : Nat := IntKind.rec (motive := fun _ => Nat) 256 65536 4294967296 18446744073709551616 256 65536 4294967296 18446744073709551616 k
noncomputable def khalf (k : IntKind) : Nat := IntKind.rec (motive := fun _ => Nat) 128 32768 2147483648 9223372036854775808 128 32768 2147483648 9223372036854775808 k
noncomputable def uns (k : IntKind) (x : Int) : Nat :=
 Int.rec (motive := fun _ => Nat) (fun m => Nat.mod m (kmod k)) (fun m => Nat.sub (Nat.sub (kmod k) 1) (Nat.mod m (kmod k))) x
noncomputable def ofUns (k : IntKind) (m : Nat) : Int :=
 ifB (ksigned k) (ifB (Nat.ble (khalf k) m) (Int.negSucc (Nat.sub (Nat.sub (kmod k) 1) m)) (.ofNat m)) (.ofNat m)
noncomputable def wrapF (k : IntKind) (x : Int) : Int := ofUns k (uns k x)
noncomputable def ltI (x y : Int) : Bool :=
 Int.rec (motive := fun _ => Bool) (fun a => Int.rec (motive := fun _ => Bool) (fun b => Nat.ble (Nat.succ a) b) (fun _ => false) y)
  (fun a => Int.rec (motive := fun _ => Bool) (fun _ => true) (fun b => Nat.ble (Nat.succ b) a) y) x
noncomputable def eqI (x y : Int) : Bool :=
 Int.rec (motive := fun _ => Bool) (fun a => Int.rec (motive := fun _ => Bool) (fun b => Nat.beq a b) (fun _ => false) y)
  (fun a => Int.rec (motive := fun _ => Bool) (fun _ => false) (fun b => Nat.beq a b) y) x
noncomputable def mkInt (k : IntKind) (n : Int) : Option Value := fI n fun n => some (.int k n)
noncomputable def wInt (k : IntKind) (n : Int) : Option Value := mkInt k (wrapF k n)
noncomputable def mkBool (b : Bool) : Option Value := Bool.rec (motive := fun _ => Option Value) (some (.bool false)) (some (.bool true)) b
noncomputable def iAdd (k : IntKind) (x y : Int) : Option Value := wInt k (Int.add x y)
noncomputable def iSub (k : IntKind) (x y : Int) : Option Value := wInt k (Int.sub x y)
noncomputable def iMul (k : IntKind) (x y : Int) : Option Value := wInt k (Int.mul x y)
noncomputable def iQuo (k : IntKind) (x y : Int) : Option Value := ifB (eqI y 0) none (wInt k (Int.tdiv x y))
noncomputable def iRem (k : IntKind) (x y : Int) : Option Value := ifB (eqI y 0) none (mkInt k (Int.tmod x y))
noncomputable def iAnd (k : IntKind) (x y : Int) : Option Value := mkInt k (ofUns k (Nat.land (uns k x) (uns k y)))
noncomputable def iOr (k : IntKind) (x y : Int) : Option Value := mkInt k (ofUns k (Nat.lor (uns k x) (uns k y)))
noncomputable def iXor (k : IntKind) (x y : Int) : Option Value := mkInt k (ofUns k (Nat.xor (uns k x) (uns k y)))
noncomputable def iEql (_ : IntKind) (x y : Int) : Option Value := mkBool (eqI x y)
noncomputable def iNeq (_ : IntKind) (x y : Int) : Option Value := mkBool (!(eqI x y))
noncomputable def iLss (_ : IntKind) (x y : Int) : Option Value := mkBool (ltI x y)
noncomputable def iLeq (_ : IntKind) (x y : Int) : Option Value := mkBool (!(ltI y x))
noncomputable def iGtr (_ : IntKind) (x y : Int) : Option Value := mkBool (ltI y x)
noncomputable def iGeq (_ : IntKind) (x y : Int) : Option Value := mkBool (!(ltI x y))
noncomputable def iNo (_ : IntKind) (_ _ : Int) : Option Value := none
noncomputable def iShl (k : IntKind) (x y : Int) : Option Value :=
 Int.rec (motive := fun _ => Option Value) (fun n => wInt k (Int.mul x (.ofNat (Nat.pow 2 (ifB (Nat.ble n (kbits k)) n (kbits k)))))) (fun _ => none) y
noncomputable def shrI (x : Int) (p : Nat) : Int := Int.rec (motive := fun _ => Int) (fun m => .ofNat (Nat.div m p)) (fun m => .negSucc (Nat.div m p)) x
noncomputable def iShr (k : IntKind) (x y : Int) : Option Value :=
 Int.rec (motive := fun _ => Option Value) (fun n => mkInt k (shrI x (Nat.pow 2 (ifB (Nat.ble n (kbits k)) n (kbits k))))) (fun _ => none) y
inductive Kop where
 | same (f : IntKind -> Int -> Int -> Option Value)
 | shift (f : IntKind -> Int -> Int -> Option Value)
noncomputable def intFn : BinOp -> Kop
 | .add => .same iAdd
 | .sub => .same iSub
 | .mul => .same iMul
 | .quo => .same iQuo
 | .rem => .same iRem
 | .and => .same iAnd
 | .or => .same iOr
 | .xor => .same iXor
 | .eql => .same iEql
 | .neq => .same iNeq
 | .lss => .same iLss
 | .leq => .same iLeq
 | .gtr => .same iGtr
 | .geq => .same iGeq
 | .shl => .shift iShl
 | .shr => .shift iShr
 | _ => .same iNo
noncomputable def intOp (op : BinOp) (k : IntKind) (x : Int) (k' : IntKind) (y : Int) : Option Value :=
 Kop.rec (motive := fun _ => Option Value) (fun f => chk (Nat.beq (kn k) (kn k')) (f k x y)) (fun f => f k x y) (intFn op)
noncomputable def same (x : List UInt8) : List UInt8 -> Bool :=
 List.rec (motive := fun _ => List UInt8 -> Bool) (fun y => List.rec (motive := fun _ => Bool) true (fun _ _ _ => false) y)
  (fun a _ ih y => List.rec (motive := fun _ => Bool) false (fun b t _ => ifB (Nat.beq a.toNat b.toNat) (ih t) false) y) x
noncomputable def less (x : List UInt8) : List UInt8 -> Bool :=
 List.rec (motive := fun _ => List UInt8 -> Bool) (fun y => List.rec (motive := fun _ => Bool) false (fun _ _ _ => true) y)
  (fun a _ ih y => List.rec (motive := fun _ => Bool) false (fun b t _ => ifB (Nat.beq a.toNat b.toNat) (ih t) (Nat.ble (Nat.succ a.toNat) b.toNat)) y) x
def str (l : List UInt8) : Value := .string ⟨⟨l⟩⟩
noncomputable def sAdd (x y : List UInt8) : Option Value := chk (Nat.ble (Nat.add (lenL x) (lenL y)) 1099511627776) (some (str (appL x y)))
noncomputable def sEql (x y : List UInt8) : Option Value := mkBool (same x y)
noncomputable def sNeq (x y : List UInt8) : Option Value := mkBool (!(same x y))
noncomputable def sLss (x y : List UInt8) : Option Value := mkBool (less x y)
noncomputable def sLeq (x y : List UInt8) : Option Value := mkBool (!(less y x))
noncomputable def sGtr (x y : List UInt8) : Option Value := mkBool (less y x)
noncomputable def sGeq (x y : List UInt8) : Option Value := mkBool (!(less x y))
noncomputable def sNo (_ _ : List UInt8) : Option Value := none
noncomputable def strFn : BinOp -> List UInt8 -> List UInt8 -> Option Value
 | .add => sAdd
 | .eql => sEql
 | .neq => sNeq
 | .lss => sLss
 | .leq => sLeq
 | .gtr => sGtr
 | .geq => sGeq
 | _ => sNo
noncomputable def partOf (env : Env) (xs : List Value) (t : TypeId) (off : Nat) : Option Value :=
 bnd (env.shape t) fun s => bnd (takeN s.2 (dropL off xs)) fun l => toVal s.1 l
noncomputable def fieldOf (env : Env) (xs : List Value) (f : Field) : Option Value := partOf env xs f.type f.offset
noncomputable def fieldsEq (env : Env) (eq : TypeId -> Value -> Value -> Option Bool) (xs ys : List Value) (l : List Field) : Option Bool :=
 List.rec (motive := fun _ => Option Bool) (some true) (fun f _ ih => chk (f.name != "_") (bnd (fieldOf env xs f) fun x => bnd (fieldOf env ys f) fun y =>
  bnd (eq f.type x y) fun b => ifB b ih (some false))) l
noncomputable def sameAd (a b : Addr) : Bool := Nat.beq a.block b.block && Nat.beq a.off b.off && noSpot a && noSpot b
noncomputable def eqOf (env : Env) (eq : TypeId -> Value -> Value -> Option Bool) (t : TypeId) (d : TypeDesc) (x y : Value) : Option Bool :=
 match d, x, y with
 | .bool, .bool a, .bool b => some (ifB a b (!b))
 | .int _, .int k a, .int k' b => chk (Nat.beq (kn k) (kn k')) (some (eqI a b))
 | .string, .string a, .string b => some (same a.data.toList b.data.toList)
 | .pointer _, .pointer none, .pointer b => some b.isNone
 | .pointer _, .pointer _, .pointer none => some false
 | .pointer e, .pointer (some a), .pointer (some b) => bnd (env.info e) fun _ => chk (sameAd a b) (some true)
 | .slice _, .slice none _ _, .slice b _ _ => some b.isNone
 | .slice _, .slice _ _ _, .slice none _ _ => some false
 | .map _ _, .map none, .map b => some b.isNone
 | .map _ _, .map _, .map none => some false
 | .interface _, .nilIface, .iface _ _ | .interface _, .iface _ _, .nilIface => some false
 | .func _ _ _, .nilFunc, .nilFunc => some true
 | .func _ _ _, .nilFunc, .func _ _ _ | .func _ _ _, .func _ _ _, .nilFunc => some false
 | .struct fields, .agg xs, .agg ys => chk (env.eqok t) (fieldsEq env eq xs.toList ys.toList fields.toList)
 | _, _, _ => none
noncomputable def equalIn (env : Env) (d : Nat) : TypeId -> Value -> Value -> Option Bool :=
 Nat.rec (motive := fun _ => TypeId -> Value -> Value -> Option Bool) (fun _ _ _ => none) (fun _ ih t x y => bnd (env.und t) fun d => eqOf env ih t d x y) d
noncomputable def vEql (env : Env) (t : TypeId) (x y : Value) : Option Value := bnd (equalIn env 20 t x y) mkBool
noncomputable def vNeq (env : Env) (t : TypeId) (x y : Value) : Option Value := bnd (equalIn env 20 t x y) fun b => mkBool (!b)
noncomputable def vNo (_ : Env) (_ : TypeId) (_ _ : Value) : Option Value := none
noncomputable def valFn : BinOp -> Env -> TypeId -> Value -> Value -> Option Value
 | .eql => vEql
 | .neq => vNeq
 | _ => vNo
inductive Pair where
 | ints (k : IntKind) (x : Int) (k' : IntKind) (y : Int)
 | strs (x y : List UInt8)
 | other
noncomputable def pairI (k : IntKind) (x : Int) (v : Value) : Pair := Value.rec (motive_1 := fun _ => Pair) (motive_2 := fun _ => PUnit) (motive_3 := fun _ => PUnit) (fun _ => .other) (fun k' y => .ints k x k' y) (fun _ _ => .other) (fun _ _ _ => .other) (fun _ => .other) (fun _ => .other) (fun _ _ _ => .other) (fun _ => .other) (fun _ => .other) (fun _ _ _ _ _ => .other) .other (fun _ _ _ => .other) .other (fun _ _ => .other) (fun _ _ => .other) (fun _ _ => PUnit.unit) PUnit.unit (fun _ _ _ _ => PUnit.unit) v
noncomputable def pairS' (s : ByteArray) (v : Value) : Pair := Value.rec (motive_1 := fun _ => Pair) (motive_2 := fun _ => PUnit) (motive_3 := fun _ => PUnit) (fun _ => .other) (fun _ _ => .other) (fun _ _ => .other) (fun _ _ _ => .other) (fun q => .strs s.data.toList q.data.toList) (fun _ => .other) (fun _ _ _ => .other) (fun _ => .other) (fun _ => .other) (fun _ _ _ _ _ => .other) .other (fun _ _ _ => .other) .other (fun _ _ => .other) (fun _ _ => .other) (fun _ _ => PUnit.unit) PUnit.unit (fun _ _ _ _ => PUnit.unit) v
noncomputable def pairOf (v w : Value) : Pair := Value.rec (motive_1 := fun _ => Pair) (motive_2 := fun _ => PUnit) (motive_3 := fun _ => PUnit) (fun _ => .other) (fun k x => pairI k x w) (fun _ _ => .other) (fun _ _ _ => .other) (fun s => pairS' s w) (fun _ => .other) (fun _ _ _ => .other) (fun _ => .other) (fun _ => .other) (fun _ _ _ _ _ => .other) .other (fun _ _ _ => .other) .other (fun _ _ => .other) (fun _ _ => .other) (fun _ _ => PUnit.unit) PUnit.unit (fun _ _ _ _ => PUnit.unit) v
noncomputable def binOp (env : Env) (op : BinOp) (t : TypeId) (x y : Value) : Option Value :=
 Pair.rec (motive := fun _ => Option Value) (intOp op) (strFn op) (orO (valFn op env t x y) (env.symBin op x y)) (pairOf x y)
noncomputable def unOpF (op : UnOp) (x : Value) : Option Value :=
 match op, x with
 | .xor, .int k n => mkInt k (ofUns k (Nat.sub (Nat.sub (kmod k) 1) (uns k n)))
 | .neg, .int k n => wInt k (Int.sub 0 n)
 | .not, .bool true => some (.bool false)
 | .not, .bool false => some (.bool true)
 | _, _ => none
noncomputable def byteOf (v : Value) : Option UInt8 := Value.rec (motive_1 := fun _ => Option UInt8) (motive_2 := fun _ => PUnit) (motive_3 := fun _ => PUnit) (fun _ => none) (fun k n => chk (Nat.beq (kn k) 4) (some (UInt8.ofNat n.toNat))) (fun _ _ => none) (fun _ _ _ => none) (fun _ => none) (fun _ => none) (fun _ _ _ => none) (fun _ => none) (fun _ => none) (fun _ _ _ _ _ => none) none (fun _ _ _ => none) none (fun _ _ => none) (fun _ _ => none) (fun _ _ => PUnit.unit) PUnit.unit (fun _ _ _ _ => PUnit.unit) v
noncomputable def asBytes (l : List Value) : Option (List UInt8) :=
 List.rec (motive := fun _ => Option (List UInt8)) (some []) (fun v _ ih => bnd (byteOf v) fun b => bnd ih fun bs => some (b :: bs)) l
def byteVal (b : UInt8) : Value := .int .u8 b.toNat
def isU8 : TypeDesc -> Bool
 | .int .u8 => true
 | _ => false
noncomputable def toBytes (env : Env) (H : Heap) (id : Nat) (e : TypeId) (s : List UInt8) : Res :=
 bnd (env.und e) fun d => bnd (env.info e) fun i => chk (isU8 d && Nat.beq i.size 1) (fN id fun id => fN (lenL s) fun n => some (.slice (some ⟨id, 0, none⟩) n U, H.set id (.cells (mapL byteVal s) e .rw)))
noncomputable def ofBytes (env : Env) (H : Heap) (e : TypeId) (a : Option Addr) (n : Nat) : Res :=
 bnd (env.und e) fun d => chk (isU8 d) (Option.rec (motive := fun _ => Res) (some (str [], H)) (fun a => bnd (cellsAt H a n) fun l => bnd (asBytes l) fun l => some (str l, H)) a)
def asPtr : TypeDesc -> Option TypeId
 | .pointer e => some e
 | _ => none
def isUns : TypeDesc -> Bool
 | .unsafePointer => true
 | _ => false
noncomputable def toUns (env : Env) (H : Heap) (t : TypeId) (p : Option Addr) : Res :=
 Option.rec (motive := fun _ => Res) none (fun a => bnd (env.size t) fun n => chk (!(Nat.beq n 0) && noSpot a) (bnd (H.get a.block) fun b => bnd (cellsOf b) fun c =>
  chk (Nat.ble (Nat.succ a.off) (lenL c.1)) (some (.pointer (some a), H)))) p
noncomputable def fromUns (env : Env) (H : Heap) (u : TypeId) (p : Option Addr) : Res :=
 Option.rec (motive := fun _ => Res) none (fun a => bnd (env.size u) fun n => chk (!(Nat.beq n 0) && noSpot a && Nat.beq (Nat.mod a.off n) 0) (bnd (H.get a.block) fun b => bnd (cellsOf b) fun c =>
  chk (Nat.beq c.2.1 u && Nat.ble (Nat.add a.off n) (lenL c.1)) (some (.pointer (some a), H)))) p
noncomputable def convTo (env : Env) (H : Heap) (id : Nat) (sd dd : TypeDesc) (x : Value) : Res :=
 match dd, x with
 | .int k, .int _ n => retO (wInt k n) H
 | .string, .string s => some (.string s, H)
 | .string, .int _ n => some (.string (Utf8.encode n), H)
 | .slice e, .string s => toBytes env H id e s.data.toList
 | .string, .slice a n _ => bnd (asSlice sd) fun e => ofBytes env H e a n
 | .unsafePointer, .pointer p => bnd (asPtr sd) fun t => toUns env H t p
 | .pointer u, .pointer p => chk (isUns sd) (fromUns env H u p)
 | _, _ => none
noncomputable def convSym (env : Env) (H : Heap) (sd dd : TypeDesc) (x : Value) : Res :=
 match dd, x with
 | .int k, .float f i => retO (env.symConv (.int k) (.float f i)) H
 | .string, .float f i => retO (env.symConv .string (.float f i)) H
 | .string, .slice (some a) n _ => bnd (asSlice sd) fun e => bnd (env.und e) fun d => chk (isU8 d) (bnd (cellsAt H a n) fun l => retO (env.symStr l) H)
 | _, _ => none
noncomputable def convert (env : Env) (H : Heap) (id : Nat) (src dst : TypeId) (x : Value) : Res :=
 bnd (env.und src) fun sd => bnd (env.und dst) fun dd => orO (convTo env H id sd dd x) (convSym env H sd dd x)
noncomputable def inB (i : Int) (most : Nat) : Option Nat := Int.rec (motive := fun _ => Option Nat) (fun n => chk (Nat.ble n most) (some n)) (fun _ => none) i
noncomputable def bound (x : Option Value) (most dflt : Nat) : Option Nat :=
 Option.rec (motive := fun _ => Option Nat) (some dflt) (fun v => bnd (intOf' v) fun i => inB i most) x
noncomputable def inR (i : Int) (n : Nat) : Option Nat := Int.rec (motive := fun _ => Option Nat) (fun j => chk (Nat.ble (Nat.succ j) n) (some j)) (fun _ => none) i
noncomputable def moveBy (a : Addr) (n : Nat) : Addr := ifB (Nat.beq n 0) a ⟨a.block, Nat.add a.off n, none⟩
noncomputable def optVal (tm : Tm) (x : Option Operand) : Option (Option Value) :=
 Option.rec (motive := fun _ => Option (Option Value)) (some none) (fun x => bnd (eval tm x) fun v => some (some v)) x
noncomputable def isU (n : Nat) : Bool := Nat.beq n U
noncomputable def mkSlice (a : Option Addr) (n c : Nat) : Option Value := fN n fun n => fN c fun c => some (.slice a n c)
noncomputable def sliceStr (s : List UInt8) (lo hi : Option Value) : Option Value :=
 bnd (bound hi (lenL s) (lenL s)) fun h => bnd (bound lo h 0) fun l => some (str (dropL l (takeL h s)))
noncomputable def isN {α : Type} (x : Option α) : Bool := Option.rec (motive := fun _ => Bool) true (fun _ => false) x
noncomputable def elemAt (H : Heap) (b : Nat) : Option TypeId := bnd (H.get b) fun x => bnd (cellsOf x) fun c => some c.2.1
noncomputable def mostU (H : Heap) (a : Addr) (k : Nat) : Option Nat := bnd (H.get a.block) fun x => bnd (cellsOf x) fun c => some (Nat.div (Nat.sub (lenL c.1) a.off) k)
noncomputable def sliceU (env : Env) (H : Heap) (size : Nat) (a : Addr) (len : Nat) (lo hi : Option Value) : Option Value :=
 bnd (elemAt H a.block) fun e => bnd (env.size e) fun k => chk (Nat.beq k size)
  (bnd (orO (bnd (mostU H a k) fun m => chk (!(isN hi)) (bound hi m len)) (bound hi len len)) fun h => bnd (bound lo h 0) fun l => mkSlice (some (moveBy a (Nat.mul l size))) (Nat.sub h l) U)
noncomputable def sliceE (size : Nat) (a : Option Addr) (len room : Nat) (lo hi mx : Option Value) : Option Value :=
 chk (isN mx || !(isN hi)) (bnd (bound mx room room) fun m => chk (Nat.ble m 4611686018427387904) (bnd (bound hi m len) fun h => bnd (bound lo h 0) fun l =>
  mkSlice (ifB (Nat.beq m l) a (bnd a fun a => some (moveBy a (Nat.mul l size)))) (Nat.sub h l) (Nat.sub m l)))
noncomputable def sliceVal (env : Env) (H : Heap) (size : Nat) (a : Option Addr) (len cap : Nat) (lo hi mx : Option Value) : Option Value :=
 ifB (isU cap && isN mx) (bnd a fun a => sliceU env H size a len lo hi) (chk (!(isU cap) || Nat.ble 1 len) (sliceE size a len (ifB (isU cap) len cap) lo hi mx))
noncomputable def sliceArr (size n : Nat) (a : Addr) (lo hi mx : Option Value) : Option Value := sliceE size (some a) n n lo hi mx
noncomputable def sliceOf (env : Env) (H : Heap) (d : TypeDesc) (x : Value) (lo hi mx : Option Value) : Option Value :=
 match d, x with
 | .string, .string s => chk (isN mx) (orO (sliceStr s.data.toList lo hi) (env.symSlice (.string s) lo hi))
 | .string, .float f i => chk (isN mx) (env.symSlice (.float f i) lo hi)
 | .slice e, .slice a len cap => bnd (env.size e) fun size => sliceVal env H size a len cap lo hi mx
 | .array n e, .pointer (some a) => bnd (env.size e) fun size => sliceArr size n a lo hi mx
 | _, _ => none
noncomputable def source (H : Heap) (size : Nat) (x : Value) : Option (Nat × List Value) :=
 match x with
 | .slice none _ _ => some (0, [])
 | .slice (some a) n _ => bnd (cellsAt H a (Nat.mul n size)) fun l => some (n, l)
 | .string s => chk (Nat.beq size 1) (some (lenL s.data.toList, mapL byteVal s.data.toList))
 | _ => none
noncomputable def newSlice (H : Heap) (id : Nat) (n c : Nat) (elem : TypeId) (cs : List Value) : Res :=
 fN id fun id => fN n fun n => fN c fun c => some (.slice (some ⟨id, 0, none⟩) n c, H.set id (.cells cs elem .rw))
noncomputable def appendU (H : Heap) (id : Nat) (elem : TypeId) (size : Nat) (a : Addr) (len n : Nat) (new : List Value) : Res :=
 chk (noSpot a) (bnd (H.get a.block) fun b => bnd (cellsOf b) fun c => chk (isRw c.2.2 && Nat.beq elem c.2.1)
  (ifB (Nat.beq (Nat.add a.off (Nat.mul len size)) (lenL c.1))
   (chk (Nat.beq (Nat.mod a.off size) 0) (newSlice (H.del a.block) id (Nat.add len n) U elem (appL (dropL a.off c.1) new)))
   (bnd (writeAt new (Nat.add a.off (Nat.mul len size)) c.1) fun cs => bnd (mkSlice (some a) (Nat.add len n) U) fun v => some (v, H.set a.block (.cells cs c.2.1 .rw)))))
noncomputable def appendTo (H : Heap) (id : Nat) (elem : TypeId) (size : Nat) (a : Addr) (len cap n : Nat) (new : List Value) : Res :=
 ifB (isU cap) (appendU H id elem size a len n new)
  (ifB (Nat.ble (Nat.add len n) cap)
   (bnd (storeAt H (moveBy a (Nat.mul len size)) new) fun H => bnd (mkSlice (some a) (Nat.add len n) cap) fun v => some (v, H))
   (bnd (cellsAt H a (Nat.mul len size)) fun old => newSlice H id (Nat.add len n) U elem (appL old new)))
noncomputable def appendOf (env : Env) (H : Heap) (id : Nat) (elem : TypeId) (base : Option Addr) (len cap : Nat) (x : Value) : Res :=
 bnd (env.info elem) fun i => bnd i.zero fun z => bnd (cellsV z) fun _ => bnd (source H i.size x) fun s =>
  ifB (Nat.beq s.1 0) (some (.slice base len cap, H))
   (chk (!(Nat.beq i.size 0) && Nat.ble (Nat.mul (Nat.add len s.1) (Nat.succ i.bytes)) 1099511627776)
    (Option.rec (motive := fun _ => Res) (newSlice H id s.1 U elem s.2) (fun a => appendTo H id elem i.size a len cap s.1 s.2) base))
def notInt : Value -> Bool
 | .int _ _ => false
 | _ => true
def isInt : TypeDesc -> Bool
 | .int _ => true
 | _ => false
noncomputable def append (env : Env) (H : Heap) (id : Nat) (sType xType : TypeId) (s x : Value) : Res :=
 bnd (env.und xType) fun d => chk (!(isInt d)) (bnd (env.slice sType) fun elem => bnd (sliceParts s) fun p => appendOf env H id elem p.1 p.2.1 p.2.2 x)
noncomputable def minN (a b : Nat) : Nat := ifB (Nat.ble a b) a b
noncomputable def copyTo (H : Heap) (base : Option Addr) (m : Nat) (cs : List Value) : Res :=
 bnd (mkInt .i64 (.ofNat m)) fun v => Option.rec (motive := fun _ => Res) (some (v, H)) (fun a => bnd (storeAt H a cs) fun H => some (v, H)) base
noncomputable def copyOp (env : Env) (H : Heap) (dType : TypeId) (dst src : Value) : Res :=
 bnd (env.slice dType) fun elem => bnd (sliceParts dst) fun p => bnd (env.size elem) fun size => bnd (source H size src) fun s =>
  copyTo H p.1 (minN s.1 p.2.1) (takeL (Nat.mul (minN s.1 p.2.1) size) s.2)
noncomputable def keySameF (sk : Value -> Value -> Option Bool) (kind : TypeDesc) (a b : Value) : Option Bool :=
 match kind, a, b with
 | .int _, .int k x, .int k' y => chk (Nat.beq (kn k) (kn k')) (some (eqI x y))
 | .string, .string x, .string y => some (same x.data.toList y.data.toList)
 | .bool, .bool x, .bool y => some (ifB x y (!y))
 | .string, a, b => sk a b
 | _, _, _ => none
noncomputable def findKey (sk : Value -> Value -> Option Bool) (kind : TypeDesc) (k : Value) (es : List MapEntry) : Nat -> Option (Option (Nat × MapEntry)) :=
 List.rec (motive := fun _ => Nat -> Option (Option (Nat × MapEntry))) (fun _ => some none)
  (fun e _ ih i => bnd (keySameF sk kind k e.key) fun b => ifB b (some (some (i, e))) (ih (Nat.succ i))) es
def isKey : TypeDesc -> Bool
 | .int _ => true
 | .string => true
 | .bool => true
 | _ => false
noncomputable def Env.key (env : Env) (t : TypeId) : Option TypeDesc := bnd (env.und t) fun d => chk (isKey d) (some d)
def mapOf : Blk -> Option (List MapEntry × Nat)
 | .map es c => some (es, c)
 | _ => none
noncomputable def mapAt (H : Heap) (r : Nat) : Option (List MapEntry × Nat) := bnd (H.get r) mapOf
noncomputable def mapView (H : Heap) (m : Value) : Option (List MapEntry × Nat) :=
 bnd (mapRef m) fun r => Option.rec (motive := fun _ => Option (List MapEntry × Nat)) (some ([], 0)) (fun r => mapAt H r) r
noncomputable def withOk (ok : Bool) (v : Value) (b : Bool) : Value := ifB ok (.tuple #[v, .bool b]) v
noncomputable def lookup (env : Env) (H : Heap) (t : TypeId) (m k : Value) (ok : Bool) : Option Value :=
 bnd (env.map t) fun p => bnd (env.key p.1) fun kind => bnd (mapView H m) fun es => bnd (findKey env.symKey kind k es.1 0) fun f =>
  Option.rec (motive := fun _ => Option Value) (bnd (env.zero p.2) fun z => some (withOk ok z false)) (fun f => some (withOk ok f.2.val true)) f
noncomputable def setVal (v : Value) (es : List MapEntry) : Nat -> List MapEntry :=
 List.rec (motive := fun _ => Nat -> List MapEntry) (fun _ => [])
  (fun e t ih i => Nat.rec (motive := fun _ => List MapEntry) (⟨e.key, v, e.born⟩ :: t) (fun j _ => e :: ih j) i) es
noncomputable def mapUpdate (env : Env) (H : Heap) (t : TypeId) (m k v : Value) : Option Heap :=
 bnd (env.map t) fun p => bnd (env.key p.1) fun kind => bnd (mapRef m) fun r => bnd r fun r => bnd (mapAt H r) fun es => bnd (findKey env.symKey kind k es.1 0) fun f =>
  Option.rec (motive := fun _ => Option Heap) (some (H.set r (.map (appL es.1 [⟨k, v, es.2⟩]) (Nat.succ es.2)))) (fun f => some (H.set r (.map (setVal v es.1 f.1) es.2))) f
noncomputable def mapEntry (env : Env) (H : Heap) (t : TypeId) (m k : Value) : Res :=
 bnd (env.map t) fun p => bnd (env.key p.1) fun kind => bnd (mapRef m) fun r => bnd r fun r => bnd (mapAt H r) fun es => bnd (findKey env.symKey kind k es.1 0) fun f =>
  Option.rec (motive := fun _ => Res) (bnd (env.zero p.2) fun z => some (.tuple #[z, goInt es.2], H.set r (.map (appL es.1 [⟨k, z, es.2⟩]) (Nat.succ es.2))))
   (fun f => some (.tuple #[f.2.val, goInt f.2.born], H)) f
noncomputable def setBorn (v : Value) (b : Int) (es : List MapEntry) : Option (List MapEntry) :=
 List.rec (motive := fun _ => Option (List MapEntry)) none (fun e t ih => ifB (eqI (.ofNat e.born) b) (some (⟨e.key, v, e.born⟩ :: t)) (bnd ih fun l => some (e :: l))) es
noncomputable def entryStore (H : Heap) (m stamp v : Value) : Option Heap :=
 bnd (mapRef m) fun r => bnd r fun r => bnd (intOf' stamp) fun b => bnd (mapAt H r) fun es => bnd (setBorn v b es.1) fun l => some (H.set r (.map l es.2))
noncomputable def eraseL {α : Type} (l : List α) : Nat -> List α :=
 List.rec (motive := fun _ => Nat -> List α) (fun _ => []) (fun a t ih i => Nat.rec (motive := fun _ => List α) t (fun j _ => a :: ih j) i) l
noncomputable def mapDelete (env : Env) (H : Heap) (t : TypeId) (m k : Value) : Option Heap :=
 bnd (env.map t) fun p => bnd (env.key p.1) fun kind => bnd (mapRef m) fun r =>
  Option.rec (motive := fun _ => Option Heap) (some H) (fun r => bnd (mapAt H r) fun es => bnd (findKey env.symKey kind k es.1 0) fun f =>
   Option.rec (motive := fun _ => Option Heap) (some H) (fun f => some (H.set r (.map (eraseL es.1 f.1) es.2))) f) r
noncomputable def lenOf (env : Env) (H : Heap) (d : TypeDesc) (x : Value) : Option Value :=
 match d, x with
 | .string, .string s => mkInt .i64 (.ofNat (lenL s.data.toList))
 | .string, .float .f64 i => env.symLen i
 | .array n _, _ => some (goInt n)
 | .slice _, .slice _ n _ => mkInt .i64 (.ofNat n)
 | .map _ _, m => bnd (mapView H m) fun es => mkInt .i64 (.ofNat (lenL es.1))
 | _, _ => none
noncomputable def minMaxFrom (isMax : Bool) (k : IntKind) (l : List Value) : Int -> Option Value :=
 List.rec (motive := fun _ => Int -> Option Value) (fun x => some (.int k x))
  (fun v _ ih x => bnd (intOf' v) fun y => ih (ifB isMax (ifB (ltI x y) y x) (ifB (ltI y x) y x))) l
def headInt : List Value -> Option (IntKind × Int × List Value)
 | .int k x :: l => some (k, x, l)
 | _ => none
noncomputable def minMax (isMax : Bool) (l : List Value) : Option Value := bnd (headInt l) fun h => minMaxFrom isMax h.1 h.2.2 h.2.1
abbrev Bfn := Env -> Heap -> Nat -> List TypeId -> List Value -> Res
def one : List Value -> Option Value
 | [x] => some x
 | _ => none
def two : List Value -> Option (Value × Value)
 | [x, y] => some (x, y)
 | _ => none
def headT : List TypeId -> Option TypeId
 | t :: _ => some t
 | _ => none
def twoT : List TypeId -> Option (TypeId × TypeId)
 | [x, y] => some (x, y)
 | _ => none
noncomputable def bAppend : Bfn := fun env H id ts args => bnd (twoT ts) fun t => bnd (two args) fun p => append env H id t.1 t.2 p.1 p.2
noncomputable def bCopy : Bfn := fun env H _ ts args => bnd (twoT ts) fun t => bnd (two args) fun p => copyOp env H t.1 p.1 p.2
noncomputable def bLen : Bfn := fun env H _ ts args => bnd (headT ts) fun t => bnd (env.und t) fun d => bnd (one args) fun x => retO (lenOf env H d x) H
noncomputable def bCap : Bfn := fun env H _ ts args => bnd (headT ts) fun t => bnd (env.slice t) fun _ => bnd (one args) fun x => bnd (sliceParts x) fun p => chk (!(isU p.2.2)) (some (goInt p.2.2, H))
noncomputable def bDelete : Bfn := fun env H _ ts args => bnd (headT ts) fun t => bnd (two args) fun p => bnd (mapDelete env H t p.1 p.2) fun H => some (noResult, H)
noncomputable def bMin : Bfn := fun _ H _ _ args => retO (minMax false args) H
noncomputable def bMax : Bfn := fun _ H _ _ args => retO (minMax true args) H
noncomputable def clearOf (env : Env) (H : Heap) (d : TypeDesc) (x : Value) : Res :=
 match d, x with
 | .slice _, .slice none _ _ => some (noResult, H)
 | .slice e, .slice (some a) n _ => bnd (env.zero e) fun z => bnd (cellsV z) fun zs => bnd (storeAt H a (repL zs n)) fun H => some (noResult, H)
 | .map _ _, .map (some r) => bnd (mapAt H r) fun es => some (noResult, H.set r (.map [] es.2))
 | _, _ => none
noncomputable def bClear : Bfn := fun env H _ ts args => bnd (headT ts) fun t => bnd (env.und t) fun d => bnd (one args) fun x => clearOf env H d x
noncomputable def bNo : Bfn := fun _ _ _ _ _ => none
noncomputable def dataOf (H : Heap) (x : Value) : Res :=
 match x with
 | .slice none _ _ => some (.pointer none, H)
 | .slice (some a) n c => chk (ifB (isU c) (!(Nat.beq n 0)) (!(Nat.beq c 0))) (some (.pointer (some a), H))
 | _ => none
noncomputable def bSliceData : Bfn := fun _ H _ _ args => bnd (one args) fun x => dataOf H x
def asPtrV : Value -> Option (Option Addr)
 | .pointer a => some a
 | _ => none
noncomputable def sealAt (env : Env) (H : Heap) (t : TypeId) (k : Nat) (a : Addr) : Res :=
 bnd (env.und t) fun d => bnd (asPtr d) fun e => bnd (env.size e) fun s => bnd (H.get a.block) fun b => bnd (cellsOf b) fun c =>
  chk (Nat.beq s 1 && Nat.beq c.2.1 e && isW c.2.2 && noSpot a && Nat.ble k 9223372036854775807) (bnd (takeN k (dropL a.off c.1)) fun l => bnd (asBytes l) fun l => some (str l, H.set a.block (.cells c.1 c.2.1 .fz)))
noncomputable def stringAt (env : Env) (H : Heap) (t : TypeId) (k : Nat) (p : Option Addr) : Res :=
 Nat.rec (motive := fun _ => Res) (some (str [], H)) (fun m _ => Option.rec (motive := fun _ => Res) none (fun a => sealAt env H t (Nat.succ m) a) p) k
noncomputable def bString : Bfn := fun env H _ ts args => bnd (twoT ts) fun t => bnd (two args) fun p => bnd (asPtrV p.1) fun q => bnd (intOf' p.2) fun n =>
 Int.rec (motive := fun _ => Res) (fun k => stringAt env H t.1 k q) (fun _ => none) n
noncomputable def builtinFn : Builtin -> Bfn
 | .append => bAppend
 | .copy => bCopy
 | .len => bLen
 | .cap => bCap
 | .delete => bDelete
 | .min => bMin
 | .max => bMax
 | .clear => bClear
 | .unsafeSliceData => bSliceData
 | .unsafeString => bString
 | _ => bNo
noncomputable def fillAt (place : Nat -> Option (Nat × Nat)) (l : List (Nat × Value)) : List Value -> Option (List Value) :=
 List.rec (motive := fun _ => List Value -> Option (List Value)) (fun cs => some cs)
  (fun p _ ih cs => bnd (place p.1) fun q => bnd (cellsV p.2) fun vs => chk (Nat.beq (lenL vs) q.2) (bnd (writeAt vs q.1 cs) ih)) l
noncomputable def evalParts (tm : Tm) (l : List (Nat × Operand)) : Option (List (Nat × Value)) :=
 List.rec (motive := fun _ => Option (List (Nat × Value))) (some []) (fun p _ ih => bnd (eval tm p.2) fun v => bnd ih fun vs => some ((p.1, v) :: vs)) l
noncomputable def fieldPlace (env : Env) (fs : List Field) (i : Nat) : Option (Nat × Nat) := bnd (nthL i fs) fun f => bnd (env.size f.type) fun n => some (f.offset, n)
noncomputable def placesOf (env : Env) (fs : List Field) : Option (List (Nat × Nat)) :=
 List.rec (motive := fun _ => Option (List (Nat × Nat))) (some []) (fun f _ ih => bnd (env.size f.type) fun n => bnd ih fun l => some ((f.offset, n) :: l)) fs
noncomputable def elemPlace (size : Nat) (i : Nat) : Option (Nat × Nat) := some (Nat.mul i size, size)
noncomputable def placeOf (env : Env) (d : TypeDesc) : Option (Nat -> Option (Nat × Nat)) :=
 match d with
 | .struct fields => bnd (placesOf env fields.toList) fun l => some (fun i => nthL i l)
 | .array _ elem => bnd (env.size elem) fun size => some (elemPlace size)
 | _ => none
noncomputable def build (env : Env) (t : TypeId) (parts : List (Nat × Value)) : Option Value :=
 bnd (env.zero t) fun z => bnd (cellsV z) fun zs => bnd (env.und t) fun d => bnd (placeOf env d) fun p => bnd (fillAt p parts zs) fun l => some (.agg ⟨l⟩)
noncomputable def buildSlice (env : Env) (H : Heap) (id : Nat) (t : TypeId) (len : Nat) (parts : List (Nat × Value)) : Res :=
 bnd (env.slice t) fun elem => bnd (env.info elem) fun i => bnd i.zero fun z => bnd (cellsV z) fun zs => chk (Nat.ble (Nat.mul len (Nat.succ i.size)) 1048576)
  (bnd (fillAt (elemPlace i.size) parts (repL zs len)) fun cs => newSlice H id len len elem cs)
def i64Of : Value -> Option Nat
 | .int .i64 (.ofNat n) => some n
 | _ => none
noncomputable def makeSlice (env : Env) (H : Heap) (id : Nat) (t : TypeId) (len cap : Value) : Res :=
 bnd (env.slice t) fun elem => bnd (env.info elem) fun i => bnd i.zero fun z => bnd (i64Of len) fun l => bnd (i64Of cap) fun c =>
  chk (Nat.ble l c && Nat.ble (Nat.mul c (Nat.succ i.bytes)) 1099511627776) (bnd (cellsV z) fun zs => newSlice H id l c elem (repL zs c))
noncomputable def indexOf (env : Env) (d : TypeDesc) (x : Value) (i : Value) : Option Value :=
 match d, x with
 | .array len elem, .agg cs => bnd (intOf' i) fun i => bnd (env.size elem) fun n => bnd (inR i len) fun i => partOf env cs.toList elem (Nat.mul i n)
 | .string, .string s => bnd (intOf' i) fun i => bnd (inR i (lenL s.data.toList)) fun i => bnd (nthL i s.data.toList) fun b => fN b.toNat fun n => some (.int .u8 (.ofNat n))
 | .string, .float f n => env.symIndex (.float f n) i
 | _, _ => none
noncomputable def indexAddr (env : Env) (d : TypeDesc) (x : Value) (i : Int) : Option Value :=
 match d, x with
 | .array len elem, .pointer (some a) => bnd (env.size elem) fun n => bnd (inR i len) fun i => some (.pointer (some (moveBy a (Nat.mul i n))))
 | .slice elem, .slice (some a) len _ => bnd (env.size elem) fun n => bnd (inR i len) fun i => some (.pointer (some (moveBy a (Nat.mul i n))))
 | _, _ => none
noncomputable def nextStr (H : Heap) (r : Nat) (s : List UInt8) (pos : Nat) : Res :=
 List.rec (motive := fun _ => Res) (some (.tuple #[.bool false], H)) (fun _ _ _ =>
  (fun d : Nat × Nat => fN d.1 fun c => fN d.2 fun w => fN pos fun pos => some (.tuple #[.bool true, goInt pos, .int .i32 (.ofNat c)], H.set r (.iter (dropL w s) (Nat.add pos w))))
   (Utf8.decode ⟨⟨s⟩⟩ 0)) s
def iterOf : Blk -> Option (List UInt8 × Nat)
 | .iter s p => some (s, p)
 | _ => none
noncomputable def oMove (x : Operand) : Dyn := fun _ _ _ tm H => retO (eval tm x) H
noncomputable def oPick (c a b : Operand) : Dyn := fun _ _ _ tm H => bnd (eval tm c) fun c => bnd (boolOf c) fun c => ifB c (retO (eval tm a) H) (retO (eval tm b) H)
noncomputable def oAlloc (e : TypeId) : Dyn := fun env _ id _ H => bnd (env.zero e) fun z => newCells env H id e z
noncomputable def oBox (e : TypeId) (x : Operand) : Dyn := fun env _ id tm H => bnd (eval tm x) fun v => newCells env H id e v
noncomputable def oBuild (t : TypeId) (parts : Array (Nat × Operand)) : Dyn := fun env _ _ tm H => bnd (evalParts tm parts.toList) fun ps => retO (build env t ps) H
noncomputable def oBuildSlice (t : TypeId) (len : Nat) (parts : Array (Nat × Operand)) : Dyn := fun env _ id tm H => bnd (evalParts tm parts.toList) fun ps => buildSlice env H id t len ps
noncomputable def oLoad (t : TypeId) (x : Operand) : Dyn := fun env _ _ tm H => bnd (eval tm x) fun v => bnd (addrOf v) fun a => retO (loadVar env H t a) H
noncomputable def oStore (t : TypeId) (x y : Operand) : Dyn := fun env _ _ tm H => bnd (eval tm x) fun p => bnd (addrOf p) fun a => bnd (eval tm y) fun v => bnd (env.size t) fun n =>
 bnd (cellsV v) fun cs => chk (Nat.beq (lenL cs) n) (bnd (storeAt H a cs) fun H => some (undef, H))
def checkOf : Value -> Option Value
 | .pointer (some a) => some (.pointer (some a))
 | .func (.func f) x y => some (.func (.func f) x y)
 | _ => none
noncomputable def oNilCheck (x : Operand) : Dyn := fun _ _ _ tm H => bnd (eval tm x) fun v => retO (checkOf v) H
noncomputable def oBin (op : BinOp) (t : TypeId) (x y : Operand) (_ : TypeId) : Dyn := fun env _ _ tm H => bnd (eval tm x) fun a => bnd (eval tm y) fun b => retO (binOp env op t a b) H
noncomputable def oUn (op : UnOp) (_ : TypeId) (x : Operand) : Dyn := fun env _ _ tm H => bnd (eval tm x) fun a => retO (orO (unOpF op a) (env.symUn op a)) H
noncomputable def oConvert (s d : TypeId) (x : Operand) : Dyn := fun env _ id tm H => bnd (eval tm x) fun v => convert env H id s d v
def isIface : TypeDesc -> Bool
 | .interface _ => true
 | _ => false
noncomputable def oIface (t : TypeId) (x : Operand) : Dyn := fun env _ _ tm H => bnd (eval tm x) fun v => bnd (env.und t) fun d => chk (!(isIface d)) (some (.iface t v, H))
noncomputable def oAssert (x : Operand) (_ t : TypeId) (ok : Bool) : Dyn := fun env _ _ tm H => bnd (eval tm x) fun v => bnd (ifaceOf v) fun p => bnd (env.und t) fun d =>
 chk (!(isIface d) && !ok && Nat.beq p.1 t) (some (p.2, H))
noncomputable def oFunc (fn : Fn) (first captured : Array Operand) : Dyn := fun _ _ _ tm H => bnd (evals tm first.toList) fun a => bnd (evals tm captured.toList) fun b => some (.func fn ⟨a⟩ ⟨b⟩, H)
noncomputable def newMap (H : Heap) (id : Nat) : Res := fN id fun id => some (.map (some id), H.set id (.map [] 0))
noncomputable def oMakeMap (t : TypeId) (x : Option Operand) : Dyn := fun env _ id tm H =>
 Option.rec (motive := fun _ => Res) (newMap H id) (fun x => bnd (env.map t) fun _ => bnd (eval tm x) fun v => chk (!(notInt v)) (newMap H id)) x
noncomputable def oMakeSlice (t : TypeId) (l c : Operand) : Dyn := fun env _ id tm H => bnd (eval tm l) fun l => bnd (eval tm c) fun c => makeSlice env H id t l c
noncomputable def oSlice (t : TypeId) (x : Operand) (lo hi mx : Option Operand) : Dyn := fun env _ _ tm H => bnd (eval tm x) fun x => bnd (optVal tm lo) fun lo => bnd (optVal tm hi) fun hi => bnd (optVal tm mx) fun mx =>
 bnd (env.und t) fun d => retO (sliceOf env H d x lo hi mx) H
noncomputable def oFieldAddr (t : TypeId) (x : Operand) (f : Nat) : Dyn := fun env _ _ tm H => bnd (eval tm x) fun v => bnd (addrOf v) fun a => bnd (env.struct t) fun fs => bnd (fieldPlace env fs f) fun p =>
 chk (!(Nat.beq p.2 0)) (some (.pointer (some (moveBy a p.1)), H))
noncomputable def oField (t : TypeId) (x : Operand) (f : Nat) : Dyn := fun env _ _ tm H => bnd (eval tm x) fun v => bnd (aggOf v) fun cs => bnd (env.struct t) fun fs => bnd (nthL f fs) fun f => retO (fieldOf env cs f) H
noncomputable def oIndexAddr (t : TypeId) (x i : Operand) : Dyn := fun env _ _ tm H => bnd (eval tm x) fun x => bnd (eval tm i) fun i => bnd (intOf' i) fun i => bnd (env.und t) fun d => retO (indexAddr env d x i) H
noncomputable def oIndex (t : TypeId) (x i : Operand) : Dyn := fun env _ _ tm H => bnd (eval tm x) fun x => bnd (eval tm i) fun i => bnd (env.und t) fun d => retO (indexOf env d x i) H
noncomputable def oLookup (t : TypeId) (m k : Operand) (ok : Bool) : Dyn := fun env _ _ tm H => bnd (eval tm m) fun m => bnd (eval tm k) fun k => retO (lookup env H t m k ok) H
noncomputable def oUpdate (t : TypeId) (m k x : Operand) : Dyn := fun env _ _ tm H => bnd (eval tm m) fun m => bnd (eval tm k) fun k => bnd (eval tm x) fun x => bnd (mapUpdate env H t m k x) fun H => some (undef, H)
noncomputable def oEntry (t : TypeId) (m k : Operand) : Dyn := fun env _ _ tm H => bnd (eval tm m) fun m => bnd (eval tm k) fun k => mapEntry env H t m k
noncomputable def oEntryStore (_ : TypeId) (m s x : Operand) : Dyn := fun _ _ _ tm H => bnd (eval tm m) fun m => bnd (eval tm s) fun s => bnd (eval tm x) fun x => bnd (entryStore H m s x) fun H => some (undef, H)
noncomputable def rangeOf (d : TypeDesc) (H : Heap) (id : Nat) (v : Value) : Res :=
 match d with
 | .string => bnd (strOf v) fun s => fN id fun id => some (mkPtr id, H.set id (.iter s 0))
 | .map _ _ => bnd (mapRef v) fun r => fN id fun id => Option.rec (motive := fun _ => Res) (some (mkPtr id, H.set id (.mit none 0 [] 0))) (fun m => bnd (mapAt H m) fun es => some (mkPtr id, H.set id (.mit (some m) es.2 [] es.2))) r
 | _ => none
noncomputable def oRange (t : TypeId) (x : Operand) : Dyn := fun env _ id tm H => bnd (env.und t) fun d => bnd (eval tm x) fun v => rangeOf d H id v
noncomputable def hasN (n : Nat) (l : List Nat) : Bool := List.rec (motive := fun _ => Bool) false (fun a _ ih => ifB (Nat.beq a n) true ih) l
noncomputable def leftL (seen : List Nat) (l : List MapEntry) : List MapEntry := List.rec (motive := fun _ => List MapEntry) [] (fun e _ ih => ifB (hasN e.born seen) ih (e :: ih)) l
noncomputable def allNew (last : Nat) (l : List MapEntry) : Bool := List.rec (motive := fun _ => Bool) true (fun e _ ih => ifB (Nat.ble last e.born) ih false) l
noncomputable def nilB {α : Type} (l : List α) : Bool := List.rec (motive := fun _ => Bool) true (fun _ _ _ => false) l
noncomputable def nextIn (H : Heap) (r m since : Nat) (seen : List Nat) (last : Nat) (es : List MapEntry) (clock : Nat) : Res :=
 chk (nilB seen || nilB es || !(allNew last es)) (List.rec (motive := fun _ => Res) (some (.tuple #[.bool false], H))
  (fun e t _ => chk (nilB t && Nat.ble (Nat.succ e.born) since) (some (.tuple #[.bool true, e.key, e.val], H.set r (.mit (some m) since (appL seen [e.born]) clock)))) (leftL seen es))
noncomputable def nextMap (H : Heap) (r : Nat) (b : Blk) : Res :=
 match b with
 | .mit m since seen last => Option.rec (motive := fun _ => Res) (some (.tuple #[.bool false], H)) (fun m => bnd (mapAt H m) fun es => nextIn H r m since seen last es.1 es.2) m
 | _ => none
noncomputable def lastN (l : List Nat) : Option Nat := List.rec (motive := fun _ => Option Nat) none (fun a t ih => ifB (nilB t) (some a) ih) l
noncomputable def findBorn (n : Nat) (l : List MapEntry) : Option MapEntry := List.rec (motive := fun _ => Option MapEntry) none (fun e _ ih => ifB (Nat.beq e.born n) (some e) ih) l
noncomputable def entryOf (H : Heap) (b : Blk) : Res :=
 match b with
 | .mit (some m) _ seen last => bnd (lastN seen) fun n => bnd (mapAt H m) fun es => chk (Nat.beq es.2 last) (bnd (findBorn n es.1) fun e => some (.tuple #[e.key, e.val], H))
 | _ => none
noncomputable def oNext (it : Operand) (isStr : Bool) : Dyn := fun _ _ _ tm H => bnd (eval tm it) fun v => bnd (addrOf v) fun a => chk (Nat.beq a.off 0) (bnd (H.get a.block) fun b =>
 ifB isStr (bnd (iterOf b) fun p => nextStr H a.block p.1 p.2) (nextMap H a.block b))
noncomputable def oMapEntry (it : Operand) : Dyn := fun _ _ _ tm H => bnd (eval tm it) fun v => bnd (addrOf v) fun a => chk (Nat.beq a.off 0) (bnd (H.get a.block) fun b => entryOf H b)
noncomputable def oExtract (x : Operand) (i : Nat) : Dyn := fun _ _ _ tm H => bnd (eval tm x) fun v => bnd (tupleOf v) fun vs => retO (nthL i vs) H
def fnOf : Value -> Option (FuncId × List Value × List Value)
 | .func (.func f) a b => some (f, a.toList, b.toList)
 | _ => none
noncomputable def callTo (c : Callee) (ts : List TypeId) (args : List Value) : Dyn :=
 Callee.casesOn (motive := fun _ => Dyn) c (fun f _ call _ tm H => bnd (eval tm f) fun v => bnd (fnOf v) fun p => call p.1 (appL p.2.1 (appL args p.2.2)) H)
  (fun _ _ _ _ _ _ _ => none) (fun b env _ id _ H => builtinFn b env H id ts args)
noncomputable def oCall (c : Go.Call) : Dyn := fun env call id tm H => bnd (evals tm c.args.toList) fun args => callTo c.callee c.argTypes.toList args env call id tm H
noncomputable def oNo : Dyn := fun _ _ _ _ _ => none
noncomputable def oNo1 {α : Type} (_ : α) : Dyn := oNo
noncomputable def oNo2 {α β : Type} (_ : α) (_ : β) : Dyn := oNo
noncomputable def oNo3 {α β γ : Type} (_ : α) (_ : β) (_ : γ) : Dyn := oNo
noncomputable def evOp (o : Op) : Dyn :=
 Op.casesOn (motive := fun _ => Dyn) o oMove oMove oPick oAlloc oBox oBuild oBuildSlice oUpdate oLoad oStore oNo1 oNo1 oNilCheck oBin oUn oConvert oNo2 oIface oFunc oMakeMap oNo2 oMakeSlice oSlice
  oFieldAddr oField oIndexAddr oIndex oLookup oUpdate oEntry oEntryStore oRange oNext oMapEntry oAssert oExtract oCall oNo1 oNo1 oNo1 oNo2 oNo3 oNo2
noncomputable def guardOk (all : Array Oper) (tm : Tm) (g : Nat × Bool) : Bool :=
 Option.rec (motive := fun _ => Bool) false (fun b => ifB g.2 b (!b)) (bnd (nthL g.1 all.toList) fun o => bnd o.dst fun d => boolOf (slot tm d))
noncomputable def wantedB (o : Oper) (all : Array Oper) (tm : Tm) : Bool := Option.rec (motive := fun _ => Bool) true (guardOk all tm) o.guard
noncomputable def evOps (env : Env) (call : Call) (all : Array Oper) (l : List Oper) : Nat -> Tm -> Heap -> Option (Tm × Heap) :=
 List.rec (motive := fun _ => Nat -> Tm -> Heap -> Option (Tm × Heap)) (fun _ tm H => some (tm, H))
  (fun o _ ih id tm H => ifB (wantedB o all tm) (bnd (evOp o.op env call id tm H) fun p => ih (Nat.succ id) (putT tm o.dst p.1) p.2) (ih (Nat.succ id) (putT tm o.dst undef) H)) l
inductive Ex where
 | normal
 | exit (id : Nat)
 | ret
abbrev CRes := Option (Ex × Tm × Heap)
noncomputable def isNormal (e : Ex) : Bool := Ex.rec (motive := fun _ => Bool) true (fun _ => false) false e
noncomputable def unExit (id : Nat) (e : Ex) : Ex := Ex.rec (motive := fun _ => Ex) .normal (fun k => ifB (Nat.beq k id) .normal (.exit k)) .ret e
noncomputable def bump (H : Heap) (n : Nat) : Option Heap := fN (Nat.add H.next n) fun m => chk (Nat.ble m 18446744073709551616) (some ⟨H.blks, m⟩)
abbrev CDyn := Env -> Call -> (Code -> Tm -> Heap -> CRes) -> Tm -> Heap -> CRes
noncomputable def cSkip : CDyn := fun _ _ _ tm H => some (.normal, tm, H)
noncomputable def tb (m i : Nat) : Bool := Nat.beq (Nat.mod (Nat.shiftRight m i) 2) 1
noncomputable def bit (i : Nat) : Nat := Nat.shiftLeft 1 i
def convKind : Option TypeDesc -> Nat
 | some (.int _) => 0
 | some .string => 2
 | some .unsafePointer => 2
 | some (.pointer _) => 2
 | some (.slice _) => 1
 | _ => 3
def sliceKind : Option TypeDesc -> Nat
 | some .string => 0
 | _ => 2
def callKind : Callee -> Nat
 | .builtin .len => 2
 | .builtin .cap => 2
 | .builtin .min => 2
 | .builtin .max => 2
 | _ => 3
noncomputable def kindOf (env : Env) : Op -> Nat
 | .move _ | .assign _ | .pick _ _ _ | .build _ _ | .nilCheck _ | .binOp _ _ _ _ _ | .unOp _ _ _ | .makeInterface _ _ | .makeFunc _ _ _ | .fieldAddr _ _ _ | .field _ _ _
 | .indexAddr _ _ _ | .index _ _ _ | .typeAssert _ _ _ _ | .extract _ _ => 0
 | .alloc _ | .box _ _ | .buildSlice _ _ _ | .makeMap _ _ | .makeSlice _ _ _ => 1
 | .load _ _ | .lookup _ _ _ _ => 2
 | .slice t _ _ _ _ => sliceKind (env.und t)
 | .convert _ d _ => convKind (env.und d)
 | .call c => callKind c.callee
 | _ => 3
def optL : Option Operand -> List Operand
 | some x => [x]
 | none => []
def calleeL : Callee -> List Operand
 | .value f => [f]
 | .invoke r _ => [r]
 | .builtin _ => []
noncomputable def looksL : Op -> List Operand
 | .move x | .assign x | .box _ x | .load _ x | .nilCheck x | .unOp _ _ x | .convert _ _ x | .makeInterface _ x | .fieldAddr _ x _ | .field _ x _ | .range _ x | .next x _ | .entry x
 | .typeAssert x _ _ _ | .extract x _ => [x]
 | .pick a b c | .insert _ a b c | .mapUpdate _ a b c | .entryStore _ a b c => [a, b, c]
 | .build _ ps | .buildSlice _ _ ps => mapL (fun p => p.2) ps.toList
 | .store _ a b | .binOp _ _ a b _ | .makeSlice _ a b | .indexAddr _ a b | .index _ a b | .lookup _ a b _ | .mapEntry _ a b => [a, b]
 | .makeFunc _ a b => appL a.toList b.toList
 | .makeMap _ r => optL r
 | .slice _ x lo hi mx => x :: appL (optL lo) (appL (optL hi) (optL mx))
 | .call c => appL (calleeL c.callee) c.args.toList
 | _ => []
def tmpOf : Operand -> Option Tmp
 | .tmp t => some t
 | _ => none
noncomputable def dstM (d : Option Tmp) : Nat := Option.rec (motive := fun _ => Nat) 0 bit d
noncomputable def looksM (l : List Operand) : Nat := List.rec (motive := fun _ => Nat) 0 (fun x _ ih => Nat.lor (dstM (tmpOf x)) ih) l
noncomputable def guardM (all : Array Oper) (g : Option (Nat × Bool)) : Nat := dstM (bnd g fun g => bnd (nthL g.1 all.toList) fun o => o.dst)
def bindsB (e : Edge) : Bool :=
 match e.ground with
 | .textOnly _ => false
 | .gcOnly _ => false
 | _ => true
structure Spot where
 idx : Nat
 mask : Nat
 kind : Nat
 looks : Nat
 dst : Nat
noncomputable def findS (i : Nat) (acc : List Spot) : Option Spot := List.rec (motive := fun _ => Option Spot) none (fun s _ ih => ifB (Nat.beq s.idx i) (some s) ih) acc
noncomputable def maskOf (acc : List Spot) (l : List Edge) : Option Nat :=
 List.rec (motive := fun _ => Option Nat) (some 0) (fun e _ ih => ifB (bindsB e) (bnd (findS e.on acc) fun s => bnd ih fun m => fN (Nat.lor (Nat.lor s.mask (bit e.on)) m) some) ih) l
noncomputable def clash (a b : Spot) : Bool := !(Nat.beq (Nat.lor (Nat.land a.dst (Nat.lor b.looks b.dst)) (Nat.land b.dst a.looks)) 0)
noncomputable def pairS (a b : Spot) : Option Bool :=
 ifB (tb b.mask a.idx) (some false) (ifB (clash a b) none (ifB (Nat.beq (Nat.add a.kind b.kind) 6) none (some (Nat.beq (Nat.add a.kind b.kind) 5))))
noncomputable def earlyOf (a b : Spot) (l : List Spot) : List Nat :=
 List.rec (motive := fun _ => List Nat) [] (fun c _ ih => ifB (Nat.ble (Nat.succ a.idx) c.idx && Nat.beq c.kind 1 && tb b.mask c.idx) (c.idx :: ih) ih) l
noncomputable def pairsS (b : Spot) (all : List Spot) (acc : List Spot) : Option (List (Nat × Nat × List Nat)) :=
 List.rec (motive := fun _ => Option (List (Nat × Nat × List Nat))) (some []) (fun a _ ih => bnd (pairS a b) fun h => bnd ih fun l => some (ifB h ((a.idx, b.idx, earlyOf a b all) :: l) l)) acc
noncomputable def spotOf (env : Env) (all : Array Oper) (i m : Nat) (o : Oper) : Option Spot :=
 fN (kindOf env o.op) fun k => fN (Nat.lor (looksM (looksL o.op)) (guardM all o.guard)) fun l => fN (dstM o.dst) fun d => some ⟨i, m, k, l, d⟩
noncomputable def planL (env : Env) (all : Array Oper) (l : List Oper) : Nat -> List Spot -> Option (List (Nat × Nat × List Nat)) :=
 List.rec (motive := fun _ => Nat -> List Spot -> Option (List (Nat × Nat × List Nat))) (fun _ _ => some [])
  (fun o _ ih i acc => bnd (maskOf acc o.after.toList) fun m => bnd (spotOf env all i m o) fun s => bnd (pairsS s acc acc) fun hs => bnd (ih (Nat.succ i) (s :: acc)) fun r => some (appL hs r)) l
noncomputable def plan (env : Env) (ops : Array Oper) : Option (List (Nat × Nat × List Nat)) := planL env ops ops.toList 0 []
structure Snap where
 tm : Tm
 H : Heap
 v : Value
 H' : Heap
noncomputable def trace (env : Env) (call : Call) (all : Array Oper) (l : List Oper) : Nat -> Tm -> Heap -> Option (List Snap × Tm × Heap) :=
 List.rec (motive := fun _ => Nat -> Tm -> Heap -> Option (List Snap × Tm × Heap)) (fun _ tm H => some ([], tm, H))
  (fun o _ ih id tm H => ifB (wantedB o all tm)
   (bnd (evOp o.op env call id tm H) fun p => bnd (ih (Nat.succ id) (putT tm o.dst p.1) p.2) fun r => some (⟨tm, H, p.1, p.2⟩ :: r.1, r.2))
   (bnd (ih (Nat.succ id) (putT tm o.dst undef) H) fun r => some (⟨tm, H, undef, H⟩ :: r.1, r.2))) l
noncomputable def sameA (a b : Option Addr) : Bool :=
 Option.rec (motive := fun _ => Bool) (Option.rec (motive := fun _ => Bool) true (fun _ => false) b)
  (fun a => Option.rec (motive := fun _ => Bool) false (fun b => Nat.beq a.block b.block && Nat.beq a.off b.off && noSpot a && noSpot b) b) a
noncomputable def sameN (a b : Option Nat) : Bool :=
 Option.rec (motive := fun _ => Bool) (Option.rec (motive := fun _ => Bool) true (fun _ => false) b)
  (fun a => Option.rec (motive := fun _ => Bool) false (fun b => Nat.beq a b) b) a
noncomputable def all2 (f : Value -> Value -> Bool) (l : List Value) : List Value -> Bool :=
 List.rec (motive := fun _ => List Value -> Bool) (fun m => List.rec (motive := fun _ => Bool) true (fun _ _ _ => false) m)
  (fun a _ ih m => List.rec (motive := fun _ => Bool) false (fun b t _ => f a b && ih t) m) l
noncomputable def sameStep (ih : Value -> Value -> Bool) (x y : Value) : Bool :=
 match x, y with
 | .bool a, .bool b => ifB a b (!b)
 | .int k a, .int k' b => Nat.beq (kn k) (kn k') && eqI a b
 | .string a, .string b => same a.data.toList b.data.toList
 | .pointer a, .pointer b => sameA a b
 | .slice a n c, .slice b m d => sameA a b && Nat.beq n m && Nat.beq c d
 | .map a, .map b => sameN a b
 | .func (.func f) a c, .func (.func g) b d => Nat.beq f g && all2 ih a.toList b.toList && all2 ih c.toList d.toList
 | .nilFunc, .nilFunc => true
 | .iface t a, .iface u b => Nat.beq t u && ih a b
 | .nilIface, .nilIface => true
 | .float .f64 i, .float .f64 j => Nat.beq i j
 | .agg a, .agg b => all2 ih a.toList b.toList
 | .tuple a, .tuple b => all2 ih a.toList b.toList
 | _, _ => false
noncomputable def sameV (d : Nat) : Value -> Value -> Bool := Nat.rec (motive := fun _ => Value -> Value -> Bool) (fun _ _ => false) (fun _ ih => sameStep ih) d
noncomputable def sameRes (r : Res) (v : Value) : Bool := Option.rec (motive := fun _ => Bool) false (fun p => sameV 6 p.1 v) r
noncomputable def reread (env : Env) (call : Call) (all : Array Oper) (id : Nat) (o : Oper) (s : Snap) (H : Heap) : Bool :=
 ifB (wantedB o all s.tm) (sameRes (evOp o.op env call id s.tm H) s.v) true
noncomputable def early (all : Array Oper) (base : Nat) (tr : List Snap) (H : Heap) (ms : List Nat) : Option Heap :=
 List.rec (motive := fun _ => Option Heap) (some H) (fun m _ ih => bnd ih fun G => bnd (nthL m all.toList) fun o => bnd (nthL m tr) fun s =>
  ifB (wantedB o all s.tm) (bnd (s.H'.get (Nat.add base m)) fun x => some (G.set (Nat.add base m) x)) (some G)) ms
noncomputable def hotOne (env : Env) (call : Call) (all : Array Oper) (base : Nat) (tr : List Snap) (p : Nat × Nat × List Nat) : Option Unit :=
 bnd (nthL p.1 all.toList) fun a => bnd (nthL p.2.1 all.toList) fun b => bnd (nthL p.1 tr) fun s => bnd (nthL p.2.1 tr) fun t =>
  ifB (Nat.beq (kindOf env a.op) 3) (bnd (early all base tr s.H p.2.2) fun G => chk (reread env call all (Nat.add base p.2.1) b t G) (some ())) (chk (reread env call all (Nat.add base p.1) a s t.H') (some ()))
noncomputable def hotOk (env : Env) (call : Call) (all : Array Oper) (base : Nat) (tr : List Snap) (l : List (Nat × Nat × List Nat)) : Option Unit :=
 List.rec (motive := fun _ => Option Unit) (some ()) (fun p _ ih => bnd (hotOne env call all base tr p) fun _ => ih) l
noncomputable def evDraw (env : Env) (call : Call) (ops : Array Oper) (tm : Tm) (H : Heap) : Option (Tm × Heap) :=
 bnd (plan env ops) fun hot => bnd (bump H (lenL ops.toList)) fun H' => bnd (trace env call ops ops.toList H.next tm H') fun t =>
  bnd (hotOk env call ops H.next t.1 hot) fun _ => some t.2
noncomputable def evRegion (draw : Bool) (env : Env) (call : Call) (ops : Array Oper) (tm : Tm) (H : Heap) : Option (Tm × Heap) :=
 Bool.rec (motive := fun _ => Option (Tm × Heap)) (bnd (bump H (lenL ops.toList)) fun H' => evOps env call ops ops.toList H.next tm H') (evDraw env call ops tm H) draw
noncomputable def cRegion (_ : Nat) (ops : Array Oper) (draw : Bool) : CDyn := fun env call _ tm H => bnd (evRegion draw env call ops tm H) fun p => some (.normal, p.1, p.2)
noncomputable def cSeq (a b : Code) : CDyn := fun _ _ ih tm H => bnd (ih a tm H) fun r => ifB (isNormal r.1) (ih b r.2.1 r.2.2) (some r)
noncomputable def cCond (c : Operand) (a b : Code) : CDyn := fun _ _ ih tm H => bnd (eval tm c) fun v => bnd (boolOf v) fun t => ifB t (ih a tm H) (ih b tm H)
noncomputable def cBlock (id : Nat) (b : Code) : CDyn := fun _ _ ih tm H => bnd (ih b tm H) fun r => some (unExit id r.1, r.2)
noncomputable def cLoop (b : Code) : CDyn := fun _ _ ih tm H => bnd (ih b tm H) fun r => ifB (isNormal r.1) (ih (.loop b) r.2.1 r.2.2) (some r)
noncomputable def cExit (id : Nat) : CDyn := fun _ _ _ tm H => some (.exit id, tm, H)
noncomputable def cRet : CDyn := fun _ _ _ tm H => some (.ret, tm, H)
noncomputable def cNo : CDyn := fun _ _ _ _ _ => none
noncomputable def cNo1 {α : Type} (_ : α) : CDyn := cNo
noncomputable def cNo4 {α β γ δ : Type} (_ : α) (_ : β) (_ : γ) (_ : δ) : CDyn := cNo
noncomputable def stepC (c : Code) : CDyn :=
 Code.casesOn (motive := fun _ => CDyn) c cSkip cRegion cSeq cCond cBlock cLoop cNo4 cExit cNo1 cNo1 cNo1 cRet cNo1
def codeOk (n : Nat) : Code -> Bool
 | .region _ ops _ => ops.toList.all fun o => match o.dst with
  | some d => Nat.ble (Nat.succ d) n
  | none => true
 | .seq a b => codeOk n a && codeOk n b
 | .cond _ a b => codeOk n a && codeOk n b
 | .block _ b => codeOk n b
 | .loop b => codeOk n b
 | _ => true
noncomputable def evC (env : Env) (call : Call) (n : Nat) : Code -> Tm -> Heap -> CRes :=
 Nat.rec (motive := fun _ => Code -> Tm -> Heap -> CRes) (fun _ _ _ => none) (fun _ ih c => stepC c env call ih) n
noncomputable def resultCell (env : Env) (tm : Tm) (H : Heap) (a : Tmp) (t : TypeId) : Option Value := bnd (addrOf (slot tm a)) fun a => loadVar env H t a
noncomputable def resultVar (env : Env) (tm : Tm) (H : Heap) (r : ResultVar) : Option Value :=
 ResultVar.casesOn (motive := fun _ => Option Value) r (fun t => some (slot tm t)) (resultCell env tm H)
noncomputable def results (env : Env) (tm : Tm) (H : Heap) (l : List ResultVar) : Option (List Value) :=
 List.rec (motive := fun _ => Option (List Value)) (some []) (fun r _ ih => bnd (resultVar env tm H r) fun v => bnd ih fun vs => some (v :: vs)) l
def result (vs : List Value) : Value := match vs with
 | [v] => v
 | vs => .tuple ⟨vs⟩
noncomputable def argsT (l : List Value) : Nat -> Tm -> Tm :=
 List.rec (motive := fun _ => Nat -> Tm -> Tm) (fun _ tm => tm) (fun v _ ih i tm => ih (Nat.succ i) (putT tm (some i) v)) l
def okEx : Ex -> Bool
 | .exit _ => false
 | _ => true
noncomputable def runFun (env : Env) (call : Call) (N : Nat) (fn : Fun) (args : List Value) (H : Heap) : Res :=
 chk (Nat.ble (lenL args) fn.ntmps) (bnd (evC env call N fn.body (argsT args 0 (bank undef 2)) H) fun r => chk (okEx r.1) (bnd (results env r.2.1 r.2.2 fn.results) fun vs => some (result vs, r.2.2)))
noncomputable def evF (env : Env) (N : Nat) (d : Nat) : Call :=
 Nat.rec (motive := fun _ => Call) (fun _ _ _ => none)
  (fun _ ih f args H => Option.rec (motive := fun _ => Res) (bnd (env.func f) fun fn => runFun env ih N fn args H) (fun s => s args H) (env.spec f)) d
end Go.Ev
