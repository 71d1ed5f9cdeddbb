/- Drawn regions, part 1: what an operation looks at, and what it does to the memory. -/
import Derived.Test.YthnojgpobfpgeaaGreatDoorEvRun
import Derived.Orders
namespace Go.Ev
open Go.RowKit
variable [Sg]
def Agree (tm tm' : Tm) (l : List Operand) : Prop := ∀ t, Operand.tmp t ∈ l -> slot tm t = slot tm' t
omit [Sg] in
theorem eval_congr {tm tm' : Tm} {x : Operand} (h : Agree tm tm' [x]) : eval tm x = eval tm' x := by
 cases x with
 | tmp t => show some (slot tm t) = some (slot tm' t); rw [h t (by simp)]
 | _ => rfl
omit [Sg] in
theorem Agree.sub {tm tm' : Tm} {l m : List Operand} (h : Agree tm tm' m) (hs : ∀ x ∈ l, x ∈ m) : Agree tm tm' l := fun t ht => h t (hs _ ht)
omit [Sg] in
theorem evals_congr {tm tm' : Tm} : ∀ {l : List Operand}, Agree tm tm' l -> evals tm l = evals tm' l
 | [], _ => rfl
 | x :: l, h => by
  show bnd (eval tm x) (fun v => bnd (evals tm l) fun vs => some (v :: vs)) = bnd (eval tm' x) (fun v => bnd (evals tm' l) fun vs => some (v :: vs))
  rw [eval_congr (h.sub (l := [x]) (by simp)), evals_congr (h.sub (l := l) (by intro y hy; simp [hy]))]
omit [Sg] in
theorem evalParts_congr {tm tm' : Tm} : ∀ {l : List (Nat × Operand)}, Agree tm tm' (mapL (fun p => p.2) l) -> evalParts tm l = evalParts tm' l
 | [], _ => rfl
 | (i, x) :: l, h => by
  have h' : Agree tm tm' (x :: mapL (fun p => p.2) l) := h
  show bnd (eval tm x) (fun v => bnd (evalParts tm l) fun vs => some ((i, v) :: vs)) = bnd (eval tm' x) (fun v => bnd (evalParts tm' l) fun vs => some ((i, v) :: vs))
  rw [eval_congr (h'.sub (l := [x]) (by simp)), evalParts_congr (h'.sub (l := mapL (fun p => p.2) l) (by intro y hy; simp [hy]))]
omit [Sg] in
theorem optVal_congr {tm tm' : Tm} {x : Option Operand} (h : Agree tm tm' (optL x)) : optVal tm x = optVal tm' x := by
 cases x with
 | none => rfl
 | some x =>
  show bnd (eval tm x) (fun v => some (some v)) = bnd (eval tm' x) (fun v => some (some v))
  rw [eval_congr h]
omit [Sg] in
theorem mem_appL {α : Type} {x : α} {l m : List α} : x ∈ appL l m ↔ x ∈ l \/ x ∈ m := by rw [appL_eq]; exact List.mem_append
omit [Sg] in
theorem evOp_congr {env : Env} {call : Call} {id : Nat} {tm tm' : Tm} {H : Heap} {op : Op} (h : Agree tm tm' (looksL op)) : evOp op env call id tm H = evOp op env call id tm' H := by
 have e1 : ∀ x, x ∈ looksL op -> eval tm x = eval tm' x := fun x hx => eval_congr (h.sub (by intro y hy; rw [List.mem_singleton.1 hy]; exact hx))
 cases op with
 | move x => show oMove x env call id tm H = oMove x env call id tm' H; unfold oMove; rw [e1 x (by simp [looksL])]
 | assign x => show oMove x env call id tm H = oMove x env call id tm' H; unfold oMove; rw [e1 x (by simp [looksL])]
 | pick c x y => show oPick c x y env call id tm H = oPick c x y env call id tm' H; unfold oPick; rw [e1 c (by simp [looksL]), e1 x (by simp [looksL]), e1 y (by simp [looksL])]
 | alloc e => rfl
 | box e x => show oBox e x env call id tm H = oBox e x env call id tm' H; unfold oBox; rw [e1 x (by simp [looksL])]
 | build t ps => show oBuild t ps env call id tm H = oBuild t ps env call id tm' H; unfold oBuild; rw [evalParts_congr h]
 | buildSlice t n ps => show oBuildSlice t n ps env call id tm H = oBuildSlice t n ps env call id tm' H; unfold oBuildSlice; rw [evalParts_congr h]
 | insert t m k x => show oUpdate t m k x env call id tm H = oUpdate t m k x env call id tm' H; unfold oUpdate; rw [e1 m (by simp [looksL]), e1 k (by simp [looksL]), e1 x (by simp [looksL])]
 | load t x => show oLoad t x env call id tm H = oLoad t x env call id tm' H; unfold oLoad; rw [e1 x (by simp [looksL])]
 | store t x y => show oStore t x y env call id tm H = oStore t x y env call id tm' H; unfold oStore; rw [e1 x (by simp [looksL]), e1 y (by simp [looksL])]
 | ready g => rfl
 | waits g => rfl
 | nilCheck x => show oNilCheck x env call id tm H = oNilCheck x env call id tm' H; unfold oNilCheck; rw [e1 x (by simp [looksL])]
 | binOp p t x y t' => show oBin p t x y t' env call id tm H = oBin p t x y t' env call id tm' H; unfold oBin; rw [e1 x (by simp [looksL]), e1 y (by simp [looksL])]
 | unOp p t x => show oUn p t x env call id tm H = oUn p t x env call id tm' H; unfold oUn; rw [e1 x (by simp [looksL])]
 | convert s d x => show oConvert s d x env call id tm H = oConvert s d x env call id tm' H; unfold oConvert; rw [e1 x (by simp [looksL])]
 | sliceToArrayPointer d x => rfl
 | makeInterface t x => show oIface t x env call id tm H = oIface t x env call id tm' H; unfold oIface; rw [e1 x (by simp [looksL])]
 | makeFunc f x y => show oFunc f x y env call id tm H = oFunc f x y env call id tm' H; unfold oFunc; rw [evals_congr (h.sub (l := x.toList) fun z hz => mem_appL.2 (.inl hz)), evals_congr (h.sub (l := y.toList) fun z hz => mem_appL.2 (.inr hz))]
 | makeMap t r =>
  show oMakeMap t r env call id tm H = oMakeMap t r env call id tm' H
  cases r with
  | none => rfl
  | some x =>
   show bnd (env.map t) (fun _ => bnd (eval tm x) fun v => chk (!(notInt v)) (newMap H id)) = bnd (env.map t) (fun _ => bnd (eval tm' x) fun v => chk (!(notInt v)) (newMap H id))
   rw [e1 x (by simp [looksL, optL])]
 | makeChan t x => rfl
 | makeSlice t l c => show oMakeSlice t l c env call id tm H = oMakeSlice t l c env call id tm' H; unfold oMakeSlice; rw [e1 l (by simp [looksL]), e1 c (by simp [looksL])]
 | slice t x lo hi mx =>
  show oSlice t x lo hi mx env call id tm H = oSlice t x lo hi mx env call id tm' H
  have m : ∀ z, (z ∈ optL lo \/ z ∈ optL hi \/ z ∈ optL mx) -> z ∈ looksL (.slice t x lo hi mx) := fun z hz => List.mem_cons_of_mem _ (mem_appL.2 (hz.imp (fun h => h) fun hz => mem_appL.2 hz))
  unfold oSlice
  rw [e1 x (by simp [looksL]), optVal_congr (h.sub (l := optL lo) fun z hz => m z (.inl hz)), optVal_congr (h.sub (l := optL hi) fun z hz => m z (.inr (.inl hz))), optVal_congr (h.sub (l := optL mx) fun z hz => m z (.inr (.inr hz)))]
 | fieldAddr t x f => show oFieldAddr t x f env call id tm H = oFieldAddr t x f env call id tm' H; unfold oFieldAddr; rw [e1 x (by simp [looksL])]
 | field t x f => show oField t x f env call id tm H = oField t x f env call id tm' H; unfold oField; rw [e1 x (by simp [looksL])]
 | indexAddr t x i => show oIndexAddr t x i env call id tm H = oIndexAddr t x i env call id tm' H; unfold oIndexAddr; rw [e1 x (by simp [looksL]), e1 i (by simp [looksL])]
 | index t x i => show oIndex t x i env call id tm H = oIndex t x i env call id tm' H; unfold oIndex; rw [e1 x (by simp [looksL]), e1 i (by simp [looksL])]
 | lookup t x i ok => show oLookup t x i ok env call id tm H = oLookup t x i ok env call id tm' H; unfold oLookup; rw [e1 x (by simp [looksL]), e1 i (by simp [looksL])]
 | mapUpdate t m k x => show oUpdate t m k x env call id tm H = oUpdate t m k x env call id tm' H; unfold oUpdate; rw [e1 m (by simp [looksL]), e1 k (by simp [looksL]), e1 x (by simp [looksL])]
 | mapEntry t m k => show oEntry t m k env call id tm H = oEntry t m k env call id tm' H; unfold oEntry; rw [e1 m (by simp [looksL]), e1 k (by simp [looksL])]
 | entryStore t m s x => show oEntryStore t m s x env call id tm H = oEntryStore t m s x env call id tm' H; unfold oEntryStore; rw [e1 m (by simp [looksL]), e1 s (by simp [looksL]), e1 x (by simp [looksL])]
 | range t x => show oRange t x env call id tm H = oRange t x env call id tm' H; unfold oRange; rw [e1 x (by simp [looksL])]
 | next it b => show oNext it b env call id tm H = oNext it b env call id tm' H; unfold oNext; rw [e1 it (by simp [looksL])]
 | entry it => show oMapEntry it env call id tm H = oMapEntry it env call id tm' H; unfold oMapEntry; rw [e1 it (by simp [looksL])]
 | typeAssert x t0 t ok => show oAssert x t0 t ok env call id tm H = oAssert x t0 t ok env call id tm' H; unfold oAssert; rw [e1 x (by simp [looksL])]
 | extract x i => show oExtract x i env call id tm H = oExtract x i env call id tm' H; unfold oExtract; rw [e1 x (by simp [looksL])]
 | call c =>
  show oCall c env call id tm H = oCall c env call id tm' H
  unfold oCall
  rw [evals_congr (h.sub (l := c.args.toList) fun z hz => mem_appL.2 (.inr hz))]
  cases hc : c.callee with
  | value f =>
   have : eval tm f = eval tm' f := e1 f (mem_appL.2 (.inl (by rw [hc]; simp [calleeL])))
   show bnd (evals tm' c.args.toList) (fun args => bnd (eval tm f) fun v => bnd (fnOf v) fun p => call p.1 (appL p.2.1 (appL args p.2.2)) H) = bnd (evals tm' c.args.toList) (fun args => bnd (eval tm' f) fun v => bnd (fnOf v) fun p => call p.1 (appL p.2.1 (appL args p.2.2)) H)
   rw [this]
  | invoke r n => rfl
  | builtin b => rfl
 | go c => rfl
 | defer c => rfl
 | panic x => rfl
 | send c x => rfl
 | recv t c ok => rfl
 | select cs b => rfl
section kinds
variable {env : Env} {call : Call} {id : Nat} {tm : Tm} {H H' : Heap} {v : Value} {op : Op}
omit [Sg] in
theorem retO_inv {x : Option Value} (h : retO x H = some (v, H')) : x = some v /\ H' = H := by
 unfold retO at h
 rw [bnd_eq] at h
 obtain ⟨u, hu, e⟩ := h
 cases e
 exact ⟨hu, rfl⟩
def Blind (f : Heap -> Res) : Prop := ∀ H v H', f H = some (v, H') -> H' = H /\ ∀ G, f G = some (v, G)
omit [Sg] in
theorem Blind.retO (x : Option Value) : Blind fun H => Ev.retO x H := fun H v H' h => by
 obtain ⟨e, rfl⟩ := retO_inv h
 exact ⟨rfl, fun G => by simp [Ev.retO, e]⟩
omit [Sg] in
theorem Blind.bnd {α : Type} {x : Option α} {f : α -> Heap -> Res} (h : ∀ a, Blind (f a)) : Blind fun H => Ev.bnd x fun a => f a H := by
 cases x with
 | none => intro H v H' h; cases h
 | some a => exact h a
omit [Sg] in
theorem Blind.chk {b : Bool} {f : Heap -> Res} (h : Blind f) : Blind fun H => Ev.chk b (f H) := by
 cases b with
 | false => intro H v H' h; cases h
 | true => exact h
omit [Sg] in
theorem Blind.ifB {b : Bool} {f g : Heap -> Res} (h : Blind f) (k : Blind g) : Blind fun H => Ev.ifB b (f H) (g H) := by
 cases b with
 | false => exact k
 | true => exact h
omit [Sg] in
theorem Blind.some (v : Value) : Blind fun H => .some (v, H) := fun H v' H' h => by cases h; exact ⟨rfl, fun _ => rfl⟩
def Makes (id : Nat) (f : Heap -> Res) : Prop := ∀ H v H', f H = some (v, H') -> ∃ x, ∀ G, f G = some (v, G.set id x)
omit [Sg] in
theorem Makes.bnd {α : Type} {x : Option α} {f : α -> Heap -> Res} (h : ∀ a, Makes id (f a)) : Makes id fun H => Ev.bnd x fun a => f a H := by
 cases x with
 | none => intro H v H' h; cases h
 | some a => exact h a
omit [Sg] in
theorem Makes.chk {b : Bool} {f : Heap -> Res} (h : Makes id f) : Makes id fun H => Ev.chk b (f H) := by
 cases b with
 | false => intro H v H' h; cases h
 | true => exact h
omit [Sg] in
theorem Makes.some (v : Value) (x : Blk) : Makes id fun H => .some (v, H.set id x) := fun H v' H' h => by cases h; exact ⟨x, fun _ => rfl⟩
omit [Sg] in
theorem Makes.newSlice (n c : Nat) (elem : TypeId) (cs : List Value) : Makes id fun H => Ev.newSlice H id n c elem cs := by
 unfold Ev.newSlice
 simp only [fN_eq]
 exact .some _ _
omit [Sg] in
theorem Makes.newCells (elem : TypeId) (v : Value) : Makes id fun H => Ev.newCells env H id elem v := by
 unfold Ev.newCells
 refine .bnd fun _ => .bnd fun cs => ?_
 simp only [fN_eq]
 exact .some _ _
omit [Sg] in
theorem Makes.newMap : Makes id fun H => Ev.newMap H id := by
 unfold Ev.newMap
 simp only [fN_eq]
 exact .some _ _
def Leaves (f : Heap -> Res) : Prop := ∀ H v H', f H = some (v, H') -> H' = H
omit [Sg] in
theorem Leaves.bnd {α : Type} {x : Heap -> Option α} {f : α -> Heap -> Res} (h : ∀ a, Leaves (f a)) : Leaves fun H => Ev.bnd (x H) fun a => f a H := by
 intro H v H' k
 dsimp only at k
 rw [bnd_eq] at k
 obtain ⟨a, _, k⟩ := k
 exact h a H v H' k
omit [Sg] in
theorem Leaves.chk {b : Bool} {f : Heap -> Res} (h : Leaves f) : Leaves fun H => Ev.chk b (f H) := by
 cases b with
 | false => intro H v H' h; cases h
 | true => exact h
omit [Sg] in
theorem Leaves.retO (x : Heap -> Option Value) : Leaves fun H => Ev.retO (x H) H := fun _ _ _ h => (retO_inv h).2
omit [Sg] in
theorem Leaves.some (v : Value) : Leaves fun H => .some (v, H) := fun H v' H' h => by cases h; rfl
omit [Sg] in
theorem orO_none {α : Type} (a : Option α) : orO a none = a := by cases a <;> rfl
omit [Sg] in
theorem Blind.orN {f : Heap -> Res} (h : Blind f) : Blind fun H => orO (f H) none := by
 intro H v H' e
 obtain ⟨h1, h2⟩ := h H v H' ((orO_none _).symm.trans e)
 exact ⟨h1, fun G => (orO_none _).trans (h2 G)⟩
omit [Sg] in
theorem Makes.orN {id : Nat} {f : Heap -> Res} (h : Makes id f) : Makes id fun H => orO (f H) none := by
 intro H v H' e
 obtain ⟨x, h2⟩ := h H v H' ((orO_none _).symm.trans e)
 exact ⟨x, fun G => (orO_none _).trans (h2 G)⟩
omit [Sg] in
theorem Leaves.orO {f g : Heap -> Res} (h : Leaves f) (k : Leaves g) : Leaves fun H => Ev.orO (f H) (g H) := by
 intro H v H' e
 rcases orO_eq e with e | ⟨_, e⟩
 ·
  exact h H v H' e
 ·
  exact k H v H' e
omit [Sg] in
theorem pure_ind (hk : kindOf env op = 0) : Blind fun H => evOp op env call id tm H := by
 cases op with
 | move x => exact .retO _
 | assign x => exact .retO _
 | pick c x y => exact .bnd fun _ => .bnd fun _ => .ifB (.retO _) (.retO _)
 | build t ps => exact .bnd fun _ => .retO _
 | nilCheck x => exact .bnd fun _ => .retO _
 | binOp p t x y t' => exact .bnd fun _ => .bnd fun _ => .retO _
 | unOp p t x => exact .bnd fun _ => .retO _
 | makeInterface t x => exact .bnd fun _ => .bnd fun _ => .chk (.some _)
 | makeFunc f x y => exact .bnd fun _ => .bnd fun _ => .some _
 | fieldAddr t x f => exact .bnd fun _ => .bnd fun _ => .bnd fun _ => .bnd fun _ => .chk (.some _)
 | field t x f => exact .bnd fun _ => .bnd fun _ => .bnd fun _ => .bnd fun _ => .retO _
 | indexAddr t x i => exact .bnd fun _ => .bnd fun _ => .bnd fun _ => .bnd fun _ => .retO _
 | index t x i => exact .bnd fun _ => .bnd fun _ => .bnd fun _ => .retO _
 | typeAssert x t0 t ok => exact .bnd fun _ => .bnd fun _ => .bnd fun _ => .chk (.some _)
 | extract x i => exact .bnd fun _ => .bnd fun _ => .retO _
 | slice t x lo hi mx =>
  have hk' : sliceKind (env.und t) = 0 := hk
  refine .bnd fun xv => .bnd fun l => .bnd fun h => .bnd fun m => ?_
  show Blind fun H => bnd (env.und t) fun d => retO (sliceOf env H d xv l h m) H
  cases hd : env.und t with
  | none => intro H v H' h; cases h
  | some d =>
   rw [hd] at hk'
   show Blind fun H => retO (sliceOf env H d xv l h m) H
   cases d <;> first | (cases hk'; done) | skip
   cases xv <;> first | exact .retO _ | (intro H v H' h; cases h; done)
 | convert s d x =>
  have hk' : convKind (env.und d) = 0 := hk
  refine .bnd fun v => ?_
  show Blind fun H => bnd (env.und s) fun sd => bnd (env.und d) fun dd => orO (convTo env H id sd dd v) (convSym env H sd dd v)
  refine .bnd fun sd => ?_
  cases hd : env.und d with
  | none => intro H v H' h; cases h
  | some dd =>
   rw [hd] at hk'
   show Blind fun H => orO (convTo env H id sd dd v) (convSym env H sd dd v)
   cases dd <;> first | (cases hk'; done) | skip
   cases v <;> first | exact .orN (.retO _) | exact .retO _ | (intro H v H' h; cases h; done)
 | call c =>
  have hk' : callKind c.callee = 0 := hk
  cases hc : c.callee with
  | value f => rw [hc] at hk'; cases hk'
  | invoke r n => rw [hc] at hk'; cases hk'
  | builtin b => rw [hc] at hk'; cases b <;> cases hk'
 | _ => cases hk
omit [Sg] in
theorem alloc_ind (hk : kindOf env op = 1) : Makes id fun H => evOp op env call id tm H := by
 cases op with
 | alloc e => exact .bnd fun _ => .newCells _ _
 | box e x => exact .bnd fun _ => .newCells _ _
 | buildSlice t n ps => exact .bnd fun _ => .bnd fun _ => .bnd fun _ => .bnd fun _ => .bnd fun _ => .chk (.bnd fun _ => .newSlice _ _ _ _)
 | makeMap t r =>
  cases r with
  | none => exact .newMap
  | some x => exact .bnd fun _ => .bnd fun _ => .chk .newMap
 | makeSlice t l c => exact .bnd fun _ => .bnd fun _ => .bnd fun _ => .bnd fun _ => .bnd fun _ => .bnd fun _ => .bnd fun _ => .chk (.bnd fun _ => .newSlice _ _ _ _)
 | slice t x lo hi mx =>
  have hk' : sliceKind (env.und t) = 1 := hk
  exfalso
  unfold sliceKind at hk'
  split at hk' <;> cases hk'
 | convert s d x =>
  have hk' : convKind (env.und d) = 1 := hk
  refine .bnd fun v => ?_
  show Makes id fun H => bnd (env.und s) fun sd => bnd (env.und d) fun dd => orO (convTo env H id sd dd v) (convSym env H sd dd v)
  refine .bnd fun sd => ?_
  cases hd : env.und d with
  | none => intro H v H' h; cases h
  | some dd =>
   rw [hd] at hk'
   show Makes id fun H => orO (convTo env H id sd dd v) (convSym env H sd dd v)
   cases dd <;> first | (cases hk'; done) | skip
   rename_i e
   cases v <;> first | (intro H v H' h; cases h; done) | skip
   rename_i s
   show Makes id fun H => orO (toBytes env H id e s.data.toList) none
   refine Makes.orN ?_
   unfold toBytes
   refine .bnd fun _ => .bnd fun _ => .chk ?_
   simp only [fN_eq]
   exact .some _ _
 | call c =>
  have hk' : callKind c.callee = 1 := hk
  cases hc : c.callee with
  | value f => rw [hc] at hk'; cases hk'
  | invoke r n => rw [hc] at hk'; cases hk'
  | builtin b => rw [hc] at hk'; cases b <;> cases hk'
 | _ => cases hk
omit [Sg] in
theorem read_ind (hk : kindOf env op = 2) : Leaves fun H => evOp op env call id tm H := by
 cases op with
 | load t x => exact .bnd fun _ => .bnd fun _ => .retO _
 | lookup t x i ok => exact .bnd fun _ => .bnd fun _ => .retO _
 | slice t x lo hi mx => exact .bnd fun _ => .bnd fun _ => .bnd fun _ => .bnd fun _ => .bnd fun _ => .retO _
 | convert s d x =>
  have hk' : convKind (env.und d) = 2 := hk
  refine .bnd fun v => ?_
  show Leaves fun H => bnd (env.und s) fun sd => bnd (env.und d) fun dd => orO (convTo env H id sd dd v) (convSym env H sd dd v)
  refine .bnd fun sd => ?_
  cases hd : env.und d with
  | none => intro H v H' h; cases h
  | some dd =>
   rw [hd] at hk'
   refine Leaves.orO ?_ ?_
   rotate_left
   ·
    cases dd <;> first | (cases hk'; done) | skip
    all_goals cases v <;> first | exact .retO _ | (intro H v H' h; cases h; done) | skip
    rename_i q n c
    cases q with
    | none => intro H v H' h; cases h
    | some q => exact .bnd fun _ => .bnd fun _ => .chk (.bnd fun _ => .retO _)
   cases dd <;> first | (cases hk'; done) | skip
   case pointer e =>
    cases v <;> first | (intro H v H' h; cases h; done) | skip
    rename_i q
    refine .chk ?_
    cases q with
    | none => intro H v H' h; cases h
    | some q => exact .bnd fun _ => .chk (.bnd fun _ => .bnd fun _ => .chk (.some _))
   case unsafePointer =>
    cases v <;> first | (intro H v H' h; cases h; done) | skip
    rename_i q
    refine .bnd fun _ => ?_
    cases q with
    | none => intro H v H' h; cases h
    | some q => exact .bnd fun _ => .chk (.bnd fun _ => .bnd fun _ => .chk (.some _))
   cases v <;> first | exact .some _ | (intro H v H' h; cases h; done) | skip
   rename_i a n c
   show Leaves fun H => bnd (asSlice sd) fun e => ofBytes env H e a n
   refine .bnd fun e => ?_
   unfold ofBytes
   refine .bnd fun _ => .chk ?_
   cases a with
   | none => exact .some _
   | some a => exact .bnd fun _ => .bnd fun _ => .some _
 | call c =>
  have hk' : callKind c.callee = 2 := hk
  refine .bnd fun args => ?_
  cases hc : c.callee with
  | value f => rw [hc] at hk'; cases hk'
  | invoke r n => rw [hc] at hk'; cases hk'
  | builtin b =>
   rw [hc] at hk'
   cases b <;> first | (cases hk'; done) | skip
   ·
    exact .bnd fun _ => .bnd fun _ => .bnd fun _ => .bnd fun _ => .chk (.some _)
   ·
    exact .bnd fun _ => .bnd fun _ => .bnd fun _ => .retO _
   ·
    exact .retO _
   ·
    exact .retO _
 | _ => cases hk
end kinds
end Go.Ev
namespace Go.Ev
open Go.RowKit
variable [Sg]
omit [Sg] in
theorem tb_eq (m i : Nat) : tb m i = m.testBit i := by
 have h : tb m i = ((m >>> i) % 2).beq 1 := rfl
 rw [h, Nat.testBit_eq_decide_div_mod_eq, Nat.shiftRight_eq_div_pow]
 cases hb : (m / 2 ^ i % 2).beq 1 with
 | true => simp [Nat.eq_of_beq_eq_true hb]
 | false => simp [Nat.ne_of_beq_eq_false hb]
omit [Sg] in
theorem tb_lor (a b i : Nat) : tb (Nat.lor a b) i = (tb a i || tb b i) := by rw [tb_eq, tb_eq, tb_eq]; exact Nat.testBit_or a b i
omit [Sg] in
theorem tb_land (a b i : Nat) : tb (Nat.land a b) i = (tb a i && tb b i) := by rw [tb_eq, tb_eq, tb_eq]; exact Nat.testBit_and a b i
omit [Sg] in
theorem tb_zero (i : Nat) : tb 0 i = false := by rw [tb_eq]; simp
omit [Sg] in
theorem tb_bit (j i : Nat) : tb (bit j) i = decide (j = i) := by
 rw [tb_eq]
 have : bit j = 2 ^ j := by show 1 <<< j = 2 ^ j; rw [Nat.shiftLeft_eq, Nat.one_mul]
 rw [this, Nat.testBit_two_pow]
omit [Sg] in
theorem tb_dstM (d : Option Tmp) (t : Nat) : tb (dstM d) t = true ↔ d = some t := by
 cases d with
 | none => show tb 0 t = true ↔ _; rw [tb_zero]; simp
 | some d => show tb (bit d) t = true ↔ _; rw [tb_bit]; simp
omit [Sg] in
theorem tb_looksM {t : Nat} : ∀ {l : List Operand}, Operand.tmp t ∈ l -> tb (looksM l) t = true
 | [], h => by cases h
 | x :: l, h => by
  show tb (Nat.lor (dstM (tmpOf x)) (looksM l)) t = true
  rw [tb_lor]
  rcases List.mem_cons.1 h with rfl | h
  ·
   have : tb (dstM (tmpOf (.tmp t))) t = true := (tb_dstM _ _).2 rfl
   simp [this]
  ·
   simp [tb_looksM h]
omit [Sg] in
theorem binds_eq (e : Edge) : bindsB e = Region.binds .any e := by
 obtain ⟨o, g⟩ := e
 cases g <;> rfl
def Edge0 (ops : Array Oper) (i j : Nat) : Prop := ∃ o e, ops[j]? = some o /\ e ∈ o.after /\ Region.binds .any e = true /\ e.on = i
inductive Anc (ops : Array Oper) : Nat -> Nat -> Prop
 | one {i j : Nat} (h : Edge0 ops i j) : Anc ops i j
 | step {i k j : Nat} (h : Anc ops i k) (h' : Edge0 ops k j) : Anc ops i j
def gdst (ops : Array Oper) (o : Oper) : Option Tmp := o.guard.bind fun g => (ops[g.1]?).bind (·.dst)
def LooksAt (ops : Array Oper) (o : Oper) (t : Nat) : Prop := Operand.tmp t ∈ looksL o.op \/ gdst ops o = some t
def Clash (ops : Array Oper) (a b : Oper) : Prop := ∃ t, (a.dst = some t /\ (LooksAt ops b t \/ b.dst = some t)) \/ (b.dst = some t /\ LooksAt ops a t)
structure SpotOk (env : Env) (ops : Array Oper) (s : Spot) (o : Oper) : Prop where
 op : ops[s.idx]? = some o
 mask : ∀ k, tb s.mask k = true -> Anc ops k s.idx
 kind : s.kind = kindOf env o.op
 looks : ∀ t, LooksAt ops o t -> tb s.looks t = true
 dst : ∀ t, o.dst = some t -> tb s.dst t = true
omit [Sg] in
theorem findS_some {i : Nat} {s : Spot} : ∀ {acc : List Spot}, findS i acc = some s -> s ∈ acc /\ s.idx = i
 | [], h => by cases h
 | a :: acc, h => by
  have h' : ifB (Nat.beq a.idx i) (some a) (findS i acc) = some s := h
  cases hb : Nat.beq a.idx i with
  | true => rw [hb, ifB_true] at h'; cases h'; exact ⟨by simp, Nat.eq_of_beq_eq_true hb⟩
  | false => rw [hb, ifB_false] at h'; exact ⟨by simp [(findS_some h').1], (findS_some h').2⟩
def EarlyOk (env : Env) (ops : Array Oper) (a b : Nat) (es : List Nat) : Prop := ∀ m ∈ es, a < m /\ Anc ops m b /\ ∃ o, ops[m]? = some o /\ kindOf env o.op = 1
def PairOk (env : Env) (ops : Array Oper) (hot : List (Nat × Nat × List Nat)) (a b : Nat) : Prop :=
 ∀ oa ob, ops[a]? = some oa -> ops[b]? = some ob -> Anc ops a b \/
  (¬ Clash ops oa ob /\ ¬ (kindOf env oa.op = 3 /\ kindOf env ob.op = 3) /\ (kindOf env oa.op = 3 /\ kindOf env ob.op = 2 \/ kindOf env oa.op = 2 /\ kindOf env ob.op = 3 -> ∃ es, (a, b, es) ∈ hot /\ EarlyOk env ops a b es))
omit [Sg] in
theorem earlyOf_ok {env : Env} {ops : Array Oper} {a b : Spot} {ob : Oper} (hb : SpotOk env ops b ob) : ∀ {l : List Spot}, (∀ s ∈ l, ∃ o, SpotOk env ops s o) -> EarlyOk env ops a.idx b.idx (earlyOf a b l)
 | [], _ => fun m hm => by cases hm
 | c :: l, hl => by
  have e : earlyOf a b (c :: l) = ifB (Nat.ble (Nat.succ a.idx) c.idx && Nat.beq c.kind 1 && tb b.mask c.idx) (c.idx :: earlyOf a b l) (earlyOf a b l) := rfl
  have ih := earlyOf_ok (a := a) hb (l := l) fun s hs => hl s (by simp [hs])
  rw [e]
  cases hc : (Nat.ble (Nat.succ a.idx) c.idx && Nat.beq c.kind 1 && tb b.mask c.idx) with
  | false => rw [ifB_false]; exact ih
  | true =>
   rw [ifB_true]
   simp only [Bool.and_eq_true] at hc
   intro m hm
   rcases List.mem_cons.1 hm with rfl | hm
   ·
    obtain ⟨o, ho⟩ := hl c (by simp)
    exact ⟨Nat.le_of_ble_eq_true hc.1.1, hb.mask _ hc.2, o, ho.op, by rw [<- ho.kind]; exact Nat.eq_of_beq_eq_true hc.1.2⟩
   ·
    exact ih m hm
omit [Sg] in
theorem kindOf_le (env : Env) (op : Op) : kindOf env op <= 3 := by
 have c1 : ∀ x, convKind x <= 3 := fun x => by unfold convKind; split <;> decide
 have c2 : ∀ x, callKind x <= 3 := fun x => by unfold callKind; split <;> decide
 have c3 : ∀ x, sliceKind x <= 3 := fun x => by unfold sliceKind; split <;> decide
 unfold kindOf
 split <;> first | exact c1 _ | exact c2 _ | exact c3 _ | decide
omit [Sg] in
theorem no_clash {env : Env} {ops : Array Oper} {a b : Spot} {oa ob : Oper} (ha : SpotOk env ops a oa) (hb : SpotOk env ops b ob) (h : clash a b = false) : ¬ Clash ops oa ob := by
 have h0 : Nat.lor (Nat.land a.dst (Nat.lor b.looks b.dst)) (Nat.land b.dst a.looks) = 0 := by
  unfold clash at h
  simp only [Bool.not_eq_false'] at h
  exact Nat.eq_of_beq_eq_true h
 rintro ⟨t, h⟩
 have h1 : tb (Nat.lor (Nat.land a.dst (Nat.lor b.looks b.dst)) (Nat.land b.dst a.looks)) t = false := by rw [h0, tb_zero]
 rw [tb_lor, tb_land, tb_lor, tb_land] at h1
 rcases h with ⟨h2, h3⟩ | ⟨h2, h3⟩
 ·
  rw [ha.dst t h2] at h1
  rcases h3 with h3 | h3
  ·
   rw [hb.looks t h3] at h1; simp at h1
  ·
   rw [hb.dst t h3] at h1; simp at h1
 ·
  rw [hb.dst t h2, ha.looks t h3] at h1; simp at h1
omit [Sg] in
theorem pairS_ok {env : Env} {ops : Array Oper} {a b : Spot} {oa ob : Oper} (ha : SpotOk env ops a oa) (hb : SpotOk env ops b ob) {h : Bool} (hp : pairS a b = some h) :
  Anc ops a.idx b.idx \/ (¬ Clash ops oa ob /\ ¬ (kindOf env oa.op = 3 /\ kindOf env ob.op = 3) /\ (kindOf env oa.op = 3 /\ kindOf env ob.op = 2 \/ kindOf env oa.op = 2 /\ kindOf env ob.op = 3 -> h = true)) := by
 unfold pairS at hp
 cases hm : tb b.mask a.idx with
 | true => exact .inl (hb.mask _ hm)
 | false =>
  rw [hm, ifB_false] at hp
  cases hc : clash a b with
  | true => rw [hc, ifB_true] at hp; cases hp
  | false =>
   rw [hc, ifB_false] at hp
   cases h6 : Nat.beq (Nat.add a.kind b.kind) 6 with
   | true => rw [h6, ifB_true] at hp; cases hp
   | false =>
    rw [h6, ifB_false] at hp
    cases hp
    refine .inr ⟨no_clash ha hb hc, ?_, ?_⟩
    ·
     rintro ⟨h1, h2⟩
     rw [ha.kind, hb.kind, h1, h2] at h6; cases h6
    ·
     rintro (⟨h1, h2⟩ | ⟨h1, h2⟩) <;> (rw [ha.kind, hb.kind, h1, h2]; rfl)
omit [Sg] in
theorem pairsS_ok {env : Env} {ops : Array Oper} {b : Spot} {ob : Oper} (hb : SpotOk env ops b ob) {all : List Spot} (hall : ∀ s ∈ all, ∃ o, SpotOk env ops s o) : ∀ {acc : List Spot} {hs : List (Nat × Nat × List Nat)}, pairsS b all acc = some hs -> (∀ s ∈ acc, ∃ o, SpotOk env ops s o) ->
  ∀ s ∈ acc, PairOk env ops hs s.idx b.idx
 | [], _, _, _ => fun s h => by cases h
 | a :: acc, hs, h, hacc => by
  have h' : bnd (pairS a b) (fun h => bnd (pairsS b all acc) fun l => some (ifB h ((a.idx, b.idx, earlyOf a b all) :: l) l)) = some hs := h
  simp only [bnd_eq] at h'
  obtain ⟨hh, hp, l, hl, e⟩ := h'
  cases e
  have sub : ∀ p, p ∈ l -> p ∈ ifB hh ((a.idx, b.idx, earlyOf a b all) :: l) l := fun q hq => by
   cases hh with
   | false => rw [ifB_false]; exact hq
   | true => rw [ifB_true]; exact List.mem_cons_of_mem _ hq
  intro s hs'
  rcases List.mem_cons.1 hs' with rfl | hs'
  ·
   intro oa ob' hoa hob
   obtain ⟨o, ho⟩ := hacc s (by simp)
   have : oa = o := by rw [ho.op] at hoa; exact (Option.some.inj hoa).symm
   subst this
   have : ob' = ob := by rw [hb.op] at hob; exact (Option.some.inj hob).symm
   subst this
   rcases pairS_ok ho hb hp with h | ⟨h1, h2, h3⟩
   ·
    exact .inl h
   ·
    exact .inr ⟨h1, h2, fun hk => ⟨_, by rw [h3 hk, ifB_true]; exact List.mem_cons_self, earlyOf_ok hb hall⟩⟩
  ·
   intro oa ob' hoa hob
   rcases pairsS_ok hb hall hl (fun s hs => hacc s (by simp [hs])) s hs' oa ob' hoa hob with h | ⟨h1, h2, h3⟩
   ·
    exact .inl h
   ·
    exact .inr ⟨h1, h2, fun hk => (h3 hk).imp fun es h => ⟨sub _ h.1, h.2⟩⟩
omit [Sg] in
theorem maskOf_ok {env : Env} {ops : Array Oper} {acc : List Spot} (hacc : ∀ s ∈ acc, ∃ o, SpotOk env ops s o) {j : Nat} {o : Oper} (hj : ops[j]? = some o) :
  ∀ {l : List Edge} {m : Nat}, maskOf acc l = some m -> (∀ e ∈ l, e ∈ o.after) -> (∀ k, tb m k = true -> Anc ops k j) /\ ∀ e ∈ l, Region.binds .any e = true -> ∃ s ∈ acc, s.idx = e.on
 | [], m, h, _ => by
  have h' : some 0 = some m := h
  cases h'
  exact ⟨fun k hk => (by rw [tb_zero] at hk; cases hk), fun e he => (by cases he)⟩
 | e :: l, m, h, hl => by
  have h' : ifB (bindsB e) (bnd (findS e.on acc) fun s => bnd (maskOf acc l) fun m => fN (Nat.lor (Nat.lor s.mask (bit e.on)) m) some) (maskOf acc l) = some m := h
  cases hb : bindsB e with
  | false =>
   rw [hb, ifB_false] at h'
   obtain ⟨h1, h2⟩ := maskOf_ok hacc hj h' fun e he => hl e (by simp [he])
   refine ⟨h1, fun e' he' hbe => ?_⟩
   rcases List.mem_cons.1 he' with rfl | he'
   ·
    rw [<- binds_eq, hb] at hbe; cases hbe
   ·
    exact h2 e' he' hbe
  | true =>
   rw [hb, ifB_true] at h'
   simp only [bnd_eq, fN_eq] at h'
   obtain ⟨s, hs, m', hm', e'⟩ := h'
   cases e'
   obtain ⟨h1, h2⟩ := maskOf_ok hacc hj hm' fun e he => hl e (by simp [he])
   obtain ⟨hsm, hsi⟩ := findS_some hs
   have hedge : Edge0 ops e.on j := ⟨o, e, hj, hl e (by simp), by rw [<- binds_eq]; exact hb, rfl⟩
   refine ⟨fun k hk => ?_, fun e' he' hbe => ?_⟩
   ·
    rw [tb_lor, tb_lor, tb_bit] at hk
    simp only [Bool.or_eq_true, decide_eq_true_eq] at hk
    rcases hk with (hk | hk) | hk
    ·
     obtain ⟨os, hos⟩ := hacc s hsm
     have := hos.mask k hk
     rw [hsi] at this
     exact .step this hedge
    ·
     subst hk; exact .one hedge
    ·
     exact h1 k hk
   ·
    rcases List.mem_cons.1 he' with rfl | he'
    ·
     exact ⟨s, hsm, hsi⟩
    ·
     exact h2 e' he' hbe
omit [Sg] in
theorem guardM_ok {ops : Array Oper} {o : Oper} {t : Nat} (h : gdst ops o = some t) : tb (guardM ops o.guard) t = true := by
 unfold guardM
 rw [tb_dstM]
 unfold gdst at h
 cases hg : o.guard with
 | none => rw [hg] at h; cases h
 | some g =>
  rw [hg] at h
  simp only [Option.bind_some] at h
  rw [bnd_eq]
  refine ⟨g, rfl, ?_⟩
  rw [bnd_eq]
  cases hog : ops[g.1]? with
  | none => rw [hog] at h; cases h
  | some og =>
   rw [hog] at h
   refine ⟨og, ?_, h⟩
   rw [nthL_eq]; simpa using hog
omit [Sg] in
theorem spotOf_ok {env : Env} {ops : Array Oper} {i m : Nat} {o : Oper} {s : Spot} (h : spotOf env ops i m o = some s) (hi : ops[i]? = some o) (hm : ∀ k, tb m k = true -> Anc ops k i) : SpotOk env ops s o /\ s.idx = i := by
 unfold spotOf at h
 simp only [fN_eq] at h
 cases h
 refine ⟨⟨hi, hm, rfl, fun t ht => ?_, fun t ht => (tb_dstM _ _).2 ht⟩, rfl⟩
 show tb (Nat.lor _ _) t = true
 rw [tb_lor]
 rcases ht with ht | ht
 ·
  rw [tb_looksM ht]; rfl
 ·
  rw [guardM_ok ht]; simp
omit [Sg] in
theorem planL_ok {env : Env} {ops : Array Oper} : ∀ (l : List Oper) (i : Nat) (acc : List Spot) (hot : List (Nat × Nat × List Nat)), ops.toList.drop i = l -> planL env ops l i acc = some hot ->
  (∀ s ∈ acc, ∃ o, SpotOk env ops s o) -> (∀ k, k < i ↔ ∃ s ∈ acc, s.idx = k) ->
  (∀ a b, a < b -> i <= b -> PairOk env ops hot a b) /\ (∀ b, i <= b -> ∀ a, Edge0 ops a b -> a < b)
 | [], i, acc, hot, hl, _, _, _ => by
  have hlen : ops.size <= i := by
   have := List.drop_eq_nil_iff.1 hl
   simpa using this
  have none : ∀ b, i <= b -> ops[b]? = none := fun b hb => Array.getElem?_eq_none (by omega)
  refine ⟨fun a b _ hib oa ob _ hob => ?_, fun b hib a ⟨o, e, ho, _⟩ => ?_⟩
  ·
   rw [none b hib] at hob; cases hob
  ·
   rw [none b hib] at ho; cases ho
 | o :: l, i, acc, hot, hl, h, hacc, hidx => by
  have ho : ops[i]? = some o := by
   have : (ops.toList.drop i)[0]? = some o := by rw [hl]; rfl
   rw [List.getElem?_drop] at this
   simpa using this
  have hl' : ops.toList.drop (i + 1) = l := by
   have : (ops.toList.drop i).drop 1 = l := by rw [hl]; rfl
   rwa [List.drop_drop] at this
  have h' : bnd (maskOf acc o.after.toList) (fun m => bnd (spotOf env ops i m o) fun s => bnd (pairsS s acc acc) fun hs => bnd (planL env ops l (Nat.succ i) (s :: acc)) fun r => some (appL hs r)) = some hot := h
  simp only [bnd_eq] at h'
  obtain ⟨m, hm, s, hs, hs', hps, r, hr, e⟩ := h'
  cases e
  obtain ⟨m1, m2⟩ := maskOf_ok hacc ho hm fun e he => by simpa using he
  obtain ⟨hso, hsi⟩ := spotOf_ok hs ho m1
  obtain ⟨r1, r2⟩ := planL_ok l (i + 1) (s :: acc) r hl' hr
   (fun t ht => by
    rcases List.mem_cons.1 ht with rfl | ht
    ·
     exact ⟨o, hso⟩
    ·
     exact hacc t ht)
   (fun k => by
    constructor
    ·
     intro hk
     by_cases e : k = i
     ·
      exact ⟨s, by simp, by rw [hsi, e]⟩
     ·
      obtain ⟨t, ht, e'⟩ := (hidx k).1 (by omega)
      exact ⟨t, by simp [ht], e'⟩
    ·
     rintro ⟨t, ht, e⟩
     rcases List.mem_cons.1 ht with rfl | ht
     ·
      omega
     ·
      have := (hidx k).2 ⟨t, ht, e⟩; omega)
  have weak : ∀ {x : List (Nat × Nat × List Nat)} {a b}, (∀ p ∈ x, p ∈ appL hs' r) -> PairOk env ops x a b -> PairOk env ops (appL hs' r) a b := by
   intro x a b hx hp oa ob h1 h2
   rcases hp oa ob h1 h2 with h | ⟨g1, g2, g3⟩
   ·
    exact .inl h
   ·
    exact .inr ⟨g1, g2, fun hk => (g3 hk).imp fun es h => ⟨hx _ h.1, h.2⟩⟩
  refine ⟨fun a b hab hib => ?_, fun b hib a he => ?_⟩
  ·
   by_cases e : b = i
   ·
    subst e
    obtain ⟨t, ht, e'⟩ := (hidx a).1 hab
    have := pairsS_ok hso hacc hps hacc t ht
    rw [e', hsi] at this
    exact weak (fun p hp => mem_appL.2 (.inl hp)) this
   ·
    exact weak (fun p hp => mem_appL.2 (.inr hp)) (r1 a b hab (by omega))
  ·
   by_cases e : b = i
   ·
    subst e
    obtain ⟨o', e, ho', hem, hbe, rfl⟩ := he
    rw [ho] at ho'; cases ho'
    exact (hidx _).2 (m2 e (by simpa using hem) hbe)
   ·
    exact r2 b (by omega) a he
omit [Sg] in
theorem plan_ok {env : Env} {ops : Array Oper} {hot : List (Nat × Nat × List Nat)} (h : plan env ops = some hot) : (∀ a b, a < b -> PairOk env ops hot a b) /\ ∀ a b, Edge0 ops a b -> a < b := by
 obtain ⟨h1, h2⟩ := planL_ok ops.toList 0 [] hot (by simp) h (by simp) (by simp)
 exact ⟨fun a b hab => h1 a b hab (Nat.zero_le _), fun a b he => h2 b (Nat.zero_le _) a he⟩
def TT (tr : List Snap) (r : Tm × Heap) (k : Nat) : Tm := match tr[k]? with
 | some s => s.tm
 | none => r.1
def KK (tr : List Snap) (r : Tm × Heap) (k : Nat) : Heap := match tr[k]? with
 | some s => s.H
 | none => r.2
def VV (tr : List Snap) (k : Nat) : Value := match tr[k]? with
 | some s => s.v
 | none => undef
omit [Sg] in
theorem trace_ok {env : Env} {call : Call} {all : Array Oper} : ∀ (l : List Oper) (id : Nat) (tm : Tm) (H : Heap) (tr : List Snap) (r : Tm × Heap), trace env call all l id tm H = some (tr, r) ->
  TT tr r 0 = tm /\ KK tr r 0 = H /\ TT tr r l.length = r.1 /\ KK tr r l.length = r.2 /\ ∀ k o, l[k]? = some o ->
   TT tr r (k + 1) = putT (TT tr r k) o.dst (VV tr k) /\ (wantedB o all (TT tr r k) = true -> evOp o.op env call (id + k) (TT tr r k) (KK tr r k) = some (VV tr k, KK tr r (k + 1))) /\
   (wantedB o all (TT tr r k) = false -> VV tr k = undef /\ KK tr r (k + 1) = KK tr r k) /\ ∃ s, tr[k]? = some s /\ s.tm = TT tr r k /\ s.H = KK tr r k /\ s.v = VV tr k /\ s.H' = KK tr r (k + 1)
 | [], id, tm, H, tr, r, h => by
  have h' : some (([] : List Snap), tm, H) = some (tr, r) := h
  cases h'
  exact ⟨rfl, rfl, rfl, rfl, fun k o ho => by cases ho⟩
 | o :: l, id, tm, H, tr, r, h => by
  have h' : ifB (wantedB o all tm) (bnd (evOp o.op env call id tm H) fun p => bnd (trace env call all l (Nat.succ id) (putT tm o.dst p.1) p.2) fun r => some (⟨tm, H, p.1, p.2⟩ :: r.1, r.2))
   (bnd (trace env call all l (Nat.succ id) (putT tm o.dst undef) H) fun r => some (⟨tm, H, undef, H⟩ :: r.1, r.2)) = some (tr, r) := h
  cases hw : wantedB o all tm with
  | true =>
   rw [hw, ifB_true] at h'
   simp only [bnd_eq] at h'
   obtain ⟨⟨v, H1⟩, hop, ⟨t, r'⟩, ht, e⟩ := h'
   cases e
   obtain ⟨a1, a2, a3, a4, a5⟩ := trace_ok l (id + 1) _ _ t _ ht
   refine ⟨rfl, rfl, a3, a4, fun k o' hk => ?_⟩
   cases k with
   | zero =>
    cases hk
    refine ⟨a1, fun _ => ?_, fun hf => ?_, _, rfl, rfl, rfl, rfl, a2.symm⟩
    ·
     have h3 : some (v, H1) = some (v, KK t r' 0) := by rw [show KK t r' 0 = H1 from a2]
     exact hop.trans h3
    ·
     have hf' : wantedB o all tm = false := hf
     rw [hw] at hf'; cases hf'
   | succ k =>
    have hidx : id + (k + 1) = id + 1 + k := by omega
    rw [hidx]
    exact a5 k o' hk
  | false =>
   rw [hw, ifB_false] at h'
   simp only [bnd_eq] at h'
   obtain ⟨⟨t, r'⟩, ht, e⟩ := h'
   cases e
   obtain ⟨a1, a2, a3, a4, a5⟩ := trace_ok l (id + 1) _ _ t _ ht
   refine ⟨rfl, rfl, a3, a4, fun k o' hk => ?_⟩
   cases k with
   | zero =>
    cases hk
    refine ⟨a1, fun hf => ?_, fun _ => ⟨rfl, a2⟩, _, rfl, rfl, rfl, rfl, a2.symm⟩
    have hf' : wantedB o all tm = true := hf
    rw [hw] at hf'; cases hf'
   | succ k =>
    have hidx : id + (k + 1) = id + 1 + k := by omega
    rw [hidx]
    exact a5 k o' hk
omit [Sg] in
theorem all2_ok {f : Value -> Value -> Bool} (hf : ∀ x y, f x y = true -> x = y) : ∀ {l m : List Value}, all2 f l m = true -> l = m
 | [], [], _ => rfl
 | [], _ :: _, h => by cases h
 | _ :: _, [], h => by cases h
 | a :: l, b :: m, h => by
  have h' : (f a b && all2 f l m) = true := h
  rw [Bool.and_eq_true] at h'
  rw [hf a b h'.1, all2_ok hf h'.2]
omit [Sg] in
theorem sameA_ok {a b : Option Addr} (h : sameA a b = true) : a = b := by
 cases a with
 | none => cases b with
  | none => rfl
  | some b => cases h
 | some a => cases b with
  | none => cases h
  | some b =>
   have h' : (Nat.beq a.block b.block && Nat.beq a.off b.off && noSpot a && noSpot b) = true := h
   simp only [Bool.and_eq_true] at h'
   obtain ⟨⟨⟨h1, h2⟩, h3⟩, h4⟩ := h'
   obtain ⟨ab, ao, as⟩ := a
   obtain ⟨bb, bo, bs⟩ := b
   rw [noSpot_eq] at h3 h4
   dsimp only at *
   rw [Nat.eq_of_beq_eq_true h1, Nat.eq_of_beq_eq_true h2, h3, h4]
omit [Sg] in
theorem sameN_ok {a b : Option Nat} (h : sameN a b = true) : a = b := by
 cases a <;> cases b <;> first | rfl | (cases h; done) | skip
 rw [Nat.eq_of_beq_eq_true h]
omit [Sg] in
theorem sameStep_ok {ih : Value -> Value -> Bool} (hf : ∀ x y, ih x y = true -> x = y) (x y : Value) (h : sameStep ih x y = true) : x = y := by
 unfold sameStep at h
 split at h
 ·
  rename_i a b; cases a <;> cases b <;> first | rfl | (cases h; done)
 ·
  simp only [Bool.and_eq_true] at h
  have h2 := h.2
  rw [eqI_eq, beq_iff_eq] at h2
  rw [kn_eq h.1, h2]
 ·
  rename_i a b
  rw [same_eq, beq_iff_eq] at h
  have : a = b := by
   obtain ⟨⟨a⟩⟩ := a; obtain ⟨⟨b⟩⟩ := b
   simp only at h; rw [h]
  rw [this]
 ·
  rw [sameA_ok h]
 ·
  simp only [Bool.and_eq_true] at h
  rw [sameA_ok h.1.1, Nat.eq_of_beq_eq_true h.1.2, Nat.eq_of_beq_eq_true h.2]
 ·
  rw [sameN_ok h]
 ·
  simp only [Bool.and_eq_true] at h
  rw [Nat.eq_of_beq_eq_true h.1.1, Array.ext' (all2_ok hf h.1.2), Array.ext' (all2_ok hf h.2)]
 ·
  rfl
 ·
  simp only [Bool.and_eq_true] at h
  rw [Nat.eq_of_beq_eq_true h.1, hf _ _ h.2]
 ·
  rfl
 ·
  rw [Nat.eq_of_beq_eq_true h]
 ·
  rw [Array.ext' (all2_ok hf h)]
 ·
  rw [Array.ext' (all2_ok hf h)]
 ·
  cases h
omit [Sg] in
theorem sameV_ok : ∀ (d : Nat) (x y : Value), sameV d x y = true -> x = y
 | 0, _, _, h => by cases h
 | d + 1, x, y, h => sameStep_ok (sameV_ok d) x y h
omit [Sg] in
theorem sameRes_ok {r : Res} {v : Value} (h : sameRes r v = true) : ∃ H, r = some (v, H) := by
 cases r with
 | none => cases h
 | some p => exact ⟨p.2, by rw [<- sameV_ok 6 p.1 v h]⟩
omit [Sg] in
theorem hotOk_mem {env : Env} {call : Call} {all : Array Oper} {base : Nat} {tr : List Snap} : ∀ {l : List (Nat × Nat × List Nat)}, hotOk env call all base tr l = some () -> ∀ p ∈ l, hotOne env call all base tr p = some ()
 | [], _, p, hp => by cases hp
 | q :: l, h, p, hp => by
  have h' : bnd (hotOne env call all base tr q) (fun _ => hotOk env call all base tr l) = some () := h
  rw [bnd_eq] at h'
  obtain ⟨u, hu, h'⟩ := h'
  rcases List.mem_cons.1 hp with rfl | hp
  ·
   exact hu
  ·
   exact hotOk_mem h' p hp
end Go.Ev
namespace Go.Ev
open Go.RowKit
open Classical
variable [Sg]
section mk
variable {env : Env} {call : Call} {ops : Array Oper} {base : Nat} {T : Nat -> Tm} {vv : Nat -> Value}
def Mk (env : Env) (call : Call) (ops : Array Oper) (base : Nat) (T : Nat -> Tm) (vv : Nat -> Value) (i : Nat) (x : Blk) : Prop :=
  ∃ o, ops[i]? = some o /\ kindOf env o.op = 1 /\ wantedB o ops (T i) = true /\ ∀ G, evOp o.op env call (base + i) (T i) G = some (vv i, G.set (base + i) x)
omit [Sg] in
theorem Mk.uniq {i : Nat} {x y : Blk} (h : Mk env call ops base T vv i x) (h' : Mk env call ops base T vv i y) : x = y := by
  obtain ⟨o, h1, _, _, h4⟩ := h
  obtain ⟨o', k1, _, _, k4⟩ := h'
  rw [h1] at k1; cases k1
  have e := (h4 Heap.empty).symm.trans (k4 Heap.empty)
  simp only [Option.some.injEq, Prod.mk.injEq, true_and] at e
  have := congrArg (fun G : Heap => G.get (base + i)) e
  simpa [Heap.get_set_same] using this
end mk
noncomputable def setAll (base : Nat) (ms : List (Nat × Blk)) (H : Heap) : Heap := List.rec (motive := fun _ => Heap) H (fun p _ ih => ih.set (Nat.add base p.1) p.2) ms
omit [Sg] in
theorem setAll_next {base : Nat} {H : Heap} : ∀ {ms : List (Nat × Blk)}, (setAll base ms H).next = H.next
  | [] => rfl
  | _ :: ms => setAll_next (ms := ms)
omit [Sg] in
theorem setAll_get {base : Nat} {H : Heap} {b : Nat} {x : Blk} : ∀ {ms : List (Nat × Blk)}, (setAll base ms H).get b = some x -> H.get b = some x \/ ∃ m, (m, x) ∈ ms /\ b = base + m
  | [], h => .inl h
  | p :: ms, h => by
    have h' : ((setAll base ms H).set (base + p.1) p.2).get b = some x := h
    by_cases e : b = base + p.1
    . subst e
      rw [Heap.get_set_same] at h'
      cases h'
      exact .inr ⟨p.1, by simp, rfl⟩
    . rw [Heap.get_set_ne e] at h'
      rcases setAll_get h' with h1 | ⟨m, h1, h2⟩
      . exact .inl h1
      . exact .inr ⟨m, List.mem_cons_of_mem _ h1, h2⟩
structure Facts (env : Env) (call : Call) (ops : Array Oper) (base : Nat) (T : Nat -> Tm) (K : Nat -> Heap) (vv : Nat -> Value) : Prop where
  pairs : ∀ a b oa ob, a < b -> ops[a]? = some oa -> ops[b]? = some ob -> Anc ops a b \/ (¬ Clash ops oa ob /\ ¬ (kindOf env oa.op = 3 /\ kindOf env ob.op = 3) /\
    (kindOf env oa.op = 3 -> kindOf env ob.op = 2 -> wantedB ob ops (T b) = true -> ∃ ms, (∀ p ∈ ms, a < p.1 /\ Anc ops p.1 b /\ Mk env call ops base T vv p.1 p.2) /\ ∃ H, evOp ob.op env call (base + b) (T b) (setAll base ms (K a)) = some (vv b, H)) /\
    (kindOf env oa.op = 2 -> kindOf env ob.op = 3 -> wantedB oa ops (T a) = true -> ∃ H, evOp oa.op env call (base + a) (T a) (K (b + 1)) = some (vv a, H)))
  back : ∀ a b, Edge0 ops a b -> a < b
  next : ∀ k o, ops[k]? = some o -> T (k + 1) = putT (T k) o.dst (vv k)
  run : ∀ k o, ops[k]? = some o -> wantedB o ops (T k) = true -> evOp o.op env call (base + k) (T k) (K k) = some (vv k, K (k + 1))
  skip : ∀ k o, ops[k]? = some o -> wantedB o ops (T k) = false -> vv k = undef /\ K (k + 1) = K k
omit [Sg] in
theorem lt_size {ops : Array Oper} {i : Nat} {o : Oper} (h : ops[i]? = some o) : i < ops.size := (Array.getElem?_eq_some_iff.1 h).1
section slots
variable {ops : Array Oper} {T : Nat -> Tm} {vv : Nat -> Value}
def Holds (ops : Array Oper) (T : Nat -> Tm) (vv : Nat -> Value) (L : Nat -> Prop) (t : Nat) (x : Value) : Prop :=
  (∃ i o, L i /\ ops[i]? = some o /\ o.dst = some t /\ (∀ k ok, L k -> ops[k]? = some ok -> ok.dst = some t -> k <= i) /\ x = vv i) \/
  ((∀ k ok, L k -> ops[k]? = some ok -> ok.dst ≠ some t) /\ x = slot (T 0) t)
omit [Sg] in
theorem Holds.det {L L' : Nat -> Prop} {t : Nat} {x y : Value} (h : Holds ops T vv L t x) (h' : Holds ops T vv L' t y) (hL : ∀ k ok, ops[k]? = some ok -> ok.dst = some t -> (L k ↔ L' k)) : x = y := by
  rcases h with ⟨i, o, a1, a2, a3, a4, rfl⟩ | ⟨a1, rfl⟩
  . rcases h' with ⟨j, o', b1, b2, b3, b4, rfl⟩ | ⟨b1, _⟩
    . have h1 := b4 i o ((hL i o a2 a3).1 a1) a2 a3
      have h2 := a4 j o' ((hL j o' b2 b3).2 b1) b2 b3
      rw [Nat.le_antisymm h1 h2]
    . exact (b1 i o ((hL i o a2 a3).1 a1) a2 a3).elim
  . rcases h' with ⟨j, o', b1, b2, b3, b4, rfl⟩ | ⟨b1, rfl⟩
    . exact (a1 j o' ((hL j o' b2 b3).2 b1) b2 b3).elim
    . rfl
omit [Sg] in
theorem slot_putT (tm : Tm) (d : Option Tmp) (t : Nat) (v : Value) : slot (putT tm d v) t = if d = some t then v else slot tm t := by
  cases d with
  | none => rfl
  | some d =>
    rw [slot_put]
    by_cases h : t = d
    . subst h; simp
    . rw [if_neg h, if_neg (by simp; exact fun e => h e.symm)]
omit [Sg] in
theorem Holds.put {L L' : Nat -> Prop} {j : Nat} {oj : Oper} {tm : Tm} (hj : ops[j]? = some oj) (hL' : ∀ i, L' i ↔ (L i \/ i = j)) (hlast : ∀ k ok t, oj.dst = some t -> L k -> ops[k]? = some ok -> ok.dst = some t -> k <= j)
    (h : ∀ t, Holds ops T vv L t (slot tm t)) (t : Nat) : Holds ops T vv L' t (slot (putT tm oj.dst (vv j)) t) := by
  rw [slot_putT]
  by_cases hd : oj.dst = some t
  . rw [if_pos hd]
    refine .inl ⟨j, oj, (hL' j).2 (.inr rfl), hj, hd, fun k ok hk hok hkd => ?_, rfl⟩
    rcases (hL' k).1 hk with hk | rfl
    . exact hlast k ok t hd hk hok hkd
    . exact Nat.le_refl _
  . rw [if_neg hd]
    rcases h t with ⟨i, o, a1, a2, a3, a4, a5⟩ | ⟨a1, a2⟩
    . refine .inl ⟨i, o, (hL' i).2 (.inl a1), a2, a3, fun k ok hk hok hkd => ?_, a5⟩
      rcases (hL' k).1 hk with hk | rfl
      . exact a4 k ok hk hok hkd
      . rw [hj] at hok; cases hok; exact (hd hkd).elim
    . refine .inr ⟨fun k ok hk hok hkd => ?_, a2⟩
      rcases (hL' k).1 hk with hk | rfl
      . exact a1 k ok hk hok hkd
      . rw [hj] at hok; cases hok; exact hd hkd
omit [Sg] in
theorem holds_text (hn : ∀ k o, ops[k]? = some o -> T (k + 1) = putT (T k) o.dst (vv k)) : ∀ j, j <= ops.size -> ∀ t, Holds ops T vv (· < j) t (slot (T j) t)
  | 0, _, t => .inr ⟨fun k _ hk => (Nat.not_lt_zero k hk).elim, rfl⟩
  | j + 1, hj, t => by
    have hlt : j < ops.size := hj
    have ho : ops[j]? = some ops[j] := Array.getElem?_eq_getElem hlt
    rw [hn j _ ho]
    exact Holds.put ho (fun i => by omega) (fun k ok t _ hk _ _ => Nat.le_of_lt hk) (holds_text hn j (Nat.le_of_lt hlt)) t
end slots
omit [Sg] in
theorem wantedB_congr {o : Oper} {ops : Array Oper} {tm tm' : Tm} (h : ∀ t, gdst ops o = some t -> slot tm t = slot tm' t) : wantedB o ops tm = wantedB o ops tm' := by
  unfold wantedB
  unfold gdst at h
  cases hg : o.guard with
  | none => rfl
  | some g =>
    rw [hg] at h
    show guardOk ops tm g = guardOk ops tm' g
    unfold guardOk
    rw [nthL_eq]
    have hj : ops.toList[g.1]? = ops[g.1]? := by simp
    rw [hj]
    simp only [Option.bind_some] at h
    cases hq : ops[g.1]? with
    | none => rfl
    | some q =>
      rw [hq] at h
      simp only [bnd_some, Option.bind_some] at h ⊢
      cases hd : q.dst with
      | none => rfl
      | some d => simp only [bnd_some]; rw [h d hd]
structure HG (P : Program) (ρ : Map) (g : Nat -> Option Blk) (nx : Nat) (w : World) : Prop where
  blk : ∀ b x e, g b = some x -> ρ b = some e -> BR P ρ e x w.heap[e.B]?
  inj : ∀ b1 b2 x1 x2 e1 e2, g b1 = some x1 -> g b2 = some x2 -> ρ b1 = some e1 -> ρ b2 = some e2 -> wr x1 = true -> e1.B = e2.B -> b1 = b2
  dom : ∀ b e, ρ b = some e -> b < nx
  lim : nx <= 2 ^ 64
def Sub (ρ : Map) (H : Heap) (X : Nat -> Option Blk) : Prop := ∀ b x, H.get b = some x -> ρ b ≠ none -> X b = some x
theorem HG.hr {P : Program} {ρ : Map} {X : Nat -> Option Blk} {H : Heap} {w : World} (h : HG P ρ X H.next w) (hs : Sub ρ H X) (ht : ∀ b, H.next <= b -> H.get b = none) : HR P ρ H w :=
  ⟨fun b x e h1 h2 => h.blk b x e (hs b x h1 (by rw [h2]; simp)) h2,
   fun b1 b2 x1 x2 e1 e2 h1 h2 h3 h4 => h.inj b1 b2 x1 x2 e1 e2 (hs b1 x1 h1 (by rw [h3]; simp)) (hs b2 x2 h2 (by rw [h4]; simp)) h3 h4, h.dom, h.lim, ht⟩
noncomputable def aug (ρ : Map) (H H' : Heap) (X : Nat -> Option Blk) (b : Nat) : Option Blk :=
  match H'.get b with
  | some x => some x
  | none => if H.get b = none /\ ρ b ≠ none then X b else none
omit [Sg] in
theorem aug_some {ρ : Map} {H H' : Heap} {X : Nat -> Option Blk} {b : Nat} {x : Blk} (h : aug ρ H H' X b = some x) : H'.get b = some x \/ (H'.get b = none /\ H.get b = none /\ ρ b ≠ none /\ X b = some x) := by
  unfold aug at h
  split at h
  . rename_i y hy; cases h; exact .inl hy
  . rename_i hy
    split at h
    . rename_i hc; exact .inr ⟨hy, hc.1, hc.2, h⟩
    . cases h
theorem HG.aug {P : Program} {ρ ρ' : Map} {X : Nat -> Option Blk} {H H' : Heap} {w w' : World} {S : Nat -> Prop} (h : HG P ρ X H.next w) (hs : Sub ρ H X) (hH' : HR P ρ' H' w') (hS : Step S ρ H w ρ' H' w') :
    HG P ρ' (aug ρ H H' X) H'.next w' := by
  have early : ∀ b x e, H.get b = none -> ρ b ≠ none -> X b = some x -> ρ' b = some e -> ρ b = some e /\ e.B < w.heap.size /\ ¬ Mp ρ H e.B \/ (ρ b = some e /\ e.B < w.heap.size /\ wr x = false /\ ¬ Wr ρ H e.B) := by
    intro b x e h1 h2 h3 h4
    have he : ρ b = some e := by
      cases hb : ρ b with
      | none => exact (h2 hb).elim
      | some e0 => have := hS.le b e0 hb; rw [h4] at this; exact this.symm
    have hlt : e.B < w.heap.size := by
      have hb := h.blk b x e h3 he
      rcases Nat.lt_or_ge e.B w.heap.size with h | h
      . exact h
      . rw [Array.getElem?_eq_none h] at hb; cases hb
    cases hw : wr x with
    | true =>
      refine .inl ⟨he, hlt, ?_⟩
      rintro ⟨c, y, f, k1, k2, k3⟩
      have := h.inj b c x y e f h3 (hs c y k1 (by rw [k2]; simp)) he k2 hw k3.symm
      rw [this, k1] at h1; cases h1
    | false =>
      refine .inr ⟨he, hlt, rfl, ?_⟩
      rintro ⟨c, y, f, k1, k2, k3, k4⟩
      have := h.inj c b y x f e (hs c y k1 (by rw [k2]; simp)) h3 k2 he k4 k3
      rw [<- this, k1] at h1; cases h1
  have nwr : ∀ b x e, H.get b = none -> ρ b ≠ none -> X b = some x -> ρ' b = some e -> ρ b = some e /\ e.B < w.heap.size /\ ¬ Wr ρ H e.B := by
    intro b x e h1 h2 h3 h4
    rcases early b x e h1 h2 h3 h4 with ⟨k1, k2, k3⟩ | ⟨k1, k2, _, k3⟩
    . exact ⟨k1, k2, fun ⟨c, y, f, g1, g2, g3, _⟩ => k3 ⟨c, y, f, g1, g2, g3⟩⟩
    . exact ⟨k1, k2, k3⟩
  refine ⟨fun b x e h1 h2 => ?_, fun b1 b2 x1 x2 e1 e2 h1 h2 h3 h4 hw hB => ?_, hH'.dom, hH'.lim⟩
  . rcases aug_some h1 with h1 | ⟨_, h1, h3, h4⟩
    . exact hH'.blk b x e h1 h2
    . obtain ⟨k1, k2, k3⟩ := nwr b x e h1 h3 h4 h2
      rw [hS.keep _ k2 k3]
      exact (h.blk b x e h4 k1).mono hS.le
  . rcases aug_some h1 with h1 | ⟨_, h1, h5, h6⟩
    . rcases aug_some h2 with h2 | ⟨_, h2, h7, h8⟩
      . exact hH'.inj b1 b2 x1 x2 e1 e2 h1 h2 h3 h4 hw hB
      . obtain ⟨k1, k2, k3⟩ := nwr b2 x2 e2 h2 h7 h8 h4
        exact (k3 (hS.wr _ k2 ⟨b1, x1, e1, h1, h3, hB, hw⟩)).elim
    . rcases aug_some h2 with h2 | ⟨_, h2, h7, h8⟩
      . rcases early b1 x1 e1 h1 h5 h6 h3 with ⟨k1, k2, k3⟩ | ⟨_, _, k3, _⟩
        . exact (k3 (hS.mp _ k2 ⟨b2, x2, e2, h2, h4, hB.symm⟩)).elim
        . rw [hw] at k3; cases k3
      . obtain ⟨k1, _, _⟩ := nwr b1 x1 e1 h1 h5 h6 h3
        obtain ⟨k2, _, _⟩ := nwr b2 x2 e2 h2 h7 h8 h4
        exact h.inj b1 b2 x1 x2 e1 e2 h6 h8 k1 k2 hw hB
structure SX (base : Nat) (ρ0 : Map) (H0 : Heap) (w0 : World) (ρ : Map) (X : Nat -> Option Blk) (nx : Nat) (w : World) : Prop where
  ext : ∀ b, ρ b = ρ0 b \/ (ρ0 b = none /\ base <= b)
  os : w.os = w0.os
  tape : w.tape = w0.tape
  output : w.output = w0.output
  size : w0.heap.size <= w.heap.size
  keep : ∀ B, B < w0.heap.size -> ¬ Wr ρ0 H0 B -> w.heap[B]? = w0.heap[B]?
  wr : ∀ b x e, X b = some x -> ρ b = some e -> e.B < w0.heap.size -> wr x = true -> Wr ρ0 H0 e.B
  mp : ∀ b x e, X b = some x -> ρ b = some e -> e.B < w0.heap.size -> Mp ρ0 H0 e.B
  next : H0.next <= nx
omit [Sg] in
theorem SX.aug {base : Nat} {ρ0 : Map} {H0 : Heap} {w0 : World} {ρ ρ' : Map} {X : Nat -> Option Blk} {H H' : Heap} {w w' : World} {S : Nat -> Prop} (h : SX base ρ0 H0 w0 ρ X H.next w) (hs : Sub ρ H X)
    (hS : Step S ρ H w ρ' H' w') (hb : ∀ b, S b -> base <= b) : SX base ρ0 H0 w0 ρ' (aug ρ H H' X) H'.next w' := by
  refine ⟨fun b => ?_, hS.os.trans h.os, hS.tape.trans h.tape, hS.output.trans h.output, Nat.le_trans h.size hS.size, fun B hB hn => ?_, fun b x e h1 h2 hB hw => ?_, fun b x e h1 h2 hB => ?_, Nat.le_trans h.next hS.next⟩
  . rcases hS.ext b with e | ⟨e, s⟩
    . rw [e]; exact h.ext b
    . rcases h.ext b with e' | ⟨e', s'⟩
      . exact .inr ⟨by rw [<- e', e], hb b s⟩
      . exact .inr ⟨e', s'⟩
  . rw [<- h.keep B hB hn]
    refine hS.keep B (Nat.lt_of_lt_of_le hB h.size) ?_
    rintro ⟨b, x, e, h1, h2, h3, h4⟩
    subst h3
    exact hn (h.wr b x e (hs b x h1 (by rw [h2]; simp)) h2 hB h4)
  . rcases aug_some h1 with h1 | ⟨_, h3, h4, h5⟩
    . obtain ⟨c, y, f, k1, k2, k3, k4⟩ := hS.wr e.B (Nat.lt_of_lt_of_le hB h.size) ⟨b, x, e, h1, h2, rfl, hw⟩
      rw [<- k3] at hB ⊢
      exact h.wr c y f (hs c y k1 (by rw [k2]; simp)) k2 hB k4
    . have he : ρ b = some e := by
        cases hb : ρ b with
        | none => exact (h4 hb).elim
        | some e0 => have := hS.le b e0 hb; rw [h2] at this; exact this.symm
      exact h.wr b x e h5 he hB hw
  . rcases aug_some h1 with h1 | ⟨_, h3, h4, h5⟩
    . obtain ⟨c, y, f, k1, k2, k3⟩ := hS.mp e.B (Nat.lt_of_lt_of_le hB h.size) ⟨b, x, e, h1, h2, rfl⟩
      rw [<- k3] at hB ⊢
      exact h.mp c y f (hs c y k1 (by rw [k2]; simp)) k2 hB
    . have he : ρ b = some e := by
        cases hb : ρ b with
        | none => exact (h4 hb).elim
        | some e0 => have := hS.le b e0 hb; rw [h2] at this; exact this.symm
      exact h.mp b x e h5 he hB
section run
variable {P : Program} {env : Env} {call : Call} {ops : Array Oper} {base : Nat} {T : Nat -> Tm} {K : Nat -> Heap} {vv : Nat -> Value}
structure Part (env : Env) (call : Call) (ops : Array Oper) (base : Nat) (T : Nat -> Tm) (K : Nat -> Heap) (vv : Nat -> Value) (ρ0 : Map) (L : Nat -> Prop) (ρ : Map) (X : Nat -> Option Blk) (q : Nat) : Prop where
  sub : Sub ρ (K q) X
  early : ∀ i x, q <= i -> L i -> Mk env call ops base T vv i x -> ρ (base + i) ≠ none -> X (base + i) = some x
  gone : ∀ i o, ops[i]? = some o -> (q <= i \/ (kindOf env o.op ≠ 1 /\ kindOf env o.op ≠ 3)) -> (K q).get (base + i) = none
  late : ∀ i x, i < q -> ¬ L i -> Mk env call ops base T vv i x -> (K q).get (base + i) = some x
  abs1 : ∀ b, b < base -> ρ0 b = none -> (K q).get b = (K 0).get b
  abs2 : ∀ b, b < base -> (K 0).get b = none -> (K q).get b = none
  top : ∀ b, (K q).next <= b -> (K q).get b = none
omit [Sg] in
theorem Facts.made (hF : Facts env call ops base T K vv) {i : Nat} {o : Oper} (hi : ops[i]? = some o) (hk : kindOf env o.op = 1) (hw : wantedB o ops (T i) = true) : ∃ x, Mk env call ops base T vv i x /\ K (i + 1) = (K i).set (base + i) x := by
  have hr := hF.run i o hi hw
  obtain ⟨x, hx⟩ := alloc_ind hk _ _ _ hr
  refine ⟨x, ⟨o, hi, hk, hw, hx⟩, ?_⟩
  have := (hx (K i)).symm.trans hr
  simp only [Option.some.injEq, Prod.mk.injEq, true_and] at this
  exact this.symm
omit [Sg] in
theorem Facts.same (hF : Facts env call ops base T K vv) {i : Nat} {o : Oper} (hi : ops[i]? = some o) (hk : kindOf env o.op = 0 \/ kindOf env o.op = 2) : K (i + 1) = K i := by
  cases hw : wantedB o ops (T i) with
  | false => exact (hF.skip i o hi hw).2
  | true =>
    have hr := hF.run i o hi hw
    rcases hk with hk | hk
    . exact (pure_ind hk _ _ _ hr).1
    . exact read_ind hk _ _ _ hr
variable {ρ0 : Map} {L : Nat -> Prop} {ρ : Map} {X : Nat -> Option Blk}
omit [Sg] in
theorem Part.skip {q : Nat} (h : Part env call ops base T K vv ρ0 L ρ X q) (he : K (q + 1) = K q) (hn : ∀ x, ¬ Mk env call ops base T vv q x) : Part env call ops base T K vv ρ0 L ρ X (q + 1) := by
  refine ⟨by rw [he]; exact h.sub, fun i x hi => h.early i x (by omega), fun i o hi hq => by rw [he]; exact h.gone i o hi (hq.imp (by omega) fun h => h), fun i x hi hL hM => ?_, by rw [he]; exact h.abs1, by rw [he]; exact h.abs2, by rw [he]; exact h.top⟩
  rw [he]
  by_cases e : i = q
  . subst e; exact (hn x hM).elim
  . exact h.late i x (by omega) hL hM
omit [Sg] in
theorem Part.adv (hF : Facts env call ops base T K vv) {q : Nat} {o : Oper} (hq : ops[q]? = some o) (hk : kindOf env o.op ≠ 3) (hun : ¬ L q -> ρ (base + q) = none) (hnx : base + ops.size <= (K q).next) (h : Part env call ops base T K vv ρ0 L ρ X q) :
    Part env call ops base T K vv ρ0 L ρ X (q + 1) /\ (K (q + 1)).next = (K q).next := by
  by_cases h1 : kindOf env o.op = 1
  . cases hw : wantedB o ops (T q) with
    | false =>
      have he := (hF.skip q o hq hw).2
      refine ⟨h.skip he fun x ⟨o', g1, _, g3, _⟩ => ?_, by rw [he]⟩
      rw [hq] at g1; cases g1; rw [hw] at g3; cases g3
    | true =>
      obtain ⟨x, hM, he⟩ := hF.made hq h1 hw
      refine ⟨⟨fun b y hb hr => ?_, fun i y hi => h.early i y (by omega), fun i o' hi hqi => ?_, fun i y hi hL hMy => ?_, fun b hb h0 => ?_, fun b hb h0 => ?_, fun b hb => ?_⟩, by rw [he]; rfl⟩
      . rw [he] at hb
        by_cases e : b = base + q
        . subst e
          rw [Heap.get_set_same] at hb
          cases hb
          exact h.early q _ (Nat.le_refl _) (Classical.byContradiction fun hL => hr (hun hL)) hM hr
        . rw [Heap.get_set_ne e] at hb
          exact h.sub b y hb hr
      . have e : i ≠ q := by
          rintro rfl
          rw [hq] at hi; cases hi
          rcases hqi with hqi | hqi
          . omega
          . exact hqi.1 h1
        rw [he, Heap.get_set_ne (by omega)]
        exact h.gone i o' hi (hqi.imp (by omega) fun h => h)
      . rw [he]
        by_cases e : i = q
        . subst e; rw [hMy.uniq hM, Heap.get_set_same]
        . rw [Heap.get_set_ne (by omega)]; exact h.late i y (by omega) hL hMy
      . rw [he, Heap.get_set_ne (by omega)]; exact h.abs1 b hb h0
      . rw [he, Heap.get_set_ne (by omega)]; exact h.abs2 b hb h0
      . rw [he] at hb ⊢
        have hb' : (K q).next <= b := hb
        rw [Heap.get_set_ne (by have := lt_size hq; omega)]; exact h.top b hb'
  . have hle := kindOf_le env o.op
    have he := hF.same hq (by omega)
    refine ⟨h.skip he fun x ⟨o', g1, g2, _⟩ => ?_, by rw [he]⟩
    rw [hq] at g1; cases g1; exact h1 g2
omit [Sg] in
theorem Part.advTo (hF : Facts env call ops base T K vv) (hun : ∀ i, i < ops.size -> ¬ L i -> ρ (base + i) = none) {q : Nat} (hnx : base + ops.size <= (K q).next) (h : Part env call ops base T K vv ρ0 L ρ X q) : ∀ (d : Nat), q + d <= ops.size ->
    (∀ e o, ops[e]? = some o -> q <= e -> e < q + d -> kindOf env o.op ≠ 3) -> Part env call ops base T K vv ρ0 L ρ X (q + d) /\ (K (q + d)).next = (K q).next
  | 0, _, _ => ⟨h, rfl⟩
  | d + 1, hd, hk => by
    obtain ⟨h1, h2⟩ := Part.advTo hF hun hnx h d (by omega) fun e o he h1 h2 => hk e o he h1 (by omega)
    have hlt : q + d < ops.size := by omega
    have ho : ops[q + d]? = some ops[q + d] := Array.getElem?_eq_getElem hlt
    obtain ⟨h3, h4⟩ := h1.adv hF ho (hk _ _ ho (by omega) (by omega)) (hun _ hlt) (by rw [h2]; exact hnx)
    exact ⟨h3, h4.trans h2⟩
end run
end Go.Ev
namespace Go.Ev
open Go.RowKit
open Classical
variable [Sg]
def lis (listed : Array Bool) (i : Nat) : Prop := listed.getD i false = true
omit [Sg] in
theorem lis_set {listed : Array Bool} {j : Nat} (hj : j < listed.size) (i : Nat) : lis (listed.setIfInBounds j true) i ↔ (lis listed i \/ i = j) := by
 unfold lis
 by_cases e : i = j
 ·
  subst e; simp [hj]
 ·
  rw [getD_set_ne _ (Ne.symm e)]; simp [e]
omit [Sg] in
theorem not_lis {listed : Array Bool} {i : Nat} : listed.getD i true = false ↔ (i < listed.size /\ ¬ lis listed i) := by
 unfold lis
 rcases Nat.lt_or_ge i listed.size with hl | hl
 ·
  simp [hl]
 ·
  simp [Array.getD_eq_getD_getElem?, Array.getElem?_eq_none hl]; omega
def left (listed : Array Bool) : Nat := listed.toList.count false
omit [Sg] in
theorem left_set {listed : Array Bool} {j : Nat} (h : listed.getD j true = false) : left (listed.setIfInBounds j true) + 1 = left listed := by
 have hj := (not_lis.1 h).1
 have hv : listed[j] = false := by simpa [hj] using h
 unfold left
 simp only [Array.toList_setIfInBounds]
 have hlt : j < listed.toList.length := by simpa using hj
 have hm : listed.toList[j] = false := by simpa using hv
 have hpos : 0 < listed.toList.count false := List.count_pos_iff.2 (by rw [<- hm]; exact List.getElem_mem hlt)
 rw [List.count_set hlt, hm]
 have e1 : (if ((false : Bool) == false) = true then 1 else 0) = 1 := rfl
 have e2 : (if ((true : Bool) == false) = true then 1 else 0) = 0 := rfl
 rw [e1, e2]
 omega
omit [Sg] in
theorem left_zero {listed : Array Bool} (h : left listed = 0) (i : Nat) (hi : i < listed.size) : lis listed i := by
 have := List.count_eq_zero.1 h
 unfold lis
 have hm : listed[i] ∈ listed.toList := by
  simp
 cases hb : listed[i] with
 | true => simp [hi, hb]
 | false => rw [hb] at hm; exact (this hm).elim
section
variable {P : Program} {env : Env} (hE : EnvOk P env) {call : Call} (hC : CallsOk P call)
variable {ops : Array Oper} {base : Nat} {T : Nat -> Tm} {K : Nat -> Heap} {vv : Nat -> Value} (hF : Facts env call ops base T K vv)
variable {ρ0 : Map} {w0 : World} {a0 : Act}
def Valid (env : Env) (ops : Array Oper) (L : Nat -> Prop) (q : Nat) : Prop := q <= ops.size /\ ∀ e o, ops[e]? = some o -> kindOf env o.op = 3 -> (L e ↔ e < q)
structure Inv (P : Program) (env : Env) (call : Call) (ops : Array Oper) (base : Nat) (T : Nat -> Tm) (K : Nat -> Heap) (vv : Nat -> Value) (ρ0 : Map) (w0 : World) (a0 : Act)
  (L : Nat -> Prop) (ρ : Map) (X : Nat -> Option Blk) (q : Nat) (a : Act) (w : World) : Prop where
 size : a.tmps.size = a0.tmps.size
 defers : a.defers = a0.defers
 down : ∀ i j, Edge0 ops i j -> L j -> L i
 inb : ∀ i, L i -> i < ops.size
 valid : Valid env ops L q
 least : q = 0 \/ ∃ e o, q = e + 1 /\ ops[e]? = some o /\ kindOf env o.op = 3
 slots : ∃ tm, TR ρ tm a.tmps /\ ∀ t, Holds ops T vv L t (slot tm t)
 hx : HG P ρ X (K q).next w
 un : ∀ i, i < ops.size -> ¬ L i -> ρ (base + i) = none
 nx : base + ops.size <= (K q).next
 part : Part env call ops base T K vv ρ0 L ρ X q
 sx : SX base ρ0 (K 0) w0 ρ X (K q).next w
omit [Sg] in
theorem Anc.down {L : Nat -> Prop} (hd : ∀ i j, Edge0 ops i j -> L j -> L i) {i j : Nat} (h : Anc ops i j) : L j -> L i := by
 induction h with
 | one h => exact hd _ _ h
 | step _ h' ih => exact fun hj => ih (hd _ _ h' hj)
omit [Sg] in
theorem Anc.done {L : Nat -> Prop} (hd : ∀ i j, Edge0 ops i j -> L j -> L i) {i j : Nat} (h : Anc ops i j) (hr : ∀ i, Edge0 ops i j -> L i) : L i := by
 cases h with
 | one h => exact hr _ h
 | step h h' => exact h.down hd (hr _ h')
variable {L : Nat -> Prop} {ρ : Map} {X : Nat -> Option Blk} {q : Nat} {a : Act} {w : World}
variable {j : Nat} {o : Oper}
include hF in
theorem clash_order (hI : Inv P env call ops base T K vv ρ0 w0 a0 L ρ X q a w) (hj : ops[j]? = some o) (hnj : ¬ L j) (hr : ∀ i, Edge0 ops i j -> L i) {k : Nat} {ok : Oper} (hk : ops[k]? = some ok) :
  (k < j -> Clash ops ok o -> L k) /\ (j < k -> Clash ops o ok -> ¬ L k) := by
 refine ⟨fun hkj hc => ?_, fun hjk hc hLk => ?_⟩
 ·
  rcases hF.pairs k j ok o hkj hk hj with h | ⟨h, _⟩
  ·
   exact h.done hI.down hr
  ·
   exact (h hc).elim
 ·
  rcases hF.pairs j k o ok hjk hj hk with h | ⟨h, _⟩
  ·
   exact hnj (h.down hI.down hLk)
  ·
   exact h hc
include hF in
theorem slots_ready (hI : Inv P env call ops base T K vv ρ0 w0 a0 L ρ X q a w) (hj : ops[j]? = some o) (hnj : ¬ L j) (hr : ∀ i, Edge0 ops i j -> L i) {tm : Tm} (hs : ∀ t, Holds ops T vv L t (slot tm t))
  {t : Nat} (ht : LooksAt ops o t) : slot tm t = slot (T j) t := by
 refine (hs t).det (holds_text hF.next j (Nat.le_of_lt (lt_size hj)) t) fun k ok hk hkd => ?_
 obtain ⟨h1, h2⟩ := clash_order hF hI hj hnj hr hk
 rcases Nat.lt_trichotomy k j with hkj | rfl | hkj
 ·
  exact ⟨fun _ => hkj, fun _ => h1 hkj ⟨t, .inl ⟨hkd, .inl ht⟩⟩⟩
 ·
  exact ⟨fun h => (hnj h).elim, fun h => (Nat.lt_irrefl _ h).elim⟩
 ·
  exact ⟨fun h => (h2 hkj ⟨t, .inr ⟨hkd, ht⟩⟩ h).elim, fun h => by omega⟩
include hF in
theorem slots_put (hI : Inv P env call ops base T K vv ρ0 w0 a0 L ρ X q a w) (hj : ops[j]? = some o) (hnj : ¬ L j) (hr : ∀ i, Edge0 ops i j -> L i) {L' : Nat -> Prop} (hL' : ∀ i, L' i ↔ (L i \/ i = j))
  {tm : Tm} (hs : ∀ t, Holds ops T vv L t (slot tm t)) (t : Nat) : Holds ops T vv L' t (slot (putT tm o.dst (vv j)) t) := by
 refine Holds.put hj hL' (fun k ok t ht hLk hk hkd => ?_) hs t
 obtain ⟨h1, h2⟩ := clash_order hF hI hj hnj hr hk
 rcases Nat.lt_trichotomy k j with hkj | rfl | hkj
 ·
  exact Nat.le_of_lt hkj
 ·
  exact Nat.le_refl _
 ·
  exact (h2 hkj ⟨t, .inl ⟨ht, .inr hkd⟩⟩ hLk).elim
theorem down_set (hI : Inv P env call ops base T K vv ρ0 w0 a0 L ρ X q a w) (hr : ∀ i, Edge0 ops i j -> L i) {L' : Nat -> Prop} (hL' : ∀ i, L' i ↔ (L i \/ i = j)) : ∀ i k, Edge0 ops i k -> L' k -> L' i := by
 intro i k he hk
 rcases (hL' k).1 hk with hk | rfl
 ·
  exact (hL' i).2 (.inl (hI.down i k he hk))
 ·
  exact (hL' i).2 (.inl (hr i he))
omit [Sg] in
theorem least_ex {p : Nat -> Prop} (h : ∃ e, p e) : ∃ e, p e /\ ∀ m, m < e -> ¬ p m := by
 obtain ⟨e, he⟩ := h
 induction e using Nat.strongRecOn with
 | ind e ih =>
  by_cases hm : ∃ m, m < e /\ p m
  ·
   obtain ⟨m, h1, h2⟩ := hm; exact ih m h1 h2
  ·
   exact ⟨e, he, fun m h1 h2 => hm ⟨m, h1, h2⟩⟩
include hF in
theorem place (hI : Inv P env call ops base T K vv ρ0 w0 a0 L ρ X q a w) (hj : ops[j]? = some o) (hnj : ¬ L j) (hr : ∀ i, Edge0 ops i j -> L i) (hk3 : kindOf env o.op ≠ 3) (hw : wantedB o ops (T j) = true) :
  ∃ G, G.next = (K q).next /\ Sub ρ G X /\ (∀ b, G.next <= b -> G.get b = none) /\
   ∃ H', evOp o.op env call (base + j) (T j) G = some (vv j, H') /\ (H' = G /\ kindOf env o.op ≠ 1 \/ ∃ x, H' = G.set (base + j) x /\ Mk env call ops base T vv j x) := by
 have hle := kindOf_le env o.op
 have adv : ∀ d, q + d <= ops.size -> (∀ e oe, ops[e]? = some oe -> q <= e -> e < q + d -> kindOf env oe.op ≠ 3) ->
   (K (q + d)).next = (K q).next /\ Sub ρ (K (q + d)) X /\ (∀ b, (K (q + d)).next <= b -> (K (q + d)).get b = none) := fun d hd hno => by
  obtain ⟨hp, hnx⟩ := hI.part.advTo hF hI.un hI.nx d hd hno
  exact ⟨hnx, hp.sub, hp.top⟩
 have fin0 : ∀ d, q + d <= ops.size -> (∀ e oe, ops[e]? = some oe -> q <= e -> e < q + d -> kindOf env oe.op ≠ 3) ->
   (∃ H', evOp o.op env call (base + j) (T j) (K (q + d)) = some (vv j, H') /\ (H' = K (q + d) /\ kindOf env o.op ≠ 1 \/ ∃ x, H' = (K (q + d)).set (base + j) x /\ Mk env call ops base T vv j x)) ->
   ∃ G, G.next = (K q).next /\ Sub ρ G X /\ (∀ b, G.next <= b -> G.get b = none) /\
    ∃ H', evOp o.op env call (base + j) (T j) G = some (vv j, H') /\ (H' = G /\ kindOf env o.op ≠ 1 \/ ∃ x, H' = G.set (base + j) x /\ Mk env call ops base T vv j x) := fun d hd hno h => by
  obtain ⟨a1, a2, a3⟩ := adv d hd hno
  exact ⟨_, a1, a2, a3, h⟩
 by_cases h1 : kindOf env o.op = 1
 ·
  obtain ⟨x, hM, _⟩ := hF.made hj h1 hw
  refine fin0 0 hI.valid.1 (fun e _ _ _ _ => by omega) ⟨_, ?_, .inr ⟨x, rfl, hM⟩⟩
  obtain ⟨o', g1, _, _, g4⟩ := hM
  rw [hj] at g1; cases g1
  exact g4 _
 ·
  by_cases h0 : kindOf env o.op = 0
  ·
   exact fin0 0 hI.valid.1 (fun e _ _ _ _ => by omega) ⟨_, (pure_ind h0 _ _ _ (hF.run j o hj hw)).2 _, .inl ⟨rfl, h1⟩⟩
  ·
   have h2 : kindOf env o.op = 2 := by omega
   have fin : ∀ {G H'}, evOp o.op env call (base + j) (T j) G = some (vv j, H') -> ∃ H', evOp o.op env call (base + j) (T j) G = some (vv j, H') /\ (H' = G /\ kindOf env o.op ≠ 1 \/ ∃ x, H' = G.set (base + j) x /\ Mk env call ops base T vv j x) :=
    fun {G H'} h => ⟨H', h, .inl ⟨read_ind h2 _ _ _ h, h1⟩⟩
   by_cases hq : j < q
   ·
    rcases hI.least with h | ⟨e, oe, rfl, he, hke⟩
    ·
     omega
    ·
     refine fin0 0 hI.valid.1 (fun e _ _ _ _ => by omega) ?_
     have hLe : L e := (hI.valid.2 e oe he hke).2 (by omega)
     have hne : j ≠ e := fun h => hnj (h ▸ hLe)
     rcases hF.pairs j e o oe (by omega) hj he with h | ⟨_, _, _, h⟩
     ·
      exact (hnj (h.down hI.down hLe)).elim
     ·
      obtain ⟨H', hH⟩ := h h2 hke hw
      exact fin hH
   ·
    by_cases hex : ∃ e, q <= e /\ e < j /\ ∃ oe, ops[e]? = some oe /\ kindOf env oe.op = 3
    ·
     obtain ⟨e, ⟨e1, e2, oe, he, hke⟩, hlow⟩ := least_ex hex
     have heq : q + (e - q) = e := by omega
     obtain ⟨a1, a2, a3⟩ := adv (e - q) (by have := lt_size he; omega) fun m om hm h3 h4 hkm => hlow m (by omega) ⟨h3, by omega, om, hm, hkm⟩
     rw [heq] at a1 a2 a3
     have hnLe : ¬ L e := fun h => by have := (hI.valid.2 e oe he hke).1 h; omega
     rcases hF.pairs e j oe o e2 he hj with h | ⟨_, _, h, _⟩
     ·
      exact (hnLe (h.done hI.down hr)).elim
     ·
      obtain ⟨ms, hms, H', hH⟩ := h hke h2 hw
      have hnx := hI.nx
      refine ⟨setAll base ms (K e), by rw [setAll_next]; exact a1, ?_, ?_, fin hH⟩
      ·
       intro b x hb hrb
       rcases setAll_get hb with h | ⟨m, h4, rfl⟩
       ·
        exact a2 b x h hrb
       ·
        obtain ⟨h5, h6, h7⟩ := hms _ h4
        exact hI.part.early m x (by have : e < m := h5; omega) (h6.done hI.down hr) h7 hrb
      ·
       intro b hb
       rw [setAll_next] at hb
       cases hg : (setAll base ms (K e)).get b with
       | none => rfl
       | some x =>
        rcases setAll_get hg with h | ⟨m, h4, rfl⟩
        ·
         rw [a3 b hb] at h; cases h
        ·
         obtain ⟨_, _, o', g1, _⟩ := hms _ h4
         have := lt_size g1
         dsimp only at this
         rw [a1] at hb
         omega
    ·
     have heq : q + (j - q) = j := by omega
     have hH := hF.run j o hj hw
     refine fin0 (j - q) (by have := lt_size hj; omega) (fun m om hm h3 h4 hkm => hex ⟨m, h3, by omega, om, hm, hkm⟩) ?_
     rw [heq]
     exact fin hH
omit [Sg] in
theorem Agree.of_looks {tm tm' : Tm} (h : ∀ t, LooksAt ops o t -> slot tm t = slot tm' t) : Agree tm tm' (looksL o.op) := fun t ht => h t (.inl ht)
include hE hC hF in
theorem calm_ok (hI : Inv P env call ops base T K vv ρ0 w0 a0 L ρ X q a w) (hj : ops[j]? = some o) (hnj : ¬ L j) (hr : ∀ i, Edge0 ops i j -> L i) (hk3 : kindOf env o.op ≠ 3) (hw : wantedB o ops (T j) = true)
  (hdst : ∀ d, o.dst = some d -> d < a0.tmps.size) {L' : Nat -> Prop} (hL' : ∀ i, L' i ↔ (L i \/ i = j)) :
  Does P o a w fun v' w' => ∃ ρ' X', Inv P env call ops base T K vv ρ0 w0 a0 L' ρ' X' q (a.put o.dst v') w' := by
 obtain ⟨G, hnx, hsub, htop, H', hop, hH'⟩ := place hF hI hj hnj hr hk3 hw
 obtain ⟨tm, hT, hs⟩ := hI.slots
 rw [<- evOp_congr (Agree.of_looks fun t ht => slots_ready hF hI hj hnj hr hs ht)] at hop
 have hH : HR P ρ G w := HG.hr (by rw [hnx]; exact hI.hx) hsub htop
 have hlt := lt_size hj
 have hid : ρ (base + j) = none := hI.un j hlt hnj
 have hdo := evOp_ok (S := fun b => b = base + j) (o := o) (a := a) hE hC hH hid (by rw [hnx]; have := hI.nx; omega) rfl (fun h => (hk3 h).elim) hT hop
 refine hdo.mono ?_
 rintro v' w' ⟨ρ', hv, hR, hS⟩
 have hnx' : H'.next = (K q).next := by
  rcases hH' with ⟨rfl, _⟩ | ⟨x, rfl, _⟩
  ·
   exact hnx
  ·
   exact hnx
 have hget : ∀ b, b ≠ base + j -> H'.get b = G.get b := by
  rcases hH' with ⟨rfl, _⟩ | ⟨x, rfl, _⟩
  ·
   exact fun _ _ => rfl
  ·
   exact fun b hb => Heap.get_set_ne hb
 have hρ : ∀ b, b ≠ base + j -> ρ' b = ρ b := fun b hb => by
  rcases hS.ext b with e | ⟨_, e⟩
  ·
   exact e
  ·
   exact (hb e).elim
 have hold : ∀ b x, b ≠ base + j -> ρ b ≠ none -> X b = some x -> aug ρ G H' X b = some x := by
  intro b x hb hr hx
  unfold aug
  rw [hget b hb]
  cases hg : G.get b with
  | none => simp only; rw [if_pos ⟨trivial, hr⟩]; exact hx
  | some y => have := hsub b y hg hr; rw [hx] at this; exact this.symm
 have hmade : ∀ x, Mk env call ops base T vv j x -> aug ρ G H' X (base + j) = some x := by
  intro x hM
  rcases hH' with ⟨_, h1⟩ | ⟨y, rfl, hy⟩
  ·
   obtain ⟨o', g1, g2, _⟩ := hM
   rw [hj] at g1; cases g1; exact (h1 g2).elim
  ·
   unfold aug
   rw [Heap.get_set_same, hM.uniq hy]
 refine ⟨ρ', aug ρ G H' X, ?_⟩
 exact {
  size := by rw [put_size]; exact hI.size
  defers := by rw [put_defers]; exact hI.defers
  down := down_set hI hr hL'
  inb := fun i hi => by
   rcases (hL' i).1 hi with h | rfl
   ·
    exact hI.inb i h
   ·
    exact hlt
  valid := ⟨hI.valid.1, fun e oe he hke => by
   rw [hL' e, <- hI.valid.2 e oe he hke]
   refine ⟨fun h => h.resolve_right ?_, .inl⟩
   rintro rfl
   rw [hj] at he; cases he; exact hk3 hke⟩
  least := hI.least
  slots := ⟨putT tm o.dst (vv j), (hT.mono hS.le).put (fun d hd => by rw [hI.size]; exact hdst d hd) hv, slots_put hF hI hj hnj hr hL' hs⟩
  hx := by
   have := HG.aug (by rw [hnx]; exact hI.hx) hsub hR hS
   rw [hnx'] at this; exact this
  un := fun i hi hn => by
   have h1 : ¬ L i := fun h => hn ((hL' i).2 (.inl h))
   have h2 : i ≠ j := fun h => hn ((hL' i).2 (.inr h))
   rw [hρ _ (by omega)]; exact hI.un i hi h1
  nx := hI.nx
  part := {
   sub := fun b x hb hr' => by
    by_cases e : b = base + j
    ·
     subst e
     by_cases hjq : j < q
     ·
      rcases hH' with ⟨_, h1⟩ | ⟨y, rfl, hy⟩
      ·
       rw [hI.part.gone j o hj (.inr ⟨h1, hk3⟩)] at hb; cases hb
      ·
       have h2 := hI.part.late j y hjq hnj hy
       rw [hb] at h2; cases h2
       exact hmade _ hy
     ·
      rw [hI.part.gone j o hj (.inl (by omega))] at hb; cases hb
    ·
     rw [hρ b e] at hr'
     exact hold b x e hr' (hI.part.sub b x hb hr')
   early := fun i x hi hLi hM hr' => by
    by_cases e : i = j
    ·
     subst e; exact hmade x hM
    ·
     rw [hρ _ (by omega)] at hr'
     exact hold _ x (by omega) hr' (hI.part.early i x hi (((hL' i).1 hLi).resolve_right e) hM hr')
   gone := hI.part.gone
   late := fun i x hi hn hM => hI.part.late i x hi (fun h => hn ((hL' i).2 (.inl h))) hM
   abs1 := hI.part.abs1
   abs2 := hI.part.abs2
   top := hI.part.top }
  sx := by
   have := SX.aug (by rw [hnx]; exact hI.sx) hsub hS (fun b (hb : b = base + j) => by omega)
   rw [hnx'] at this; exact this }
include hF in
theorem eff_place (hI : Inv P env call ops base T K vv ρ0 w0 a0 L ρ X q a w) (hj : ops[j]? = some o) (hnj : ¬ L j) (hr : ∀ i, Edge0 ops i j -> L i) (hk3 : kindOf env o.op = 3) :
  q <= j /\ Part env call ops base T K vv ρ0 L ρ X j /\ (K j).next = (K q).next /\ Valid env ops L j := by
 have hlt := lt_size hj
 have hq : q <= j := by
  rcases Nat.lt_or_ge j q with h | h
  ·
   exact (hnj ((hI.valid.2 j o hj hk3).2 h)).elim
  ·
   exact h
 have hv : ∀ e oe, ops[e]? = some oe -> kindOf env oe.op = 3 -> (L e ↔ e < j) := by
  intro e oe he hke
  rcases Nat.lt_trichotomy e j with h | rfl | h
  ·
   refine ⟨fun _ => h, fun _ => ?_⟩
   rcases hF.pairs e j oe o h he hj with h | ⟨_, h, _⟩
   ·
    exact h.done hI.down hr
   ·
    exact (h ⟨hke, hk3⟩).elim
  ·
   exact ⟨fun h => (hnj h).elim, fun h => (Nat.lt_irrefl _ h).elim⟩
  ·
   refine ⟨fun hL => ?_, fun h' => by omega⟩
   rcases hF.pairs j e o oe h hj he with h | ⟨_, h, _⟩
   ·
    exact (hnj (h.down hI.down hL)).elim
   ·
    exact (h ⟨hk3, hke⟩).elim
 have h := hI.part.advTo hF hI.un hI.nx (j - q) (by omega) fun e oe he h1 h2 hke => by
  have h3 := (hv e oe he hke).2 (by omega)
  have h4 := (hI.valid.2 e oe he hke).1 h3
  omega
 rw [show q + (j - q) = j from by omega] at h
 exact ⟨hq, h.1, h.2, ⟨Nat.le_of_lt hlt, hv⟩⟩
include hE hC hF in
theorem eff_ok (hI : Inv P env call ops base T K vv ρ0 w0 a0 L ρ X q a w) (hj : ops[j]? = some o) (hnj : ¬ L j) (hr : ∀ i, Edge0 ops i j -> L i) (hk3 : kindOf env o.op = 3) (hw : wantedB o ops (T j) = true)
  (hdst : ∀ d, o.dst = some d -> d < a0.tmps.size) {L' : Nat -> Prop} (hL' : ∀ i, L' i ↔ (L i \/ i = j)) :
  Does P o a w fun v' w' => ∃ ρ' X', Inv P env call ops base T K vv ρ0 w0 a0 L' ρ' X' (j + 1) (a.put o.dst v') w' := by
 obtain ⟨hq, hp, hnx, hval⟩ := eff_place hF hI hj hnj hr hk3
 obtain ⟨tm, hT, hs⟩ := hI.slots
 have hop := hF.run j o hj hw
 rw [<- evOp_congr (Agree.of_looks fun t ht => slots_ready hF hI hj hnj hr hs ht)] at hop
 have hH : HR P ρ (K j) w := HG.hr (by rw [hnx]; exact hI.hx) hp.sub hp.top
 have hlt := lt_size hj
 have hid : ρ (base + j) = none := hI.un j hlt hnj
 have hnb : base + ops.size <= (K j).next := by rw [hnx]; exact hI.nx
 have hdo := evOp_ok (S := fun b => b = base + j \/ (K j).next <= b) (o := o) (a := a) hE hC hH hid (by omega) (.inl rfl) (fun _ b hb => .inr hb) hT hop
 refine hdo.mono ?_
 rintro v' w' ⟨ρ', hv, hR, hS⟩
 have hnS : ∀ i, i < ops.size -> i ≠ j -> ¬ (base + i = base + j \/ (K j).next <= base + i) := fun i hi hij h => by omega
 have hbS : ∀ b, b < base -> ¬ (b = base + j \/ (K j).next <= b) := fun b hb h => by omega
 have hρ : ∀ b, ¬ (b = base + j \/ (K j).next <= b) -> ρ' b = ρ b := fun b hb => by
  rcases hS.ext b with e | ⟨_, e⟩
  ·
   exact e
  ·
   exact (hb e).elim
 have hgone : ∀ i oi, ops[i]? = some oi -> (j + 1 <= i \/ (kindOf env oi.op ≠ 1 /\ kindOf env oi.op ≠ 3)) -> (K (j + 1)).get (base + i) = none := by
  intro i oi hi hc
  have hij : i ≠ j := by
   rintro rfl
   rw [hj] at hi; cases hi
   rcases hc with hc | hc
   ·
    omega
   ·
    exact hc.2 hk3
  exact hS.abs2 _ (hp.gone i oi hi (hc.imp (by omega) fun h => h)) (hnS i (lt_size hi) hij)
 refine ⟨ρ', aug ρ (K j) (K (j + 1)) X, ?_⟩
 exact {
  size := by rw [put_size]; exact hI.size
  defers := by rw [put_defers]; exact hI.defers
  down := down_set hI hr hL'
  inb := fun i hi => by
   rcases (hL' i).1 hi with h | rfl
   ·
    exact hI.inb i h
   ·
    exact hlt
  valid := ⟨hlt, fun e oe he hke => by
   rw [hL' e, hval.2 e oe he hke]
   omega⟩
  least := .inr ⟨j, o, rfl, hj, hk3⟩
  slots := ⟨putT tm o.dst (vv j), (hT.mono hS.le).put (fun d hd => by rw [hI.size]; exact hdst d hd) hv, slots_put hF hI hj hnj hr hL' hs⟩
  hx := HG.aug (by rw [hnx]; exact hI.hx) hp.sub hR hS
  un := fun i hi hn => by
   have h1 : ¬ L i := fun h => hn ((hL' i).2 (.inl h))
   have h2 : i ≠ j := fun h => hn ((hL' i).2 (.inr h))
   rw [hρ _ (hnS i hi h2)]; exact hI.un i hi h1
  nx := Nat.le_trans hnb hS.next
  part := {
   sub := fun b x hb _ => by unfold aug; rw [hb]
   early := fun i x hi hLi hM hr' => by
    have hM' := hM
    obtain ⟨oi, hoi, _⟩ := hM'
    have hij : i ≠ j := by omega
    have hr2 : ρ (base + i) ≠ none := by rw [<- hρ _ (hnS i (lt_size hoi) hij)]; exact hr'
    unfold aug
    rw [hgone i oi hoi (.inl hi)]
    simp only
    rw [if_pos ⟨hp.gone i oi hoi (.inl (by omega)), hr2⟩]
    exact hp.early i x (by omega) (((hL' i).1 hLi).resolve_right hij) hM hr2
   gone := hgone
   late := fun i x hi hn hM => by
    have hij : i ≠ j := fun h => hn ((hL' i).2 (.inr h))
    have hnL : ¬ L i := fun h => hn ((hL' i).2 (.inl h))
    have hM' := hM
    obtain ⟨oi, hoi, _⟩ := hM'
    rw [hS.abs1 _ (hI.un i (lt_size hoi) hnL) (hnS i (lt_size hoi) hij)]
    exact hp.late i x (by omega) hnL hM
   abs1 := fun b hb h0 => by
    have h1 : ρ b = none := by
     rcases hI.sx.ext b with e | ⟨_, e⟩
     ·
      rw [e]; exact h0
     ·
      omega
    rw [hS.abs1 b h1 (hbS b hb)]; exact hp.abs1 b hb h0
   abs2 := fun b hb h0 => hS.abs2 b (hp.abs2 b hb h0) (hbS b hb)
   top := hR.top }
  sx := SX.aug (by rw [hnx]; exact hI.sx) hp.sub hS (fun b hb => by have := Nat.le_trans (Nat.le_add_right base ops.size) hnb; omega) }
include hF in
theorem unwanted_ok (hI : Inv P env call ops base T K vv ρ0 w0 a0 L ρ X q a w) (hj : ops[j]? = some o) (hnj : ¬ L j) (hr : ∀ i, Edge0 ops i j -> L i) (hw : wantedB o ops (T j) = false)
  (hdst : ∀ d, o.dst = some d -> d < a0.tmps.size) {L' : Nat -> Prop} (hL' : ∀ i, L' i ↔ (L i \/ i = j)) :
  ∃ q', Inv P env call ops base T K vv ρ0 w0 a0 L' ρ X q' (a.put o.dst undef) w := by
 obtain ⟨tm, hT, hs⟩ := hI.slots
 obtain ⟨hvv, hK⟩ := hF.skip j o hj hw
 have hlt := lt_size hj
 have hnM : ∀ x, ¬ Mk env call ops base T vv j x := by
  rintro x ⟨o', g1, _, g3, _⟩
  rw [hj] at g1; cases g1; rw [hw] at g3; cases g3
 have core : ∀ q', Valid env ops L' q' -> (q' = 0 \/ ∃ e o, q' = e + 1 /\ ops[e]? = some o /\ kindOf env o.op = 3) -> (K q').next = (K q).next -> Part env call ops base T K vv ρ0 L' ρ X q' ->
   Inv P env call ops base T K vv ρ0 w0 a0 L' ρ X q' (a.put o.dst undef) w := fun q' hval hleast hnx hpart => {
  size := by rw [put_size]; exact hI.size
  defers := by rw [put_defers]; exact hI.defers
  down := down_set hI hr hL'
  inb := fun i hi => by
   rcases (hL' i).1 hi with h | rfl
   ·
    exact hI.inb i h
   ·
    exact hlt
  valid := hval
  least := hleast
  slots := ⟨putT tm o.dst (vv j), by rw [hvv]; exact hT.put (fun d hd => by rw [hI.size]; exact hdst d hd) undef_V, slots_put hF hI hj hnj hr hL' hs⟩
  hx := by rw [hnx]; exact hI.hx
  un := fun i hi hn => hI.un i hi fun h => hn ((hL' i).2 (.inl h))
  nx := by rw [hnx]; exact hI.nx
  part := hpart
  sx := by rw [hnx]; exact hI.sx }
 have grow : ∀ {q'}, Part env call ops base T K vv ρ0 L ρ X q' -> Part env call ops base T K vv ρ0 L' ρ X q' := fun {q'} h =>
  ⟨h.sub, fun i x hi hLi hM => h.early i x hi (((hL' i).1 hLi).resolve_right (by rintro rfl; exact hnM x hM)) hM, h.gone, fun i x hi hn hM => h.late i x hi (fun h => hn ((hL' i).2 (.inl h))) hM, h.abs1, h.abs2, h.top⟩
 by_cases hk3 : kindOf env o.op = 3
 ·
  obtain ⟨hq, hp, hnx, hval⟩ := eff_place hF hI hj hnj hr hk3
  refine ⟨j + 1, core (j + 1) ⟨hlt, fun e oe he hke => ?_⟩ (.inr ⟨j, o, rfl, hj, hk3⟩) (by rw [hK]; exact hnx) (grow (hp.skip hK hnM))⟩
  rw [hL' e, hval.2 e oe he hke]
  omega
 ·
  refine ⟨q, core q ⟨hI.valid.1, fun e oe he hke => ?_⟩ hI.least rfl (grow hI.part)⟩
  rw [hL' e, <- hI.valid.2 e oe he hke]
  refine ⟨fun h => h.resolve_right ?_, .inl⟩
  rintro rfl
  rw [hj] at he; cases he; exact hk3 hke
include hF in
theorem Inv.final (hI : Inv P env call ops base T K vv ρ0 w0 a0 L ρ X q a w) (hall : ∀ i, i < ops.size -> L i) :
  TR ρ (T ops.size) a.tmps /\ HR P ρ (K ops.size) w /\ Step (fun b => base <= b) ρ0 (K 0) w0 ρ (K ops.size) w := by
 obtain ⟨hp, hnx⟩ := hI.part.advTo hF hI.un hI.nx (ops.size - q) (by have := hI.valid.1; omega) fun e oe he h1 _ hke => by
  have := (hI.valid.2 e oe he hke).1 (hall e (lt_size he)); omega
 have hq := hI.valid.1
 rw [show q + (ops.size - q) = ops.size from by omega] at hp hnx
 obtain ⟨tm, hT, hs⟩ := hI.slots
 refine ⟨fun t => ?_, HG.hr (by rw [hnx]; exact hI.hx) hp.sub hp.top, ?_⟩
 ·
  have : slot tm t = slot (T ops.size) t := (hs t).det (holds_text hF.next ops.size (Nat.le_refl _) t) fun k ok hk _ => ⟨fun _ => lt_size hk, fun _ => hall k (lt_size hk)⟩
  rw [<- this]; exact hT t
 ·
  have sx := hI.sx
  refine ⟨sx.ext, sx.os, sx.tape, sx.output, sx.size, sx.keep, fun B hB ⟨b, x, e, h1, h2, h3, h4⟩ => ?_, by rw [hnx]; exact sx.next, fun B hB ⟨b, x, e, h1, h2, h3⟩ => ?_, fun b h1 h2 => hp.abs1 b (by omega) h1, fun b h1 h2 => hp.abs2 b (by omega) h1⟩
  ·
   subst h3; exact sx.wr b x e (hp.sub b x h1 (by rw [h2]; simp)) h2 hB h4
  ·
   subst h3; exact sx.mp b x e (hp.sub b x h1 (by rw [h2]; simp)) h2 hB
include hE hC hF in
theorem any_ok (hdst : ∀ o ∈ ops.toList, ∀ d, o.dst = some d -> d < a0.tmps.size) {Q : Exit -> Act -> World -> Prop}
  (hQ : ∀ ρ' a' w', TR ρ' (T ops.size) a'.tmps -> HR P ρ' (K ops.size) w' -> Step (fun b => base <= b) ρ0 (K 0) w0 ρ' (K ops.size) w' -> a'.tmps.size = a0.tmps.size -> a'.defers = a0.defers -> Q .normal a' w') :
  ∀ (fuel : Nat) (listed : Array Bool) (ρ : Map) (X : Nat -> Option Blk) (q : Nat) (a : Act) (w : World), listed.size = ops.size -> left listed = fuel -> Inv P env call ops base T K vv ρ0 w0 a0 (lis listed) ρ X q a w ->
   wpAny P .any ops Q fuel listed a w := by
 intro fuel
 induction fuel with
 | zero =>
  intro listed ρ X q a w hsz hleft hI
  have hall : ∀ i, i < ops.size -> lis listed i := fun i hi => left_zero hleft i (by omega)
  have hnil : Region.ready .any ops listed = [] := by
   apply List.eq_nil_iff_forall_not_mem.2
   intro i hi
   obtain ⟨h1, _⟩ := mem_ready.1 hi
   obtain ⟨h2, h3⟩ := not_lis.1 h1
   exact h3 (hall i (by omega))
  obtain ⟨f1, f2, f3⟩ := hI.final hF hall
  exact ⟨hnil, hQ ρ a w f1 f2 f3 hI.size hI.defers⟩
 | succ fuel ih =>
  intro listed ρ X q a w hsz hleft hI
  refine ⟨fun hnil => ?_, fun j hj => ?_⟩
  ·
   have hall : ∀ i, i < ops.size -> lis listed i := by
    intro i
    induction i using Nat.strongRecOn with
    | ind i ih' =>
     intro hi
     apply Classical.byContradiction
     intro hn
     have hmem : i ∈ Region.ready .any ops listed := mem_ready.2 ⟨not_lis.2 ⟨by omega, hn⟩, ops[i], Array.getElem?_eq_getElem hi, fun e he hb => by
      have he0 : Edge0 ops e.on i := ⟨_, e, Array.getElem?_eq_getElem hi, he, hb, rfl⟩
      exact ih' e.on (hF.back _ _ he0) (Nat.lt_trans (hF.back _ _ he0) hi)⟩
     rw [hnil] at hmem; cases hmem
   obtain ⟨f1, f2, f3⟩ := hI.final hF hall
   exact hQ ρ a w f1 f2 f3 hI.size hI.defers
  ·
   obtain ⟨h1, o, ho, hed⟩ := mem_ready.1 hj
   obtain ⟨h2, hnj⟩ := not_lis.1 h1
   have hr : ∀ i, Edge0 ops i j -> lis listed i := by
    rintro i ⟨o', e, ho', he, hb, rfl⟩
    rw [ho] at ho'; cases ho'
    exact hed e he hb
   have hL' := lis_set h2
   have hmem : o ∈ ops.toList := List.mem_of_getElem? (i := j) (by simpa using ho)
   have hd := hdst o hmem
   have hsz' : (listed.setIfInBounds j true).size = ops.size := by simpa using hsz
   have hl' : left (listed.setIfInBounds j true) = fuel := by have := left_set h1; omega
   unfold wpOp
   rw [ho]
   simp only
   obtain ⟨tm, hT, hs⟩ := hI.slots
   have hwb : wantedB o ops (T j) = Region.wanted o (yielded ops a.tmps) := by
    rw [<- wanted_ok hT]
    exact (wantedB_congr fun t ht => slots_ready hF hI ho hnj hr hs (.inr ht)).symm
   cases hw : Region.wanted o (yielded ops a.tmps) with
   | false =>
    rw [hw] at hwb
    simp only [Bool.false_eq_true, if_false]
    obtain ⟨q', hI'⟩ := unwanted_ok hF hI ho hnj hr hwb hd hL'
    exact ih _ ρ X q' _ w hsz' hl' hI'
   | true =>
    rw [hw] at hwb
    simp only [if_true]
    refine .inl ?_
    by_cases hk3 : kindOf env o.op = 3
    ·
     refine (eff_ok hE hC hF hI ho hnj hr hk3 hwb hd hL').wp ?_
     rintro v' w' ⟨ρ', X', hI'⟩
     exact ih _ ρ' X' _ _ w' hsz' hl' hI'
    ·
     refine (calm_ok hE hC hF hI ho hnj hr hk3 hwb hd hL').wp ?_
     rintro v' w' ⟨ρ', X', hI'⟩
     exact ih _ ρ' X' _ _ w' hsz' hl' hI'
end
section
variable {P : Program} {env : Env} (hE : EnvOk P env) {call : Call} (hC : CallsOk P call)
omit [Sg] in
theorem facts_of {ops : Array Oper} {hot : List (Nat × Nat × List Nat)} {base : Nat} {tm : Tm} {H : Heap} {tr : List Snap} {r : Tm × Heap} (hp : plan env ops = some hot) (ht : trace env call ops ops.toList base tm H = some (tr, r))
  (hh : hotOk env call ops base tr hot = some ()) : Facts env call ops base (TT tr r) (KK tr r) (VV tr) := by
 obtain ⟨p1, p2⟩ := plan_ok hp
 obtain ⟨_, _, _, _, t5⟩ := trace_ok _ _ _ _ _ _ ht
 have at' : ∀ {k o}, ops[k]? = some o -> ops.toList[k]? = some o := fun h => by rw [Array.getElem?_toList]; exact h
 have run : ∀ k o, ops[k]? = some o -> wantedB o ops (TT tr r k) = true -> evOp o.op env call (base + k) (TT tr r k) (KK tr r k) = some (VV tr k, KK tr r (k + 1)) := fun k o ho => (t5 k o (at' ho)).2.1
 have hearly : ∀ {H G : Heap} {es : List Nat}, early ops base tr H es = some G -> (∀ m ∈ es, ∃ o, ops[m]? = some o /\ kindOf env o.op = 1) ->
   ∃ ms, G = setAll base ms H /\ ∀ p ∈ ms, p.1 ∈ es /\ Mk env call ops base (TT tr r) (VV tr) p.1 p.2 := by
  intro H G es
  induction es generalizing G with
  | nil => intro h _; cases h; exact ⟨[], rfl, fun p hp => by cases hp⟩
  | cons m es ih =>
   intro h hes
   have h' : bnd (early ops base tr H es) (fun G => bnd (nthL m ops.toList) fun o => bnd (nthL m tr) fun s => ifB (wantedB o ops s.tm) (bnd (s.H'.get (Nat.add base m)) fun x => some (G.set (Nat.add base m) x)) (some G)) = some G := h
   simp only [bnd_eq, nthL_eq] at h'
   obtain ⟨G0, hG0, o, ho, s, hs, hx⟩ := h'
   obtain ⟨ms, e, hms⟩ := ih hG0 fun m hm => hes m (List.mem_cons_of_mem _ hm)
   obtain ⟨o', ho', hk⟩ := hes m (by simp)
   have heo : o = o' := by rw [at' ho'] at ho; exact (Option.some.inj ho).symm
   subst heo
   obtain ⟨_, _, _, s', hs', e1, e2, e3, e4⟩ := t5 m o (at' ho')
   rw [hs] at hs'; cases hs'
   rw [e1, e4] at hx
   cases hw : wantedB o ops (TT tr r m) with
   | false =>
    rw [hw, ifB_false] at hx
    cases hx
    exact ⟨ms, e, fun p hp => ⟨List.mem_cons_of_mem _ (hms p hp).1, (hms p hp).2⟩⟩
   | true =>
    rw [hw, ifB_true] at hx
    simp only [bnd_eq] at hx
    obtain ⟨x, hgx, eG⟩ := hx
    cases eG
    obtain ⟨y, hy⟩ := alloc_ind hk _ _ _ (run m o ho' hw)
    have hK : KK tr r (m + 1) = (KK tr r m).set (base + m) y := by
     have := (hy (KK tr r m)).symm.trans (run m o ho' hw)
     simp only [Option.some.injEq, Prod.mk.injEq, true_and] at this
     exact this.symm
    have hxy : x = y := by
     have hgx' : (KK tr r (m + 1)).get (base + m) = some x := hgx
     rw [hK, Heap.get_set_same] at hgx'
     exact (Option.some.inj hgx').symm
    subst hxy
    refine ⟨(m, x) :: ms, by rw [e]; rfl, fun p hp => ?_⟩
    rcases List.mem_cons.1 hp with rfl | hp
    ·
     exact ⟨by simp, o, ho', hk, hw, hy⟩
    ·
     exact ⟨List.mem_cons_of_mem _ (hms p hp).1, (hms p hp).2⟩
 have hone : ∀ a b es oa ob, ops[a]? = some oa -> ops[b]? = some ob -> (a, b, es) ∈ hot ->
   ifB (Nat.beq (kindOf env oa.op) 3) (bnd (early ops base tr (KK tr r a) es) fun G => chk (ifB (wantedB ob ops (TT tr r b)) (sameRes (evOp ob.op env call (base + b) (TT tr r b) G) (VV tr b)) true) (some ()))
    (chk (ifB (wantedB oa ops (TT tr r a)) (sameRes (evOp oa.op env call (base + a) (TT tr r a) (KK tr r (b + 1))) (VV tr a)) true) (some ())) = some () := by
  intro a b es oa ob ha hb hm
  have h := hotOk_mem hh _ hm
  unfold hotOne at h
  simp only [bnd_eq, nthL_eq] at h
  obtain ⟨x, hx, y, hy, s, hs, t, ht, hc⟩ := h
  rw [at' ha] at hx; cases hx
  rw [at' hb] at hy; cases hy
  obtain ⟨_, _, _, s', hs', e1, e2, e3, e4⟩ := t5 a oa (at' ha)
  rw [hs] at hs'; cases hs'
  obtain ⟨_, _, _, u', hu', f1, f2, f3, f4⟩ := t5 b ob (at' hb)
  rw [ht] at hu'; cases hu'
  unfold reread at hc
  rw [e1, e2, e3, f1, f3, f4] at hc
  exact hc
 refine ⟨fun a b oa ob hab ha hb => ?_, p2, fun k o ho => (t5 k o (at' ho)).1, run, fun k o ho => (t5 k o (at' ho)).2.2.1⟩
 rcases p1 a b hab oa ob ha hb with h | ⟨h1, h2, h3⟩
 ·
  exact .inl h
 ·
  refine .inr ⟨h1, h2, fun ka kb hw => ?_, fun ka kb hw => ?_⟩
  ·
   obtain ⟨es, hm, hes⟩ := h3 (.inl ⟨ka, kb⟩)
   have h := hone a b es oa ob ha hb hm
   rw [ka, show Nat.beq 3 3 = true from rfl, ifB_true] at h
   simp only [bnd_eq, chk_eq] at h
   obtain ⟨G, hG, h, _⟩ := h
   rw [hw, ifB_true] at h
   obtain ⟨ms, e, hms⟩ := hearly hG fun m hm => (hes m hm).2.2
   rw [e] at h
   exact ⟨ms, fun p hp => ⟨(hes _ (hms p hp).1).1, (hes _ (hms p hp).1).2.1, (hms p hp).2⟩, sameRes_ok h⟩
  ·
   obtain ⟨es, hm, hes⟩ := h3 (.inr ⟨ka, kb⟩)
   have h := hone a b es oa ob ha hb hm
   rw [ka, show Nat.beq 2 3 = false from rfl, ifB_false, hw, ifB_true, chk_eq] at h
   exact sameRes_ok h.1
include hE hC in
theorem drawOk (hm : P.follows .mixedOrders = true) : DrawOk P env call := by
 intro id ops ρ tm H a w r Q h hdst hT hH hQ
 unfold evDraw at h
 simp only [bnd_eq] at h
 obtain ⟨hot, hp, H1, hb, ⟨tr, r'⟩, ht, u, hu, e⟩ := h
 cases e
 obtain ⟨b1, b2, b3⟩ := bump_inv hb
 have hln : lenL ops.toList = ops.size := by rw [lenL_eq]; simp
 rw [hln] at b2
 have hget : ∀ b, H1.get b = H.get b := fun b => by unfold Heap.get; rw [b1]
 have hF := facts_of hp ht hu
 obtain ⟨t1, t2, t3, t4, _⟩ := trace_ok _ _ _ _ _ _ ht
 have hlen : ops.toList.length = ops.size := by simp
 rw [hlen] at t3 t4
 refine wp_region_any hm ?_
 refine any_ok (a0 := a) (w0 := { w with drawn := w.drawn + 1 }) (ρ0 := ρ) hE hC hF hdst (fun ρ' a' w' f1 f2 f3 f4 f5 => ?_) ops.size _ ρ H.get 0 a _ (by simp) (by simp [left]) ?_
 ·
  rw [t3] at f1
  rw [t4] at f2 f3
  rw [t2] at f3
  refine hQ ρ' a' w' f1 f2 ⟨f3.ext, f3.os, f3.tape, f3.output, f3.size, fun B hB hn => f3.keep B hB fun ⟨b, x, e, g1, g2, g3, g4⟩ => hn ⟨b, x, e, by rwa [hget] at g1, g2, g3, g4⟩, fun B hB hW => ?_, Nat.le_trans (by omega) f3.next, fun B hB hM => ?_, fun b h1 h2 => ?_, fun b h1 h2 => ?_⟩ f4 f5
  ·
   obtain ⟨b, x, e, g1, g2, g3, g4⟩ := f3.wr B hB hW
   exact ⟨b, x, e, by rwa [hget] at g1, g2, g3, g4⟩
  ·
   obtain ⟨b, x, e, g1, g2, g3⟩ := f3.mp B hB hM
   exact ⟨b, x, e, by rwa [hget] at g1, g2, g3⟩
  ·
   rw [f3.abs1 b h1 h2, hget]
  ·
   exact f3.abs2 b (by rw [hget]; exact h1) h2
 ·
  have hnl : ∀ i, ¬ lis (Array.replicate ops.size false) i := fun i h => by
   unfold lis at h
   rcases Nat.lt_or_ge i ops.size with hi | hi
   ·
    simp [hi] at h
   ·
    simp [Array.getD_eq_getD_getElem?, hi] at h
  have hfresh : ∀ i, ρ (H.next + i) = none := fun i => by
   cases hr : ρ (H.next + i) with
   | none => rfl
   | some e => have := hH.dom _ e hr; omega
  exact {
   size := rfl
   defers := rfl
   down := fun i j _ h => (hnl j h).elim
   inb := fun i h => (hnl i h).elim
   valid := ⟨Nat.zero_le _, fun e o _ _ => ⟨fun h => (hnl e h).elim, fun h => by omega⟩⟩
   least := .inl rfl
   slots := ⟨tm, hT, fun t => .inr ⟨fun k _ h => (hnl k h).elim, by rw [t1]⟩⟩
   hx := by
    rw [t2]
    exact ⟨hH.blk, hH.inj, fun b e he => by have := hH.dom b e he; omega, b3⟩
   un := fun i _ _ => hfresh i
   nx := by rw [t2]; omega
   part := {
    sub := fun b x hb _ => by rw [t2, hget] at hb; exact hb
    early := fun i x _ h => (hnl i h).elim
    gone := fun i o hi _ => by
     rw [t2, hget]
     exact hH.top _ (by omega)
    late := fun i x hi => by omega
    abs1 := fun _ _ _ => rfl
    abs2 := fun _ _ h => h
    top := fun b hb => by rw [t2] at hb ⊢; rw [hget]; exact hH.top b (by omega) }
   sx := by
    rw [t2]
    exact ⟨fun b => .inl rfl, rfl, rfl, rfl, Nat.le_refl _, fun _ _ _ => rfl, fun b x e h1 h2 _ h4 => ⟨b, x, e, by rw [hget]; exact h1, h2, rfl, h4⟩, fun b x e h1 h2 _ => ⟨b, x, e, by rw [hget]; exact h1, h2, rfl⟩, Nat.le_refl _⟩ }
end
end Go.Ev
