/- Drawn regions, part 1: what an operation looks at, and what it does to the memory. -/
import Derived.Test.YtgfkoolajkccnaaGreatDoorEvRun
/-! Drawn regions, part 1: what an operation looks at, and what it does to the memory. -/
namespace Go.Ev
open Go.RowKit

/-! ### Slots looked at -/
def Agree (tm tm' : Tm) (l : List Operand) : Prop := ∀ t, Operand.tmp t ∈ l → slot tm t = slot tm' t

theorem eval_congr {tm tm' : Tm} {x : Operand} (h : Agree tm tm' [x]) : eval tm x = eval tm' x := by
  cases x with
  | tmp t => show some (slot tm t) = some (slot tm' t); rw [h t (by simp)]
  | _ => rfl

theorem Agree.sub {tm tm' : Tm} {l m : List Operand} (h : Agree tm tm' m) (hs : ∀ x ∈ l, x ∈ m) : Agree tm tm' l := fun t ht => h t (hs _ ht)

theorem evals_congr {tm tm' : Tm} : ∀ {l : List Operand}, Agree tm tm' l → evals tm l = evals tm' l
  | [], _ => rfl
  | x :: l, h => by
    show bnd (eval tm x) (fun v => bnd (evals tm l) fun vs => some (v :: vs)) = bnd (eval tm' x) (fun v => bnd (evals tm' l) fun vs => some (v :: vs))
    rw [eval_congr (h.sub (l := [x]) (by simp)), evals_congr (h.sub (l := l) (by intro y hy; simp [hy]))]

theorem evalParts_congr {tm tm' : Tm} : ∀ {l : List (Nat × Operand)}, Agree tm tm' (mapL (fun p => p.2) l) → evalParts tm l = evalParts tm' l
  | [], _ => rfl
  | (i, x) :: l, h => by
    have h' : Agree tm tm' (x :: mapL (fun p => p.2) l) := h
    show bnd (eval tm x) (fun v => bnd (evalParts tm l) fun vs => some ((i, v) :: vs)) = bnd (eval tm' x) (fun v => bnd (evalParts tm' l) fun vs => some ((i, v) :: vs))
    rw [eval_congr (h'.sub (l := [x]) (by simp)), evalParts_congr (h'.sub (l := mapL (fun p => p.2) l) (by intro y hy; simp [hy]))]

theorem optVal_congr {tm tm' : Tm} {x : Option Operand} (h : Agree tm tm' (optL x)) : optVal tm x = optVal tm' x := by
  cases x with
  | none => rfl
  | some x =>
    show bnd (eval tm x) (fun v => some (some v)) = bnd (eval tm' x) (fun v => some (some v))
    rw [eval_congr h]

theorem mem_appL {α : Type} {x : α} {l m : List α} : x ∈ appL l m ↔ x ∈ l ∨ x ∈ m := by rw [appL_eq]; exact List.mem_append

theorem evOp_congr {env : Env} {call : Call} {id : Nat} {tm tm' : Tm} {H : Heap} {op : Op} (h : Agree tm tm' (looksL op)) : evOp op env call id tm H = evOp op env call id tm' H := by
  have e1 : ∀ x, x ∈ looksL op → eval tm x = eval tm' x := fun x hx => eval_congr (h.sub (by intro y hy; rw [List.mem_singleton.1 hy]; exact hx))
  cases op with
  | move x => show oMove x env call id tm H = oMove x env call id tm' H; unfold oMove; rw [e1 x (by simp [looksL])]
  | assign x => show oMove x env call id tm H = oMove x env call id tm' H; unfold oMove; rw [e1 x (by simp [looksL])]
  | pick c x y => show oPick c x y env call id tm H = oPick c x y env call id tm' H; unfold oPick; rw [e1 c (by simp [looksL]), e1 x (by simp [looksL]), e1 y (by simp [looksL])]
  | alloc e => rfl
  | box e x => show oBox e x env call id tm H = oBox e x env call id tm' H; unfold oBox; rw [e1 x (by simp [looksL])]
  | build t ps => show oBuild t ps env call id tm H = oBuild t ps env call id tm' H; unfold oBuild; rw [evalParts_congr h]
  | buildSlice t n ps => show oBuildSlice t n ps env call id tm H = oBuildSlice t n ps env call id tm' H; unfold oBuildSlice; rw [evalParts_congr h]
  | insert t m k x => show oUpdate t m k x env call id tm H = oUpdate t m k x env call id tm' H; unfold oUpdate; rw [e1 m (by simp [looksL]), e1 k (by simp [looksL]), e1 x (by simp [looksL])]
  | load t x => show oLoad t x env call id tm H = oLoad t x env call id tm' H; unfold oLoad; rw [e1 x (by simp [looksL])]
  | store t x y => show oStore t x y env call id tm H = oStore t x y env call id tm' H; unfold oStore; rw [e1 x (by simp [looksL]), e1 y (by simp [looksL])]
  | ready g => rfl
  | waits g => rfl
  | nilCheck x => show oNilCheck x env call id tm H = oNilCheck x env call id tm' H; unfold oNilCheck; rw [e1 x (by simp [looksL])]
  | binOp p t x y t' => show oBin p t x y t' env call id tm H = oBin p t x y t' env call id tm' H; unfold oBin; rw [e1 x (by simp [looksL]), e1 y (by simp [looksL])]
  | unOp p t x => show oUn p t x env call id tm H = oUn p t x env call id tm' H; unfold oUn; rw [e1 x (by simp [looksL])]
  | convert s d x => show oConvert s d x env call id tm H = oConvert s d x env call id tm' H; unfold oConvert; rw [e1 x (by simp [looksL])]
  | sliceToArrayPointer d x => rfl
  | makeInterface t x => show oIface t x env call id tm H = oIface t x env call id tm' H; unfold oIface; rw [e1 x (by simp [looksL])]
  | makeFunc f x y => show oFunc f x y env call id tm H = oFunc f x y env call id tm' H; unfold oFunc; rw [evals_congr (h.sub (l := x.toList) fun z hz => mem_appL.2 (.inl hz)), evals_congr (h.sub (l := y.toList) fun z hz => mem_appL.2 (.inr hz))]
  | makeMap t r =>
    show oMakeMap t r env call id tm H = oMakeMap t r env call id tm' H
    cases r with
    | none => rfl
    | some x =>
      show bnd (env.map t) (fun _ => bnd (eval tm x) fun v => chk (!(notInt v)) (newMap H id)) = bnd (env.map t) (fun _ => bnd (eval tm' x) fun v => chk (!(notInt v)) (newMap H id))
      rw [e1 x (by simp [looksL, optL])]
  | makeChan t x => rfl
  | makeSlice t l c => show oMakeSlice t l c env call id tm H = oMakeSlice t l c env call id tm' H; unfold oMakeSlice; rw [e1 l (by simp [looksL]), e1 c (by simp [looksL])]
  | slice t x lo hi mx =>
    show oSlice t x lo hi mx env call id tm H = oSlice t x lo hi mx env call id tm' H
    have m : ∀ z, (z ∈ optL lo ∨ z ∈ optL hi ∨ z ∈ optL mx) → z ∈ looksL (.slice t x lo hi mx) := fun z hz => List.mem_cons_of_mem _ (mem_appL.2 (hz.imp (fun h => h) fun hz => mem_appL.2 hz))
    unfold oSlice
    rw [e1 x (by simp [looksL]), optVal_congr (h.sub (l := optL lo) fun z hz => m z (.inl hz)), optVal_congr (h.sub (l := optL hi) fun z hz => m z (.inr (.inl hz))), optVal_congr (h.sub (l := optL mx) fun z hz => m z (.inr (.inr hz)))]
  | fieldAddr t x f => show oFieldAddr t x f env call id tm H = oFieldAddr t x f env call id tm' H; unfold oFieldAddr; rw [e1 x (by simp [looksL])]
  | field t x f => show oField t x f env call id tm H = oField t x f env call id tm' H; unfold oField; rw [e1 x (by simp [looksL])]
  | indexAddr t x i => show oIndexAddr t x i env call id tm H = oIndexAddr t x i env call id tm' H; unfold oIndexAddr; rw [e1 x (by simp [looksL]), e1 i (by simp [looksL])]
  | index t x i => show oIndex t x i env call id tm H = oIndex t x i env call id tm' H; unfold oIndex; rw [e1 x (by simp [looksL]), e1 i (by simp [looksL])]
  | lookup t x i ok => show oLookup t x i ok env call id tm H = oLookup t x i ok env call id tm' H; unfold oLookup; rw [e1 x (by simp [looksL]), e1 i (by simp [looksL])]
  | mapUpdate t m k x => show oUpdate t m k x env call id tm H = oUpdate t m k x env call id tm' H; unfold oUpdate; rw [e1 m (by simp [looksL]), e1 k (by simp [looksL]), e1 x (by simp [looksL])]
  | mapEntry t m k => show oEntry t m k env call id tm H = oEntry t m k env call id tm' H; unfold oEntry; rw [e1 m (by simp [looksL]), e1 k (by simp [looksL])]
  | entryStore t m s x => show oEntryStore t m s x env call id tm H = oEntryStore t m s x env call id tm' H; unfold oEntryStore; rw [e1 m (by simp [looksL]), e1 s (by simp [looksL]), e1 x (by simp [looksL])]
  | range t x => show oRange t x env call id tm H = oRange t x env call id tm' H; unfold oRange; rw [e1 x (by simp [looksL])]
  | next it b => show oNext it b env call id tm H = oNext it b env call id tm' H; unfold oNext; rw [e1 it (by simp [looksL])]
  | entry it => show oMapEntry it env call id tm H = oMapEntry it env call id tm' H; unfold oMapEntry; rw [e1 it (by simp [looksL])]
  | typeAssert x t0 t ok => show oAssert x t0 t ok env call id tm H = oAssert x t0 t ok env call id tm' H; unfold oAssert; rw [e1 x (by simp [looksL])]
  | extract x i => show oExtract x i env call id tm H = oExtract x i env call id tm' H; unfold oExtract; rw [e1 x (by simp [looksL])]
  | call c =>
    show oCall c env call id tm H = oCall c env call id tm' H
    unfold oCall
    rw [evals_congr (h.sub (l := c.args.toList) fun z hz => mem_appL.2 (.inr hz))]
    cases hc : c.callee with
    | value f =>
      have : eval tm f = eval tm' f := e1 f (mem_appL.2 (.inl (by rw [hc]; simp [calleeL])))
      show bnd (evals tm' c.args.toList) (fun args => bnd (eval tm f) fun v => bnd (fnOf v) fun p => call p.1 (appL p.2.1 (appL args p.2.2)) H) = bnd (evals tm' c.args.toList) (fun args => bnd (eval tm' f) fun v => bnd (fnOf v) fun p => call p.1 (appL p.2.1 (appL args p.2.2)) H)
      rw [this]
    | invoke r n => rfl
    | builtin b => rfl
  | go c => rfl
  | defer c => rfl
  | panic x => rfl
  | send c x => rfl
  | recv t c ok => rfl
  | select cs b => rfl

/-! ### What an operation does to the memory -/
section kinds
variable {env : Env} {call : Call} {id : Nat} {tm : Tm} {H H' : Heap} {v : Value} {op : Op}

theorem retO_inv {x : Option Value} (h : retO x H = some (v, H')) : x = some v ∧ H' = H := by
  unfold retO at h
  rw [bnd_eq] at h
  obtain ⟨u, hu, e⟩ := h
  cases e
  exact ⟨hu, rfl⟩

/-- An answer that does not look at the memory. -/
def Blind (f : Heap → Res) : Prop := ∀ H v H', f H = some (v, H') → H' = H ∧ ∀ G, f G = some (v, G)
theorem Blind.retO (x : Option Value) : Blind fun H => Ev.retO x H := fun H v H' h => by
  obtain ⟨e, rfl⟩ := retO_inv h
  exact ⟨rfl, fun G => by simp [Ev.retO, e]⟩
theorem Blind.bnd {α : Type} {x : Option α} {f : α → Heap → Res} (h : ∀ a, Blind (f a)) : Blind fun H => Ev.bnd x fun a => f a H := by
  cases x with
  | none => intro H v H' h; cases h
  | some a => exact h a
theorem Blind.chk {b : Bool} {f : Heap → Res} (h : Blind f) : Blind fun H => Ev.chk b (f H) := by
  cases b with
  | false => intro H v H' h; cases h
  | true => exact h
theorem Blind.ifB {b : Bool} {f g : Heap → Res} (h : Blind f) (k : Blind g) : Blind fun H => Ev.ifB b (f H) (g H) := by
  cases b with
  | false => exact k
  | true => exact h
theorem Blind.some (v : Value) : Blind fun H => .some (v, H) := fun H v' H' h => by cases h; exact ⟨rfl, fun _ => rfl⟩

/-- An answer that makes the block `id`, whatever the memory is. -/
def Makes (id : Nat) (f : Heap → Res) : Prop := ∀ H v H', f H = some (v, H') → ∃ x, ∀ G, f G = some (v, G.set id x)
theorem Makes.bnd {α : Type} {x : Option α} {f : α → Heap → Res} (h : ∀ a, Makes id (f a)) : Makes id fun H => Ev.bnd x fun a => f a H := by
  cases x with
  | none => intro H v H' h; cases h
  | some a => exact h a
theorem Makes.chk {b : Bool} {f : Heap → Res} (h : Makes id f) : Makes id fun H => Ev.chk b (f H) := by
  cases b with
  | false => intro H v H' h; cases h
  | true => exact h
theorem Makes.some (v : Value) (x : Blk) : Makes id fun H => .some (v, H.set id x) := fun H v' H' h => by cases h; exact ⟨x, fun _ => rfl⟩
theorem Makes.newSlice (n c : Nat) (elem : TypeId) (cs : List Value) : Makes id fun H => Ev.newSlice H id n c elem cs := by
  unfold Ev.newSlice
  simp only [fN_eq]
  exact .some _ _
theorem Makes.newCells (elem : TypeId) (v : Value) : Makes id fun H => Ev.newCells env H id elem v := by
  unfold Ev.newCells
  refine .bnd fun _ => .bnd fun cs => ?_
  simp only [fN_eq]
  exact .some _ _
theorem Makes.newMap : Makes id fun H => Ev.newMap H id := by
  unfold Ev.newMap
  simp only [fN_eq]
  exact .some _ _

/-- An answer that leaves the memory. -/
def Leaves (f : Heap → Res) : Prop := ∀ H v H', f H = some (v, H') → H' = H
theorem Leaves.bnd {α : Type} {x : Heap → Option α} {f : α → Heap → Res} (h : ∀ a, Leaves (f a)) : Leaves fun H => Ev.bnd (x H) fun a => f a H := by
  intro H v H' k
  dsimp only at k
  rw [bnd_eq] at k
  obtain ⟨a, _, k⟩ := k
  exact h a H v H' k
theorem Leaves.chk {b : Bool} {f : Heap → Res} (h : Leaves f) : Leaves fun H => Ev.chk b (f H) := by
  cases b with
  | false => intro H v H' h; cases h
  | true => exact h
theorem Leaves.retO (x : Heap → Option Value) : Leaves fun H => Ev.retO (x H) H := fun _ _ _ h => (retO_inv h).2
theorem Leaves.some (v : Value) : Leaves fun H => .some (v, H) := fun H v' H' h => by cases h; rfl

theorem pure_ind (hk : kindOf env op = 0) : Blind fun H => evOp op env call id tm H := by
  cases op with
  | move x => exact .retO _
  | assign x => exact .retO _
  | pick c x y => exact .bnd fun _ => .bnd fun _ => .ifB (.retO _) (.retO _)
  | build t ps => exact .bnd fun _ => .retO _
  | nilCheck x => exact .bnd fun _ => .retO _
  | binOp p t x y t' => exact .bnd fun _ => .bnd fun _ => .retO _
  | unOp p t x => exact .bnd fun _ => .retO _
  | makeInterface t x => exact .bnd fun _ => .bnd fun _ => .chk (.some _)
  | makeFunc f x y => exact .bnd fun _ => .bnd fun _ => .some _
  | fieldAddr t x f => exact .bnd fun _ => .bnd fun _ => .bnd fun _ => .bnd fun _ => .chk (.some _)
  | field t x f => exact .bnd fun _ => .bnd fun _ => .bnd fun _ => .bnd fun _ => .retO _
  | indexAddr t x i => exact .bnd fun _ => .bnd fun _ => .bnd fun _ => .bnd fun _ => .retO _
  | index t x i => exact .bnd fun _ => .bnd fun _ => .bnd fun _ => .bnd fun _ => .retO _
  | typeAssert x t0 t ok => exact .bnd fun _ => .bnd fun _ => .bnd fun _ => .chk (.some _)
  | extract x i => exact .bnd fun _ => .bnd fun _ => .retO _
  | slice t x lo hi mx =>
    have hk' : sliceKind (env.und t) = 0 := hk
    refine .bnd fun xv => .bnd fun l => .bnd fun h => .bnd fun m => ?_
    show Blind fun H => bnd (env.und t) fun d => retO (sliceOf env H d xv l h m) H
    cases hd : env.und t with
    | none => intro H v H' h; cases h
    | some d =>
      rw [hd] at hk'
      show Blind fun H => retO (sliceOf env H d xv l h m) H
      cases d <;> first | (cases hk'; done) | skip
      cases xv <;> first | exact .retO _ | (intro H v H' h; cases h; done)
  | convert s d x =>
    have hk' : convKind (env.und d) = 0 := hk
    refine .bnd fun v => ?_
    show Blind fun H => bnd (env.und s) fun sd => bnd (env.und d) fun dd => convTo env H id sd dd v
    refine .bnd fun sd => ?_
    cases hd : env.und d with
    | none => intro H v H' h; cases h
    | some dd =>
      rw [hd] at hk'
      show Blind fun H => convTo env H id sd dd v
      cases dd <;> first | (cases hk'; done) | skip
      cases v <;> first | exact .retO _ | (intro H v H' h; cases h; done)
  | call c =>
    have hk' : callKind c.callee = 0 := hk
    cases hc : c.callee with
    | value f => rw [hc] at hk'; cases hk'
    | invoke r n => rw [hc] at hk'; cases hk'
    | builtin b => rw [hc] at hk'; cases b <;> cases hk'
  | _ => cases hk

theorem alloc_ind (hk : kindOf env op = 1) : Makes id fun H => evOp op env call id tm H := by
  cases op with
  | alloc e => exact .bnd fun _ => .newCells _ _
  | box e x => exact .bnd fun _ => .newCells _ _
  | buildSlice t n ps => exact .bnd fun _ => .bnd fun _ => .bnd fun _ => .bnd fun _ => .bnd fun _ => .chk (.bnd fun _ => .newSlice _ _ _ _)
  | makeMap t r =>
    cases r with
    | none => exact .newMap
    | some x => exact .bnd fun _ => .bnd fun _ => .chk .newMap
  | makeSlice t l c => exact .bnd fun _ => .bnd fun _ => .bnd fun _ => .bnd fun _ => .bnd fun _ => .bnd fun _ => .bnd fun _ => .chk (.bnd fun _ => .newSlice _ _ _ _)
  | slice t x lo hi mx =>
    have hk' : sliceKind (env.und t) = 1 := hk
    exfalso
    unfold sliceKind at hk'
    split at hk' <;> cases hk'
  | convert s d x =>
    have hk' : convKind (env.und d) = 1 := hk
    refine .bnd fun v => ?_
    show Makes id fun H => bnd (env.und s) fun sd => bnd (env.und d) fun dd => convTo env H id sd dd v
    refine .bnd fun sd => ?_
    cases hd : env.und d with
    | none => intro H v H' h; cases h
    | some dd =>
      rw [hd] at hk'
      show Makes id fun H => convTo env H id sd dd v
      cases dd <;> first | (cases hk'; done) | skip
      rename_i e
      cases v <;> first | (intro H v H' h; cases h; done) | skip
      rename_i s
      show Makes id fun H => toBytes env H id e s.data.toList
      unfold toBytes
      refine .bnd fun _ => .bnd fun _ => .chk ?_
      simp only [fN_eq]
      exact .some _ _
  | call c =>
    have hk' : callKind c.callee = 1 := hk
    cases hc : c.callee with
    | value f => rw [hc] at hk'; cases hk'
    | invoke r n => rw [hc] at hk'; cases hk'
    | builtin b => rw [hc] at hk'; cases b <;> cases hk'
  | _ => cases hk

theorem read_ind (hk : kindOf env op = 2) : Leaves fun H => evOp op env call id tm H := by
  cases op with
  | load t x => exact .bnd fun _ => .bnd fun _ => .retO _
  | lookup t x i ok => exact .bnd fun _ => .bnd fun _ => .retO _
  | slice t x lo hi mx => exact .bnd fun _ => .bnd fun _ => .bnd fun _ => .bnd fun _ => .bnd fun _ => .retO _
  | convert s d x =>
    have hk' : convKind (env.und d) = 2 := hk
    refine .bnd fun v => ?_
    show Leaves fun H => bnd (env.und s) fun sd => bnd (env.und d) fun dd => convTo env H id sd dd v
    refine .bnd fun sd => ?_
    cases hd : env.und d with
    | none => intro H v H' h; cases h
    | some dd =>
      rw [hd] at hk'
      show Leaves fun H => convTo env H id sd dd v
      cases dd <;> first | (cases hk'; done) | skip
      case pointer e =>
        cases v <;> first | (intro H v H' h; cases h; done) | skip
        rename_i q
        refine .chk ?_
        cases q with
        | none => intro H v H' h; cases h
        | some q => exact .bnd fun _ => .chk (.bnd fun _ => .bnd fun _ => .chk (.some _))
      case unsafePointer =>
        cases v <;> first | (intro H v H' h; cases h; done) | skip
        rename_i q
        refine .bnd fun _ => ?_
        cases q with
        | none => intro H v H' h; cases h
        | some q => exact .bnd fun _ => .chk (.bnd fun _ => .bnd fun _ => .chk (.some _))
      cases v <;> first | exact .some _ | (intro H v H' h; cases h; done) | skip
      rename_i a n c
      show Leaves fun H => bnd (asSlice sd) fun e => ofBytes env H e a n
      refine .bnd fun e => ?_
      unfold ofBytes
      refine .bnd fun _ => .chk ?_
      cases a with
      | none => exact .some _
      | some a => exact .bnd fun _ => .bnd fun _ => .some _
  | call c =>
    have hk' : callKind c.callee = 2 := hk
    refine .bnd fun args => ?_
    cases hc : c.callee with
    | value f => rw [hc] at hk'; cases hk'
    | invoke r n => rw [hc] at hk'; cases hk'
    | builtin b =>
      rw [hc] at hk'
      cases b <;> first | (cases hk'; done) | skip
      · exact .bnd fun _ => .bnd fun _ => .bnd fun _ => .bnd fun _ => .chk (.some _)
      · exact .bnd fun _ => .bnd fun _ => .bnd fun _ => .retO _
      · exact .retO _
      · exact .retO _
  | _ => cases hk
end kinds
end Go.Ev
