/- Frames of which nothing is known. -/
import Derived.Test.YthnojgpobfpgeaaGreatDoorEvEnv
import Derived.Test.YthnojgpobfpgeaaGreatDoorEvTab
import Derived.LoopN
namespace Go.Ev
open Go.RowKit
noncomputable def fullJ {α : Type} (k : Nat) : (Nat -> α) -> PT α k :=
 Nat.rec (motive := fun k => (Nat -> α) -> PT α k) (fun j => j 0) (fun _ ih j => B16.mk (ih fun m => j (Nat.add (Nat.mul 16 m) 0)) (ih fun m => j (Nat.add (Nat.mul 16 m) 1)) (ih fun m => j (Nat.add (Nat.mul 16 m) 2)) (ih fun m => j (Nat.add (Nat.mul 16 m) 3)) (ih fun m => j (Nat.add (Nat.mul 16 m) 4)) (ih fun m => j (Nat.add (Nat.mul 16 m) 5)) (ih fun m => j (Nat.add (Nat.mul 16 m) 6)) (ih fun m => j (Nat.add (Nat.mul 16 m) 7)) (ih fun m => j (Nat.add (Nat.mul 16 m) 8)) (ih fun m => j (Nat.add (Nat.mul 16 m) 9)) (ih fun m => j (Nat.add (Nat.mul 16 m) 10)) (ih fun m => j (Nat.add (Nat.mul 16 m) 11)) (ih fun m => j (Nat.add (Nat.mul 16 m) 12)) (ih fun m => j (Nat.add (Nat.mul 16 m) 13)) (ih fun m => j (Nat.add (Nat.mul 16 m) 14)) (ih fun m => j (Nat.add (Nat.mul 16 m) 15))) k
theorem selG_fullJ {α : Type} (k : Nat) (j : Nat -> α) {r : Nat} (h : r < 16) : (selG (PT α k) r).f (fullJ (k + 1) j) = fullJ k fun m => j (16 * m + r) := by
 rcases lt16 h with rfl | rfl | rfl | rfl | rfl | rfl | rfl | rfl | rfl | rfl | rfl | rfl | rfl | rfl | rfl | rfl <;> rfl
theorem mkG_fullJ {α : Type} : ∀ (k n : Nat) (j : Nat -> α), n < 16 ^ k -> (mkG α k n).f (fullJ k j) = j n
 | 0, n, j, h => by
  have : n = 0 := by simpa using h
  subst this; rfl
 | k + 1, n, j, h => by
  have e := selG_fullJ k j (Nat.mod_lt n (by decide : 16 > 0))
  show (mkG α k (n / 16)).f ((selG (PT α k) (n % 16)).f (fullJ (k + 1) j)) = j n
  rw [e, mkG_fullJ k (n / 16) _ (by rw [Nat.pow_succ] at h; omega)]
  congr 1; omega
noncomputable def absJ (v : Value) : Value := match v with
 | .bool b => .bool b
 | _ => .float .f32 0
theorem absJ_V [Sg] {ρ : Map} (v : Value) : V ρ (absJ v) v := by
 cases v <;> first | exact .bool _ | exact .any (fun b h => by cases h)
noncomputable def tmJ (j : Nat -> Value) : Tm := ⟨fullJ 2 j, .leaf⟩
theorem slot_tmJ (j : Nat -> Value) {t : Nat} (h : t < 256) : slot (tmJ j) t = j t := by
 unfold slot getF
 have h1 : Nat.ble (Nat.succ t) (Nat.pow 16 2) = true := Nat.ble_eq_true_of_le h
 rw [h1]
 exact mkG_fullJ 2 t j h
theorem slot_tmJ_ge (j : Nat -> Value) {t : Nat} (h : 256 <= t) : slot (tmJ j) t = undef := by
 unfold slot getF
 cases h1 : Nat.ble (Nat.succ t) (Nat.pow 16 2) with
 | true => have := Nat.le_of_ble_eq_true h1; exact absurd this (by show ¬ (t + 1 <= 256); omega)
 | false => rfl
theorem TR.junk [Sg] {ρ : Map} {tmps : Array Value} (h : tmps.size <= 256) : TR ρ (tmJ fun t => absJ (tmps.getD t undef)) tmps := by
 intro t
 by_cases ht : t < 256
 ·
  rw [slot_tmJ _ ht]; exact absJ_V _
 ·
  rw [slot_tmJ_ge _ (by omega)]
  have : tmps.getD t undef = undef := by rw [Array.getD_eq_getD_getElem?, Array.getElem?_eq_none (by omega)]; rfl
  rw [this]; exact .tuple .nil
end Go.Ev
namespace Go.Ev
open Go.RowKit
noncomputable def codes (c : Code) : List Code :=
 Code.rec (motive := fun _ => List Code) [.skip] (fun i ops d => [.region i ops d]) (fun _ _ x y => x ++ y) (fun c a b _ _ => [.cond c a b]) (fun i b _ => [.block i b]) (fun b _ => [.loop b])
  (fun f p a b _ _ => [.rangeFunc f p a b]) (fun i => [.exit i]) (fun b _ => [.scope b]) (fun l => [.label l]) (fun l => [.goto l]) [.ret] (fun s => [.refuse s]) c
def wpL (P : Program) : List Code -> (Exit -> Act -> World -> Prop) -> Act -> World -> Prop
 | [], Q => Q .normal
 | c :: l, Q => c.wp P (Exit.then (wpL P l Q) Q)
theorem codes_seq (a b : Code) : codes (.seq a b) = codes a ++ codes b := rfl
theorem then_mono {A B : Act -> World -> Prop} {Q Q' : Exit -> Act -> World -> Prop} (hA : ∀ a w, A a w -> B a w) (hQ : ∀ e a w, e ≠ .normal -> Q e a w -> Q' e a w) : ∀ e a w, Exit.then A Q e a w -> Exit.then B Q' e a w := by
 intro e a w h
 cases e with
 | normal => exact hA a w h
 | exit i => exact hQ _ a w (by simp) h
 | goto i => exact hQ _ a w (by simp) h
 | ret => exact hQ _ a w (by simp) h
 | panic i => exact hQ _ a w (by simp) h
 | outgrown => exact hQ _ a w (by simp) h
theorem wpL_codes_app {P : Program} : ∀ (c : Code) (l : List Code) (Q : Exit -> Act -> World -> Prop) (a : Act) (w : World), wpL P (codes c ++ l) Q a w -> c.wp P (Exit.then (wpL P l Q) Q) a w := by
 intro c
 induction c with
 | seq x y ihx ihy =>
  intro l Q a w h
  rw [codes_seq, List.append_assoc] at h
  refine wp_seq (wp_mono (ihx _ Q a w h) (then_mono (fun a w h => ihy l Q a w h) fun e a w he h => ?_))
  cases e <;> first | exact absurd rfl he | exact h
 | _ => intro l Q a w h; exact h
theorem wpL_codes {P : Program} {c : Code} {Q : Exit -> Act -> World -> Prop} {a : Act} {w : World} (h : wpL P (codes c) Q a w) : c.wp P Q a w := by
 have := wpL_codes_app c [] Q a w (by rw [List.append_nil]; exact h)
 refine wp_mono this fun e a w h => ?_
 cases e <;> exact h
noncomputable def itemN (l : List Code) (n : Nat) : Code := (nthL n l).getD .skip
noncomputable def loopId (c : Code) : Option Nat := match c with
 | .block i (.loop _) => some i
 | _ => none
noncomputable def loopB (c : Code) : Code := match c with
 | .block _ (.loop b) => b
 | _ => .skip
theorem loop_eq {c : Code} {i : Nat} (h : loopId c = some i) : c = .block i (.loop (loopB c)) := by
 unfold loopId at h
 split at h
 ·
  cases h; rfl
 ·
  cases h
theorem drop_item {l : List Code} {n : Nat} (h : Nat.ble (Nat.succ n) (lenL l) = true) : l.drop n = itemN l n :: l.drop (n + 1) := by
 have h' : n < l.length := by have := Nat.le_of_ble_eq_true h; rw [lenL_eq] at this; exact this
 rw [List.drop_eq_getElem_cons h']
 congr 1
 unfold itemN
 rw [nthL_eq, List.getElem?_eq_getElem h']; rfl
section
variable {P : Program} {Q : Exit -> Act -> World -> Prop}
theorem wp_loop_n {b : Code} {I : Nat -> Act -> World -> Prop} (step : ∀ k a w, I k a w -> b.wp P (Exit.then (fun a' w' => ∃ k', k' < k /\ I k' a' w') Q) a w) : ∀ (k : Nat) (a : Act) (w : World), I k a w -> (Code.loop b).wp P Q a w := by
 have key : ∀ (n k : Nat) (a : Act) (w : World), k < n -> I k a w -> Code.rounds P b Q n a w := by
  intro n
  induction n with
  | zero => intro k a w h; omega
  | succ n ih =>
   intro k a w hk hI
   rw [rounds_succ]
   refine wp_mono (step k a w hI) (then_mono (fun a w ⟨k', h1, h2⟩ => ih k' a w (by omega) h2) fun e a w he h => ?_)
   exact h
 exact fun k a w h => wp_loop_rounds (k + 1) (key _ k a w (by omega) h)
theorem wpL_loop {L : List Code} {n i : Nat} {a : Act} {w : World} (hn : Nat.ble (Nat.succ n) (lenL L) = true) (hi : loopId (itemN L n) = some i)
  (h : (Code.loop (loopB (itemN L n))).wp P (Exit.inBlock i (Exit.then (wpL P (L.drop (n + 1)) Q) Q)) a w) : wpL P (L.drop n) Q a w := by
 rw [drop_item hn, loop_eq hi]
 exact wp_block h
end
def Fr (n : Nat) (a : Act) (l : List (Nat × Value)) : Prop := a.tmps.size = n /\ a.defers = [] /\ ∀ p ∈ l, a.tmps.getD p.1 undef = p.2
theorem fr_enter {args : List Value} {n m : Nat} (hm : m = n) (hn : args.length <= n) {l : List (Nat × Value)} (hl : ∀ p ∈ l, args[p.1]? = some p.2) : Fr n ⟨(⟨args⟩ : Array Value) ++ Array.replicate (m - (⟨args⟩ : Array Value).size) undef, []⟩ l := by
 subst hm
 refine ⟨by simp; omega, rfl, fun p hp => ?_⟩
 have h := hl p hp
 have hlt : p.1 < args.length := (List.getElem?_eq_some_iff.1 h).1
 simp only [Array.getD_eq_getD_getElem?]
 rw [Array.getElem?_append_left (by simpa using hlt)]
 simp [h]
noncomputable def tmOf (j : Nat -> Value) (l : List (Nat × Value)) : Tm := List.rec (motive := fun _ => Tm) (tmJ j) (fun p _ ih => putT ih (some p.1) p.2) l
noncomputable def sameEx (a b : Ex) : Bool := Ex.rec (motive := fun _ => Bool) (isNormal b) (fun i => Ex.rec (motive := fun _ => Bool) false (fun k => Nat.beq i k) false b) (Ex.rec (motive := fun _ => Bool) false (fun _ => false) true b) a
theorem sameEx_ok {a b : Ex} (h : sameEx a b = true) : a = b := by
 cases a <;> cases b <;> first | rfl | (cases h; done) | exact congrArg Ex.exit (Nat.eq_of_beq_eq_true h)
noncomputable def allS (tm : Tm) (l : List (Nat × Value)) : Bool := List.rec (motive := fun _ => Bool) true (fun p _ ih => ifB (sameV 4 (slot tm p.1) p.2) ih false) l
theorem allS_ok {tm : Tm} : ∀ {l : List (Nat × Value)}, allS tm l = true -> ∀ p ∈ l, slot tm p.1 = p.2
 | [], _, p, hp => by simp at hp
 | q :: l, h, p, hp => by
  have h' : ifB (sameV 4 (slot tm q.1) q.2) (allS tm l) false = true := h
  cases h1 : sameV 4 (slot tm q.1) q.2 with
  | false => rw [h1, ifB_false] at h'; cases h'
  | true =>
   rw [h1, ifB_true] at h'
   rcases List.mem_cons.1 hp with rfl | hp
   ·
    exact sameV_ok 4 _ _ h1
   ·
    exact allS_ok h' p hp
noncomputable def allCode (n : Nat) (l : List Code) : Bool := List.rec (motive := fun _ => Bool) true (fun c _ ih => ifB (codeOk n c) ih false) l
theorem allCode_ok {n : Nat} : ∀ {l : List Code}, allCode n l = true -> ∀ c ∈ l, codeOk n c = true
 | [], _, c, hc => by simp at hc
 | d :: l, h, c, hc => by
  have h' : ifB (codeOk n d) (allCode n l) false = true := h
  cases h1 : codeOk n d with
  | false => rw [h1, ifB_false] at h'; cases h'
  | true =>
   rw [h1, ifB_true] at h'
   rcases List.mem_cons.1 hc with rfl | hc
   ·
    exact h1
   ·
    exact allCode_ok h' c hc
noncomputable def evL (env : Env) (call : Call) (n : Nat) (l : List Code) : Tm -> Heap -> CRes :=
 List.rec (motive := fun _ => Tm -> Heap -> CRes) (fun tm H => some (.normal, tm, H)) (fun c _ ih tm H => bnd (evC env call n c tm H) fun r => ifB (isNormal r.1) (ih r.2.1 r.2.2) (some r)) l
section
variable [Sg] {P : Program} {env : Env} (hE : EnvOk P env) (hM : P.follows .mixedOrders = true) (hFn : FunsOk P env) (hSp : SpecsOk P env)
theorem TR.of {ρ : Map} {tmps : Array Value} (hs : tmps.size <= 256) : ∀ {ins : List (Nat × Value)}, (∀ p ∈ ins, V ρ p.2 (tmps.getD p.1 undef)) -> TR ρ (tmOf (fun t => absJ (tmps.getD t undef)) ins) tmps
 | [], _ => TR.junk hs
 | q :: l, h => by
  intro t
  show V ρ (slot (putT (tmOf _ l) (some q.1) q.2) t) _
  rw [slot_put]
  by_cases ht : t = q.1
  ·
   rw [if_pos ht, ht]; exact h q (by simp)
  ·
   rw [if_neg ht]; exact TR.of hs (fun p hp => h p (by simp [hp])) t
include hE hM hFn hSp in
theorem evL_ok {N d n M : Nat} : ∀ {l rest : List Code} {ρ : Map} {tm : Tm} {H : Heap} {a : Act} {w : World} {r : Ex × Tm × Heap} {Q : Exit -> Act -> World -> Prop}, evL env (evF env N d) n l tm H = some r -> (∀ c ∈ l, codeOk M c = true) -> a.tmps.size = M -> TR ρ tm a.tmps -> HR P ρ H w ->
  (∀ ρ' a' w', TR ρ' r.2.1 a'.tmps -> HR P ρ' r.2.2 w' -> Step (fun b => H.next <= b) ρ H w ρ' r.2.2 w' -> a'.tmps.size = a.tmps.size -> a'.defers = a.defers -> Exit.then (wpL P rest Q) Q (exOf r.1) a' w') -> wpL P (l ++ rest) Q a w
 | [], rest, ρ, tm, H, a, w, r, Q, h, _, hs, hT, hH, hQ => by
  cases h
  exact hQ ρ a w hT hH (Step.refl _ _ _ _) rfl rfl
 | c :: l, rest, ρ, tm, H, a, w, r, Q, h, hc, hs, hT, hH, hQ => by
  have h' : bnd (evC env (evF env N d) n c tm H) (fun r => ifB (isNormal r.1) (evL env (evF env N d) n l r.2.1 r.2.2) (some r)) = some r := h
  rw [bnd_eq] at h'
  obtain ⟨r1, h1, h2⟩ := h'
  refine (evC_ok hE (evF_ok hE hM hFn hSp N d) (drawOk hE (evF_ok hE hM hFn hSp N d) hM) M n).1 c ρ tm H a w r1 h1 (hc c (by simp)) hs hT hH _ ?_
  intro ρ' a' w' hT' hH' hS hsz hdf
  cases he : isNormal r1.1 with
  | true =>
   rw [he, ifB_true] at h2
   have en : exOf r1.1 = .normal := by cases hx : r1.1 <;> first | rfl | (rw [hx] at he; cases he)
   rw [en]
   show wpL P (l ++ rest) Q a' w'
   refine evL_ok h2 (fun c hc' => hc c (by simp [hc'])) (hsz.trans hs) hT' hH' fun ρ'' a'' w'' hT'' hH'' hS'' hsz'' hdf'' => ?_
   exact hQ ρ'' a'' w'' hT'' hH'' (hS.trans (hS''.weaken fun b hb => Nat.le_trans hS.next hb)) (hsz''.trans hsz) (hdf''.trans hdf)
  | false =>
   rw [he, ifB_false] at h2
   obtain rfl := Option.some.inj h2
   have := hQ ρ' a' w' hT' hH' hS hsz hdf
   cases hx : r1.1 with
   | normal => rw [hx] at he; cases he
   | exit i => rw [hx] at this; exact this
   | ret => rw [hx] at this; exact this
end
end Go.Ev
namespace Go.Ev
open Go.RowKit
abbrev Row := List Value × TypeId × Acc
def RowAt (P : Program) (o : Option Obj) (e : Emb) (vals : List Value) (elem : TypeId) (ro : Acc) : Prop :=
 ∃ (C : Array Value) (fr : Nat × Nat) (i : TypeInfo), o = some (.cells C elem fr) /\ P.info? elem = some i /\ i.size = e.k /\ vals.length = e.size /\ e.size <= e.room /\ C.size = e.base + e.room /\
  (ro = .rw -> ∀ j, j < C.size -> ¬ (fr.1 <= j /\ j < fr.2)) /\ win C e = vals /\ e.base % e.k = 0
noncomputable def heapRowsFrom (rows : List Row) : Nat -> Heap -> Heap :=
 List.rec (motive := fun _ => Nat -> Heap -> Heap) (fun _ H => H) (fun r _ ih i H => (ih (Nat.succ i) H).set i (.cells r.1 r.2.1 r.2.2)) rows
noncomputable def heapRows (rows : List Row) : Heap := heapRowsFrom rows 0 ⟨bank none 5, lenL rows⟩
theorem heapRowsFrom_next : ∀ (rows : List Row) (i : Nat) (H : Heap), (heapRowsFrom rows i H).next = H.next
 | [], _, _ => rfl
 | _ :: l, i, H => heapRowsFrom_next l (i + 1) H
theorem heapRowsFrom_get : ∀ (rows : List Row) (i : Nat) (H : Heap) (b : Nat), (heapRowsFrom rows i H).get b = if i <= b then (match rows[b - i]? with | some r => some (.cells r.1 r.2.1 r.2.2) | none => H.get b) else H.get b
 | [], i, H, b => by simp [heapRowsFrom]
 | r :: l, i, H, b => by
  show ((heapRowsFrom l (i + 1) H).set i (.cells r.1 r.2.1 r.2.2)).get b = _
  by_cases h : b = i
  ·
   subst h; rw [Heap.get_set_same]; simp
  ·
   rw [Heap.get_set_ne h, heapRowsFrom_get l (i + 1) H b]
   by_cases h1 : i + 1 <= b
   ·
    rw [if_pos h1, if_pos (by omega)]
    have : b - i = (b - (i + 1)) + 1 := by omega
    rw [this]; rfl
   ·
    rw [if_neg h1, if_neg (by omega)]
theorem heapRows_next (rows : List Row) : (heapRows rows).next = rows.length := by unfold heapRows; rw [heapRowsFrom_next, lenL_eq]
theorem heapRows_get (rows : List Row) (b : Nat) : (heapRows rows).get b = match rows[b]? with | some r => some (.cells r.1 r.2.1 r.2.2) | none => none := by
 unfold heapRows
 rw [heapRowsFrom_get]
 simp only [Nat.zero_le, if_true, Nat.sub_zero]
 cases rows[b]? with
 | some r => rfl
 | none => exact getF_bank none 5 b
def atomE : Value -> Bool
 | .pointer (some ⟨_, _, none⟩) => true
 | .slice (some ⟨_, _, none⟩) n c => Nat.ble n c && !(Nat.beq c U)
 | v => atom v
def blockE : Value -> Option Nat
 | .pointer (some a) => some a.block
 | .slice (some a) _ _ => some a.block
 | _ => none
noncomputable def accN (a : Acc) : Nat := Acc.rec (motive := fun _ => Nat) 0 1 2 a
theorem accN_inj {a b : Acc} (h : Nat.beq (accN a) (accN b) = true) : a = b := by
 cases a <;> cases b <;> first | rfl | (cases Nat.eq_of_beq_eq_true h; done)
noncomputable def rowIs (H : Heap) (b : Nat) (r : Row) : Bool := Option.rec (motive := fun _ => Bool) false (fun c => ifB (all2 (sameV 4) c.1 r.1) (ifB (Nat.beq c.2.1 r.2.1) (Nat.beq (accN c.2.2) (accN r.2.2)) false) false) (bnd (H.get b) cellsOf)
theorem rowIs_ok {H : Heap} {b : Nat} {r : Row} (h : rowIs H b r = true) : H.get b = some (.cells r.1 r.2.1 r.2.2) := by
 unfold rowIs at h
 cases hg : H.get b with
 | none => rw [hg] at h; cases h
 | some x =>
  rw [hg] at h
  cases x with
  | cells cs e ro =>
   have h' : ifB (all2 (sameV 4) cs r.1) (ifB (Nat.beq e r.2.1) (Nat.beq (accN ro) (accN r.2.2)) false) false = true := h
   cases h1 : all2 (sameV 4) cs r.1 with
   | false => rw [h1, ifB_false] at h'; cases h'
   | true =>
    rw [h1, ifB_true] at h'
    cases h2 : Nat.beq e r.2.1 with
    | false => rw [h2, ifB_false] at h'; cases h'
    | true =>
     rw [h2, ifB_true] at h'
     rw [all2_ok (sameV_ok 4) h1, Nat.eq_of_beq_eq_true h2, accN_inj h']
  | _ => cases h
noncomputable def rowsAre (H : Heap) (l : List (Nat × Row)) : Bool := List.rec (motive := fun _ => Bool) true (fun p _ ih => ifB (rowIs H p.1 p.2) ih false) l
theorem rowsAre_ok {H : Heap} : ∀ {l : List (Nat × Row)}, rowsAre H l = true -> ∀ p ∈ l, H.get p.1 = some (.cells p.2.1 p.2.2.1 p.2.2.2)
 | [], _, p, hp => by simp at hp
 | q :: l, h, p, hp => by
  have h' : ifB (rowIs H q.1 q.2) (rowsAre H l) false = true := h
  cases h1 : rowIs H q.1 q.2 with
  | false => rw [h1, ifB_false] at h'; cases h'
  | true =>
   rw [h1, ifB_true] at h'
   rcases List.mem_cons.1 hp with rfl | hp
   ·
    exact rowIs_ok h1
   ·
    exact rowsAre_ok h' p hp
noncomputable def chkRH (ex : Ex) (outs : List (Nat × Value)) (rows : List (Nat × Row)) (r : CRes) : Bool :=
 Option.rec (motive := fun _ => Bool) false (fun r => ifB (sameEx r.1 ex) (ifB (allS r.2.1 outs) (rowsAre r.2.2 rows) false) false) r
theorem chkRH_ok {ex : Ex} {outs : List (Nat × Value)} {rows : List (Nat × Row)} {r : CRes} (h : chkRH ex outs rows r = true) :
  ∃ tm H, r = some (ex, tm, H) /\ (∀ p ∈ outs, slot tm p.1 = p.2) /\ ∀ p ∈ rows, H.get p.1 = some (.cells p.2.1 p.2.2.1 p.2.2.2) := by
 cases r with
 | none => cases h
 | some r =>
  obtain ⟨e, tm, H⟩ := r
  have h' : ifB (sameEx e ex) (ifB (allS tm outs) (rowsAre H rows) false) false = true := h
  cases h1 : sameEx e ex with
  | false => rw [h1, ifB_false] at h'; cases h'
  | true =>
   rw [h1, ifB_true] at h'
   cases h2 : allS tm outs with
   | false => rw [h2, ifB_false] at h'; cases h'
   | true =>
    rw [h2, ifB_true] at h'
    exact ⟨tm, H, by rw [sameEx_ok h1], allS_ok h2, rowsAre_ok h'⟩
theorem Step.below' {S : Nat -> Prop} {ρ ρ' : Map} {H H' : Heap} {w w' : World} {base : Nat} (h : Step S ρ H w ρ' H' w') (hb : base <= w.heap.size) (hn : ∀ B, B < w.heap.size -> Wr ρ H B -> base <= B) : Below base w w' :=
 ⟨h.os, h.tape, h.output, h.size, fun B hB => h.keep B (by omega) fun hw => by have := hn B (by omega) hw; omega⟩
section
variable [Sg]
def denE (es : Nat -> Emb) : Value -> Value
 | .pointer (some ⟨b, o, none⟩) => .pointer (some ⟨(es b).B, (es b).base + o, none⟩)
 | .slice (some ⟨b, o, none⟩) n c => .slice (some ⟨(es b).B, (es b).base + o, none⟩) n c
 | v => den v
theorem denE_V {ρ : Map} {es : Nat -> Emb} {v : Value} (ha : atomE v = true) (hb : ∀ b, blockE v = some b -> ρ b = some (es b)) : V ρ v (denE es v) := by
 unfold atomE at ha
 split at ha
 ·
  exact .ptr (hb _ rfl)
 ·
  rename_i b o n c
  rw [Bool.and_eq_true] at ha
  exact .slice (hb _ rfl) (Nat.le_of_ble_eq_true ha.1) (fun h => by subst h; simp at ha)
 ·
  rename_i h1 h2
  have : denE es v = den v := by
   unfold denE
   split
   ·
    exact absurd rfl (h1 _ _)
   ·
    exact absurd rfl (h2 _ _ _ _)
   ·
    rfl
  rw [this]; exact den_V ha
theorem denE_inv {ρ : Map} {es : Nat -> Emb} {v v' : Value} (ha : atomE v = true) (hb : ∀ b e, blockE v = some b -> ρ b = some e -> es b = e) (h : V ρ v v') : v' = denE es v := by
 unfold atomE at ha
 split at ha
 ·
  cases h with
  | ptr h => show _ = Value.pointer _; rw [hb _ _ rfl h]
 ·
  rename_i b o n c
  rw [Bool.and_eq_true] at ha
  cases h with
  | slice h => show _ = Value.slice _ _ _; rw [hb _ _ rfl h]
  | sliceU => simp at ha
  | empty => simp at ha
 ·
  rename_i h1 h2
  have : denE es v = den v := by
   unfold denE
   split
   ·
    exact absurd rfl (h1 _ _)
   ·
    exact absurd rfl (h2 _ _ _ _)
   ·
    rfl
  rw [this]; exact den_inv ha h
theorem VL_denE {ρ : Map} {es : Nat -> Emb} : ∀ {l : List Value}, (∀ v ∈ l, atomE v = true) -> (∀ v ∈ l, ∀ b, blockE v = some b -> ρ b = some (es b)) -> VL ρ l (l.map (denE es))
 | [], _, _ => .nil
 | v :: l, ha, hb => .cons (denE_V (ha v (by simp)) (hb v (by simp))) (VL_denE (fun v hv => ha v (by simp [hv])) fun v hv => hb v (by simp [hv]))
theorem denE_VL {ρ : Map} {es : Nat -> Emb} : ∀ {l l' : List Value}, (∀ v ∈ l, atomE v = true) -> (∀ v ∈ l, ∀ b e, blockE v = some b -> ρ b = some e -> es b = e) -> VL ρ l l' -> l' = l.map (denE es)
 | [], _, _, _, .nil => rfl
 | v :: l, _, ha, hb, .cons hv ht => by
  rw [List.map_cons, denE_inv (ha v (by simp)) (hb v (by simp)) hv, denE_VL (fun v hv => ha v (by simp [hv])) (fun v hv => hb v (by simp [hv])) ht]
theorem br_row {P : Program} {ρ : Map} {es : Nat -> Emb} {e : Emb} {o : Option Obj} {r : Row} (ha : ∀ v ∈ r.1, atomE v = true) (hb : ∀ v ∈ r.1, ∀ b, blockE v = some b -> ρ b = some (es b)) (h1 : ∀ v ∈ r.1, (denE es v).oneCell' = true)
  (h : RowAt P o e (r.1.map (denE es)) r.2.1 r.2.2) : BR P ρ e (.cells r.1 r.2.1 r.2.2) o := by
 obtain ⟨C, fr, i, rfl, hi, hk, hl, hsr, hC, hf, hw, hbk⟩ := h
 refine .cells hi hk (by simpa using hl) hsr hC hf ?_ ?_ hbk
 ·
  rw [hw]; exact VL_denE ha hb
 ·
  rw [hw]; intro v hv
  obtain ⟨u, hu, rfl⟩ := List.mem_map.1 hv
  exact h1 u hu
theorem row_br {P : Program} {ρ : Map} {es : Nat -> Emb} {e : Emb} {o : Option Obj} {r : Row} (ha : ∀ v ∈ r.1, atomE v = true) (hb : ∀ v ∈ r.1, ∀ b e, blockE v = some b -> ρ b = some e -> es b = e)
  (h : BR P ρ e (.cells r.1 r.2.1 r.2.2) o) : RowAt P o e (r.1.map (denE es)) r.2.1 r.2.2 := by
 cases h with
 | cells hi hk hs hr hC hf hv h1 hbk =>
  rename_i C fr i
  exact ⟨C, fr, i, rfl, hi, hk, by simpa using hs, hr, hC, hf, denE_VL ha hb hv, hbk⟩
theorem denE_one {es : Nat -> Emb} {v : Value} (ha : atomE v = true) : (denE es v).oneCell' = true := by
 unfold atomE at ha
 split at ha
 ·
  rfl
 ·
  rfl
 ·
  rename_i h1 h2
  have : denE es v = den v := by
   unfold denE
   split
   ·
    exact absurd rfl (h1 _ _)
   ·
    exact absurd rfl (h2 _ _ _ _)
   ·
    rfl
  rw [this]
  cases v with
  | float k i => cases k with
   | f64 => exact plain_one (isIS_plain (Sg.kind i))
   | f32 => cases ha
  | _ => exact plain_one ha
def enum {α : Type} : Nat -> List α -> List (Nat × α)
 | _, [] => []
 | i, a :: l => (i, a) :: enum (i + 1) l
omit [Sg] in
theorem enum_mem {α : Type} : ∀ {l : List α} {i k : Nat} {a : α}, l[k]? = some a -> (i + k, a) ∈ enum i l
 | a :: l, i, 0, b, h => by simp at h; subst h; exact List.mem_cons_self
 | a :: l, i, k + 1, b, h => by
  have := enum_mem (i := i + 1) (k := k) (a := b) (l := l) (by simpa using h)
  have e : i + 1 + k = i + (k + 1) := by omega
  rw [e] at this
  exact List.mem_cons_of_mem _ this
structure MemAt (P : Program) (base : Nat) (es : Nat -> Emb) (l : List (Nat × Row)) (w : World) : Prop where
 row : ∀ p ∈ l, RowAt P w.heap[(es p.1).B]? (es p.1) (p.2.1.map (denE es)) p.2.2.1 p.2.2.2
 inj : ∀ p ∈ l, ∀ q ∈ l, isW p.2.2.2 = true -> (es p.1).B = (es q.1).B -> p.1 = q.1
 own : ∀ p ∈ l, isW p.2.2.2 = true -> base <= (es p.1).B
structure RowsOk (rows : List Row) (is : List (Nat × Value)) (os : List (Nat × Value)) (rows' : List (Nat × Row)) : Prop where
 ins : ∀ p ∈ is, atomE p.2 = true /\ ∀ b, blockE p.2 = some b -> b < rows.length
 outs : ∀ p ∈ os, atomE p.2 = true
 cells : ∀ r ∈ rows, ∀ v ∈ r.1, atomE v = true /\ (∀ b, blockE v = some b -> b < rows.length)
 cells' : ∀ r ∈ rows', ∀ v ∈ r.2.1, atomE v = true
 known : ∀ r ∈ rows', r.1 < rows.length \/ ∃ p : Nat × Value, p ∈ os /\ blockE p.2 = some r.1
theorem blockE_V {ρ : Map} {v v' : Value} {b : Nat} (ha : atomE v = true) (hb : blockE v = some b) (h : V ρ v v') : ∃ e, ρ b = some e := by
 unfold blockE at hb
 split at hb
 ·
  cases hb
  rename_i a
  cases h with
  | ptr h => exact ⟨_, h⟩
 ·
  cases hb
  rename_i a n c
  cases h with
  | slice h => exact ⟨_, h⟩
  | sliceU h => exact ⟨_, h⟩
  | empty h => exact ⟨_, h⟩
 ·
  cases hb
section
variable {P : Program} {env : Env} (hE : EnvOk P env) (hM : P.follows .mixedOrders = true) (hFn : FunsOk P env) (hSp : SpecsOk P env)
include hE hM hFn hSp in
theorem pieceR {N d n M m k : Nat} {L : List Code} {rows : List Row} {rows' : List (Nat × Row)} {ins outs : List (Nat × Value)} {ex : Ex} (hrun : ∀ j, chkRH ex outs rows' (evL env (evF env N d) n ((L.drop m).take k) (tmOf j ins) (heapRows rows)) = true)
  (hok : allCode M L = true) (hM256 : M <= 256) (hR : RowsOk rows ins outs rows') (hlen : rows.length <= 1000) {Q : Exit -> Act -> World -> Prop} {a : Act} {w : World} {base : Nat} {es : Nat -> Emb} {vs : List (Nat × Value)}
  (hvs : vs = ins.map fun p => (p.1, denE es p.2)) (hF : Fr M a vs) (hMem : MemAt P base es (enum 0 rows) w) (hbase : base <= w.heap.size)
  (hQ : ∀ a' w' es', (∀ b, b < rows.length -> es' b = es b) -> Fr M a' (outs.map fun p => (p.1, denE es' p.2)) -> MemAt P base es' rows' w' -> Below base w w' -> (∀ B, B < w.heap.size -> (∀ b r, rows[b]? = some r -> isW r.2.2 = true -> (es b).B ≠ B) -> w'.heap[B]? = w.heap[B]?) -> Exit.then (wpL P (L.drop (m + k)) Q) Q (exOf ex) a' w') : wpL P (L.drop m) Q a w := by
 subst hvs
 obtain ⟨hs, hd, hl⟩ := hF
 obtain ⟨tm, H, hr, hout, hrow⟩ := chkRH_ok (hrun fun t => absJ (a.tmps.getD t undef))
 have e : L.drop m = (L.drop m).take k ++ L.drop (m + k) := by rw [<- List.drop_drop, List.take_append_drop]
 rw [e]
 let ρ : Map := fun b => if b < rows.length then some (es b) else none
 have hρ : ∀ b, b < rows.length -> ρ b = some (es b) := fun b hb => by simp [ρ, hb]
 have hρ' : ∀ b e, ρ b = some e -> b < rows.length /\ e = es b := fun b e h => by
  simp only [ρ] at h
  split at h
  ·
   rename_i h1; exact ⟨h1, (Option.some.inj h).symm⟩
  ·
   cases h
 have hget : ∀ b x, (heapRows rows).get b = some x -> ∃ r, rows[b]? = some r /\ x = .cells r.1 r.2.1 r.2.2 := fun b x h => by
  rw [heapRows_get] at h
  cases hb : rows[b]? with
  | none => rw [hb] at h; cases h
  | some r => rw [hb] at h; exact ⟨r, rfl, (Option.some.inj h).symm⟩
 have hen : ∀ b r, rows[b]? = some r -> (b, r) ∈ enum 0 rows := fun b r h => by
  have := enum_mem (i := 0) h
  rwa [Nat.zero_add] at this
 have hHR : HR P ρ (heapRows rows) w := by
  refine ⟨fun b x e hx he => ?_, fun b1 b2 x1 x2 e1 e2 hx1 hx2 he1 he2 hw hB => ?_, fun b e he => ?_, by rw [heapRows_next]; omega, fun b hb => ?_⟩
  ·
   obtain ⟨r, hr, rfl⟩ := hget b x hx
   obtain ⟨_, rfl⟩ := hρ' b e he
   have hc := hR.cells r (List.mem_of_getElem? hr)
   exact br_row (es := es) (fun v hv => (hc v hv).1) (fun v hv b hb => hρ b ((hc v hv).2 b hb)) (fun v hv => denE_one (hc v hv).1) (hMem.row (b, r) (hen b r hr))
  ·
   obtain ⟨r1, hr1, rfl⟩ := hget b1 x1 hx1
   obtain ⟨h1, rfl⟩ := hρ' b1 e1 he1
   obtain ⟨h2, rfl⟩ := hρ' b2 e2 he2
   obtain ⟨r2, hr2, _⟩ := hget b2 x2 hx2
   exact hMem.inj (b1, r1) (hen b1 r1 hr1) (b2, r2) (hen b2 r2 hr2) hw hB
  ·
   rw [heapRows_next]; exact (hρ' b e he).1
  ·
   rw [heapRows_get]
   have hb' : rows.length <= b := by rw [heapRows_next] at hb; exact hb
   rw [List.getElem?_eq_none hb']
 have hWr : ∀ B, Wr ρ (heapRows rows) B -> ∃ b r, rows[b]? = some r /\ isW r.2.2 = true /\ (es b).B = B := fun B ⟨b, x, e, hx, he, hB, hw⟩ => by
  obtain ⟨r, hr, rfl⟩ := hget b x hx
  obtain ⟨_, rfl⟩ := hρ' b e he
  exact ⟨b, r, hr, hw, hB⟩
 refine evL_ok hE hM hFn hSp hr (fun c hc => allCode_ok hok c (List.mem_of_mem_drop (List.mem_of_mem_take hc))) hs (TR.of (by omega) fun p hp => ?_) hHR fun ρ' a' w' hT hH hS hsz hdf => ?_
 ·
  rw [hl (p.1, denE es p.2) (List.mem_map.2 ⟨p, hp, rfl⟩)]
  exact denE_V (hR.ins p hp).1 fun b hb => hρ b ((hR.ins p hp).2 b hb)
 ·
  let es' : Nat -> Emb := fun b => (ρ' b).getD ⟨0, 0, 0, 0, 0⟩
  have hes : ∀ b e, ρ' b = some e -> es' b = e := fun b e h => by simp [es', h]
  have hold : ∀ b, b < rows.length -> ρ' b = some (es b) := fun b hb => hS.le b _ (hρ b hb)
  have hkn : ∀ p ∈ rows', ∃ e, ρ' p.1 = some e := fun r hr => by
   rcases hR.known r hr with h | ⟨p, hp, hpb⟩
   ·
    exact ⟨_, hold _ h⟩
   ·
    have := hT p.1
    rw [hout p hp] at this
    exact blockE_V (hR.outs p hp) hpb this
  refine hQ a' w' es' (fun b hb => hes b _ (hold b hb)) ⟨hsz.trans hs, hdf.trans hd, fun p hp => ?_⟩ ⟨fun p hp => ?_, fun p hp q hq hw hB => ?_, fun p hp hw => ?_⟩ (hS.below' hbase fun B hB hw => ?_) fun B hB hn => hS.keep B hB fun hw => ?_
  ·
   obtain ⟨q, hq, rfl⟩ := List.mem_map.1 hp
   have := hT q.1
   rw [hout q hq] at this
   exact denE_inv (hR.outs q hq) (fun b e _ h => hes b e h) this
  ·
   obtain ⟨e, he⟩ := hkn p hp
   rw [hes p.1 e he]
   exact row_br (hR.cells' p hp) (fun v _ b e _ h => hes b e h) (hH.blk p.1 _ e (hrow p hp) he)
  ·
   obtain ⟨e1, he1⟩ := hkn p hp
   obtain ⟨e2, he2⟩ := hkn q hq
   rw [hes p.1 e1 he1, hes q.1 e2 he2] at hB
   exact hH.inj p.1 q.1 _ _ e1 e2 (hrow p hp) (hrow q hq) he1 he2 hw hB
  ·
   obtain ⟨e, he⟩ := hkn p hp
   rw [hes p.1 e he]
   rcases Nat.lt_or_ge e.B w.heap.size with h | h
   ·
    obtain ⟨b0, r0, hr0, hw0, hB0⟩ := hWr _ (hS.wr e.B h ⟨p.1, _, e, hrow p hp, he, rfl, hw⟩)
    rw [<- hB0]; exact hMem.own (b0, r0) (hen b0 r0 hr0) hw0
   ·
    omega
  ·
   obtain ⟨b0, r0, hr0, hw0, hB0⟩ := hWr B hw
   rw [<- hB0]; exact hMem.own (b0, r0) (hen b0 r0 hr0) hw0
  ·
   obtain ⟨b0, r0, hr0, hw0, hB0⟩ := hWr B hw
   exact hn b0 r0 hr0 hw0 hB0
end
end
end Go.Ev
