/- Symbols for the words of a sum: a list of nodes, each of earlier ones; tables of operations on them, each with its reason. -/
import Derived.Test.YthnojgpobfpgeaaGreatDoorEvTab
namespace Go.Ev
open Go.RowKit
abbrev W32 : Nat := 4294967296
inductive Nd where
 | conv (a : Nat)
 | shl (a n : Nat)
 | shr (a n : Nat)
 | or (a b : Nat)
 | and (a b : Nat)
 | xor (a b : Nat)
 | add (a b : Nat)
 | addc (a n : Nat)
 | not (a : Nat)
def Nd.ev (f : Nat -> Nat) : Nd -> Nat
 | .conv a => f a
 | .shl a n => f a * 2 ^ n % W32
 | .shr a n => f a / 2 ^ n
 | .or a b => f a ||| f b
 | .and a b => f a &&& f b
 | .xor a b => f a ^^^ f b
 | .add a b => (f a + f b) % W32
 | .addc a n => (f a + n) % W32
 | .not a => W32 - 1 - f a
def vals : List Nd -> Nat -> (Nat -> Nat) -> Nat -> Nat
 | [], _, f => f
 | n :: l, i, f => vals l (i + 1) (fun k => if k = i then n.ev f else f k)
def wd (a i : Nat) : Bool := (Nat.ble (Nat.succ a) 8 || Nat.ble 72 a) && Nat.ble (Nat.succ a) i
def Nd.ok (i : Nat) : Nd -> Bool
 | .conv a => Nat.ble 8 a && Nat.ble (Nat.succ a) 72
 | .shl a _ => wd a i
 | .shr a _ => wd a i
 | .or a b => wd a i && wd b i
 | .and a b => wd a i && wd b i
 | .xor a b => wd a i && wd b i
 | .add a b => wd a i && wd b i
 | .addc a _ => wd a i
 | .not a => wd a i
noncomputable def oks (l : List Nd) : Nat -> Bool := List.rec (motive := fun _ => Nat -> Bool) (fun _ => true) (fun n _ ih i => ifB (n.ok i) (fN (Nat.succ i) ih) false) l
theorem wd_ok {a i : Nat} (h : wd a i = true) : (a < 8 \/ 72 <= a) /\ a < i := by
 unfold wd at h
 simp only [Bool.and_eq_true, Bool.or_eq_true, Nat.ble_eq] at h
 omega
theorem oks_cons {n : Nd} {l : List Nd} {i : Nat} (h : oks (n :: l) i = true) : n.ok i = true /\ oks l (i + 1) = true := by
 have h' : ifB (n.ok i) (fN (Nat.succ i) (oks l)) false = true := h
 rw [fN_eq] at h'
 cases hn : n.ok i with
 | false => rw [hn] at h'; cases h'
 | true => rw [hn] at h'; exact ⟨rfl, h'⟩
theorem ev_congr {f g : Nat -> Nat} {n : Nd} {i : Nat} (hi : 72 <= i) (h : n.ok i = true) (hfg : ∀ a, a < i -> f a = g a) : n.ev f = n.ev g := by
 cases n <;> simp only [Nd.ok, Bool.and_eq_true, Nat.ble_eq] at h <;> simp only [Nd.ev]
 case conv a => exact hfg a (by omega)
 case shl a n => rw [hfg a (wd_ok h).2]
 case shr a n => rw [hfg a (wd_ok h).2]
 case addc a n => rw [hfg a (wd_ok h).2]
 case not a => rw [hfg a (wd_ok h).2]
 all_goals (rename_i a b; rw [hfg a (wd_ok h.1).2, hfg b (wd_ok h.2).2])
theorem vals_lt : ∀ (l : List Nd) (i : Nat) (f : Nat -> Nat) (k : Nat), k < i -> vals l i f k = f k
 | [], _, _, _, _ => rfl
 | n :: l, i, f, k, h => by
  show vals l (i + 1) _ k = f k
  rw [vals_lt l (i + 1) _ k (by omega), if_neg (by omega)]
theorem vals_ge : ∀ (l : List Nd) (i : Nat) (f : Nat -> Nat) (k : Nat), i + l.length <= k -> vals l i f k = f k
 | [], _, _, _, _ => rfl
 | n :: l, i, f, k, h => by
  show vals l (i + 1) _ k = f k
  simp only [List.length_cons] at h
  rw [vals_ge l (i + 1) _ k (by omega), if_neg (by omega)]
theorem vals_at : ∀ (l : List Nd) (i : Nat) (f : Nat -> Nat) (j : Nat) (n : Nd), 72 <= i -> oks l i = true -> l[j]? = some n -> vals l i f (i + j) = n.ev (vals l i f) /\ n.ok (i + j) = true
 | [], _, _, _, _, _, _, h => by simp at h
 | m :: l, i, f, 0, n, hi, ho, h => by
  simp only [List.getElem?_cons_zero, Option.some.injEq] at h
  subst h
  obtain ⟨h1, _⟩ := oks_cons ho
  refine ⟨?_, h1⟩
  show vals l (i + 1) _ (i + 0) = m.ev (vals l (i + 1) _)
  rw [vals_lt l (i + 1) _ (i + 0) (by omega), if_pos (by omega)]
  refine ev_congr hi h1 fun a ha => ?_
  rw [vals_lt l (i + 1) _ a (by omega), if_neg (by omega)]
 | m :: l, i, f, j + 1, n, hi, ho, h => by
  obtain ⟨_, h2⟩ := oks_cons ho
  have h3 := vals_at l (i + 1) (fun k => if k = i then m.ev f else f k) j n (by omega) h2 (by simpa using h)
  have e : i + (j + 1) = i + 1 + j := by omega
  rw [e]
  exact h3
theorem or_shl (x j : Nat) (hj : j < 256) : (x * 2 ^ 8 % W32 + j) % W32 = x * 2 ^ 8 % W32 ||| j := by
 have e : x * 2 ^ 8 % W32 = (x % 2 ^ 24) <<< 8 := by
  rw [Nat.shiftLeft_eq]; unfold W32; omega
 rw [e, <- Nat.shiftLeft_add_eq_or_of_lt (by simpa using hj)]
 rw [Nat.shiftLeft_eq, Nat.mod_eq_of_lt]
 have := Nat.mod_lt x (show 2 ^ 24 > 0 by decide)
 unfold W32; omega
theorem mul_mod_pow (x m n : Nat) (h : n + m = 32) : x * 2 ^ m % W32 = (x % 2 ^ n) * 2 ^ m := by
 have : W32 = 2 ^ n * 2 ^ m := by rw [<- Nat.pow_add, h]
 rw [this, Nat.mul_mod_mul_right]
theorem rot_or (x n m : Nat) (hx : x < W32) (h : n + m = 32) : (x / 2 ^ n + x * 2 ^ m % W32) % W32 = x * 2 ^ m % W32 ||| x / 2 ^ n := by
 have hW : W32 = 2 ^ n * 2 ^ m := by rw [<- Nat.pow_add, h]
 have hlt : x / 2 ^ n < 2 ^ m := by
  rw [Nat.div_lt_iff_lt_mul (Nat.two_pow_pos n), Nat.mul_comm, <- hW]; exact hx
 have hm := Nat.mod_lt x (Nat.two_pow_pos n)
 rw [mul_mod_pow x m n h, <- Nat.shiftLeft_eq, <- Nat.shiftLeft_add_eq_or_of_lt hlt, Nat.shiftLeft_eq, Nat.add_comm, Nat.mod_eq_of_lt]
 calc (x % 2 ^ n) * 2 ^ m + x / 2 ^ n < (x % 2 ^ n) * 2 ^ m + 2 ^ m := by omega
  _ = (x % 2 ^ n + 1) * 2 ^ m := by rw [Nat.add_mul, Nat.one_mul]
  _ <= 2 ^ n * 2 ^ m := Nat.mul_le_mul_right _ hm
  _ = W32 := hW.symm
theorem ch_or (x y z : Nat) (hx : x < W32) (hy : y < W32) (hz : z < W32) : ((x &&& y) + ((W32 - 1 - x) &&& z)) % W32 = (x &&& y) ||| ((W32 - 1 - x) &&& z) := by
 have h := BitVec.add_eq_or_of_and_eq_zero (BitVec.ofNat 32 x &&& BitVec.ofNat 32 y) (~~~(BitVec.ofNat 32 x) &&& BitVec.ofNat 32 z) (by
  apply BitVec.eq_of_getLsbD_eq
  intro i hi
  simp only [BitVec.getLsbD_and, BitVec.getLsbD_not, BitVec.getLsbD_zero]
  cases (BitVec.ofNat 32 x).getLsbD i <;> simp)
 have h' := congrArg BitVec.toNat h
 simp only [BitVec.toNat_add, BitVec.toNat_or, BitVec.toNat_and, BitVec.toNat_not, BitVec.toNat_ofNat] at h'
 rw [Nat.mod_eq_of_lt (a := x) hx, Nat.mod_eq_of_lt (a := y) hy, Nat.mod_eq_of_lt (a := z) hz] at h'
 exact h'
theorem maj_or (x y z : Nat) : (x &&& y) ||| (x &&& z) ||| (y &&& z) = (x &&& y) ^^^ (x &&& z) ^^^ (y &&& z) := by
 apply Nat.eq_of_testBit_eq
 intro i
 simp only [Nat.testBit_or, Nat.testBit_and, Nat.testBit_xor]
 cases x.testBit i <;> cases y.testBit i <;> cases z.testBit i <;> rfl
inductive Cert where
 | d
 | maj (m p q x y z : Nat)
 | orb (x j : Nat)
 | rot (x n m : Nat)
 | ch (x y nx z : Nat)
 | sum (M : List Nat)
structure Ent where
 op : Nat
 yc : Nat
 c : Nat
 ct : Cert
noncomputable def findE (op yc : Nat) (l : List Ent) : Option Nat :=
 List.rec (motive := fun _ => Option Nat) none (fun e _ ih => ifB (Nat.beq e.yc yc) (ifB (Nat.beq e.op op) (some e.c) ih) ih) l
theorem findE_mem {op yc c : Nat} : ∀ {l : List Ent}, findE op yc l = some c -> ∃ e ∈ l, e.op = op /\ e.yc = yc /\ e.c = c
 | [], h => by cases h
 | e :: l, h => by
  have h' : ifB (Nat.beq e.yc yc) (ifB (Nat.beq e.op op) (some e.c) (findE op yc l)) (findE op yc l) = some c := h
  have rest : findE op yc l = some c -> ∃ x ∈ e :: l, x.op = op /\ x.yc = yc /\ x.c = c := fun h => by
   obtain ⟨x, h1, h2⟩ := findE_mem h
   exact ⟨x, List.mem_cons_of_mem _ h1, h2⟩
  cases h1 : Nat.beq e.yc yc with
  | false => rw [h1, ifB_false] at h'; exact rest h'
  | true =>
   rw [h1, ifB_true] at h'
   cases h2 : Nat.beq e.op op with
   | false => rw [h2, ifB_false] at h'; exact rest h'
   | true =>
    rw [h2, ifB_true] at h'
    exact ⟨e, List.mem_cons_self, Nat.eq_of_beq_eq_true h2, Nat.eq_of_beq_eq_true h1, Option.some.inj h'⟩
noncomputable def eqNd (a b : Nd) : Bool :=
 match a, b with
 | .conv a, .conv b => Nat.beq a b
 | .shl a n, .shl b m => Nat.beq a b && Nat.beq n m
 | .shr a n, .shr b m => Nat.beq a b && Nat.beq n m
 | .or a n, .or b m => Nat.beq a b && Nat.beq n m
 | .and a n, .and b m => Nat.beq a b && Nat.beq n m
 | .xor a n, .xor b m => Nat.beq a b && Nat.beq n m
 | .add a n, .add b m => Nat.beq a b && Nat.beq n m
 | .addc a n, .addc b m => Nat.beq a b && Nat.beq n m
 | .not a, .not b => Nat.beq a b
 | _, _ => false
theorem eqNd_ok {a b : Nd} (h : eqNd a b = true) : a = b := by
 cases a <;> cases b <;> first | (cases h; done) | skip
 all_goals (
  simp only [eqNd, Bool.and_eq_true, Nat.beq_eq] at h
  first
  | (obtain ⟨h1, h2⟩ := h; subst h1 h2; rfl)
  | (subst h; rfl))
noncomputable def ndOf (N : Tr Nd) (c : Nat) : Option Nd := ifB (Nat.ble 72 c) (N.get (path (Nat.sub c 72))) none
noncomputable def isNd (N : Tr Nd) (c : Nat) (n : Nd) : Bool := Option.rec (motive := fun _ => Bool) false (fun m => eqNd m n) (ndOf N c)
noncomputable def hasM (c : Nat) (M : List Nat) : Bool := List.rec (motive := fun _ => Bool) false (fun a _ ih => ifB (Nat.beq a c) true ih) M
def CB : Nat := 1048576
noncomputable def flatN (ih : Nat -> Option (List Nat)) (n : Nd) : Option (List Nat) :=
 match n with
 | .add a b => bnd (ih a) fun l => bnd (ih b) fun m => some (appL l m)
 | .addc a n => bnd (ih a) fun l => some (appL l [Nat.add CB n])
 | _ => none
noncomputable def flatS (N : Tr Nd) (M : List Nat) (f : Nat) : Nat -> Option (List Nat) :=
 Nat.rec (motive := fun _ => Nat -> Option (List Nat)) (fun _ => none) (fun _ ih c => ifB (hasM c M) (some [c]) (bnd (ndOf N c) (flatN ih))) f
noncomputable def insQ (a : Nat) (l : List Nat) : List Nat := List.rec (motive := fun _ => List Nat) [a] (fun b t ih => ifB (Nat.ble a b) (a :: b :: t) (b :: ih)) l
noncomputable def srtQ (l : List Nat) : List Nat := List.rec (motive := fun _ => List Nat) [] (fun a _ ih => insQ a ih) l
noncomputable def eqLN (l : List Nat) : List Nat -> Bool := List.rec (motive := fun _ => List Nat -> Bool) (fun m => List.rec (motive := fun _ => Bool) true (fun _ _ _ => false) m)
 (fun a _ ih m => List.rec (motive := fun _ => Bool) false (fun b t _ => ifB (Nat.beq a b) (ih t) false) m) l
noncomputable def sumOk (N : Tr Nd) (a b c : Nat) (M : List Nat) : Bool :=
 Option.rec (motive := fun _ => Bool) false (fun p => eqLN (srtQ p.1) (srtQ p.2)) (bnd (flatS N M 6 a) fun l => bnd (flatS N M 6 b) fun m => bnd (flatS N M 6 c) fun k => some (appL l m, k))
theorem eqLN_ok : ∀ {l m : List Nat}, eqLN l m = true -> l = m
 | [], [], _ => rfl
 | [], _ :: _, h => by cases h
 | _ :: _, [], h => by cases h
 | a :: l, b :: m, h => by
  have h' : ifB (Nat.beq a b) (eqLN l m) false = true := h
  cases h1 : Nat.beq a b with
  | false => rw [h1] at h'; cases h'
  | true => rw [h1] at h'; rw [Nat.eq_of_beq_eq_true h1, eqLN_ok h']
section
variable (g : Nat -> Nat)
def tot (l : List Nat) : Nat := (l.map g).sum
theorem tot_ins (a : Nat) : ∀ (l : List Nat), tot g (insQ a l) = g a + tot g l
 | [] => by simp [tot, insQ]
 | b :: t => by
  show tot g (ifB (Nat.ble a b) (a :: b :: t) (b :: insQ a t)) = _
  cases Nat.ble a b with
  | true => simp [tot]
  | false =>
   have := tot_ins a t
   simp only [tot, ifB_false, List.map_cons, List.sum_cons] at *
   omega
theorem tot_srt : ∀ (l : List Nat), tot g (srtQ l) = tot g l
 | [] => rfl
 | a :: t => by
  show tot g (insQ a (srtQ t)) = _
  rw [tot_ins, tot_srt t]; simp [tot]
theorem tot_app (l m : List Nat) : tot g (l ++ m) = tot g l + tot g m := by simp [tot]
end
noncomputable def isSym (y : Nat) : Bool := Nat.beq (Nat.mod y 2) 0
noncomputable def okD (N : Tr Nd) (a op yc c : Nat) : Bool :=
 ifB (Nat.beq op 20) (isNd N c (.not a)) (ifB (isSym yc)
  (ifB (Nat.beq op 6) (isNd N c (.or a (Nat.div yc 2))) (ifB (Nat.beq op 5) (isNd N c (.and a (Nat.div yc 2))) (ifB (Nat.beq op 7) (isNd N c (.xor a (Nat.div yc 2))) (Nat.beq op 0 && isNd N c (.add a (Nat.div yc 2))))))
  (ifB (Nat.beq op 8) (isNd N c (.shl a (Nat.div yc 16)) && Nat.ble (Nat.div yc 16) 32) (ifB (Nat.beq op 9) (isNd N c (.shr a (Nat.div yc 16)) && Nat.ble (Nat.div yc 16) 32)
   (Nat.beq (Nat.mod (Nat.div yc 2) 8) 6 && ifB (Nat.beq op 0) (isNd N c (.addc a (Nat.div yc 16))) (Nat.beq op 2 && Nat.beq (Nat.div yc 16) 256 && isNd N c (.shl a 8))))))
noncomputable def okE (N : Tr Nd) (a : Nat) (e : Ent) : Bool :=
 match e.ct with
 | .d => okD N a e.op e.yc e.c
 | .maj m p q x y z => isSym e.yc && Nat.beq e.op 6 && isNd N e.c (.xor m (Nat.div e.yc 2)) && isNd N m (.xor p q) && isNd N a (.or p q) && isNd N p (.and x y) && isNd N q (.and x z) && isNd N (Nat.div e.yc 2) (.and y z)
 | .orb x j => isSym e.yc && Nat.beq e.op 0 && isNd N e.c (.or a (Nat.div e.yc 2)) && isNd N a (.shl x 8) && isNd N (Nat.div e.yc 2) (.conv j)
 | .rot x n m => isSym e.yc && Nat.beq e.op 0 && Nat.beq (Nat.add n m) 32 && isNd N e.c (.or (Nat.div e.yc 2) a) && isNd N a (.shr x n) && isNd N (Nat.div e.yc 2) (.shl x m)
 | .ch x y nx z => isSym e.yc && Nat.beq e.op 0 && isNd N e.c (.or a (Nat.div e.yc 2)) && isNd N a (.and x y) && isNd N (Nat.div e.yc 2) (.and nx z) && isNd N nx (.not x)
 | .sum M => isSym e.yc && Nat.beq e.op 0 && wd a 8192 && wd (Nat.div e.yc 2) 8192 && wd e.c 8192 && sumOk N a (Nat.div e.yc 2) e.c M
noncomputable def okEs (N : Tr Nd) (a : Nat) (l : List Ent) : Bool := List.rec (motive := fun _ => Bool) true (fun e _ ih => ifB (okE N a e) ih false) l
noncomputable def okT (N : Tr Nd) (T : List (List Ent)) : Nat -> Bool := List.rec (motive := fun _ => Nat -> Bool) (fun _ => true) (fun l _ ih i => ifB (okEs N i l) (fN (Nat.succ i) ih) false) T
theorem okEs_mem {N : Tr Nd} {a : Nat} : ∀ {l : List Ent}, okEs N a l = true -> ∀ e ∈ l, okE N a e = true
 | [], _, e, h => by cases h
 | x :: l, h, e, he => by
  have h' : ifB (okE N a x) (okEs N a l) false = true := h
  cases hx : okE N a x with
  | false => rw [hx] at h'; cases h'
  | true =>
   rw [hx] at h'
   rcases List.mem_cons.1 he with rfl | he
   ·
    exact hx
   ·
    exact okEs_mem h' e he
theorem okT_get {N : Tr Nd} : ∀ {T : List (List Ent)} {i k : Nat} {l : List Ent}, okT N T i = true -> T[k]? = some l -> okEs N (i + k) l = true
 | [], _, _, _, _, h => by simp at h
 | x :: T, i, k, l, h, hk => by
  have h' : ifB (okEs N i x) (fN (Nat.succ i) (okT N T)) false = true := h
  rw [fN_eq] at h'
  cases hx : okEs N i x with
  | false => rw [hx] at h'; cases h'
  | true =>
   rw [hx] at h'
   cases k with
   | zero => simp at hk; subst hk; exact hx
   | succ k =>
    have := okT_get (i := i + 1) (k := k) h' (by simpa using hk)
    have e : i + (k + 1) = i + 1 + k := by omega
    rw [e]; exact this
section
variable (L : List Nd) (T : List (List Ent)) (hw bs : Nat -> Nat)
def f0 (k : Nat) : Nat := if k < 8 then hw k else if k < 72 then bs (k - 8) else 0
def sv (k : Nat) : Nat := vals L 72 (f0 hw bs) k
structure ShaOk : Prop where
 nodes : oks L 72 = true
 ents : okT (trOf L) T 0 = true
 len : L.length <= 8000
variable {L T hw bs} (hS : ShaOk L T) (h8 : ∀ k, k < 8 -> hw k < W32) (h64 : ∀ k, k < 64 -> bs k < 256)
theorem nd_at {c : Nat} {n : Nd} (h : ndOf (trOf L) c = some n) : 72 <= c /\ L[c - 72]? = some n := by
 unfold ndOf at h
 cases h1 : Nat.ble 72 c with
 | false => rw [h1] at h; cases h
 | true =>
  rw [h1] at h
  rw [ifB_true, get_trOf] at h
  exact ⟨Nat.le_of_ble_eq_true h1, h⟩
include hS in
theorem sv_at {c : Nat} {n : Nd} (h : ndOf (trOf L) c = some n) : 72 <= c /\ c < 8192 /\ sv L hw bs c = n.ev (sv L hw bs) /\ n.ok c = true := by
 obtain ⟨h1, h2⟩ := nd_at h
 have hl : c - 72 < L.length := (List.getElem?_eq_some_iff.1 h2).1
 have := hS.len
 have h3 := vals_at L 72 (f0 hw bs) (c - 72) n (Nat.le_refl _) hS.nodes h2
 have e : 72 + (c - 72) = c := by omega
 rw [e] at h3
 exact ⟨h1, by omega, h3.1, h3.2⟩
theorem isNd_ok {c : Nat} {n : Nd} (h : isNd (trOf L) c n = true) : ndOf (trOf L) c = some n := by
 unfold isNd at h
 cases hn : ndOf (trOf L) c with
 | none => rw [hn] at h; cases h
 | some m => rw [hn] at h; rw [eqNd_ok h]
include h64 in
theorem sv_byte {k : Nat} (h1 : 8 <= k) (h2 : k < 72) : sv L hw bs k < 256 := by
 unfold sv
 rw [vals_lt L 72 _ k h2]
 unfold f0
 rw [if_neg (by omega), if_pos h2]
 exact h64 _ (by omega)
include hS h8 h64 in
theorem sv_word : ∀ (k : Nat), (k < 8 \/ 72 <= k) -> sv L hw bs k < W32 := by
 intro k
 induction k using Nat.strongRecOn with
 | ind k ih =>
  intro hk
  rcases hk with hk | hk
  ·
   unfold sv
   rw [vals_lt L 72 _ k (by omega)]
   unfold f0
   rw [if_pos hk]; exact h8 k hk
  ·
   by_cases hl : k - 72 < L.length
   ·
    have hg : L[k - 72]? = some L[k - 72] := List.getElem?_eq_getElem hl
    generalize L[k - 72] = n at hg
    have h3 := vals_at L 72 (f0 hw bs) (k - 72) n (Nat.le_refl _) hS.nodes hg
    have e : 72 + (k - 72) = k := by omega
    rw [e] at h3
    obtain ⟨h3, h4⟩ := h3
    have h5 : sv L hw bs k = n.ev (sv L hw bs) := h3
    clear h3
    rw [h5]
    clear h5 hg e
    cases n <;> simp only [Nd.ok, Bool.and_eq_true, Nat.ble_eq] at h4 <;> simp only [Nd.ev]
    case conv a => exact Nat.lt_trans (sv_byte h64 h4.1 (by omega)) (by decide)
    case shl a n => exact Nat.mod_lt _ (by decide)
    case shr a n => exact Nat.lt_of_le_of_lt (Nat.div_le_self _ _) (ih a (wd_ok h4).2 (wd_ok h4).1)
    case or a b =>
     have h1 := ih a (wd_ok h4.1).2 (wd_ok h4.1).1
     have h2 := ih b (wd_ok h4.2).2 (wd_ok h4.2).1
     exact Nat.or_lt_two_pow (n := 32) h1 h2
    case and a b => exact Nat.lt_of_le_of_lt Nat.and_le_left (ih a (wd_ok h4.1).2 (wd_ok h4.1).1)
    case xor a b =>
     have h1 := ih a (wd_ok h4.1).2 (wd_ok h4.1).1
     have h2 := ih b (wd_ok h4.2).2 (wd_ok h4.2).1
     exact Nat.xor_lt_two_pow (n := 32) h1 h2
    case add a b => exact Nat.mod_lt _ (by decide)
    case addc a n => exact Nat.mod_lt _ (by decide)
    case not a => unfold W32; omega
   ·
    unfold sv
    rw [vals_ge L 72 _ k (by omega)]
    unfold f0
    rw [if_neg (by omega), if_neg (by omega)]; decide
def Means (g : Nat -> Nat) (a op yc c : Nat) : Prop :=
 (op = 20 /\ g c = W32 - 1 - g a) \/
 (yc % 2 = 0 /\ (yc / 2 < 8 \/ 72 <= yc / 2) /\ yc / 2 < 8192 /\ ((op = 6 /\ g c = g a ||| g (yc / 2)) \/ (op = 5 /\ g c = g a &&& g (yc / 2)) \/ (op = 7 /\ g c = g a ^^^ g (yc / 2)) \/ (op = 0 /\ g c = (g a + g (yc / 2)) % W32))) \/
 (yc % 2 = 1 /\ ((op = 8 /\ yc / 16 <= 32 /\ g c = g a * 2 ^ (yc / 16) % W32) \/ (op = 9 /\ yc / 16 <= 32 /\ g c = g a / 2 ^ (yc / 16)) \/
  (yc / 2 % 8 = 6 /\ ((op = 0 /\ g c = (g a + yc / 16) % W32) \/ (op = 2 /\ g c = g a * (yc / 16) % W32)))))
def av (g : Nat -> Nat) (k : Nat) : Nat := if CB <= k then k - CB else g k
include hS h8 h64 in
theorem flatS_ok {M : List Nat} : ∀ (f c : Nat) {l : List Nat}, flatS (trOf L) M f c = some l -> (c < 8 \/ 72 <= c) -> c < 8192 -> tot (av (sv L hw bs)) l % W32 = sv L hw bs c
 | 0, _, _, h, _, _ => by cases h
 | f + 1, c, l, h, hc, hlt => by
  have h' : ifB (hasM c M) (some [c]) (bnd (ndOf (trOf L) c) (flatN (flatS (trOf L) M f))) = some l := h
  cases hm : hasM c M with
  | true =>
   rw [hm] at h'
   cases h'
   have : av (sv L hw bs) c = sv L hw bs c := by unfold av CB; rw [if_neg (by omega)]
   simp only [tot, List.map_cons, List.map_nil, List.sum_cons, List.sum_nil, Nat.add_zero, this]
   exact Nat.mod_eq_of_lt (sv_word hS h8 h64 c hc)
  | false =>
   rw [hm, ifB_false, bnd_eq] at h'
   obtain ⟨n, hn, h'⟩ := h'
   obtain ⟨h1, h2, h3, h4⟩ := sv_at (hw := hw) (bs := bs) hS hn
   unfold flatN at h'
   split at h'
   ·
    rename_i a b
    simp only [bnd_eq, appL_eq] at h'
    obtain ⟨l1, e1, l2, e2, e⟩ := h'
    cases e
    simp only [Nd.ok, Bool.and_eq_true] at h4
    have ha := wd_ok h4.1
    have hb := wd_ok h4.2
    have i1 := flatS_ok f a e1 ha.1 (by omega)
    have i2 := flatS_ok f b e2 hb.1 (by omega)
    rw [tot_app, Nat.add_mod, i1, i2, h3]
    rfl
   ·
    rename_i a n
    simp only [bnd_eq, appL_eq] at h'
    obtain ⟨l1, e1, e⟩ := h'
    cases e
    simp only [Nd.ok] at h4
    have ha := wd_ok h4
    have i1 := flatS_ok f a e1 ha.1 (by omega)
    have e0 : tot (av (sv L hw bs)) [CB + n] = n := by
     simp only [tot, List.map_cons, List.map_nil, List.sum_cons, List.sum_nil, Nat.add_zero, av]
     rw [if_pos (by omega)]; omega
    show tot (av (sv L hw bs)) (l1 ++ [CB + n]) % W32 = _
    rw [tot_app, e0, Nat.add_mod, i1, h3]
    show _ = (sv L hw bs a + n) % W32
    rw [Nat.add_mod (sv L hw bs a) n, Nat.mod_eq_of_lt (sv_word hS h8 h64 a ha.1)]
   ·
    cases h'
include hS h8 h64 in
theorem sumOk_ok {a b c : Nat} {M : List Nat} (h : sumOk (trOf L) a b c M = true) (ha : (a < 8 \/ 72 <= a) /\ a < 8192) (hb : (b < 8 \/ 72 <= b) /\ b < 8192) (hc : (c < 8 \/ 72 <= c) /\ c < 8192) :
  sv L hw bs c = (sv L hw bs a + sv L hw bs b) % W32 := by
 unfold sumOk at h
 generalize hx : bnd (flatS (trOf L) M 6 a) (fun l => bnd (flatS (trOf L) M 6 b) fun m => bnd (flatS (trOf L) M 6 c) fun k => some (appL l m, k)) = x at h
 cases x with
 | none => cases h
 | some p =>
  simp only [bnd_eq, appL_eq] at hx
  obtain ⟨l, e1, m, e2, k, e3, e⟩ := hx
  cases e
  have he := eqLN_ok (show eqLN (srtQ (l ++ m)) (srtQ k) = true from h)
  have t := congrArg (tot (av (sv L hw bs))) he
  rw [tot_srt, tot_srt, tot_app] at t
  rw [<- flatS_ok hS h8 h64 6 a e1 ha.1 ha.2, <- flatS_ok hS h8 h64 6 b e2 hb.1 hb.2, <- flatS_ok hS h8 h64 6 c e3 hc.1 hc.2, <- Nat.add_mod, t]
theorem isSym_eq (y : Nat) : isSym y = decide (y % 2 = 0) := by
 unfold isSym
 cases h : Nat.beq (Nat.mod y 2) 0 with
 | true => exact (decide_eq_true (Nat.eq_of_beq_eq_true h)).symm
 | false =>
  symm
  apply decide_eq_false
  intro e
  have h2 : Nat.beq (y % 2) 0 = false := h
  rw [e] at h2
  cases h2
def Wd (k : Nat) : Prop := (k < 8 \/ 72 <= k) /\ k < 8192
include hS in
theorem isNd_at {c : Nat} {n : Nd} (h : isNd (trOf L) c n = true) : Wd c /\ sv L hw bs c = n.ev (sv L hw bs) /\ n.ok c = true := by
 obtain ⟨h1, h2, h3, h4⟩ := sv_at (hw := hw) (bs := bs) hS (isNd_ok h)
 exact ⟨⟨.inr h1, h2⟩, h3, h4⟩
theorem wd_Wd {a c : Nat} (h : wd a c = true) (hc : c <= 8192) : Wd a := ⟨(wd_ok h).1, Nat.lt_of_lt_of_le (wd_ok h).2 hc⟩
include hS in
theorem okD_ok {a op yc c : Nat} (h : okD (trOf L) a op yc c = true) : Wd a /\ Wd c /\ Means (sv L hw bs) a op yc c := by
 unfold okD at h
 have d16 : Nat.div yc 16 = yc / 16 := rfl
 have d2 : Nat.div yc 2 = yc / 2 := rfl
 rw [isSym_eq, d16, d2] at h
 have bin : ∀ {n : Nd}, isNd (trOf L) c n = true -> (n.ok c = true -> wd a c = true) -> Wd a /\ Wd c /\ sv L hw bs c = n.ev (sv L hw bs) /\ n.ok c = true := fun hn ha => by
  obtain ⟨h1, h2, h3⟩ := isNd_at (hw := hw) (bs := bs) hS hn
  exact ⟨wd_Wd (ha h3) (Nat.le_of_lt h1.2), h1, h2, h3⟩
 cases h20 : Nat.beq op 20 with
 | true =>
  rw [h20, ifB_true] at h
  obtain ⟨h1, h2, h3, _⟩ := bin h (fun k => k)
  exact ⟨h1, h2, .inl ⟨Nat.eq_of_beq_eq_true h20, h3⟩⟩
 | false =>
  rw [h20, ifB_false] at h
  by_cases hs : yc % 2 = 0
  ·
   rw [decide_eq_true hs, ifB_true] at h
   have two : ∀ {n : Nd}, isNd (trOf L) c n = true -> (n.ok c = true -> wd a c = true /\ wd (yc / 2) c = true) -> ((op = 6 /\ n.ev (sv L hw bs) = sv L hw bs a ||| sv L hw bs (yc / 2)) \/ (op = 5 /\ n.ev (sv L hw bs) = sv L hw bs a &&& sv L hw bs (yc / 2)) \/ (op = 7 /\ n.ev (sv L hw bs) = sv L hw bs a ^^^ sv L hw bs (yc / 2)) \/ (op = 0 /\ n.ev (sv L hw bs) = (sv L hw bs a + sv L hw bs (yc / 2)) % W32)) -> Wd a /\ Wd c /\ Means (sv L hw bs) a op yc c := fun hn ha hm => by
    obtain ⟨h1, h2, h3, h4⟩ := bin hn (fun k => (ha k).1)
    have hb := wd_Wd (ha h4).2 (Nat.le_of_lt h2.2)
    rw [<- h3] at hm
    exact ⟨h1, h2, .inr (.inl ⟨hs, hb.1, hb.2, hm⟩)⟩
   cases h6 : Nat.beq op 6 with
   | true => rw [h6, ifB_true] at h; exact two h (fun k => by simpa [Nd.ok] using k) (.inl ⟨Nat.eq_of_beq_eq_true h6, rfl⟩)
   | false =>
    rw [h6, ifB_false] at h
    cases h5 : Nat.beq op 5 with
    | true => rw [h5, ifB_true] at h; exact two h (fun k => by simpa [Nd.ok] using k) (.inr (.inl ⟨Nat.eq_of_beq_eq_true h5, rfl⟩))
    | false =>
     rw [h5, ifB_false] at h
     cases h7 : Nat.beq op 7 with
     | true => rw [h7, ifB_true] at h; exact two h (fun k => by simpa [Nd.ok] using k) (.inr (.inr (.inl ⟨Nat.eq_of_beq_eq_true h7, rfl⟩)))
     | false =>
      rw [h7, ifB_false, Bool.and_eq_true] at h
      exact two h.2 (fun k => by simpa [Nd.ok] using k) (.inr (.inr (.inr ⟨Nat.eq_of_beq_eq_true h.1, rfl⟩)))
  ·
   rw [decide_eq_false hs, ifB_false] at h
   have hs1 : yc % 2 = 1 := by omega
   cases h8' : Nat.beq op 8 with
   | true =>
    rw [h8', ifB_true, Bool.and_eq_true] at h
    obtain ⟨h1, h2, h3, _⟩ := bin h.1 (fun k => k)
    exact ⟨h1, h2, .inr (.inr ⟨hs1, .inl ⟨Nat.eq_of_beq_eq_true h8', Nat.le_of_ble_eq_true h.2, h3⟩⟩)⟩
   | false =>
    rw [h8', ifB_false] at h
    cases h9 : Nat.beq op 9 with
    | true =>
     rw [h9, ifB_true, Bool.and_eq_true] at h
     obtain ⟨h1, h2, h3, _⟩ := bin h.1 (fun k => k)
     exact ⟨h1, h2, .inr (.inr ⟨hs1, .inr (.inl ⟨Nat.eq_of_beq_eq_true h9, Nat.le_of_ble_eq_true h.2, h3⟩)⟩)⟩
    | false =>
     rw [h9, ifB_false, Bool.and_eq_true] at h
     have hk : yc / 2 % 8 = 6 := Nat.eq_of_beq_eq_true h.1
     obtain ⟨_, h⟩ := h
     cases h0 : Nat.beq op 0 with
     | true =>
      rw [h0, ifB_true] at h
      obtain ⟨h1, h2, h3, _⟩ := bin h (fun k => k)
      exact ⟨h1, h2, .inr (.inr ⟨hs1, .inr (.inr ⟨hk, .inl ⟨Nat.eq_of_beq_eq_true h0, h3⟩⟩)⟩)⟩
     | false =>
      rw [h0, ifB_false, Bool.and_eq_true, Bool.and_eq_true] at h
      obtain ⟨h1, h2, h3, _⟩ := bin h.2 (fun k => k)
      have h256 : yc / 16 = 256 := Nat.eq_of_beq_eq_true h.1.2
      exact ⟨h1, h2, .inr (.inr ⟨hs1, .inr (.inr ⟨hk, .inr ⟨Nat.eq_of_beq_eq_true h.1.1, by rw [h256]; exact h3⟩⟩)⟩)⟩
include hS h8 h64 in
theorem okE_ok {a : Nat} {e : Ent} (h : okE (trOf L) a e = true) : Wd a /\ Wd e.c /\ Means (sv L hw bs) a e.op e.yc e.c := by
 obtain ⟨op, yc, c, ct⟩ := e
 have d2 : Nat.div yc 2 = yc / 2 := rfl
 cases ct with
 | d => exact okD_ok hS h
 | maj m p q x y z =>
  simp only [okE, Bool.and_eq_true, isSym_eq, decide_eq_true_eq, d2] at h
  obtain ⟨⟨⟨⟨⟨⟨⟨hs, hop⟩, n1⟩, n2⟩, n3⟩, n4⟩, n5⟩, n6⟩ := h
  obtain ⟨c1, c2, _⟩ := isNd_at (hw := hw) (bs := bs) hS n1
  obtain ⟨_, m2, _⟩ := isNd_at (hw := hw) (bs := bs) hS n2
  obtain ⟨a1, a2, _⟩ := isNd_at (hw := hw) (bs := bs) hS n3
  obtain ⟨_, p2, _⟩ := isNd_at (hw := hw) (bs := bs) hS n4
  obtain ⟨_, q2, _⟩ := isNd_at (hw := hw) (bs := bs) hS n5
  obtain ⟨b1, b2, _⟩ := isNd_at (hw := hw) (bs := bs) hS n6
  refine ⟨a1, c1, .inr (.inl ⟨hs, b1.1, b1.2, .inl ⟨Nat.eq_of_beq_eq_true hop, ?_⟩⟩)⟩
  simp only [Nd.ev] at c2 m2 a2 p2 q2 b2
  rw [c2, m2, a2, b2, p2, q2, maj_or]
 | orb x j =>
  simp only [okE, Bool.and_eq_true, isSym_eq, decide_eq_true_eq, d2] at h
  obtain ⟨⟨⟨⟨hs, hop⟩, n1⟩, n2⟩, n3⟩ := h
  obtain ⟨c1, c2, _⟩ := isNd_at (hw := hw) (bs := bs) hS n1
  obtain ⟨a1, a2, _⟩ := isNd_at (hw := hw) (bs := bs) hS n2
  obtain ⟨b1, b2, b3⟩ := isNd_at (hw := hw) (bs := bs) hS n3
  refine ⟨a1, c1, .inr (.inl ⟨hs, b1.1, b1.2, .inr (.inr (.inr ⟨Nat.eq_of_beq_eq_true hop, ?_⟩))⟩)⟩
  simp only [Nd.ev] at c2 a2 b2
  simp only [Nd.ok, Bool.and_eq_true, Nat.ble_eq] at b3
  rw [c2, a2, b2]
  exact (or_shl _ _ (sv_byte h64 b3.1 (by omega))).symm
 | rot x n m =>
  simp only [okE, Bool.and_eq_true, isSym_eq, decide_eq_true_eq, d2] at h
  obtain ⟨⟨⟨⟨⟨hs, hop⟩, hnm⟩, n1⟩, n2⟩, n3⟩ := h
  obtain ⟨c1, c2, _⟩ := isNd_at (hw := hw) (bs := bs) hS n1
  obtain ⟨a1, a2, a3⟩ := isNd_at (hw := hw) (bs := bs) hS n2
  obtain ⟨b1, b2, _⟩ := isNd_at (hw := hw) (bs := bs) hS n3
  refine ⟨a1, c1, .inr (.inl ⟨hs, b1.1, b1.2, .inr (.inr (.inr ⟨Nat.eq_of_beq_eq_true hop, ?_⟩))⟩)⟩
  simp only [Nd.ev] at c2 a2 b2
  have hx := (wd_ok (show wd x a = true from a3)).1
  rw [c2, a2, b2]
  exact (rot_or _ n m (sv_word hS h8 h64 x hx) (Nat.eq_of_beq_eq_true hnm)).symm
 | ch x y nx z =>
  simp only [okE, Bool.and_eq_true, isSym_eq, decide_eq_true_eq, d2] at h
  obtain ⟨⟨⟨⟨⟨hs, hop⟩, n1⟩, n2⟩, n3⟩, n4⟩ := h
  obtain ⟨c1, c2, _⟩ := isNd_at (hw := hw) (bs := bs) hS n1
  obtain ⟨a1, a2, a3⟩ := isNd_at (hw := hw) (bs := bs) hS n2
  obtain ⟨b1, b2, b3⟩ := isNd_at (hw := hw) (bs := bs) hS n3
  obtain ⟨_, x2, _⟩ := isNd_at (hw := hw) (bs := bs) hS n4
  refine ⟨a1, c1, .inr (.inl ⟨hs, b1.1, b1.2, .inr (.inr (.inr ⟨Nat.eq_of_beq_eq_true hop, ?_⟩))⟩)⟩
  simp only [Nd.ev] at c2 a2 b2 x2
  simp only [Nd.ok, Bool.and_eq_true] at a3 b3
  rw [c2, a2, b2, x2]
  exact (ch_or _ _ _ (sv_word hS h8 h64 x (wd_ok a3.1).1) (sv_word hS h8 h64 y (wd_ok a3.2).1) (sv_word hS h8 h64 z (wd_ok b3.2).1)).symm
 | sum M =>
  simp only [okE, Bool.and_eq_true, isSym_eq, decide_eq_true_eq, d2] at h
  obtain ⟨⟨⟨⟨⟨hs, hop⟩, ha⟩, hb⟩, hc⟩, hm⟩ := h
  have hb' := wd_ok hb
  refine ⟨wd_ok ha, wd_ok hc, .inr (.inl ⟨hs, hb'.1, hb'.2, .inr (.inr (.inr ⟨Nat.eq_of_beq_eq_true hop, ?_⟩))⟩)⟩
  exact sumOk_ok hS h8 h64 hm (wd_ok ha) hb' (wd_ok hc)
end
theorem int_or (a b : Nat) (ha : a < W32) (hb : b < W32) : intOp .or .u32 a .u32 b = some (.int .u32 ((a ||| b : Nat) : Int)) := by
 show mkInt .u32 (.ofNat (Nat.lor (Nat.mod a 4294967296) (Nat.mod b 4294967296))) = _
 have e1 : Nat.mod a 4294967296 = a := Nat.mod_eq_of_lt ha
 have e2 : Nat.mod b 4294967296 = b := Nat.mod_eq_of_lt hb
 rw [mkInt_eq, e1, e2]; rfl
theorem int_and (a b : Nat) (ha : a < W32) (hb : b < W32) : intOp .and .u32 a .u32 b = some (.int .u32 ((a &&& b : Nat) : Int)) := by
 show mkInt .u32 (.ofNat (Nat.land (Nat.mod a 4294967296) (Nat.mod b 4294967296))) = _
 have e1 : Nat.mod a 4294967296 = a := Nat.mod_eq_of_lt ha
 have e2 : Nat.mod b 4294967296 = b := Nat.mod_eq_of_lt hb
 rw [mkInt_eq, e1, e2]; rfl
theorem int_xor (a b : Nat) (ha : a < W32) (hb : b < W32) : intOp .xor .u32 a .u32 b = some (.int .u32 ((a ^^^ b : Nat) : Int)) := by
 show mkInt .u32 (.ofNat (Nat.xor (Nat.mod a 4294967296) (Nat.mod b 4294967296))) = _
 have e1 : Nat.mod a 4294967296 = a := Nat.mod_eq_of_lt ha
 have e2 : Nat.mod b 4294967296 = b := Nat.mod_eq_of_lt hb
 rw [mkInt_eq, e1, e2]; rfl
theorem wrap32 (n : Nat) : IntKind.u32.wrap (n : Int) = ((n % W32 : Nat) : Int) := by
 have e : IntKind.u32.wrap (n : Int) = (n : Int) % 4294967296 := by simp [IntKind.wrap, IntKind.signed, IntKind.bits]
 rw [e]; unfold W32; omega
theorem int_add (a b : Nat) : intOp .add .u32 a .u32 b = some (.int .u32 (((a + b) % W32 : Nat) : Int)) := by
 show wInt .u32 ((a : Int) + (b : Int)) = _
 rw [wInt_eq, <- Int.natCast_add, wrap32]
theorem int_mul (a b : Nat) : intOp .mul .u32 a .u32 b = some (.int .u32 (((a * b) % W32 : Nat) : Int)) := by
 show wInt .u32 ((a : Int) * (b : Int)) = _
 rw [wInt_eq, <- Int.natCast_mul, wrap32]
theorem int_not (a : Nat) (ha : a < W32) : intOp .sub .u32 4294967295 .u32 a = some (.int .u32 ((W32 - 1 - a : Nat) : Int)) := by
 show wInt .u32 ((4294967295 : Int) - (a : Int)) = _
 have e : (4294967295 : Int) - (a : Int) = ((4294967295 - a : Nat) : Int) := by unfold W32 at ha; omega
 rw [wInt_eq, e, wrap32]
 congr 3
 exact Nat.mod_eq_of_lt (by unfold W32; omega)
theorem int_shl (a n : Nat) (k : IntKind) (hn : n <= 32) : intOp .shl .u32 a k n = some (.int .u32 ((a * 2 ^ n % W32 : Nat) : Int)) := by
 show wInt .u32 ((a : Int) * (.ofNat (Nat.pow 2 (ifB (Nat.ble n 32) n 32)))) = _
 have e : Nat.ble n 32 = true := Nat.ble_eq_true_of_le hn
 rw [e, ifB_true, wInt_eq]
 have e2 : (a : Int) * (Int.ofNat (Nat.pow 2 n)) = ((a * 2 ^ n : Nat) : Int) := by rw [Int.natCast_mul]; rfl
 rw [e2, wrap32]
theorem int_shr (a n : Nat) (k : IntKind) (hn : n <= 32) : intOp .shr .u32 a k n = some (.int .u32 ((a / 2 ^ n : Nat) : Int)) := by
 show mkInt .u32 (.ofNat (Nat.div a (Nat.pow 2 (ifB (Nat.ble n 32) n 32)))) = _
 have e : Nat.ble n 32 = true := Nat.ble_eq_true_of_le hn
 rw [e, ifB_true, mkInt_eq]; rfl
def shaV (L : List Nd) (hw bs : Nat -> Nat) (ex : Nat -> Value) (k : Nat) : Value :=
 if k < 8 then .int .u32 (sv L hw bs k) else if k < 72 then .int .u8 (sv L hw bs k) else if k < 8192 then .int .u32 (sv L hw bs k) else ex k
@[reducible] def shaSg (L : List Nd) (hw bs : Nat -> Nat) (ex : Nat -> Value) (hex : ∀ k, isIS (ex k) = true) : Sg where
 val := shaV L hw bs ex
 kind := fun k => by
  unfold shaV
  split
  ·
   rfl
  ·
   split
   ·
    rfl
   ·
    split
    ·
     rfl
    ·
     exact hex k
theorem shaV_word {L : List Nd} {hw bs : Nat -> Nat} {ex : Nat -> Value} {k : Nat} (h : Wd k) : shaV L hw bs ex k = .int .u32 (sv L hw bs k) := by
 unfold shaV
 obtain ⟨h1, h2⟩ := h
 by_cases h8 : k < 8
 ·
  rw [if_pos h8]
 ·
  rw [if_neg h8, if_neg (by omega), if_pos h2]
theorem shaV_byte {L : List Nd} {hw bs : Nat -> Nat} {ex : Nat -> Value} {k : Nat} (h1 : 8 <= k) (h2 : k < 72) : shaV L hw bs ex k = .int .u8 (sv L hw bs k) := by
 unfold shaV
 rw [if_neg (by omega), if_pos h2]
theorem shaV_ex {L : List Nd} {hw bs : Nat -> Nat} {ex : Nat -> Value} {k : Nat} (h : 8192 <= k) : shaV L hw bs ex k = ex k := by
 unfold shaV
 rw [if_neg (by omega), if_neg (by omega), if_neg (by omega)]
end Go.Ev
