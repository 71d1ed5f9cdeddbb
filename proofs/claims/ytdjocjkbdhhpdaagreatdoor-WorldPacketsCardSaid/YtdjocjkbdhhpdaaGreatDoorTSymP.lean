/- WorldPackets' runs: true, whatever is handed in: what is symbolic, and its tables. -/
import Derived.Test.YtdjocjkbdhhpdaaGreatDoorTA
import Derived.Test.YtdjocjkbdhhpdaaGreatDoorEvArg
/-! WorldPackets' runs: true, whatever is handed in: what is symbolic, and its tables. -/
namespace Go.Proofs
open Go.Ev
open Go.RowKit
set_option maxRecDepth 1000000
noncomputable def envOfP (S : Syms) (l : List (FuncId × Spec)) : Env := envS S tyT fnT (fun t => Nat.beq t 38) (specAt l)
theorem eqP38 : Tryz.prog.eqGuardType Tryz.prog.depth 38 = false ∧ Tryz.prog.stoodInHeld 38 = false := ⟨by kernel_rfl, by kernel_rfl⟩
theorem envP_ok [Go.Ev.Sg] {S : Syms} (hS : SymsOk Tryz.prog S) {l : List (FuncId × Spec)} : EnvOk Tryz.prog (envOfP S l) := envSOk hS rfl (fun t h => by rw [Nat.eq_of_beq_eq_true h]; exact eqP38)

noncomputable abbrev sy (i : Nat) : Value := .float .f64 i
noncomputable abbrev nat (n : Nat) : Value := .int .i64 (.ofNat n)
noncomputable abbrev u8 (n : Nat) : Value := .int .u8 (.ofNat n)
/-- The tables' common part: how long the text is. -/
noncomputable def binsT (long : Bool) : List SBin := [⟨.gtr, sy 3, nat 100, .bool long⟩]
noncomputable def slT (long : Bool) : List SSlice := Bool.rec (motive := fun _ => List SSlice) [] [⟨sy 2, none, some (nat 100), sy 10⟩] long
/-- A byte of the packet is turned: the bytes ahead of it, it, those behind it. -/
noncomputable def tabK (long : Bool) (pre : List UInt8) (d : Nat) (post : List UInt8) : Tabs :=
  { lens := [⟨2, sy 3⟩], convs := [⟨4, sy 1, sy 4⟩], slices := slT long
    bytes := [⟨appL (mapL byteVal pre) (sy 5 :: mapL byteVal post), sy 6⟩, ⟨[sy 5], sy 7⟩]
    bins := ⟨.xor, u8 d, sy 4, sy 5⟩ :: ⟨.add, str pre, sy 7, sy 8⟩ :: ⟨.add, sy 8, str post, sy 6⟩ :: ⟨.neq, sy 6, sy 6, .bool false⟩ :: binsT long }
/-- Other bytes altogether. -/
noncomputable def tabO (long : Bool) : Tabs :=
  { lens := [⟨2, sy 3⟩], slices := slT long
    bins := ⟨.lss, sy 0, nat 0, .bool true⟩ :: ⟨.neq, sy 2, sy 2, .bool false⟩ :: ⟨.neq, sy 10, sy 10, .bool false⟩ :: binsT long }
/-- A byte that is not there. -/
noncomputable def tabW (long : Bool) : Tabs :=
  { lens := [⟨2, sy 3⟩], slices := slT long
    bins := ⟨.lss, sy 0, nat 0, .bool false⟩ :: ⟨.lss, sy 0, nat 14, .bool false⟩ :: binsT long }
noncomputable abbrev runP (T : Tabs) : Go.Ev.Call := evF (envOfP T.syms specsA) 100000 200

/-- The turned byte. -/
noncomputable def turned (by_ : Int) (d : Nat) : Int := ofUns .u8 (Nat.xor (uns .u8 (.ofNat d)) (uns .u8 (IntKind.wrap .u8 by_)))
noncomputable def turnedB (by_ : Int) (d : Nat) : UInt8 := UInt8.ofNat (turned by_ d).toNat
/-- What is handed in, and what comes of it; the text is cut if it may be. -/
noncomputable def pkVal (at_ by_ : Int) (text : List UInt8) (pre : List UInt8) (d : Nat) (post : List UInt8) : Nat → Value
  | 0 => .int .i64 at_
  | 1 => .int .i64 by_
  | 2 => str text
  | 3 => .int .i64 (text.length : Int)
  | 4 => .int .u8 (IntKind.wrap .u8 by_)
  | 5 => .int .u8 (turned by_ d)
  | 6 => str (pre ++ turnedB by_ d :: post)
  | 7 => str [turnedB by_ d]
  | 8 => str (pre ++ [turnedB by_ d])
  | _ => str (text.take 100)
noncomputable abbrev pkSg (at_ by_ : Int) (text : List UInt8) (pre : List UInt8) (d : Nat) (post : List UInt8) : Sg := ⟨pkVal at_ by_ text pre d post, fun i => by
  match i with
  | 0 | 1 | 2 | 3 | 4 | 5 | 6 | 7 | 8 => rfl
  | _ + 9 => rfl⟩

theorem same_self (l : List UInt8) : same l l = true := by rw [same_eq]; simp
theorem neq_self (l : List UInt8) : scalarOp .neq (str l) (str l) = some (.bool false) := by
  show mkBool (!(same l l)) = _
  rw [same_self]; rfl
theorem add_strs {x y : List UInt8} (h : x.length + y.length ≤ 1000) : scalarOp .add (str x) (str y) = some (str (x ++ y)) := by
  show sAdd x y = _
  unfold sAdd
  have h1 : Nat.ble (Nat.add (lenL x) (lenL y)) 1099511627776 = true := by
    rw [lenL_eq, lenL_eq, Nat.ble_eq]
    show x.length + y.length ≤ _
    omega
  rw [h1, chk_true, appL_eq]
theorem binsT_ok [Sg] {long : Bool} {text : List UInt8} (h3 : Sg.val 3 = .int .i64 (text.length : Int)) (hl : long = decide (100 < text.length)) :
    ∀ e ∈ binsT long, atom e.x = true ∧ atom e.y = true ∧ atom e.v = true ∧ scalarOp e.op (den e.x) (den e.y) = some (den e.v) := by
  intro e he
  simp only [binsT, List.mem_cons, List.not_mem_nil, or_false] at he
  subst he
  refine ⟨rfl, rfl, rfl, ?_⟩
  show scalarOp .gtr (Sg.val 3) _ = _
  rw [h3]
  refine ints_gtr (a := (text.length : Int)) (b := 100) long ?_
  rw [hl]
  congr 1
  rw [eq_iff_iff]
  omega
theorem cut_ok {text : List UInt8} (h : 100 < text.length) : scalarSlice (str text) none (some (nat 100)) = some (str (text.take 100)) := by
  show bnd (bound (some (nat 100)) (lenL text) (lenL text)) (fun h => bnd (bound none h 0) fun l => some (str (dropL l (takeL h text)))) = _
  have h1 : bound (some (nat 100)) (lenL text) (lenL text) = some 100 := by
    show chk (Nat.ble 100 (lenL text)) (some 100) = _
    have : Nat.ble 100 (lenL text) = true := by rw [lenL_eq, Nat.ble_eq]; omega
    rw [this, chk_true]
  rw [h1, bnd_some]
  show some (str (dropL 0 (takeL 100 text))) = _
  rw [dropL_eq, takeL_eq, List.drop_zero]
theorem slT_ok [Sg] {long : Bool} {text : List UInt8} (h2 : Sg.val 2 = str text) (h10 : Sg.val 10 = str (text.take 100)) (hl : long = decide (100 < text.length)) :
    ∀ e ∈ slT long, atom e.x = true ∧ (∀ v, e.lo = some v → atom v = true) ∧ (∀ v, e.hi = some v → atom v = true) ∧ atom e.v = true ∧ scalarSlice (den e.x) (e.lo.map den) (e.hi.map den) = some (den e.v) := by
  intro e he
  cases long with
  | false => cases he
  | true =>
    have he' : e ∈ [(⟨sy 2, none, some (nat 100), sy 10⟩ : SSlice)] := he
    simp only [List.mem_cons, List.not_mem_nil, or_false] at he'
    subst he'
    refine ⟨rfl, fun _ h => (by cases h), fun _ h => (by cases h; rfl), rfl, ?_⟩
    show scalarSlice (Sg.val 2) none (some (nat 100)) = some (Sg.val 10)
    rw [h2, h10]
    exact cut_ok (of_decide_eq_true hl.symm)
theorem lens_ok [Sg] {text : List UInt8} (h2 : Sg.val 2 = str text) (h3 : Sg.val 3 = .int .i64 (text.length : Int)) : ∀ e ∈ [(⟨2, sy 3⟩ : SLen)], atom e.v = true ∧ ∃ s : ByteArray, Sg.val e.i = .string s ∧ den e.v = .int .i64 s.size := by
  intro e he
  simp only [List.mem_cons, List.not_mem_nil, or_false] at he
  subst he
  exact ⟨rfl, ⟨⟨text⟩⟩, h2, h3⟩
theorem xor_u8 (a b : Int) : scalarOp .xor (.int .u8 a) (.int .u8 b) = some (.int .u8 (ofUns .u8 (Nat.xor (uns .u8 a) (uns .u8 b)))) := by
  have h : intOp .xor .u8 a .u8 b = iXor .u8 a b := rfl
  show intOp .xor .u8 a .u8 b = _
  rw [h]
  unfold iXor
  rw [mkInt_eq]
theorem byte_back (b : UInt8) : UInt8.ofNat ((b.toNat : Int)).toNat = b := by simp

theorem tabK_ok {at_ by_ : Int} {text pre post : List UInt8} {d : Nat} {long : Bool} (hlen : pre.length + post.length ≤ 100) (hl : long = decide (100 < text.length)) : @TabsOk (pkSg at_ by_ text pre d post) (tabK long pre d post) :=
  letI := pkSg at_ by_ text pre d post
  { bins := fun e he => by
      have he' : e ∈ (⟨.xor, u8 d, sy 4, sy 5⟩ : SBin) :: ⟨.add, str pre, sy 7, sy 8⟩ :: ⟨.add, sy 8, str post, sy 6⟩ :: ⟨.neq, sy 6, sy 6, .bool false⟩ :: binsT long := he
      simp only [List.mem_cons] at he'
      rcases he' with rfl | rfl | rfl | rfl | he'
      · refine ⟨rfl, rfl, rfl, ?_⟩
        exact xor_u8 (.ofNat d) (IntKind.wrap .u8 by_)
      · refine ⟨rfl, rfl, rfl, ?_⟩
        show scalarOp .add (str pre) (str [turnedB by_ d]) = some (str (pre ++ [turnedB by_ d]))
        exact add_strs (by simp; omega)
      · refine ⟨rfl, rfl, rfl, ?_⟩
        show scalarOp .add (str (pre ++ [turnedB by_ d])) (str post) = some (str (pre ++ turnedB by_ d :: post))
        rw [add_strs (by simp; omega)]
        simp
      · exact ⟨rfl, rfl, rfl, neq_self _⟩
      · exact binsT_ok (text := text) rfl hl e he'
    convs := fun e he => by
      have he' : e ∈ [(⟨4, sy 1, sy 4⟩ : SConv)] := he
      simp only [List.mem_cons, List.not_mem_nil, or_false] at he'
      subst he'
      exact ⟨by decide, rfl, rfl, rfl⟩
    bytes := fun e he => by
      have he' : e ∈ [(⟨appL (mapL byteVal pre) (sy 5 :: mapL byteVal post), sy 6⟩ : SBytes), ⟨[sy 5], sy 7⟩] := he
      simp only [List.mem_cons, List.not_mem_nil, or_false] at he'
      rcases he' with rfl | rfl
      · refine ⟨fun v hv => ?_, rfl, pre.map (fun b => (b.toNat : Int)) ++ turned by_ d :: post.map (fun b => (b.toNat : Int)), ?_, ?_⟩
        · rw [appL_eq, mapL_eq, mapL_eq, List.mem_append, List.mem_cons, List.mem_map, List.mem_map] at hv
          rcases hv with ⟨b, _, rfl⟩ | rfl | ⟨b, _, rfl⟩ <;> rfl
        · show (appL (mapL byteVal pre) (sy 5 :: mapL byteVal post)).map den = _
          rw [appL_eq, mapL_eq, mapL_eq, List.map_append, List.map_cons, List.map_map, List.map_map, List.map_append, List.map_cons, List.map_map, List.map_map]
          rfl
        · show str (pre ++ turnedB by_ d :: post) = _
          rw [List.map_append, List.map_cons, List.map_map, List.map_map]
          have hb : ∀ l : List UInt8, l.map ((fun n : Int => UInt8.ofNat n.toNat) ∘ fun b => (b.toNat : Int)) = l := fun l => by
            induction l with
            | nil => rfl
            | cons b l ih => rw [List.map_cons, ih]; congr 1; exact byte_back b
          rw [hb, hb]; rfl
      · refine ⟨fun v hv => ?_, rfl, [turned by_ d], rfl, rfl⟩
        simp only [List.mem_cons, List.not_mem_nil, or_false] at hv
        subst hv; rfl
    slices := slT_ok (text := text) rfl rfl hl
    lens := lens_ok (text := text) rfl rfl }

theorem tabO_ok {at_ by_ : Int} {text : List UInt8} {long : Bool} (hl : long = decide (100 < text.length)) (ha : at_ < 0) : @TabsOk (pkSg at_ by_ text [] 0 []) (tabO long) :=
  letI := pkSg at_ by_ text [] 0 []
  { bins := fun e he => by
      have he' : e ∈ (⟨.lss, sy 0, nat 0, .bool true⟩ : SBin) :: ⟨.neq, sy 2, sy 2, .bool false⟩ :: ⟨.neq, sy 10, sy 10, .bool false⟩ :: binsT long := he
      simp only [List.mem_cons] at he'
      rcases he' with rfl | rfl | rfl | he'
      · exact ⟨rfl, rfl, rfl, ints_lss (a := at_) (b := 0) true (decide_eq_true (by omega))⟩
      · exact ⟨rfl, rfl, rfl, neq_self _⟩
      · exact ⟨rfl, rfl, rfl, neq_self _⟩
      · exact binsT_ok (text := text) rfl hl e he'
    convs := fun _ h => by cases h
    bytes := fun _ h => by cases h
    slices := slT_ok (text := text) rfl rfl hl
    lens := lens_ok (text := text) rfl rfl }
theorem tabW_ok {at_ by_ : Int} {text : List UInt8} {long : Bool} (hl : long = decide (100 < text.length)) (ha : 14 ≤ at_) : @TabsOk (pkSg at_ by_ text [] 0 []) (tabW long) :=
  letI := pkSg at_ by_ text [] 0 []
  { bins := fun e he => by
      have he' : e ∈ (⟨.lss, sy 0, nat 0, .bool false⟩ : SBin) :: ⟨.lss, sy 0, nat 14, .bool false⟩ :: binsT long := he
      simp only [List.mem_cons] at he'
      rcases he' with rfl | rfl | he'
      · exact ⟨rfl, rfl, rfl, ints_lss (a := at_) (b := 0) false (decide_eq_false (by omega))⟩
      · exact ⟨rfl, rfl, rfl, ints_lss (a := at_) (b := 14) false (decide_eq_false (by omega))⟩
      · exact binsT_ok (text := text) rfl hl e he'
    convs := fun _ h => by cases h
    bytes := fun _ h => by cases h
    slices := slT_ok (text := text) rfl rfl hl
    lens := lens_ok (text := text) rfl rfl }

/-- One case, as the model has it. -/
theorem case_calls {S : Sg} {at_ by_ : Int} {text : List UInt8} {T : Tabs} (hT : @TabsOk S T) {x : Value} (hx : atom x = true ∧ @den S x = .int .i64 at_) (h1 : @Sg.val S 1 = .int .i64 by_) (h2 : @Sg.val S 2 = str text)
    (h : sameRes (runP T 3 [x, sy 1, sy 2] (dark 0)) (.bool true) = true) (w : World) :
    Calls Tryz.prog 3 #[.int .i64 at_, .int .i64 by_, str text] w fun e w' => e = .returned (.bool true) ∧ Below w.heap.size w w' := by
  letI := S
  obtain ⟨H, h⟩ := sameRes_ok h
  have hV : V (fun _ => none) x (.int .i64 at_) := by rw [← hx.2]; exact den_V hx.1
  have hA : VL (fun _ => none) [x, sy 1, sy 2] [.int .i64 at_, .int .i64 by_, str text] := .cons hV (.cons (by rw [← h1]; exact .sym 1) (.cons (by rw [← h2]; exact .sym 2) .nil))
  refine Calls.mono (calls_at (P := Tryz.prog) (env := envOfP T.syms specsA) (envP_ok (tabs_ok hT)) mixed (funsSOk rfl) (specs_of rfl specsA_ok) 100000 200 h hA (dark_hr (fun _ _ h => by cases h) (by decide) w) (fun B => dark_wr B) (by rw [Tryz.func3]; rfl)) ?_
  rintro e w' ⟨u, rfl, ⟨ρ, hV⟩, hB⟩
  cases hV
  exact ⟨rfl, hB⟩
end Go.Proofs
