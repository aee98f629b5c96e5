/- ENGINE, PART 4: the operations on values alone. -/
import Derived.Test.YtbocdcnkmcejjaaDoorEngHeap
import Derived.Laws.StructEq
import Derived.ChangeKeysEq
import Derived.OrdersIn
namespace Go.Eng
open Go

inductive HEff where
  | none
  | wr (b : Nat) (blk : Blk)
  | push (n : Nat) (blk : Blk)
  | all (h : List Blk)
def HEff.app : HEff → List Blk → List Blk
  | .none, h => h
  | .wr b blk, h => setB h b blk
  | .push _ blk, h => h ++ [blk]
  | .all h', _ => h'

/-- Frames of functions (none), frames of rounds. -/
def fen (r : Option Nat) : Fence := { fn := fun _ => True, depth := none, alive := false, round := r }
def Oper.wpE (P : Program) (o : Oper) (a : Act) (W : World) (next : Act → World → Prop) (Q : Exit → Act → World → Prop) : Prop :=
  (∀ c, o.op ≠ .defer c) → ∀ r, o.wpIn (fen r) 0 P a W next Q
theorem Oper.wpE_value {P : Program} {o : Oper} {a : Act} {W W' : World} {next : Act → World → Prop} {Q : Exit → Act → World → Prop} {x : Value} (h : (execOp a.eval o).run P W = .ok (.value x) W') (hn : next (a.put o.dst x) W') : Oper.wpE P o a W next Q :=
  fun hd r => ⟨fun _ _ => trivial, by rw [Oper.semAt_eq _ _ _ hd, h]; exact hn⟩
theorem Oper.wpE_skip {P : Program} {o : Oper} {a : Act} {W W' : World} {next : Act → World → Prop} {Q : Exit → Act → World → Prop} (h : (execOp a.eval o).run P W = .ok .skip W') (hn : next (a.put o.dst undef) W') : Oper.wpE P o a W next Q :=
  fun hd r => ⟨fun _ _ => trivial, by rw [Oper.semAt_eq _ _ _ hd, h]; exact hn⟩

/-- What an operation does, over abstract values and an abstract heap. -/
def OpSem (P : Program) (o : Oper) (ev : Operand → V) (h : List Blk) (v : V) (h' : List Blk) : Prop :=
  ∀ (E : Env) (a : Act) (W : World), Holds E h W → (∀ x ∈ o.op.operands, VR E h.length (ev x) (a.eval x)) →
    ∀ (next : Act → World → Prop) (Q : Exit → Act → World → Prop),
      (∀ x E' W', VR E' h'.length v x → Holds E' h' W' → Trans E h W E' h' W' → next (a.put o.dst x) W') → Oper.wpE P o a W next Q

def Same (h h2 : List Blk) (rd : List Nat) : HEff → Prop
  | .none => ∀ b ∈ rd, h2[b]? = h[b]?
  | .wr b _ => (∀ x ∈ rd, h2[x]? = h[x]?) ∧ h2[b]? = h[b]?
  | .push n _ => (∀ x ∈ rd, h2[x]? = h[x]?) ∧ h2.length = n
  | .all _ => h2 = h
def OpEff (P : Program) (o : Oper) (ev : Operand → V) (h : List Blk) (v : V) (rd : List Nat) (eff : HEff) : Prop :=
  ∀ h2, Same h h2 rd eff → OpSem P o ev h2 v (eff.app h2)

abbrev KOp (R : Type) := V → List Nat → HEff → Option R
def AopOk {R : Type} (P : Program) (o : Oper) (ev : Operand → V) (h : List Blk) (res : Option R) (K : KOp R) : Prop :=
  ∀ r, res = some r → ∃ v rd eff, K v rd eff = some r ∧ Same h h rd eff ∧ OpEff P o ev h v rd eff

theorem OpSem.value {P : Program} {o : Oper} {ev : Operand → V} {h : List Blk} {v : V}
    (H : ∀ (E : Env) (a : Act) (W : World), Holds E h W → (∀ x ∈ o.op.operands, VR E h.length (ev x) (a.eval x)) → ∃ x, VR E h.length v x ∧ (execOp a.eval o).run P W = .ok (.value x) W) :
    OpSem P o ev h v h := by
  intro E a W hh hv next Q hn
  obtain ⟨x, hx, hr⟩ := H E a W hh hv
  exact Oper.wpE_value hr (hn x E W hx hh (Trans.refl _ _ _))

/-- An operation that looks at no memory. -/
theorem pureOk {R : Type} {P : Program} {o : Oper} {ev : Operand → V} {h : List Blk} {K : KOp R} {r : R} {v : V} (hk : K v [] .none = some r)
    (H : ∀ (n : Nat) (E : Env) (a : Act) (W : World), (∀ x ∈ o.op.operands, VR E n (ev x) (a.eval x)) → ∃ x, VR E n v x ∧ (execOp a.eval o).run P W = .ok (.value x) W) :
    ∃ v rd eff, K v rd eff = some r ∧ Same h h rd eff ∧ OpEff P o ev h v rd eff :=
  ⟨v, [], .none, hk, fun _ _ => rfl, fun h2 _ => OpSem.value fun E a W _ hv => H h2.length E a W hv⟩

section inv
variable {E : Env} {n : Nat} {x : Value}
theorem VR.val {v : V} (h : VR E n v x) (hv : v ≠ .top) : x = conc E v ∧ inS n v = true := (h.resolve_left hv).symm
theorem VR.int {k : IntKind} {m : Int} (h : VR E n (.int k m) x) : x = .int k m := (h.val (by simp)).1
theorem VR.bool {b : Bool} (h : VR E n (.bool b) x) : x = .bool b := (h.val (by simp)).1
theorem VR.str {s : ByteArray} (h : VR E n (.str s) x) : x = .string s := (h.val (by simp)).1
theorem VR.of {v : V} (hs : inS n v = true) : VR E n v (conc E v) := .inr ⟨hs, rfl⟩
theorem VR.mkInt {k : IntKind} {m : Int} : VR E n (.int k m) (.int k m) := .inr ⟨by simp [inS], by simp [conc]⟩
theorem VR.mkBool {b : Bool} : VR E n (.bool b) (.bool b) := .inr ⟨by simp [inS], by simp [conc]⟩
theorem VR.mkStr {s : ByteArray} : VR E n (.str s) (.string s) := .inr ⟨by simp [inS], by simp [conc]⟩
end inv

section ops
variable {R : Type} {P : Program} {o : Oper} {ev : Operand → V} {h : List Blk} {K : KOp R}

/-! ### move, assign, pick -/
theorem ok_move {x : Operand} (ho : o.op = .move x) : AopOk P o ev h (K (ev x) [] .none) K := fun _ hr =>
  pureOk hr fun n E a W hv => ⟨a.eval x, hv x (by simp [ho, Op.operands]), by simp [execOp, ho]⟩
theorem ok_assign {x : Operand} (ho : o.op = .assign x) : AopOk P o ev h (K (ev x) [] .none) K := fun _ hr =>
  pureOk hr fun n E a W hv => ⟨a.eval x, hv x (by simp [ho, Op.operands]), by simp [execOp, ho]⟩

def aPick (c a b : V) (K : KOp R) : Option R :=
  match c with
  | .bool p => cond p (K a [] .none) (K b [] .none)
  | _ => none
theorem ok_pick {c x y : Operand} (ho : o.op = .pick c x y) : AopOk P o ev h (aPick (ev c) (ev x) (ev y) K) K := by
  intro r hr
  unfold aPick at hr
  split at hr
  · rename_i p hc
    cases p
    · refine pureOk (v := ev y) hr fun n E a W hv => ⟨a.eval y, hv y (by simp [ho, Op.operands]), ?_⟩
      have := hv c (by simp [ho, Op.operands])
      rw [hc] at this
      simp [execOp, ho, this.bool, asBool]
    · refine pureOk (v := ev x) hr fun n E a W hv => ⟨a.eval x, hv x (by simp [ho, Op.operands]), ?_⟩
      have := hv c (by simp [ho, Op.operands])
      rw [hc] at this
      simp [execOp, ho, this.bool, asBool]
  · cases hr

/-! ### numbers -/
def sgn (m half full : Int) : Int := bif decide (half ≤ m) then m - full else m
def wr : IntKind → Int → Int
  | .i8, n => sgn (n % 256) 128 256
  | .i16, n => sgn (n % 65536) 32768 65536
  | .i32, n => sgn (n % 4294967296) 2147483648 4294967296
  | .i64, n => sgn (n % 18446744073709551616) 9223372036854775808 18446744073709551616
  | .u8, n => n % 256
  | .u16, n => n % 65536
  | .u32, n => n % 4294967296
  | .u64, n => n % 18446744073709551616
theorem wr_eq (k : IntKind) (n : Int) : k.wrap n = wr k n := by
  cases k <;> simp [IntKind.wrap, IntKind.bits, IntKind.signed, wr, sgn, cond_eq_ite]

def bitsI (op : BinOp) (k : IntKind) (a b : Int) : Int :=
  let x := BitVec.ofInt k.bits a
  let y := BitVec.ofInt k.bits b
  wr k (match op with
    | .and => (x &&& y).toNat
    | .or => (x ||| y).toNat
    | .xor => (x ^^^ y).toNat
    | _ => (x &&& ~~~y).toNat)

def shAmt (k : IntKind) (y : Int) : Nat := min y.toNat k.bits

def aBinInt (op : BinOp) (k : IntKind) (a : Int) (k' : IntKind) (b : Int) (K : KOp R) : Option R :=
  match op with
  | .shl => cond (decide (b < 0)) none (K (.int k (wr k (a * 2 ^ shAmt k b))) [] .none)
  | .shr => cond (decide (b < 0)) none (K (.int k (a.fdiv (2 ^ shAmt k b))) [] .none)
  | op => match decide (k = k') with
    | false => none
    | true => match op with
      | .add => K (.int k (wr k (a + b))) [] .none
      | .sub => K (.int k (wr k (a - b))) [] .none
      | .mul => K (.int k (wr k (a * b))) [] .none
      | .quo => cond (decide (b = 0)) none (K (.int k (wr k (a.tdiv b))) [] .none)
      | .rem => cond (decide (b = 0)) none (K (.int k (a.tmod b)) [] .none)
      | .and => K (.int k (bitsI .and k a b)) [] .none
      | .or => K (.int k (bitsI .or k a b)) [] .none
      | .xor => K (.int k (bitsI .xor k a b)) [] .none
      | .andNot => K (.int k (bitsI .andNot k a b)) [] .none
      | .eql => K (.bool (decide (a = b))) [] .none
      | .neq => K (.bool (!decide (a = b))) [] .none
      | .lss => K (.bool (decide (a < b))) [] .none
      | .leq => K (.bool (decide (a ≤ b))) [] .none
      | .gtr => K (.bool (decide (b < a))) [] .none
      | .geq => K (.bool (decide (b ≤ a))) [] .none
      | _ => none

theorem eqGuard_int {P : Program} (op : BinOp) (t : TypeId) (x y : Operand) (k k' : IntKind) (a b : Int) (W : World) : (eqGuard op t x y (.int k a) (.int k' b)).run P W = .ok () W := by
  unfold eqGuard
  split <;> simp

theorem beqI (a b : Int) : (a == b) = decide (a = b) := by rw [Bool.eq_iff_iff]; simp
theorem run_binInt {op : BinOp} {k k' : IntKind} {a b : Int} {r : R} {t : TypeId} (hr : aBinInt op k a k' b K = some r) :
    ∃ v, K v [] .none = some r ∧ ∃ z, (∀ (E : Env) n, VR E n v z) ∧ ∀ W, (binOp op t (.int k a) (.int k' b)).run P W = .ok z W := by
  by_cases hs : op = .shl ∨ op = .shr
  · rcases hs with rfl | rfl
    · unfold aBinInt at hr
      cases hb : decide (b < 0) with
      | true => simp [hb] at hr
      | false =>
        rw [hb] at hr
        refine ⟨_, hr, _, fun E n => VR.mkInt, fun W => ?_⟩
        simp at hb
        simp only [binOp, Op.shift]
        rw [if_neg (by omega)]
        simp [wr_eq, shAmt]
    · unfold aBinInt at hr
      cases hb : decide (b < 0) with
      | true => simp [hb] at hr
      | false =>
        rw [hb] at hr
        refine ⟨_, hr, _, fun E n => VR.mkInt, fun W => ?_⟩
        simp at hb
        simp only [binOp, Op.shift]
        rw [if_neg (by omega)]
        simp [shAmt]
  · have hk : k = k' := by
      cases op <;> simp at hs <;> (unfold aBinInt at hr; simp only at hr; split at hr <;> simp_all)
    subst hk
    cases op <;> simp at hs <;> simp only [aBinInt, decide_true] at hr
    case quo =>
      cases hb : decide (b = 0) with
      | true => simp [hb] at hr
      | false =>
        rw [hb] at hr
        simp at hb
        exact ⟨_, hr, _, fun E n => VR.mkInt, fun W => by simp [binOp, Op.intDiv, hb, wr_eq]⟩
    case rem =>
      cases hb : decide (b = 0) with
      | true => simp [hb] at hr
      | false =>
        rw [hb] at hr
        simp at hb
        exact ⟨_, hr, _, fun E n => VR.mkInt, fun W => by simp [binOp, Op.intDiv, hb]⟩
    all_goals first
      | exact ⟨_, hr, _, fun E n => VR.mkInt, fun W => by simp [binOp, Op.intArith, Op.intBits, wr_eq, bitsI]⟩
      | exact ⟨_, hr, _, fun E n => VR.mkBool, fun W => by simp [binOp, Op.intCmp, bne, beqI]⟩
      | cases hr

/-! ### strings and bools -/
def beqBs : List UInt8 → List UInt8 → Bool
  | [], [] => true
  | a :: x, b :: y => cond (decide (a.toNat = b.toNat)) (beqBs x y) false
  | _, _ => false
theorem beqBs_eq (x y : List UInt8) : beqBs x y = (x == y) := by
  induction x generalizing y with
  | nil => cases y <;> rfl
  | cons a x ih =>
    cases y with
    | nil => rfl
    | cons b y =>
      simp only [beqBs, ih, List.cons_beq_cons]
      have : (a == b) = decide (a.toNat = b.toNat) := by
        rw [Bool.eq_iff_iff]; simp [UInt8.toNat_inj]
      rw [this]
      cases decide (a.toNat = b.toNat) <;> rfl
def ltBs : List UInt8 → List UInt8 → Bool
  | _, [] => false
  | [], _ :: _ => true
  | a :: x, b :: y => decide (a.toNat < b.toNat) || (decide (a.toNat = b.toNat) && ltBs x y)
theorem ltBs_eq (x y : List UInt8) : ltBs x y = Op.bytesLess x y := by
  induction x generalizing y with
  | nil => cases y <;> rfl
  | cons a x ih =>
    cases y with
    | nil => rfl
    | cons b y =>
      simp only [ltBs, ih, Op.bytesLess]
      have h1 : (a == b) = decide (a.toNat = b.toNat) := by
        rw [Bool.eq_iff_iff]; simp [UInt8.toNat_inj]
      have h2 : decide (a < b) = decide (a.toNat < b.toNat) := by simp [UInt8.lt_iff_toNat_lt]
      rw [h1, h2]
def strEq (a b : ByteArray) : Bool := beqBs a.data.toList b.data.toList
def strLt (a b : ByteArray) : Bool := ltBs a.data.toList b.data.toList
theorem strEq_eq (a b : ByteArray) : (a.toList == b.toList) = strEq a b := by
  rw [ByteArray.toList_eq, ByteArray.toList_eq, strEq, beqBs_eq]
theorem strLt_eq (a b : ByteArray) : Op.bytesLess a.toList b.toList = strLt a b := by
  rw [ByteArray.toList_eq, ByteArray.toList_eq, strLt, ltBs_eq]
def catS (a b : ByteArray) : ByteArray := ⟨(a.data.toList ++ b.data.toList).toArray⟩
theorem catS_eq (a b : ByteArray) : a ++ b = catS a b := by
  apply ByteArray.ext
  simp [catS]
def lenS (a : ByteArray) : Nat := a.data.toList.length
theorem lenS_eq (a : ByteArray) : a.size = lenS a := by cases a; rfl

def aBinStr (op : BinOp) (a b : ByteArray) (K : KOp R) : Option R :=
  match op with
  | .add => cond (decide (lenS a + lenS b ≤ 9223372036854775807)) (K (.str (catS a b)) [] .none) none
  | .eql => K (.bool (strEq a b)) [] .none
  | .neq => K (.bool (!strEq a b)) [] .none
  | .lss => K (.bool (strLt a b)) [] .none
  | .leq => K (.bool (strLt a b || strEq a b)) [] .none
  | .gtr => K (.bool (!(strLt a b || strEq a b))) [] .none
  | .geq => K (.bool (!strLt a b)) [] .none
  | _ => none
theorem run_binStr {op : BinOp} {a b : ByteArray} {r : R} {t : TypeId} (hr : aBinStr op a b K = some r) :
    ∃ v, K v [] .none = some r ∧ ∃ z, (∀ (E : Env) n, VR E n v z) ∧ ∀ W, (binOp op t (.string a) (.string b)).run P W = .ok z W := by
  cases op <;> simp only [aBinStr] at hr
  case add =>
    cases hb : decide (lenS a + lenS b ≤ 9223372036854775807) with
    | false => simp [hb] at hr
    | true =>
      rw [hb] at hr
      simp only [decide_eq_true_eq] at hb
      refine ⟨_, hr, _, fun E n => VR.mkStr, fun W => ?_⟩
      simp only [binOp, Op.stringOp, lenS_eq]
      rw [if_neg (by simp [IntKind.max, IntKind.signed, IntKind.bits]; omega)]
      simp [catS_eq]
  all_goals first
    | exact ⟨_, hr, _, fun E n => VR.mkBool, fun W => by simp [binOp, Op.stringOp, strEq_eq, strLt_eq]⟩
    | cases hr
theorem eqGuard_str {P : Program} (op : BinOp) (t : TypeId) (x y : Operand) (a b : ByteArray) (W : World) : (eqGuard op t x y (.string a) (.string b)).run P W = .ok () W := by
  unfold eqGuard
  split <;> simp
theorem eqGuard_bool {P : Program} (op : BinOp) (t : TypeId) (x y : Operand) (a b : Bool) (W : World) : (eqGuard op t x y (.bool a) (.bool b)).run P W = .ok () W := by
  unfold eqGuard
  split <;> simp

def tyBool (P : Program) (t : TypeId) : Bool := match P.underlying t with | some .bool => true | _ => false
theorem tyBool_eq {P : Program} {t : TypeId} (h : tyBool P t = true) : P.underlying t = some .bool := by
  unfold tyBool at h; split at h <;> first | assumption | cases h
def eqB (a b : Bool) : Bool := cond a b (!b)
theorem eqB_eq (a b : Bool) : (a == b) = eqB a b := by cases a <;> cases b <;> rfl
def aBinBool (P : Program) (op : BinOp) (t : TypeId) (a b : Bool) (K : KOp R) : Option R :=
  match tyBool P t with
  | false => none
  | true => match op with
    | .eql => K (.bool (eqB a b)) [] .none
    | .neq => K (.bool (!eqB a b)) [] .none
    | _ => none
theorem run_binBool {op : BinOp} {a b : Bool} {r : R} {t : TypeId} (hr : aBinBool P op t a b K = some r) :
    ∃ v, K v [] .none = some r ∧ ∃ z, (∀ (E : Env) n, VR E n v z) ∧ ∀ W, (binOp op t (.bool a) (.bool b)).run P W = .ok z W := by
  unfold aBinBool at hr
  split at hr
  · cases hr
  · rename_i ht
    have ht := tyBool_eq ht
    cases op <;> first | (cases hr; done) | skip
    · exact ⟨_, hr, _, fun E n => VR.mkBool, fun W => by simp [binOp, Op.equal, run_equalIn_bool _ 9999 t a b ht, Op.maxDepth, eqB_eq]⟩
    · exact ⟨_, hr, _, fun E n => VR.mkBool, fun W => by simp [binOp, Op.equal, run_equalIn_bool _ 9999 t a b ht, Op.maxDepth, eqB_eq]⟩

/-! ### arrays and structs: equality -/
def eqCell (P : Program) (e : TypeId) (a b : V) : Option Bool :=
  match P.underlying e, a, b with
  | some (.int _), .int k x, .int k' y => match decide (k = k') with
    | true => some (decide (x = y))
    | false => none
  | some .bool, .bool x, .bool y => some (eqB x y)
  | some .string, .str x, .str y => some (strEq x y)
  | _, _, _ => none
theorem run_eqCell {e : TypeId} {a b : V} {q : Bool} (hq : eqCell P e a b = some q) (E : Env) (d : Nat) (W : World) : (Op.equalIn (d + 1) e (conc E a) (conc E b)).run P W = .ok q W ∧ P.plainKey e = true := by
  unfold eqCell at hq
  split at hq
  · rename_i k x k' y he
    split at hq
    · rename_i hk
      simp only [decide_eq_true_eq] at hk
      subst hk
      injection hq with hq
      subst hq
      exact ⟨by simp [conc, run_equalIn_int W d e _ _ _ _ he, beqI], by simp [Program.plainKey, he]⟩
    · cases hq
  · rename_i x y he
    injection hq with hq
    subst hq
    exact ⟨by simp [conc, run_equalIn_bool W d e _ _ he, eqB_eq], by simp [Program.plainKey, he]⟩
  · rename_i x y he
    injection hq with hq
    subst hq
    exact ⟨by simp [conc, run_equalIn_string W d e _ _ he, strEq_eq], by simp [Program.plainKey, he]⟩
  · cases hq
def eqItemsV (P : Program) (e : TypeId) : List V → List V → Option Bool
  | [], [] => some true
  | a :: x, b :: y => match eqCell P e a b with
    | none => none
    | some p => match eqItemsV P e x y with
      | none => none
      | some q => some (p && q)
  | _, _ => none
theorem run_eqItems {e : TypeId} (E : Env) (d : Nat) (W : World) (hc : P.cellsOf e = 1) (xs ys : List V) : ∀ (x y : List V) (s : Nat) (q : Bool), eqItemsV P e x y = some q → xs.drop s = x → ys.drop s = y →
    (Op.eqItems (d + 1) e (P.cellsOf e) (concs E xs).toArray (concs E ys).toArray (List.range' s x.length)).run P W = .ok q W
  | [], [], s, q, h, _, _ => by
    simp only [eqItemsV, Option.some.injEq] at h
    subst h
    simp [Op.eqItems]
  | a :: x, b :: y, s, q, h, hx, hy => by
    simp only [eqItemsV] at h
    split at h
    · cases h
    · rename_i p hp
      split at h
      · cases h
      · rename_i q' hq'
        injection h with h
        obtain ⟨h1, hpk⟩ := run_eqCell hp E d W
        have gx : (concs E xs).toArray[s * P.cellsOf e]? = some (conc E a) := by
          rw [hc, Nat.mul_one, concs_eq]
          have : xs[s]? = some a := by
            have := congrArg (fun l => l[0]?) hx
            simpa using this
          simp [this]
        have gy : (concs E ys).toArray[s * P.cellsOf e]? = some (conc E b) := by
          rw [hc, Nat.mul_one, concs_eq]
          have : ys[s]? = some b := by
            have := congrArg (fun l => l[0]?) hy
            simpa using this
          simp [this]
        have ih := run_eqItems E d W hc xs ys x y (s + 1) q' hq' (by rw [← List.drop_drop, hx]; rfl) (by rw [← List.drop_drop, hy]; rfl)
        simp only [List.length_cons, List.range'_succ, Op.eqItems, Sem.run_bind, run_part_plain W hpk gx, run_part_plain W hpk gy, Result.andThen_ok, h1]
        subst h
        cases p
        · simp
        · simpa using ih
  | [], _ :: _, _, _, h, _, _ => by simp [eqItemsV] at h
  | _ :: _, [], _, _, h, _, _ => by simp [eqItemsV] at h

def eqFieldsV (P : Program) : List Field → Nat → List V → List V → Option Bool
  | [], _, [], [] => some true
  | f :: fs, s, a :: x, b :: y => match decide (f.name ≠ "_") && Nat.beq f.offset s with
    | false => none
    | true => match eqCell P f.type a b with
      | none => none
      | some p => match eqFieldsV P fs (s + 1) x y with
        | none => none
        | some q => some (p && q)
  | _, _, _, _ => none
theorem run_eqFields (E : Env) (d : Nat) (W : World) (xs ys : List V) : ∀ (fs : List Field) (x y : List V) (s : Nat) (q : Bool), eqFieldsV P fs s x y = some q → xs.drop s = x → ys.drop s = y →
    (Op.eqFields (d + 1) (concs E xs).toArray (concs E ys).toArray fs).run P W = .ok q W
  | [], [], [], s, q, h, _, _ => by
    simp only [eqFieldsV, Option.some.injEq] at h
    subst h
    simp [Op.eqFields]
  | f :: fs, a :: x, b :: y, s, q, h, hx, hy => by
    simp only [eqFieldsV] at h
    split at h
    · cases h
    · rename_i hf
      simp only [Bool.and_eq_true, decide_eq_true_eq] at hf
      have hf2 := Nat.eq_of_beq_eq_true hf.2
      split at h
      · cases h
      · rename_i p hp
        split at h
        · cases h
        · rename_i q' hq'
          injection h with h
          obtain ⟨h1, hpk⟩ := run_eqCell hp E d W
          have gx : (concs E xs).toArray[f.offset]? = some (conc E a) := by
            rw [hf2, concs_eq]
            have : xs[s]? = some a := by
              have := congrArg (fun l => l[0]?) hx
              simpa using this
            simp [this]
          have gy : (concs E ys).toArray[f.offset]? = some (conc E b) := by
            rw [hf2, concs_eq]
            have : ys[s]? = some b := by
              have := congrArg (fun l => l[0]?) hy
              simpa using this
            simp [this]
          have ih := run_eqFields E d W xs ys fs x y (s + 1) q' hq' (by rw [← List.drop_drop, hx]; rfl) (by rw [← List.drop_drop, hy]; rfl)
          simp only [Op.eqFields, hf.1, ne_eq, not_false_eq_true, if_true, Sem.run_bind, run_part_plain W hpk gx, run_part_plain W hpk gy, Result.andThen_ok, h1]
          subst h
          cases p
          · simp
          · simpa using ih
  | [], [], _ :: _, _, _, h, _, _ => by simp [eqFieldsV] at h
  | [], _ :: _, _, _, _, h, _, _ => by simp [eqFieldsV] at h
  | _ :: _, [], _, _, _, h, _, _ => by simp [eqFieldsV] at h
  | _ :: _, _ :: _, [], _, _, h, _, _ => by simp [eqFieldsV] at h

def eqAgg (P : Program) (t : TypeId) (xs ys : List V) : Option Bool :=
  match P.eqGuardType P.depth t with
  | true => none
  | false => match P.underlying t with
    | some (.array n e) => match Nat.beq (P.cellsOf e) 1 && Nat.beq xs.length n with
      | true => eqItemsV P e xs ys
      | false => none
    | some (.struct fs) => match P.stoodInHeld t with
      | true => none
      | false => eqFieldsV P fs.toList 0 xs ys
    | _ => none
theorem run_eqAgg {t : TypeId} {xs ys : List V} {q : Bool} (hq : eqAgg P t xs ys = some q) (E : Env) (W : World) :
    (Op.equalIn 10000 t (.agg (concs E xs).toArray) (.agg (concs E ys).toArray)).run P W = .ok q W ∧ P.eqGuardType P.depth t = false := by
  unfold eqAgg at hq
  split at hq
  · cases hq
  · rename_i hg
    refine ⟨?_, hg⟩
    split at hq
    · rename_i n e hu
      split at hq
      · rename_i hc
        simp only [Bool.and_eq_true] at hc
        have hc1 := Nat.eq_of_beq_eq_true hc.1
        have hc2 := Nat.eq_of_beq_eq_true hc.2
        obtain ⟨i, hi⟩ : ∃ i, P.info? e = some i := by
          cases hi : P.info? e with
          | some i => exact ⟨i, rfl⟩
          | none => simp [Program.cellsOf, hi] at hc1
        rw [run_equalIn_array W 9999 _ _ hu hi, List.range_eq_range', ← hc2]
        exact run_eqItems E 9998 W hc1 xs ys xs ys 0 q hq rfl rfl
      · cases hq
    · rename_i fs hu
      split at hq
      · cases hq
      · rename_i hs
        have hu' : P.underlying t = some (.struct (P.fieldsOf t)) := by simp [Program.fieldsOf, hu]
        rw [run_equalIn_struct W 9999 t _ _ hu' hs]
        have : P.fieldsOf t = fs := by simp [Program.fieldsOf, hu]
        rw [this]
        exact run_eqFields E 9998 W xs ys fs.toList xs ys 0 q hq rfl rfl
    · cases hq
def aBinAgg (P : Program) (op : BinOp) (t : TypeId) (xs ys : List V) (K : KOp R) : Option R :=
  match eqAgg P t xs ys with
  | none => none
  | some q => match op with
    | .eql => K (.bool q) [] .none
    | .neq => K (.bool (!q)) [] .none
    | _ => none

def aBin (P : Program) (op : BinOp) (t : TypeId) (x y : V) (K : KOp R) : Option R :=
  match x, y with
  | .int k a, .int k' b => aBinInt op k a k' b K
  | .bool a, .bool b => aBinBool P op t a b K
  | .str a, .str b => aBinStr op a b K
  | .agg a, .agg b => aBinAgg P op t a b K
  | _, _ => none
theorem ok_bin {op : BinOp} {t yt : TypeId} {x y : Operand} (ho : o.op = .binOp op t x y yt) : AopOk P o ev h (aBin P op t (ev x) (ev y) K) K := by
  intro r hr
  have vr : ∀ {n : Nat} {E : Env} {a : Act}, (∀ z ∈ o.op.operands, VR E n (ev z) (a.eval z)) → VR E n (ev x) (a.eval x) ∧ VR E n (ev y) (a.eval y) := fun hv =>
    ⟨hv x (by simp [ho, Op.operands]), hv y (by simp [ho, Op.operands])⟩
  unfold aBin at hr
  split at hr
  · rename_i k a k' b hx hy
    obtain ⟨v, hk, z, hz, hrun⟩ := run_binInt (P := P) (t := t) hr
    refine pureOk hk fun n E ac W hv => ⟨z, hz E n, ?_⟩
    obtain ⟨h1, h2⟩ := vr hv
    rw [hx] at h1; rw [hy] at h2
    simp only [execOp, ho, h1.int, h2.int, Sem.run_bind, eqGuard_int, Result.andThen_ok, hrun, Sem.run_pure]
  · rename_i a b hx hy
    obtain ⟨v, hk, z, hz, hrun⟩ := run_binBool (P := P) (t := t) hr
    refine pureOk hk fun n E ac W hv => ⟨z, hz E n, ?_⟩
    obtain ⟨h1, h2⟩ := vr hv
    rw [hx] at h1; rw [hy] at h2
    simp only [execOp, ho, h1.bool, h2.bool, Sem.run_bind, eqGuard_bool, Result.andThen_ok, hrun, Sem.run_pure]
  · rename_i a b hx hy
    obtain ⟨v, hk, z, hz, hrun⟩ := run_binStr (P := P) (t := t) hr
    refine pureOk hk fun n E ac W hv => ⟨z, hz E n, ?_⟩
    obtain ⟨h1, h2⟩ := vr hv
    rw [hx] at h1; rw [hy] at h2
    simp only [execOp, ho, h1.str, h2.str, Sem.run_bind, eqGuard_str, Result.andThen_ok, hrun, Sem.run_pure]
  · rename_i a b hx hy
    unfold aBinAgg at hr
    split at hr
    · cases hr
    · rename_i q hq
      have key : ∀ {n : Nat} {E : Env} {ac : Act}, (∀ z ∈ o.op.operands, VR E n (ev z) (ac.eval z)) → ac.eval x = .agg (concs E a).toArray ∧ ac.eval y = .agg (concs E b).toArray := fun hv => by
        obtain ⟨h1, h2⟩ := vr hv
        rw [hx] at h1; rw [hy] at h2
        exact ⟨by rw [(h1.val (by simp)).1, conc], by rw [(h2.val (by simp)).1, conc]⟩
      split at hr
      · refine pureOk hr fun n E ac W hv => ⟨.bool q, VR.mkBool, ?_⟩
        obtain ⟨h1, h2⟩ := key hv
        obtain ⟨h3, h4⟩ := run_eqAgg hq E W
        simp only [execOp, ho, h1, h2, Sem.run_bind, run_eqGuard_agg _ _ _ _ _ _ _ h4, Result.andThen_ok, run_eql_struct, h3, Sem.run_pure]
      · refine pureOk hr fun n E ac W hv => ⟨.bool (!q), VR.mkBool, ?_⟩
        obtain ⟨h1, h2⟩ := key hv
        obtain ⟨h3, h4⟩ := run_eqAgg hq E W
        simp only [execOp, ho, h1, h2, Sem.run_bind, run_eqGuard_agg _ _ _ _ _ _ _ h4, Result.andThen_ok, run_neq_struct, h3, Sem.run_pure]
      · cases hr
  · cases hr

/-! ### other operations on values -/
def aUn (op : UnOp) (x : V) (K : KOp R) : Option R :=
  match op, x with
  | .neg, .int k n => K (.int k (wr k (0 - n))) [] .none
  | .xor, .int k n => K (.int k (bitsI .xor k (bif k.signed then -1 else k.max) n)) [] .none
  | .not, .bool b => K (.bool (!b)) [] .none
  | _, _ => none
theorem ok_un {op : UnOp} {t : TypeId} {x : Operand} (ho : o.op = .unOp op t x) : AopOk P o ev h (aUn op (ev x) K) K := by
  intro r hr
  unfold aUn at hr
  split at hr
  · rename_i k n hx
    refine pureOk hr fun m E ac W hv => ⟨_, VR.mkInt, ?_⟩
    have h1 := hv x (by simp [ho, Op.operands])
    rw [hx] at h1
    simp [execOp, ho, h1.int, Op.unary, Op.intArith, wr_eq]
  · rename_i k n hx
    refine pureOk hr fun m E ac W hv => ⟨_, VR.mkInt, ?_⟩
    have h1 := hv x (by simp [ho, Op.operands])
    rw [hx] at h1
    simp [execOp, ho, h1.int, Op.unary, Op.intBits, wr_eq, bitsI, cond_eq_ite]
  · rename_i b hx
    refine pureOk hr fun m E ac W hv => ⟨_, VR.mkBool, ?_⟩
    have h1 := hv x (by simp [ho, Op.operands])
    rw [hx] at h1
    simp [execOp, ho, h1.bool, Op.unary]
  · cases hr

/-- Conversions that make no memory. -/
def aConvert (P : Program) (src dst : TypeId) (x : V) (K : KOp R) : Option R :=
  match P.underlying src, P.underlying dst, x with
  | some _, some (.int k), .int _ n => K (.int k (wr k n)) [] .none
  | some _, some .string, .str s => K (.str s) [] .none
  | _, _, _ => none
theorem ok_convert {src dst : TypeId} {x : Operand} (ho : o.op = .convert src dst x) : AopOk P o ev h (aConvert P src dst (ev x) K) K := by
  intro r hr
  unfold aConvert at hr
  split at hr
  · rename_i d k k' n hs hd hx
    refine pureOk hr fun m E ac W hv => ⟨_, VR.mkInt, ?_⟩
    have h1 := hv x (by simp [ho, Op.operands])
    rw [hx] at h1
    simp only [execOp, ho, h1.int, Sem.run_bind, convert, run_underlying hs, run_underlying hd, Result.andThen_ok]
    simp [Conv.intToInt, wr_eq]
  · rename_i d s hs hd hx
    refine pureOk hr fun m E ac W hv => ⟨_, VR.mkStr, ?_⟩
    have h1 := hv x (by simp [ho, Op.operands])
    rw [hx] at h1
    simp only [execOp, ho, h1.str, Sem.run_bind, convert, run_underlying hs, run_underlying hd, Result.andThen_ok]
    simp
  · cases hr

def noTop : List V → Bool
  | [] => true
  | .top :: _ => false
  | _ :: r => noTop r
theorem noTop_mem {l : List V} (h : noTop l = true) : ∀ v ∈ l, v ≠ .top := by
  induction l with
  | nil => intro v hv; cases hv
  | cons u r ih =>
    intro v hv
    cases u <;> simp [noTop] at h <;> (rcases List.mem_cons.1 hv with e | e; (rw [e]; simp); exact ih h v e)
def aMakeFunc (fn : Fn) (first : Array Operand) (caps : List V) (K : KOp R) : Option R :=
  match fn, first.size with
  | .func f, 0 => match noTop caps with
    | true => K (.func f caps) [] .none
    | false => none
  | _, _ => none
theorem VRs_map {E : Env} {n : Nat} {a : Act} : ∀ (l : List Operand), (∀ x ∈ l, VR E n (ev x) (a.eval x)) → noTop (l.map ev) = true → inSs n (l.map ev) = true ∧ l.map a.eval = concs E (l.map ev)
  | [], _, _ => ⟨rfl, rfl⟩
  | x :: r, hv, ht => by
    have hm := noTop_mem ht
    have h1 := (hv x (by simp)).val (hm _ (by simp))
    have ht' : noTop (r.map ev) = true := by
      simp only [List.map_cons] at ht
      cases hx : ev x <;> simp [hx, noTop] at ht <;> exact ht
    obtain ⟨h2, h3⟩ := VRs_map r (fun z hz => hv z (by simp [hz])) ht'
    exact ⟨by simp [inSs, h1.2, h2], by simp [concs, h1.1, h3]⟩
theorem ok_makeFunc {fn : Fn} {first caps : Array Operand} (ho : o.op = .makeFunc fn first caps) : AopOk P o ev h (aMakeFunc fn first (caps.toList.map ev) K) K := by
  intro r hr
  unfold aMakeFunc at hr
  split at hr
  · rename_i f hf
    split at hr
    · rename_i ht
      refine pureOk hr fun m E ac W hv => ?_
      obtain ⟨h1, h2⟩ := VRs_map caps.toList (fun x hx => hv x (by rw [ho]; simp only [Op.operands, Array.mem_append]; exact .inr (by simpa using hx))) ht
      refine ⟨_, VR.of (by simpa [inS] using h1), ?_⟩
      have e1 : first = #[] := Array.eq_empty_of_size_eq_zero hf
      subst e1
      have e2 : caps.map ac.eval = (concs E (caps.toList.map ev)).toArray := by
        rw [← h2]; apply Array.ext'; simp
      simp [execOp, ho, Instr.makeFunc, conc, e2]
    · cases hr
  · cases hr

def getO : List V → Nat → Option V
  | [], _ => none
  | v :: _, 0 => some v
  | _ :: r, n + 1 => getO r n
theorem getO_eq (l : List V) (i : Nat) : getO l i = l[i]? := by
  induction l generalizing i with
  | nil => rfl
  | cons u r ih => cases i <;> simp [getO, ih]
def kO (v : Option V) (K : KOp R) : Option R := match v with
  | some v => K v [] .none
  | none => none
theorem concs_get {E : Env} {l : List V} {i : Nat} {v : V} (h : l[i]? = some v) : (concs E l)[i]? = some (conc E v) := by
  rw [concs_eq]; simp [h]
theorem inSs_get {n : Nat} {l : List V} {i : Nat} {v : V} (h : inSs n l = true) (hi : l[i]? = some v) : inS n v = true := by
  rw [inSs_eq, List.all_eq_true] at h
  exact h v (List.mem_of_getElem? hi)
def aExtract (t : V) (i : Nat) (K : KOp R) : Option R := match t with
  | .tuple l => kO (getO l i) K
  | _ => none
theorem ok_extract {x : Operand} {i : Nat} (ho : o.op = .extract x i) : AopOk P o ev h (aExtract (ev x) i K) K := by
  intro r hr
  unfold aExtract at hr
  split at hr
  · rename_i l hx
    unfold kO at hr
    split at hr
    · rename_i v hi
      rw [getO_eq] at hi
      refine pureOk hr fun m E ac W hv => ?_
      have h1 := hv x (by simp [ho, Op.operands])
      rw [hx] at h1
      obtain ⟨e1, e2⟩ := h1.val (by simp)
      simp only [inS] at e2
      refine ⟨conc E v, VR.of (inSs_get e2 hi), ?_⟩
      simp only [execOp, ho, e1, conc, Instr.extract]
      have := concs_get (E := E) hi
      simp [this]
    · cases hr
  · cases hr

/-- The cells of a part of an aggregate. -/
def takeV : List V → Nat → Nat → Option (List V)
  | _, 0, 0 => some []
  | [], _, _ => none
  | v :: r, 0, n + 1 => match takeV r 0 n with
    | some l => some (v :: l)
    | none => none
  | _ :: r, i + 1, n => takeV r i n
theorem takeV_eq {l : List V} : ∀ {i n : Nat} {m : List V}, takeV l i n = some m → i + n ≤ l.length ∧ m = (l.drop i).take n := by
  induction l with
  | nil =>
    intro i n m h
    cases i <;> cases n <;> simp [takeV] at h
    subst h; simp
  | cons v r ih =>
    intro i n m h
    cases i with
    | zero =>
      cases n with
      | zero => simp [takeV] at h; subst h; simp
      | succ n =>
        simp only [takeV] at h
        split at h
        · rename_i l hl
          injection h with h
          subst h
          obtain ⟨h1, h2⟩ := ih hl
          simp only [List.drop_zero] at h2
          exact ⟨by simp; omega, by simp [h2]⟩
        · cases h
    | succ i =>
      simp only [takeV] at h
      obtain ⟨h1, h2⟩ := ih h
      exact ⟨by simp; omega, by simpa using h2⟩
def isAggT (P : Program) (t : TypeId) : Option Bool := match P.underlying t with
  | some (.struct _) | some (.array _ _) => some true
  | some _ => some false
  | none => none
theorem run_isAggT {t : TypeId} {b : Bool} (h : isAggT P t = some b) (W : World) : (isAgg t).run P W = .ok b W := by
  unfold isAggT at h
  split at h
  · rename_i d hu; injection h with h; subst h; simp [isAgg, run_underlying hu]
  · rename_i n e hu; injection h with h; subst h; simp [isAgg, run_underlying hu]
  · rename_i d h1 h2 hu
    injection h with h; subst h
    simp only [isAgg, Sem.run_bind, run_underlying hu, Result.andThen_ok]
    cases d <;> first | rfl | (exact absurd rfl (h1 _)) | (exact absurd rfl (h2 _ _))
  · cases h
def szT (P : Program) (t : TypeId) : Option Nat := match P.info? t with
  | some i => some i.size
  | none => none
theorem run_szT {t : TypeId} {n : Nat} (h : szT P t = some n) (W : World) : (sizeOf t).run P W = .ok n W := by
  unfold szT at h
  split at h
  · rename_i i hi; injection h with h; subst h; simp [sizeOf, typeInfo, hi]
  · cases h
/-- The part of an aggregate at a place. -/
def partV (P : Program) (t : TypeId) (l : List V) (off : Nat) : Option V :=
  match isAggT P t with
  | some false => getO l off
  | some true => match szT P t with
    | some n => match takeV l off n with
      | some m => some (.agg m)
      | none => none
    | none => none
  | none => none
theorem run_partV {t : TypeId} {l : List V} {off : Nat} {v : V} (hp : partV P t l off = some v) (E : Env) (n : Nat) (hl : inSs n l = true) (W : World) :
    inS n v = true ∧ (part t (concs E l).toArray off).run P W = .ok (conc E v) W := by
  unfold partV at hp
  split at hp
  · rename_i ha
    rw [getO_eq] at hp
    refine ⟨inSs_get hl hp, ?_⟩
    have := concs_get (E := E) hp
    simp [part, run_isAggT ha, this]
  · rename_i ha
    split at hp
    · rename_i m hm
      split at hp
      · rename_i l' hl'
        injection hp with hp
        subst hp
        obtain ⟨h1, h2⟩ := takeV_eq hl'
        refine ⟨?_, ?_⟩
        · simp only [inS, inSs_eq, List.all_eq_true] at *
          intro x hx
          rw [h2] at hx
          exact hl x (List.mem_of_mem_drop (List.mem_of_mem_take hx))
        · simp only [part, Sem.run_bind, run_isAggT ha, Result.andThen_ok, if_true, run_szT hm, Sem.run_pure]
          have he : (concs E l).toArray.extract off (off + m) = (concs E l').toArray := by
            apply Array.ext'
            rw [h2]
            simp [concs_eq, List.extract]
          rw [he]
          simp only [conc]
      · cases hp
    · cases hp
  · cases hp
def aField (P : Program) (t : TypeId) (x : V) (f : Nat) (K : KOp R) : Option R :=
  match P.underlying t, x with
  | some (.struct fs), .agg l => match fs[f]? with
    | some fd => kO (partV P fd.type l fd.offset) K
    | none => none
  | _, _ => none
theorem ok_field {t : TypeId} {x : Operand} {f : Nat} (ho : o.op = .field t x f) : AopOk P o ev h (aField P t (ev x) f K) K := by
  intro r hr
  unfold aField at hr
  split at hr
  · rename_i fs l hu hx
    split at hr
    · rename_i fd hf
      unfold kO at hr
      split at hr
      · rename_i v hp
        refine pureOk hr fun m E ac W hv => ?_
        have h1 := hv x (by simp [ho, Op.operands])
        rw [hx] at h1
        obtain ⟨e1, e2⟩ := h1.val (by simp)
        simp only [inS] at e2
        obtain ⟨h2, h3⟩ := run_partV hp E m e2 W
        refine ⟨conc E v, VR.of h2, ?_⟩
        simp only [execOp, ho, e1, conc, Instr.field, Sem.run_bind, run_underlying hu, Result.andThen_ok, hf, asAgg, Sem.run_pure, h3]
      · cases hr
    · cases hr
  · cases hr

def aIndex (P : Program) (t : TypeId) (x i : V) (K : KOp R) : Option R :=
  match i, x with
  | .int _ i, .agg l => match P.underlying t with
    | some (.array len e) => match szT P e with
      | some sz => cond (decide (0 ≤ i ∧ i < len)) (kO (partV P e l (i.toNat * sz)) K) none
      | none => none
    | _ => none
  | .int _ i, .str s => match P.underlying t with
    | some .string => cond (decide (0 ≤ i)) (match s.data.toList[i.toNat]? with
        | some b => K (.int .u8 b.toNat) [] .none
        | none => none) none
    | _ => none
  | _, _ => none
theorem ok_index {t : TypeId} {x i : Operand} (ho : o.op = .index t x i) : AopOk P o ev h (aIndex P t (ev x) (ev i) K) K := by
  intro r hr
  unfold aIndex at hr
  split at hr
  · rename_i k n l hi hx
    split at hr
    · rename_i len e hu
      split at hr
      · rename_i sz hsz
        cases hb : decide (0 ≤ n ∧ n < len) with
        | false => simp [hb] at hr
        | true =>
          rw [hb] at hr
          simp only [decide_eq_true_eq] at hb
          simp only [cond_true, kO] at hr
          split at hr
          · rename_i v hp
            refine pureOk hr fun m E ac W hv => ?_
            have h1 := hv x (by simp [ho, Op.operands])
            have h0 := hv i (by simp [ho, Op.operands])
            rw [hx] at h1; rw [hi] at h0
            obtain ⟨e1, e2⟩ := h1.val (by simp)
            simp only [inS] at e2
            obtain ⟨h2, h3⟩ := run_partV hp E m e2 W
            refine ⟨conc E v, VR.of h2, ?_⟩
            simp only [execOp, ho, e1, h0.int, conc, Instr.index, Sem.run_bind, asIntOf, Sem.run_pure, run_underlying hu, Result.andThen_ok]
            rw [if_pos hb]
            simp only [Sem.run_bind, run_szT hsz, Result.andThen_ok, h3]
          · cases hr
      · cases hr
    · cases hr
  · rename_i k n s hi hx
    split at hr
    · rename_i hu
      cases hb : decide (0 ≤ n) with
      | false => simp [hb] at hr
      | true =>
        rw [hb] at hr
        simp only [decide_eq_true_eq] at hb
        simp only [cond_true] at hr
        split at hr
        · rename_i b hs
          refine pureOk hr fun m E ac W hv => ⟨_, VR.mkInt, ?_⟩
          have h1 := hv x (by simp [ho, Op.operands])
          have h0 := hv i (by simp [ho, Op.operands])
          rw [hx] at h1; rw [hi] at h0
          simp only [execOp, ho, h1.str, h0.int, Instr.index, Sem.run_bind, asIntOf, Sem.run_pure, run_underlying hu, Result.andThen_ok]
          have hg : s[n.toNat]? = some b := by
            obtain ⟨hlt, hg⟩ := List.getElem?_eq_some_iff.1 hs
            have hlt' : n.toNat < s.size := by rw [lenS_eq]; exact hlt
            rw [getElem?_pos s n.toNat hlt']
            congr 1
          rw [if_pos hb, hg]
          rfl
        · cases hr
    · cases hr
  · cases hr

end ops
end Go.Eng
