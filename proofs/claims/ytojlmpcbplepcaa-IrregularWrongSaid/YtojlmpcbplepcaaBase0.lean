/- Texts merged: Base0, St1. -/
import Derived.Test.YtojlmpcbplepcaaEng4
import Derived.Test.YtojlmpcbplepcaaRows
/- Chapter 9: the program; the state of an auction. -/
namespace Go.Proofs.Ytojlmpcbplepcaa
open Go Go.Eng

noncomputable def ftab : FTab := fun i => Try.prog.funcs[i]?
theorem ftab_ok : FTabOk Try.prog ftab := fun _ _ h => h
theorem mixed : Try.prog.follows .mixedOrders = true := by kernel_rfl
def never : FuncId → Bool := fun _ => false
def plainL : FuncId → Loops := fun _ => noLoops
theorem plainL_ok : ∀ f, loopsOk Try.prog (plainL f) := fun _ => noLoops_ok
noncomputable abbrev evalP (T : PTab) (f : FuncId) (fn : Func) (args : List V) : Option V := evalFn Try.prog (inl Try.prog ftab T plainL 100 never never (oracleOf emptyTab) 20) noLoops 100 f fn args [] (fun v _ => some v)
theorem pure_at {T : PTab} (hT : PTabOk Try.prog T) {f : FuncId} {fn : Func} {args : List V} {v : V} (hf : Try.prog.funcs[f]? = some fn) (hb : enterB fn = true)
    (h : evalP T f fn args = some v) (ha : plainVs args = true) (hv : plainV v = true) : FnPure Try.prog f args v :=
  fnPure_of_eval (inl_ok (oracleOf_ok emptyTab_ok) ftab_ok hT plainL_ok mixed 20) mixed hf hb noLoops_ok h ha hv

theorem wr_u8_id {n : Int} (h : 0 ≤ n ∧ n < 256) : wr .u8 n = n := by rw [← wr_eq]; simp only [IntKind.wrap, IntKind.bits, IntKind.signed]; simp; omega
theorem wr_i64_id {n : Int} (h : -9223372036854775808 ≤ n ∧ n < 9223372036854775808) : wr .i64 n = n := by rw [← wr_eq]; simp only [IntKind.wrap, IntKind.bits, IntKind.signed]; simp; omega
/-- A bid: the call, its level, denomination and seat, and whether it was made. -/
structure Bd where
  c : Int
  l : Int
  d : Int
  s : Int
  m : Bool
def Bd.vs (b : Bd) (r : List V) : List V := .int .u8 b.c :: .int .u8 b.l :: .int .u8 b.d :: .int .u8 b.s :: .bool b.m :: r
def bd0 : Bd := ⟨0, 0, 0, 0, false⟩
structure St where
  b : Bd
  turn : Int
  risk : Int
  passes : Int
  f0 : Bd
  f1 : Bd
  f2 : Bd
  f3 : Bd
  f4 : Bd
  f5 : Bd
  f6 : Bd
  f7 : Bd
  f8 : Bd
  f9 : Bd
def St.vs (s : St) : List V := s.b.vs (.int .u8 s.turn :: .int .u8 s.risk :: .int .i64 s.passes :: s.f0.vs (s.f1.vs (s.f2.vs (s.f3.vs (s.f4.vs (s.f5.vs (s.f6.vs (s.f7.vs (s.f8.vs (s.f9.vs []))))))))))
def st0 (t : Int) : St := ⟨bd0, t, 0, 0, bd0, bd0, bd0, bd0, bd0, bd0, bd0, bd0, bd0, bd0⟩
def St.fst (s : St) : Nat → Bd
  | 0 => s.f0 | 1 => s.f1 | 2 => s.f2 | 3 => s.f3 | 4 => s.f4 | 5 => s.f5 | 6 => s.f6 | 7 => s.f7 | 8 => s.f8 | _ => s.f9
def St.setF (s : St) (b : Bd) : Nat → St
  | 0 => { s with f0 := b } | 1 => { s with f1 := b } | 2 => { s with f2 := b } | 3 => { s with f3 := b } | 4 => { s with f4 := b }
  | 5 => { s with f5 := b } | 6 => { s with f6 := b } | 7 => { s with f7 := b } | 8 => { s with f8 := b } | _ => { s with f9 := b }
def St.at (s : St) (t : Int) : St := { s with turn := t }
def ofBd : List V → Option (Bd × List V)
  | .int .u8 c :: .int .u8 l :: .int .u8 d :: .int .u8 s :: .bool m :: r => some (⟨c, l, d, s, m⟩, r)
  | _ => none
theorem ofBd_ok {l : List V} {b : Bd} {r : List V} (h : ofBd l = some (b, r)) : l = b.vs r := by
  unfold ofBd at h
  split at h
  · cases h; rfl
  · cases h
def ofBds : Nat → List V → List Bd → Option (List Bd)
  | 0, [], a => some a
  | 0, _, _ => none
  | n + 1, l, a => match ofBd l with
    | some (b, r) => ofBds n r (b :: a)
    | none => none
def ofHd (l : List V) : Option (Bd × Int × Int × Int × List V) := match ofBd l with
  | some (b, r) => match r with
    | .int .u8 t :: .int .u8 k :: .int .i64 p :: r => some (b, t, k, p, r)
    | _ => none
  | none => none
def ofVs (l : List V) : Option St := match ofHd l with
  | some (b, t, k, p, r) => match ofBds 10 r [] with
    | some [f9, f8, f7, f6, f5, f4, f3, f2, f1, f0] => some ⟨b, t, k, p, f0, f1, f2, f3, f4, f5, f6, f7, f8, f9⟩
    | _ => none
  | none => none
def Bds : List Bd → List V → List V
  | [], r => r
  | b :: q, r => Bds q (b.vs r)
theorem ofBds_ok : ∀ {n : Nat} {l : List V} {a r : List Bd}, ofBds n l a = some r → ∃ q, r = q ++ a ∧ l = Bds q []
  | 0, [], a, r, h => by cases h; exact ⟨[], rfl, rfl⟩
  | 0, _ :: _, a, r, h => by cases h
  | n + 1, l, a, r, h => by
    simp only [ofBds] at h
    split at h
    · rename_i b r2 hb
      obtain ⟨q, h1, h2⟩ := ofBds_ok h
      refine ⟨q ++ [b], by rw [h1]; simp, ?_⟩
      rw [ofBd_ok hb, h2]
      have : ∀ (q : List Bd) (b : Bd) (r : List V), b.vs (Bds q r) = Bds (q ++ [b]) r := by
        intro q
        induction q with
        | nil => intro b r; rfl
        | cons x q ih => intro b r; simp only [Bds, List.cons_append]; exact ih b _
      exact this q b []
    · cases h
theorem ofVs_ok {l : List V} {s : St} (h : ofVs l = some s) : l = s.vs := by
  unfold ofVs at h
  split at h
  · rename_i b t k p r hh
    unfold ofHd at hh
    split at hh
    · rename_i b2 r2 hb
      split at hh
      · rename_i t2 k2 p2 r3
        cases hh
        split at h
        · rename_i f9 f8 f7 f6 f5 f4 f3 f2 f1 f0 hr
          cases h
          obtain ⟨q, h1, h2⟩ := ofBds_ok hr
          rw [List.append_nil] at h1
          subst h1
          rw [ofBd_ok hb, h2]
          rfl
        · cases h
      · cases hh
    · cases hh
  · cases h
theorem ofVs_vs (s : St) : ofVs s.vs = some s := rfl
end Go.Proofs.Ytojlmpcbplepcaa

/- Chapter 9: Parts, over, check. -/
namespace Go.Proofs.Ytojlmpcbplepcaa
open Go Go.Eng

def lvI (c : Int) : Int := wr .u8 (wr .u8 ((wr .u8 (c - 3)).tdiv 5) + 1)
def dnI (c : Int) : Int := (wr .u8 (c - 3)).tmod 5
def isBid (c : Int) : Bool := decide (3 ≤ c) && decide (c ≤ 37)
def ptV (c : Int) : V := bif isBid c then .tuple [.int .u8 (lvI c), .int .u8 (dnI c), .bool true] else .tuple [.int .u8 0, .int .u8 0, .bool false]
theorem parts_eval (c : Int) : evalP emptyTab 55 Try.f55 [.int .u8 c] = bif decide (c < 3) then some (.tuple [.int .u8 0, .int .u8 0, .bool false]) else bif !decide (c ≤ 37) then some (.tuple [.int .u8 0, .int .u8 0, .bool false]) else some (.tuple [.int .u8 (lvI c), .int .u8 (dnI c), .bool true]) := by kernel_rfl
theorem parts_p (c : Int) : FnPure Try.prog 55 [.int .u8 c] (ptV c) := by
  refine pure_at emptyTab_ok Try.func55 (by kernel_rfl) ?_ rfl (by unfold ptV; cases isBid c <;> rfl)
  rw [parts_eval]; unfold ptV isBid
  rw [show decide (3 ≤ c) = !decide (c < 3) by rw [← decide_not]; congr 1; simp only [eq_iff_iff]; omega]
  cases decide (c < 3) <;> cases decide (c ≤ 37) <;> rfl
theorem right_eval (c : Int) : evalP emptyTab 35 Try.f35 [.int .u8 c] = some (.bool (decide (c ≤ 37))) := by kernel_rfl
theorem right_p (c : Int) : FnPure Try.prog 35 [.int .u8 c] (.bool (decide (c ≤ 37))) := pure_at emptyTab_ok Try.func35 (by kernel_rfl) (right_eval c) rfl rfl

/-- Whether an auction is over. -/
def ovr (s : St) : Bool := bif s.b.m then decide (3 ≤ s.passes) else decide (4 ≤ s.passes)
theorem over_eval (s : St) : evalP emptyTab 61 Try.f61 [.agg s.vs] = bif s.b.m then some (.bool (decide (3 ≤ s.passes))) else some (.bool (decide (4 ≤ s.passes))) := by kernel_rfl
theorem plain_bd (b : Bd) (r : List V) : plainVs (b.vs r) = plainVs r := rfl
theorem plain_st (s : St) : plainVs s.vs = true := rfl
theorem over_p (s : St) : FnPure Try.prog 61 [.agg s.vs] (.bool (ovr s)) := by
  refine pure_at emptyTab_ok Try.func61 (by kernel_rfl) ?_ rfl rfl
  rw [over_eval]; unfold ovr
  cases s.b.m <;> rfl
def gRight : List V → Option (Bool × V)
  | [.int .u8 c] => some (true, .bool (decide (c ≤ 37)))
  | _ => none
def gParts : List V → Option (Bool × V)
  | [.int .u8 c] => some (true, ptV c)
  | _ => none
def lvZ (c : Int) : Int := bif isBid c then lvI c else 0
def dnZ (c : Int) : Int := bif isBid c then dnI c else 0
def gPartsP : List V → Option (Bool × V)
  | [.int .u8 c] => some (true, .tuple [.int .u8 (lvZ c), .int .u8 (dnZ c), .bool (isBid c)])
  | _ => none
theorem ptV_is (c : Int) : ptV c = .tuple [.int .u8 (lvZ c), .int .u8 (dnZ c), .bool (isBid c)] := by
  unfold ptV lvZ dnZ
  cases isBid c <;> rfl
def gPartsD (dl : Int) : List V → Option (Bool × V)
  | [.int .u8 c] => some (isBid c && decide (dnI c = dl), .tuple [.int .u8 (lvI c), .int .u8 dl, .bool true])
  | _ => none
def gOver : List V → Option (Bool × V)
  | [.agg l] => match ofVs l with
    | some s => some (true, .bool (ovr s))
    | none => none
  | _ => none
def tab0 : PTab := addTab 35 gRight (addTab 61 gOver emptyTab)
theorem tab0_ok : PTabOk Try.prog tab0 := by
  refine addTab_ok ?_ (addTab_ok ?_ emptyTab_ok)
  · intro args c v h _
    unfold gRight at h
    split at h
    · cases h; exact right_p _
    · cases h
  · intro args c v h _
    unfold gOver at h
    split at h
    · split at h
      · rename_i s hs; cases h; rw [ofVs_ok hs]; exact over_p s
      · cases h
    · cases h
/-- Why a call is not legal. -/
def same2 (s : St) : Bool := decide (s.b.s.tmod 2 = s.turn.tmod 2)
def chk (s : St) (c : Int) : Int := bif !decide (c ≤ 37) then 80 else bif ovr s then 90 else bif decide (c = 0) then 0 else
  bif decide (c = 1) then (bif s.b.m && (!same2 s && decide (s.risk = 0)) then 0 else 2) else bif decide (c = 2) then (bif s.b.m && (same2 s && decide (s.risk = 1)) then 0 else 2) else bif decide (s.b.c < c) then 0 else 2
end Go.Proofs.Ytojlmpcbplepcaa
