/- Chapter 9: the program; the state of an auction. -/
import Derived.Test.YtojlmpcbplepcaaEng4
import Derived.Test.YtojlmpcbplepcaaRows
namespace Go.Proofs.Ytojlmpcbplepcaa
open Go Go.Eng

noncomputable def ftab : FTab := fun i => Try.prog.funcs[i]?
theorem ftab_ok : FTabOk Try.prog ftab := fun _ _ h => h
theorem mixed : Try.prog.follows .mixedOrders = true := by kernel_rfl
def never : FuncId → Bool := fun _ => false
def plainL : FuncId → Loops := fun _ => noLoops
theorem plainL_ok : ∀ f, loopsOk Try.prog (plainL f) := fun _ => noLoops_ok
noncomputable abbrev evalP (T : PTab) (f : FuncId) (fn : Func) (args : List V) : Option V := evalFn Try.prog (inl Try.prog ftab T plainL 100 never never (oracleOf emptyTab) 20) noLoops 100 f fn args [] (fun v _ => some v)
theorem pure_at {T : PTab} (hT : PTabOk Try.prog T) {f : FuncId} {fn : Func} {args : List V} {v : V} (hf : Try.prog.funcs[f]? = some fn) (hb : enterB fn = true)
    (h : evalP T f fn args = some v) (ha : plainVs args = true) (hv : plainV v = true) : FnPure Try.prog f args v :=
  fnPure_of_eval (inl_ok (oracleOf_ok emptyTab_ok) ftab_ok hT plainL_ok mixed 20) mixed hf hb noLoops_ok h ha hv

theorem wr_u8_id {n : Int} (h : 0 ≤ n ∧ n < 256) : wr .u8 n = n := by rw [← wr_eq]; simp only [IntKind.wrap, IntKind.bits, IntKind.signed]; simp; omega
theorem wr_i64_id {n : Int} (h : -9223372036854775808 ≤ n ∧ n < 9223372036854775808) : wr .i64 n = n := by rw [← wr_eq]; simp only [IntKind.wrap, IntKind.bits, IntKind.signed]; simp; omega
/-- A bid: the call, its level, denomination and seat, and whether it was made. -/
structure Bd where
  c : Int
  l : Int
  d : Int
  s : Int
  m : Bool
def Bd.vs (b : Bd) (r : List V) : List V := .int .u8 b.c :: .int .u8 b.l :: .int .u8 b.d :: .int .u8 b.s :: .bool b.m :: r
def bd0 : Bd := ⟨0, 0, 0, 0, false⟩
structure St where
  b : Bd
  turn : Int
  risk : Int
  passes : Int
  f0 : Bd
  f1 : Bd
  f2 : Bd
  f3 : Bd
  f4 : Bd
  f5 : Bd
  f6 : Bd
  f7 : Bd
  f8 : Bd
  f9 : Bd
def St.vs (s : St) : List V := s.b.vs (.int .u8 s.turn :: .int .u8 s.risk :: .int .i64 s.passes :: s.f0.vs (s.f1.vs (s.f2.vs (s.f3.vs (s.f4.vs (s.f5.vs (s.f6.vs (s.f7.vs (s.f8.vs (s.f9.vs []))))))))))
def st0 (t : Int) : St := ⟨bd0, t, 0, 0, bd0, bd0, bd0, bd0, bd0, bd0, bd0, bd0, bd0, bd0⟩
def St.fst (s : St) : Nat → Bd
  | 0 => s.f0 | 1 => s.f1 | 2 => s.f2 | 3 => s.f3 | 4 => s.f4 | 5 => s.f5 | 6 => s.f6 | 7 => s.f7 | 8 => s.f8 | _ => s.f9
def St.setF (s : St) (b : Bd) : Nat → St
  | 0 => { s with f0 := b } | 1 => { s with f1 := b } | 2 => { s with f2 := b } | 3 => { s with f3 := b } | 4 => { s with f4 := b }
  | 5 => { s with f5 := b } | 6 => { s with f6 := b } | 7 => { s with f7 := b } | 8 => { s with f8 := b } | _ => { s with f9 := b }
def St.at (s : St) (t : Int) : St := { s with turn := t }
def ofBd : List V → Option (Bd × List V)
  | .int .u8 c :: .int .u8 l :: .int .u8 d :: .int .u8 s :: .bool m :: r => some (⟨c, l, d, s, m⟩, r)
  | _ => none
theorem ofBd_ok {l : List V} {b : Bd} {r : List V} (h : ofBd l = some (b, r)) : l = b.vs r := by
  unfold ofBd at h
  split at h
  · cases h; rfl
  · cases h
def ofBds : Nat → List V → List Bd → Option (List Bd)
  | 0, [], a => some a
  | 0, _, _ => none
  | n + 1, l, a => match ofBd l with
    | some (b, r) => ofBds n r (b :: a)
    | none => none
def ofHd (l : List V) : Option (Bd × Int × Int × Int × List V) := match ofBd l with
  | some (b, r) => match r with
    | .int .u8 t :: .int .u8 k :: .int .i64 p :: r => some (b, t, k, p, r)
    | _ => none
  | none => none
def ofVs (l : List V) : Option St := match ofHd l with
  | some (b, t, k, p, r) => match ofBds 10 r [] with
    | some [f9, f8, f7, f6, f5, f4, f3, f2, f1, f0] => some ⟨b, t, k, p, f0, f1, f2, f3, f4, f5, f6, f7, f8, f9⟩
    | _ => none
  | none => none
def Bds : List Bd → List V → List V
  | [], r => r
  | b :: q, r => Bds q (b.vs r)
theorem ofBds_ok : ∀ {n : Nat} {l : List V} {a r : List Bd}, ofBds n l a = some r → ∃ q, r = q ++ a ∧ l = Bds q []
  | 0, [], a, r, h => by cases h; exact ⟨[], rfl, rfl⟩
  | 0, _ :: _, a, r, h => by cases h
  | n + 1, l, a, r, h => by
    simp only [ofBds] at h
    split at h
    · rename_i b r2 hb
      obtain ⟨q, h1, h2⟩ := ofBds_ok h
      refine ⟨q ++ [b], by rw [h1]; simp, ?_⟩
      rw [ofBd_ok hb, h2]
      have : ∀ (q : List Bd) (b : Bd) (r : List V), b.vs (Bds q r) = Bds (q ++ [b]) r := by
        intro q
        induction q with
        | nil => intro b r; rfl
        | cons x q ih => intro b r; simp only [Bds, List.cons_append]; exact ih b _
      exact this q b []
    · cases h
theorem ofVs_ok {l : List V} {s : St} (h : ofVs l = some s) : l = s.vs := by
  unfold ofVs at h
  split at h
  · rename_i b t k p r hh
    unfold ofHd at hh
    split at hh
    · rename_i b2 r2 hb
      split at hh
      · rename_i t2 k2 p2 r3
        cases hh
        split at h
        · rename_i f9 f8 f7 f6 f5 f4 f3 f2 f1 f0 hr
          cases h
          obtain ⟨q, h1, h2⟩ := ofBds_ok hr
          rw [List.append_nil] at h1
          subst h1
          rw [ofBd_ok hb, h2]
          rfl
        · cases h
      · cases hh
    · cases hh
  · cases h
theorem ofVs_vs (s : St) : ofVs s.vs = some s := rfl
end Go.Proofs.Ytojlmpcbplepcaa
