/- Texts merged: Base0, St1, St2, Fol. -/
import Derived.Test.YtojlmpcbplepcaaGreatEng4
import Derived.Test.YtojlmpcbplepcaaGreatEng5
import Derived.Test.YtojlmpcbplepcaaGreatRows
/- Chapter 9: the program; the state of an auction. -/
namespace Go.Proofs.YtojlmpcbplepcaaGreat
open Go Go.Eng
noncomputable def ftab : FTab := fun i => Tryz.prog.funcs[i]?
theorem ftab_ok : FTabOk Tryz.prog ftab := fun _ _ h => h
theorem mixed : Tryz.prog.follows .mixedOrders = true := by kernel_rfl
def never : FuncId → Bool := fun _ => false
def plainL : FuncId → Loops := fun _ => noLoops
theorem plainL_ok : ∀ f, loopsOk Tryz.prog (plainL f) := fun _ => noLoops_ok
noncomputable abbrev evalP (T : PTab) (f : FuncId) (fn : Func) (args : List V) : Option V := evalFn Tryz.prog (inl Tryz.prog ftab T plainL 100 never never (oracleOf emptyTab) 20) noLoops 100 f fn args [] (fun v _ => some v)
theorem pure_at {T : PTab} (hT : PTabOk Tryz.prog T) {f : FuncId} {fn : Func} {args : List V} {v : V} (hf : Tryz.prog.funcs[f]? = some fn) (hb : enterB fn = true)
    (h : evalP T f fn args = some v) (ha : plainVs args = true) (hv : plainV v = true) : FnPure Tryz.prog f args v :=
  fnPure_of_eval (inl_ok (oracleOf_ok emptyTab_ok) ftab_ok hT plainL_ok mixed 20) mixed hf hb noLoops_ok h ha hv
theorem wr_u8_id {n : Int} (h : 0 ≤ n ∧ n < 256) : wr .u8 n = n := by rw [← wr_eq]; simp only [IntKind.wrap, IntKind.bits, IntKind.signed]; simp; omega
theorem wr_i64_id {n : Int} (h : -9223372036854775808 ≤ n ∧ n < 9223372036854775808) : wr .i64 n = n := by rw [← wr_eq]; simp only [IntKind.wrap, IntKind.bits, IntKind.signed]; simp; omega
structure Bd where
  c : Int
  l : Int
  d : Int
  s : Int
  m : Bool
def Bd.vs (b : Bd) (r : List V) : List V := .int .u8 b.c :: .int .u8 b.l :: .int .u8 b.d :: .int .u8 b.s :: .bool b.m :: r
def bd0 : Bd := ⟨0, 0, 0, 0, false⟩
structure St where
  b : Bd
  turn : Int
  risk : Int
  passes : Int
  f0 : Bd
  f1 : Bd
  f2 : Bd
  f3 : Bd
  f4 : Bd
  f5 : Bd
  f6 : Bd
  f7 : Bd
  f8 : Bd
  f9 : Bd
def St.vs (s : St) : List V := s.b.vs (.int .u8 s.turn :: .int .u8 s.risk :: .int .i64 s.passes :: s.f0.vs (s.f1.vs (s.f2.vs (s.f3.vs (s.f4.vs (s.f5.vs (s.f6.vs (s.f7.vs (s.f8.vs (s.f9.vs []))))))))))
def st0 (t : Int) : St := ⟨bd0, t, 0, 0, bd0, bd0, bd0, bd0, bd0, bd0, bd0, bd0, bd0, bd0⟩
def St.fst (s : St) : Nat → Bd
  | 0 => s.f0 | 1 => s.f1 | 2 => s.f2 | 3 => s.f3 | 4 => s.f4 | 5 => s.f5 | 6 => s.f6 | 7 => s.f7 | 8 => s.f8 | _ => s.f9
def St.setF (s : St) (b : Bd) : Nat → St
  | 0 => { s with f0 := b } | 1 => { s with f1 := b } | 2 => { s with f2 := b } | 3 => { s with f3 := b } | 4 => { s with f4 := b }
  | 5 => { s with f5 := b } | 6 => { s with f6 := b } | 7 => { s with f7 := b } | 8 => { s with f8 := b } | _ => { s with f9 := b }
def St.at (s : St) (t : Int) : St := { s with turn := t }
def ofBd : List V → Option (Bd × List V)
  | .int .u8 c :: .int .u8 l :: .int .u8 d :: .int .u8 s :: .bool m :: r => some (⟨c, l, d, s, m⟩, r)
  | _ => none
theorem ofBd_ok {l : List V} {b : Bd} {r : List V} (h : ofBd l = some (b, r)) : l = b.vs r := by
  unfold ofBd at h
  split at h
  · cases h; rfl
  · cases h
def ofBds : Nat → List V → List Bd → Option (List Bd)
  | 0, [], a => some a
  | 0, _, _ => none
  | n + 1, l, a => match ofBd l with
    | some (b, r) => ofBds n r (b :: a)
    | none => none
def ofHd (l : List V) : Option (Bd × Int × Int × Int × List V) := match ofBd l with
  | some (b, r) => match r with
    | .int .u8 t :: .int .u8 k :: .int .i64 p :: r => some (b, t, k, p, r)
    | _ => none
  | none => none
def ofVs (l : List V) : Option St := match ofHd l with
  | some (b, t, k, p, r) => match ofBds 10 r [] with
    | some [f9, f8, f7, f6, f5, f4, f3, f2, f1, f0] => some ⟨b, t, k, p, f0, f1, f2, f3, f4, f5, f6, f7, f8, f9⟩
    | _ => none
  | none => none
def Bds : List Bd → List V → List V
  | [], r => r
  | b :: q, r => Bds q (b.vs r)
theorem ofBds_ok : ∀ {n : Nat} {l : List V} {a r : List Bd}, ofBds n l a = some r → ∃ q, r = q ++ a ∧ l = Bds q []
  | 0, [], a, r, h => by cases h; exact ⟨[], rfl, rfl⟩
  | 0, _ :: _, a, r, h => by cases h
  | n + 1, l, a, r, h => by
    simp only [ofBds] at h
    split at h
    · rename_i b r2 hb
      obtain ⟨q, h1, h2⟩ := ofBds_ok h
      refine ⟨q ++ [b], by rw [h1]; simp, ?_⟩
      rw [ofBd_ok hb, h2]
      have : ∀ (q : List Bd) (b : Bd) (r : List V), b.vs (Bds q r) = Bds (q ++ [b]) r := by
        intro q
        induction q with
        | nil => intro b r; rfl
        | cons x q ih => intro b r; simp only [Bds, List.cons_append]; exact ih b _
      exact this q b []
    · cases h
theorem ofVs_ok {l : List V} {s : St} (h : ofVs l = some s) : l = s.vs := by
  unfold ofVs at h
  split at h
  · rename_i b t k p r hh
    unfold ofHd at hh
    split at hh
    · rename_i b2 r2 hb
      split at hh
      · rename_i t2 k2 p2 r3
        cases hh
        split at h
        · rename_i f9 f8 f7 f6 f5 f4 f3 f2 f1 f0 hr
          cases h
          obtain ⟨q, h1, h2⟩ := ofBds_ok hr
          rw [List.append_nil] at h1
          subst h1
          rw [ofBd_ok hb, h2]
          rfl
        · cases h
      · cases hh
    · cases hh
  · cases h
end Go.Proofs.YtojlmpcbplepcaaGreat

/- Chapter 9: Parts, over, check. -/
namespace Go.Proofs.YtojlmpcbplepcaaGreat
open Go Go.Eng
def lvI (c : Int) : Int := wr .u8 (wr .u8 ((wr .u8 (c - 3)).tdiv 5) + 1)
def dnI (c : Int) : Int := (wr .u8 (c - 3)).tmod 5
def isBid (c : Int) : Bool := decide (3 ≤ c) && decide (c ≤ 37)
def ptV (c : Int) : V := bif isBid c then .tuple [.int .u8 (lvI c), .int .u8 (dnI c), .bool true] else .tuple [.int .u8 0, .int .u8 0, .bool false]
theorem parts_eval (c : Int) : evalP emptyTab 66 Tryz.f66 [.int .u8 c] = bif decide (c < 3) then some (.tuple [.int .u8 0, .int .u8 0, .bool false]) else bif !decide (c ≤ 37) then some (.tuple [.int .u8 0, .int .u8 0, .bool false]) else some (.tuple [.int .u8 (lvI c), .int .u8 (dnI c), .bool true]) := by kernel_rfl
theorem parts_p (c : Int) : FnPure Tryz.prog 66 [.int .u8 c] (ptV c) := by
  refine pure_at emptyTab_ok Tryz.func66 (by kernel_rfl) ?_ rfl (by unfold ptV; cases isBid c <;> rfl)
  rw [parts_eval]; unfold ptV isBid
  rw [show decide (3 ≤ c) = !decide (c < 3) by rw [← decide_not]; congr 1; simp only [eq_iff_iff]; omega]
  cases decide (c < 3) <;> cases decide (c ≤ 37) <;> rfl
theorem right_eval (c : Int) : evalP emptyTab 57 Tryz.f57 [.int .u8 c] = some (.bool (decide (c ≤ 37))) := by kernel_rfl
theorem right_p (c : Int) : FnPure Tryz.prog 57 [.int .u8 c] (.bool (decide (c ≤ 37))) := pure_at emptyTab_ok Tryz.func57 (by kernel_rfl) (right_eval c) rfl rfl
def ovr (s : St) : Bool := bif s.b.m then decide (3 ≤ s.passes) else decide (4 ≤ s.passes)
theorem over_eval (s : St) : evalP emptyTab 102 Tryz.f102 [.agg s.vs] = bif s.b.m then some (.bool (decide (3 ≤ s.passes))) else some (.bool (decide (4 ≤ s.passes))) := by kernel_rfl
theorem over_p (s : St) : FnPure Tryz.prog 102 [.agg s.vs] (.bool (ovr s)) := by
  refine pure_at emptyTab_ok Tryz.func102 (by kernel_rfl) ?_ rfl rfl
  rw [over_eval]; unfold ovr
  cases s.b.m <;> rfl
def gRight : List V → Option (Bool × V)
  | [.int .u8 c] => some (true, .bool (decide (c ≤ 37)))
  | _ => none
def gParts : List V → Option (Bool × V)
  | [.int .u8 c] => some (true, ptV c)
  | _ => none
def lvZ (c : Int) : Int := bif isBid c then lvI c else 0
def dnZ (c : Int) : Int := bif isBid c then dnI c else 0
def gPartsP : List V → Option (Bool × V)
  | [.int .u8 c] => some (true, .tuple [.int .u8 (lvZ c), .int .u8 (dnZ c), .bool (isBid c)])
  | _ => none
theorem ptV_is (c : Int) : ptV c = .tuple [.int .u8 (lvZ c), .int .u8 (dnZ c), .bool (isBid c)] := by
  unfold ptV lvZ dnZ
  cases isBid c <;> rfl
def gPartsD (dl : Int) : List V → Option (Bool × V)
  | [.int .u8 c] => some (isBid c && decide (dnI c = dl), .tuple [.int .u8 (lvI c), .int .u8 dl, .bool true])
  | _ => none
def gOver : List V → Option (Bool × V)
  | [.agg l] => match ofVs l with
    | some s => some (true, .bool (ovr s))
    | none => none
  | _ => none
def tab0 : PTab := addTab 57 gRight (addTab 102 gOver emptyTab)
theorem tab0_ok : PTabOk Tryz.prog tab0 := by
  refine addTab_ok ?_ (addTab_ok ?_ emptyTab_ok)
  · intro args c v h _
    unfold gRight at h
    split at h
    · cases h; exact right_p _
    · cases h
  · intro args c v h _
    unfold gOver at h
    split at h
    · split at h
      · rename_i s hs; cases h; rw [ofVs_ok hs]; exact over_p s
      · cases h
    · cases h
def same2 (s : St) : Bool := decide (s.b.s.tmod 2 = s.turn.tmod 2)
def chk (s : St) (c : Int) : Int := bif !decide (c ≤ 37) then 80 else bif ovr s then 90 else bif decide (c = 0) then 0 else
  bif decide (c = 1) then (bif s.b.m && (!same2 s && decide (s.risk = 0)) then 0 else 2) else bif decide (c = 2) then (bif s.b.m && (same2 s && decide (s.risk = 1)) then 0 else 2) else bif decide (s.b.c < c) then 0 else 2
end Go.Proofs.YtojlmpcbplepcaaGreat

/- Chapter 9: check; the state after a call. (Printed by St2.py.) -/
namespace Go.Proofs.YtojlmpcbplepcaaGreat
open Go Go.Eng
noncomputable def chkE (s : St) (c : Int) : Option V := bif !decide (c ≤ 37) then some (.int .i64 80) else bif ovr s then some (.int .i64 90) else
  bif s.b.m then bif decide (c = 0) then some (.int .i64 0) else
    bif decide (c = 1) then bif !decide (s.b.s.tmod 2 = s.turn.tmod 2) then bif !decide (s.risk = 0) then some (.int .i64 2) else some (.int .i64 0) else some (.int .i64 2) else
    bif decide (c = 2) then bif s.b.m then bif !!decide (s.b.s.tmod 2 = s.turn.tmod 2) then bif !decide (s.risk = 1) then some (.int .i64 2) else some (.int .i64 0) else some (.int .i64 2) else some (.int .i64 2) else
    bif !decide (s.b.c < c) then some (.int .i64 2) else some (.int .i64 0)
  else bif decide (c = 0) then some (.int .i64 0) else bif decide (c = 1) then some (.int .i64 2) else
    bif decide (c = 2) then bif s.b.m then bif !decide (s.risk = 1) then some (.int .i64 2) else some (.int .i64 0) else some (.int .i64 2) else
    bif !decide (s.b.c < c) then some (.int .i64 2) else some (.int .i64 0)
theorem check_eval (s : St) (c : Int) : evalP tab0 104 Tryz.f104 [.agg s.vs, .int .u8 c] = chkE s c := by kernel_rfl
theorem chkE_is (s : St) (c : Int) : chkE s c = some (.int .i64 (chk s c)) := by
  unfold chkE chk same2
  cases decide (c ≤ 37) <;> cases ovr s <;> cases hm : s.b.m <;> cases decide (c = 0) <;> cases decide (c = 1) <;> cases decide (c = 2) <;> cases decide (s.b.s.tmod 2 = s.turn.tmod 2) <;> cases decide (s.risk = 0) <;> cases decide (s.risk = 1) <;> cases decide (s.b.c < c) <;> rfl
theorem check_p (s : St) (c : Int) : FnPure Tryz.prog 104 [.agg s.vs, .int .u8 c] (.int .i64 (chk s c)) :=
  pure_at tab0_ok Tryz.func104 (by kernel_rfl) (by rw [check_eval, chkE_is]) rfl rfl
def nx (t : Int) : Int := (wr .u8 (t + 1)).tmod 4
def passA (s : St) : St := { s with turn := nx s.turn, passes := wr .i64 (s.passes + 1) }
def dblA (s : St) (r : Int) : St := { s with turn := nx s.turn, risk := r, passes := 0 }
def newB (s : St) (c d : Int) : Bd := ⟨c, lvI c, d, s.turn, true⟩
def bidA (s : St) (c d r : Int) : St := { s with b := newB s c d, turn := nx s.turn, risk := r, passes := 0 }
def kOf (t d : Int) : Nat := t.toNat % 2 * 5 + d.toNat
def aft (s : St) (c : Int) : St := bif decide (c = 0) then passA s else bif decide (c = 1) || decide (c = 2) then dblA s c else
  bif (s.fst (kOf s.turn (dnI c))).m then bidA s c (dnI c) 0 else (bidA s c (dnI c) 0).setF (newB s c (dnI c)) (kOf s.turn (dnI c))
noncomputable def aftE (s : St) (c d : Int) (k : Nat) : Option V := bif decide (c = 0) then some (.agg (passA s).vs) else
  bif decide (c = 1) then bif decide (2 < c) then some (.agg (dblA s 0).vs) else some (.agg (dblA s c).vs) else
  bif decide (c = 2) then bif decide (2 < c) then some (.agg (dblA s 0).vs) else some (.agg (dblA s c).vs) else
  bif isBid c && decide (dnI c = d) then bif !(s.fst k).m then bif decide (2 < c) then some (.agg ((bidA s c d 0).setF (newB s c d) k).vs) else some (.agg ((bidA s c d c).setF (newB s c d) k).vs)
    else bif decide (2 < c) then some (.agg (bidA s c d 0).vs) else some (.agg (bidA s c d c).vs) else none
abbrev tabD (d : Int) : PTab := addTab 66 (gPartsD d) tab0
theorem tabD_ok (d : Int) : PTabOk Tryz.prog (tabD d) := by
  refine addTab_ok ?_ tab0_ok
  intro args c v h hc
  unfold gPartsD at h
  split at h
  · cases h
    simp only [Bool.and_eq_true, decide_eq_true_eq] at hc
    have := parts_p (by assumption)
    unfold ptV at this
    rw [hc.1, cond_true, hc.2] at this
    exact this
  · cases h
theorem after_0_0 (s : St) (c : Int) : evalP (tabD 0) 105 Tryz.f105 [.agg (s.at 0).vs, .int .u8 c] = aftE (s.at 0) c 0 0 := by kernel_rfl
theorem after_0_1 (s : St) (c : Int) : evalP (tabD 1) 105 Tryz.f105 [.agg (s.at 0).vs, .int .u8 c] = aftE (s.at 0) c 1 1 := by kernel_rfl
theorem after_0_2 (s : St) (c : Int) : evalP (tabD 2) 105 Tryz.f105 [.agg (s.at 0).vs, .int .u8 c] = aftE (s.at 0) c 2 2 := by kernel_rfl
theorem after_0_3 (s : St) (c : Int) : evalP (tabD 3) 105 Tryz.f105 [.agg (s.at 0).vs, .int .u8 c] = aftE (s.at 0) c 3 3 := by kernel_rfl
theorem after_0_4 (s : St) (c : Int) : evalP (tabD 4) 105 Tryz.f105 [.agg (s.at 0).vs, .int .u8 c] = aftE (s.at 0) c 4 4 := by kernel_rfl
theorem after_1_0 (s : St) (c : Int) : evalP (tabD 0) 105 Tryz.f105 [.agg (s.at 1).vs, .int .u8 c] = aftE (s.at 1) c 0 5 := by kernel_rfl
theorem after_1_1 (s : St) (c : Int) : evalP (tabD 1) 105 Tryz.f105 [.agg (s.at 1).vs, .int .u8 c] = aftE (s.at 1) c 1 6 := by kernel_rfl
theorem after_1_2 (s : St) (c : Int) : evalP (tabD 2) 105 Tryz.f105 [.agg (s.at 1).vs, .int .u8 c] = aftE (s.at 1) c 2 7 := by kernel_rfl
theorem after_1_3 (s : St) (c : Int) : evalP (tabD 3) 105 Tryz.f105 [.agg (s.at 1).vs, .int .u8 c] = aftE (s.at 1) c 3 8 := by kernel_rfl
theorem after_1_4 (s : St) (c : Int) : evalP (tabD 4) 105 Tryz.f105 [.agg (s.at 1).vs, .int .u8 c] = aftE (s.at 1) c 4 9 := by kernel_rfl
theorem after_2_0 (s : St) (c : Int) : evalP (tabD 0) 105 Tryz.f105 [.agg (s.at 2).vs, .int .u8 c] = aftE (s.at 2) c 0 0 := by kernel_rfl
theorem after_2_1 (s : St) (c : Int) : evalP (tabD 1) 105 Tryz.f105 [.agg (s.at 2).vs, .int .u8 c] = aftE (s.at 2) c 1 1 := by kernel_rfl
theorem after_2_2 (s : St) (c : Int) : evalP (tabD 2) 105 Tryz.f105 [.agg (s.at 2).vs, .int .u8 c] = aftE (s.at 2) c 2 2 := by kernel_rfl
theorem after_2_3 (s : St) (c : Int) : evalP (tabD 3) 105 Tryz.f105 [.agg (s.at 2).vs, .int .u8 c] = aftE (s.at 2) c 3 3 := by kernel_rfl
theorem after_2_4 (s : St) (c : Int) : evalP (tabD 4) 105 Tryz.f105 [.agg (s.at 2).vs, .int .u8 c] = aftE (s.at 2) c 4 4 := by kernel_rfl
theorem after_3_0 (s : St) (c : Int) : evalP (tabD 0) 105 Tryz.f105 [.agg (s.at 3).vs, .int .u8 c] = aftE (s.at 3) c 0 5 := by kernel_rfl
theorem after_3_1 (s : St) (c : Int) : evalP (tabD 1) 105 Tryz.f105 [.agg (s.at 3).vs, .int .u8 c] = aftE (s.at 3) c 1 6 := by kernel_rfl
theorem after_3_2 (s : St) (c : Int) : evalP (tabD 2) 105 Tryz.f105 [.agg (s.at 3).vs, .int .u8 c] = aftE (s.at 3) c 2 7 := by kernel_rfl
theorem after_3_3 (s : St) (c : Int) : evalP (tabD 3) 105 Tryz.f105 [.agg (s.at 3).vs, .int .u8 c] = aftE (s.at 3) c 3 8 := by kernel_rfl
theorem after_3_4 (s : St) (c : Int) : evalP (tabD 4) 105 Tryz.f105 [.agg (s.at 3).vs, .int .u8 c] = aftE (s.at 3) c 4 9 := by kernel_rfl
theorem aftE_is {s : St} {c d : Int} (h : isBid c = true → dnI c = d) (hc : c = 0 ∨ c = 1 ∨ c = 2 ∨ isBid c = true) : aftE s c d (kOf s.turn d) = some (.agg (aft s c).vs) := by
  unfold aftE aft
  rcases hc with rfl | rfl | rfl | hb
  · rfl
  · rfl
  · rfl
  · have hd := h hb
    subst hd
    rw [hb]
    simp only [isBid, Bool.and_eq_true, decide_eq_true_eq] at hb
    have e0 : decide (c = 0) = false := by simp; omega
    have e1 : decide (c = 1) = false := by simp; omega
    have e2 : decide (c = 2) = false := by simp; omega
    have e3 : decide (2 < c) = true := by simp; omega
    rw [e0, e1, e2, e3]
    simp only [cond_false, cond_true, Bool.or_self, decide_true, Bool.and_self]
    cases (s.fst (kOf s.turn (dnI c))).m <;> rfl
theorem at_self (s : St) : s.at s.turn = s := rfl
theorem dn_range {c : Int} (h : isBid c = true) : 0 ≤ dnI c ∧ dnI c < 5 := by
  simp only [isBid, Bool.and_eq_true, decide_eq_true_eq] at h
  unfold dnI
  rw [wr_u8_id (by omega), Int.tmod_eq_emod_of_nonneg (by omega)]
  omega
theorem after_p (s : St) (c : Int) (ht : 0 ≤ s.turn ∧ s.turn < 4) (hc : c = 0 ∨ c = 1 ∨ c = 2 ∨ isBid c = true) : FnPure Tryz.prog 105 [.agg s.vs, .int .u8 c] (.agg (aft s c).vs) := by
  obtain ⟨d, hd, h0⟩ : ∃ d, (isBid c = true → dnI c = d) ∧ (d = 0 ∨ d = 1 ∨ d = 2 ∨ d = 3 ∨ d = 4) := by
    cases hb : isBid c with
    | false => exact ⟨0, ⟨fun h => (by cases h), .inl rfl⟩⟩
    | true => have := dn_range hb; exact ⟨dnI c, ⟨fun _ => rfl, by omega⟩⟩
  refine pure_at (tabD_ok d) Tryz.func105 (by kernel_rfl) ?_ rfl rfl
  rw [← aftE_is hd hc]
  have key : ∀ t : Int, t = s.turn → evalP (tabD d) 105 Tryz.f105 [.agg (s.at t).vs, .int .u8 c] = aftE (s.at t) c d (kOf t d) := by
    intro t e
    have ht' : t = 0 ∨ t = 1 ∨ t = 2 ∨ t = 3 := by omega
    clear hd hc e ht
    rcases ht' with rfl | rfl | rfl | rfl <;> rcases h0 with rfl | rfl | rfl | rfl | rfl
    · exact after_0_0 s c
    · exact after_0_1 s c
    · exact after_0_2 s c
    · exact after_0_3 s c
    · exact after_0_4 s c
    · exact after_1_0 s c
    · exact after_1_1 s c
    · exact after_1_2 s c
    · exact after_1_3 s c
    · exact after_1_4 s c
    · exact after_2_0 s c
    · exact after_2_1 s c
    · exact after_2_2 s c
    · exact after_2_3 s c
    · exact after_2_4 s c
    · exact after_3_0 s c
    · exact after_3_1 s c
    · exact after_3_2 s c
    · exact after_3_3 s c
    · exact after_3_4 s c
  have := key s.turn rfl
  rw [at_self] at this
  exact this
end Go.Proofs.YtojlmpcbplepcaaGreat

/- Chapter 9: follow: its loop. -/
namespace Go.Proofs.YtojlmpcbplepcaaGreat
open Go Go.Eng
def okC (c : Int) : Bool := decide (0 ≤ c) && decide (c ≤ 37)
def gCheck (CH : St → Int → Int) : List V → Option (Bool × V)
  | [.agg l, .int .u8 c] => match ofVs l with
    | some s => some (true, .int .i64 (CH s c))
    | none => none
  | _ => none
def okT (s : St) : Bool := decide (0 ≤ s.turn) && decide (s.turn < 4)
def gAfter (OT : St → Bool) (AF : St → Int → St) : List V → Option (Bool × V)
  | [.agg l, .int .u8 c] => match ofVs l with
    | some s => some (OT s && okC c, .agg (AF s c).vs)
    | none => none
  | _ => none
def gOver' (OV : St → Bool) : List V → Option (Bool × V)
  | [.agg l] => match ofVs l with
    | some s => some (true, .bool (OV s))
    | none => none
  | _ => none
def tabF (CH : St → Int → Int) (OT : St → Bool) (AF : St → Int → St) (OV : St → Bool) : PTab := addTab 104 (gCheck CH) (addTab 105 (gAfter OT AF) (addTab 102 (gOver' OV) (addTab 57 gRight (addTab 66 gParts emptyTab))))
theorem tabF_ok : PTabOk Tryz.prog (tabF chk okT aft ovr) := by
  refine addTab_ok ?_ (addTab_ok ?_ (addTab_ok ?_ (addTab_ok ?_ (addTab_ok ?_ emptyTab_ok))))
  · intro args c v h _
    unfold gCheck at h
    split at h
    · split at h
      · rename_i s hs; cases h; rw [ofVs_ok hs]; exact check_p s _
      · cases h
    · cases h
  · intro args c v h hc
    unfold gAfter at h
    split at h
    · split at h
      · rename_i s hs
        cases h
        rw [ofVs_ok hs]
        simp only [okT, okC, Bool.and_eq_true, decide_eq_true_eq] at hc
        refine after_p s _ hc.1 ?_
        simp only [isBid, Bool.and_eq_true, decide_eq_true_eq]
        omega
      · cases h
    · cases h
  · intro args c v h _
    unfold gOver' at h
    split at h
    · split at h
      · rename_i s hs; cases h; rw [ofVs_ok hs]; exact over_p s
      · cases h
    · cases h
  · intro args c v h _
    unfold gRight at h
    split at h
    · cases h; exact right_p _
    · cases h
  · intro args c v h _
    unfold gParts at h
    split at h
    · cases h; exact parts_p _
    · cases h
def Bd.pv (b : Bd) (r : List PV) : List PV := .i b.c :: .i b.l :: .i b.d :: .i b.s :: .b b.m :: r
def St.pv (s : St) (r : List PV) : List PV := s.b.pv (.i s.turn :: .i s.risk :: .i s.passes :: s.f0.pv (s.f1.pv (s.f2.pv (s.f3.pv (s.f4.pv (s.f5.pv (s.f6.pv (s.f7.pv (s.f8.pv (s.f9.pv r))))))))))
def tvB (r : List TV) : List TV := .int .u8 :: .int .u8 :: .int .u8 :: .int .u8 :: .bool :: r
def tvS : List TV := tvB (.int .u8 :: .int .u8 :: .int .i64 :: tvB (tvB (tvB (tvB (tvB (tvB (tvB (tvB (tvB (tvB []))))))))))
noncomputable def foLp : Code := loopOf 5 Tryz.f101
def foT (nn : Bool) : Tm := ⟨mkS [(4, .ptr 1 0), (5, .int .i64), (6, .int .i64), (7, .ptr 2 0), (16, .gs 0), (17, .int .i64), (18, .int .i64)] 0 36, [.rs nn 1 (.ints .u8), .own 127 (.vs tvS), .own 127 (.vs tvS)], []⟩
def foX (nn : Bool) : Tm := ⟨mkS [(4, .ptr 1 0), (5, .int .i64), (6, .int .i64), (7, .ptr 2 0)] 0 36, [.rs nn 1 (.ints .u8), .own 127 (.vs tvS), .own 127 (.vs tvS)], []⟩
def atU {α : Type} (l : List Int) (i : Int) (K : Int → Option α) : Option α := bif decide (0 ≤ i ∧ i < Int.ofNat l.length) then (match l[i.toNat]? with | some v => K v | none => none) else none
noncomputable abbrev orcE (T : PTab) (LL : FuncId → Loops) : Oracle := inl Tryz.prog ftab T LL 100 never never (oracleOf emptyTab) 20
theorem orcE_ok {T : PTab} (hT : PTabOk Tryz.prog T) {LL : FuncId → Loops} (hL : ∀ f, loopsOk Tryz.prog (LL f)) : OracleOk Tryz.prog (orcE T LL) := inl_ok (oracleOf_ok emptyTab_ok) ftab_ok hT hL mixed 20
theorem fo_round (CH : St → Int → Int) (OT : St → Bool) (AF : St → Int → St) (OV : St → Bool) (nn : Bool) (rd : Option Nat) (a e n i : Int) (xs : List Int) (z s : St) : roundT Tryz.prog (orcE (tabF CH OT AF OV) plainL) noLoops 100 1 rd 101 foLp (foT nn) (foX nn) (.i a :: .i e :: .i n :: .i i :: .l xs :: z.pv (s.pv [])) =
    bif decide (i < n) then atU xs i (fun c => bif !decide (CH s c = 0) then some (.ret, .i i :: .i (CH s c) :: .l xs :: (st0 0).pv (s.pv []), []) else
      bif OT s && okC c then some (.normal, .i a :: .i e :: .i n :: .i (wr .i64 (i + 1)) :: .l xs :: z.pv ((AF s c).pv []), []) else none) else some (.exit 0, .i a :: .i e :: .l xs :: z.pv (s.pv []), []) := by cases nn <;> kernel_rfl
end Go.Proofs.YtojlmpcbplepcaaGreat
