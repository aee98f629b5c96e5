/- Chapter 10: Do. -/
import Derived.Test.YtojlmpcbplepcaaCd
namespace Go.Proofs.Ytojlmpcbplepcaa
open Go Go.Eng
def q0 : Q4 := ⟨0, 0, 0, 0⟩
def c0 : CD := ⟨0, q0, q0, 0, q0⟩
def ansP (s : CD) (e : Int) (xs ac ys bc : List Int) : List PV := s.pv [.i e, .l xs, .l ac, .l ys, .l bc]
abbrev AN := Option (List PV × List (Code × Code))
def mate (k : Nat) : Nat := (k + 2) % 4
def CD.setP (s : CD) (v : Int) (k : Nat) : CD := { s with p := s.p.set v k }
def CD.setA (s : CD) (v : Int) (k : Nat) : CD := { s with a := s.a.set v k }
def CD.setF (s : CD) (v : Int) (k : Nat) : CD := { s with f := s.f.set v k }
def CD.setH (s : CD) (v : Int) : CD := { s with h := v }
/-- A seat must always pass, and the suits of a call can be forbidden to another one. -/
def silI (SU : Int → Int) (s : CD) (k j : Nat) (x : Int) : CD := (s.setP (-1) k).setF (bitsI .or .u8 (s.f.at j) (SU x)) j
noncomputable def doB (N : NC) (k : Nat) (xs ac : List Int) (x h : Int) (s : CD) : AN := bif decide (0 < h) then (bif N.J.OK xs then bif !N.MN h xs x then some (ansP ((silI N.SU (s.setA 0 k) (mate k) (mate k) (wr .u8 (h - 1))).setH 0) 0 xs ac (xs ++ [x]) ac, []) else some (ansP ((s.setA 0 k).setH 0) 0 xs ac (xs ++ [x]) ac, []) else none) else some (ansP ((s.setA 0 k).setH 0) 0 xs ac (xs ++ [x]) ac, [])
noncomputable def doA (N : NC) (k : Nat) (xs ac : List Int) (x a h : Int) (s : CD) : AN := bif decide (0 < a) then (bif N.J.OK xs then bif !N.J.PS xs then (bif decide (s.p.at (mate k) = 0) then doB N k xs ac x h (s.setP 1 (mate k)) else doB N k xs ac x h s) else doB N k xs ac x h s else none) else doB N k xs ac x h s
noncomputable def doE (N : NC) (k : Nat) (xs ac : List Int) (s : CD) (x : Int) : AN :=
  bif N.J.OK xs then bif !decide (N.OP s xs ac = 0) then some (ansP c0 (N.OP s xs ac) xs ac [] [], []) else bif N.J.OK xs && (N.DK s && N.J.BY x) then bif !N.LG s xs x then some (ansP c0 103 xs ac [] [], []) else
    bif decide (400 ≤ Int.ofNat xs.length) then some (ansP c0 5 xs ac [] [], []) else bif N.J.OK xs && decide (N.TR s xs = (k : Int)) then bif N.CK xs then bif N.CK ac then bif decide ((xs ++ [x]).length * 2 ≤ 70368744177664) then
      bif decide (0 < s.p.at k) then doA N k xs ac x (s.a.at k) s.h (s.setP (wr .i64 (s.p.at k - 1)) k) else doA N k xs ac x (s.a.at k) s.h s else none else none else none else none else none else none
theorem do_eval (N : NC) (xs ac : List Int) (s : CD) (x : Int) : ∀ k : Nat, k < 4 → evalFn Try.prog (orcE10 N (dTurnL N k) (dKind N) (tabS N) plainL) noLoops 100 15 Try.f15 [.agg (s.vs (.gs 0) (.gs 1)), .int .u8 x] (crsH false false xs ac) (ansT (crsA false false [.int .i64]) 2) = doE N k xs ac s x
  | 0, _ => by kernel_rfl
  | 1, _ => by kernel_rfl
  | 2, _ => by kernel_rfl
  | 3, _ => by kernel_rfl
  | n + 4, h => absurd h (by omega)
/-! ### plainly -/
/-- The course after a call of the seat k. -/
def doS (k : Nat) (xs : List Int) (s : CD) (x : Int) : CD :=
  let s1 := bif decide (0 < s.p.at k) then s.setP (wr .i64 (s.p.at k - 1)) k else s
  let s2 := bif decide (0 < s.a.at k) && (!psI xs && decide (s1.p.at (mate k) = 0)) then s1.setP 1 (mate k) else s1
  let s3 := s2.setA 0 k
  (bif decide (0 < s.h) && !mnI s.h xs x then silI suI s3 (mate k) (mate k) (wr .u8 (s.h - 1)) else s3).setH 0
def doX (s : CD) (xs ac : List Int) (x : Int) : Int := bif !decide (opI s xs ac = 0) then opI s xs ac else bif !lgI s xs x then 103 else bif decide (400 ≤ xs.length) then 5 else 0
def doC (s : CD) (xs ac : List Int) (x : Int) : CD := bif decide (doX s xs ac x = 0) then doS (tN s xs) xs s x else c0
def doL (s : CD) (xs ac : List Int) (x : Int) : List Int := bif decide (doX s xs ac x = 0) then xs ++ [x] else []
def doK (s : CD) (xs ac : List Int) (x : Int) : List Int := bif decide (doX s xs ac x = 0) then ac else []
theorem doE_is {k : Nat} {s : CD} {xs ac : List Int} {x : Int} (h : okL xs = true) (hc : lenOk ac = true) (hd : dkB s = true) (hx : byB x = true) (hk : tN s xs = k) :
    doE nC k xs ac s x = some (ansP (doC s xs ac x) (doX s xs ac x) xs ac (doL s xs ac x) (doK s xs ac x), []) := by
  have hl := (okL_iff.1 h).1
  obtain ⟨ht, _⟩ := tN_lt s xs h (of_decide_eq_true hd)
  rw [hk] at ht
  have z1 : Int.ofNat xs.length = (xs.length : Int) := rfl
  have zd : decide (400 ≤ Int.ofNat xs.length) = decide (400 ≤ xs.length) := by
    rw [z1]
    by_cases hq : 400 ≤ xs.length
    · rw [decide_eq_true hq, decide_eq_true (by omega)]
    · rw [decide_eq_false hq, decide_eq_false (by omega)]
  unfold doE doC doL doK doX
  rw [show nC.J.OK xs = true from h, show nC.DK s = true from hd, show nC.J.BY x = true from hx, show nC.CK xs = true from decide_eq_true (by omega), show nC.CK ac = true from hc, zd, decide_eq_true (show (xs ++ [x]).length * 2 ≤ 70368744177664 by simp; omega),
    show nC.TR s xs = trnI s xs from rfl, ht, decide_eq_true rfl]
  show (bif !decide (opI s xs ac = 0) then some (ansP c0 (opI s xs ac) xs ac [] [], []) else bif !lgI s xs x then some (ansP c0 103 xs ac [] [], []) else bif decide (400 ≤ xs.length) then some (ansP c0 5 xs ac [] [], []) else
    bif decide (0 < s.p.at k) then doA nC k xs ac x (s.a.at k) s.h (s.setP (wr .i64 (s.p.at k - 1)) k) else doA nC k xs ac x (s.a.at k) s.h s) = _
  by_cases ho : opI s xs ac = 0
  · rw [decide_eq_true ho]
    cases hg : lgI s xs x with
    | false => rfl
    | true =>
      cases hq : decide (400 ≤ xs.length) with
      | true => rfl
      | false =>
        show (bif decide (0 < s.p.at k) then doA nC k xs ac x (s.a.at k) s.h (s.setP (wr .i64 (s.p.at k - 1)) k) else doA nC k xs ac x (s.a.at k) s.h s) = some (ansP (doS (tN s xs) xs s x) 0 xs ac (xs ++ [x]) ac, [])
        rw [hk]
        have hB : ∀ s2 : CD, doB nC k xs ac x s.h s2 = some (ansP ((bif decide (0 < s.h) && !mnI s.h xs x then silI suI (s2.setA 0 k) (mate k) (mate k) (wr .u8 (s.h - 1)) else s2.setA 0 k).setH 0) 0 xs ac (xs ++ [x]) ac, []) := fun s2 => by
          unfold doB
          rw [show nC.J.OK xs = true from h, show nC.MN s.h xs x = mnI s.h xs x from rfl, show nC.SU = suI from rfl]
          cases decide (0 < s.h) <;> cases mnI s.h xs x <;> rfl
        have hA : ∀ s1 : CD, doA nC k xs ac x (s.a.at k) s.h s1 = some (ansP ((bif decide (0 < s.h) && !mnI s.h xs x then silI suI ((bif decide (0 < s.a.at k) && (!psI xs && decide (s1.p.at (mate k) = 0)) then s1.setP 1 (mate k) else s1).setA 0 k) (mate k) (mate k) (wr .u8 (s.h - 1)) else (bif decide (0 < s.a.at k) && (!psI xs && decide (s1.p.at (mate k) = 0)) then s1.setP 1 (mate k) else s1).setA 0 k).setH 0) 0 xs ac (xs ++ [x]) ac, []) := fun s1 => by
          unfold doA
          rw [show nC.J.OK xs = true from h, show nC.J.PS xs = psI xs from rfl, hB, hB]
          cases decide (0 < s.a.at k) <;> cases psI xs <;> cases decide (s1.p.at (mate k) = 0) <;> rfl
        rw [hA, hA]
        unfold doS
        cases decide (0 < s.p.at k) <;> rfl
  · rw [decide_eq_false ho]
    show some (ansP c0 (opI s xs ac) xs ac [] [], []) = some (ansP (bif decide (opI s xs ac = 0) then _ else c0) (opI s xs ac) xs ac (bif decide (opI s xs ac = 0) then _ else []) (bif decide (opI s xs ac = 0) then _ else []), [])
    rw [decide_eq_false ho]; rfl
def crsNb (ys bc : List Int) : List Blk := [.grow false 5 1 (.ints .u8 ys), .grow false 3 1 (.ints .i64 bc)]
theorem codesNil : codesOk [] := fun _ h => by cases h
theorem do15_fn (n1 n2 : Bool) {s : CD} {xs ac : List Int} {x : Int} (h : okL xs = true) (hc : lenOk ac = true) (hd : dkB s = true) (hx : byB x = true) :
    FnOK Try.prog 15 [.agg (s.vs (.gs 0) (.gs 1)), .int .u8 x] (crsH n1 n2 xs ac) (.tuple [.agg ((doC s xs ac x).vs (.gs 2) (.gs 3)), .int .i64 (doX s xs ac x)]) (crsH n1 n2 xs ac ++ crsNb (doL s xs ac x) (doK s xs ac x)) := by
  obtain ⟨_, hk⟩ := tN_lt s xs h (of_decide_eq_true hd)
  have key := do_eval nC xs ac s x (tN s xs) hk
  rw [doE_is h hc hd hx rfl] at key
  exact fn_crs (fn_ans (T := crsA false false [.int .i64]) (orcE10_ok (dTurnL_ok _) dKind_ok tabS_ok plainL_ok) mixed Try.func15 noLoops_ok (by kernel_rfl) key codesNil rfl)
end Go.Proofs.Ytojlmpcbplepcaa
