/- Texts merged: LSets1, LSets2. -/
import Derived.Test.YtbocdcnkmcejjaaDoorPTot
import Derived.Test.YtbocdcnkmcejjaaDoorEng4
/- Chapter 4: the law CardSets: the loop that overwrites. -/
namespace Go.Proofs.YtbocdcnkmcejjaaDoor
open Go Go.Eng
noncomputable def stLp : Code := loopOf 4 Tryd.f24
def stT (nn : Bool) : Tm := ⟨mkS [(0, .int .u64), (1, .gs 1), (2, .str), (6, .bool), (7, .gs 2), (8, .gs 3), (41, .int .i64), (42, .int .i64)] 0 185, [.glob 0 u8R, .rs nn 1 u8R, .grow true 5 1 u8R, .grow false 5 1 u8R], []⟩
def stX (nn : Bool) : Tm := ⟨mkS [(0, .int .u64), (1, .gs 1), (2, .str), (6, .bool), (7, .gs 2)] 0 185, [.glob 0 u8R, .rs nn 1 u8R, .grow true 5 1 u8R], []⟩
theorem st_round (nn : Bool) (N : NS) (rd : Option Nat) (m n i : Int) (b : Bool) (t xs ys zs : List Int) (s : ByteArray) : roundT Tryd.prog (orcS7 N) noLoops 100 2 rd 24 stLp (stT nn) (stX nn) [.i m, .s s, .b b, .i n, .i i, .l t, .l xs, .l ys, .l zs] =
    bif decide (i < n) then bif decide (0 ≤ i ∧ i < Int.ofNat zs.length) then bif decide (i.toNat < zs.length) then some (.normal, [.i m, .s s, .b b, .i n, .i (wr .i64 (i + 1)), .l t, .l xs, .l ys, .l (zs.set i.toNat 99)], []) else none else none else
      some (.exit 0, [.i m, .s s, .b b, .l t, .l xs, .l ys], []) := by cases nn <;> kernel_rfl
/-- A table of contracts that hold. -/
theorem st_loop {N : NS} (hN : OracleOk Tryd.prog (orcS7 N)) (nn : Bool) (rd : Option Nat) (m : Int) (b : Bool) (t xs ys : List Int) (s : ByteArray) : ∀ x : Nat × List Int, (x.1 ≤ x.2.length ∧ x.2.length ≤ 1000000) →
    SimC Tryd.prog 2 rd (.loop stLp) ((stT nn).at [.i m, .s s, .b b, .i (x.2.length : Int), .i (x.1 : Int), .l t, .l xs, .l ys, .l x.2]) (.exit 0) ((stX nn).at [.i m, .s s, .b b, .l t, .l xs, .l ys]) := by
  refine loop_of_rounds (C := orcS7 N) (L := noLoops) (N := 100) (me := 24) (T := stT nn) (T' := stX nn) hN mixed noLoops_ok (by cases nn <;> kernel_rfl) (by cases nn <;> kernel_rfl) (X := Nat × List Int)
    (fun x => [.i m, .s s, .b b, .i (x.2.length : Int), .i (x.1 : Int), .l t, .l xs, .l ys, .l x.2]) (fun x => x.1 ≤ x.2.length ∧ x.2.length ≤ 1000000) (fun x => x.2.length - x.1) (fun _ => (.exit 0, [.i m, .s s, .b b, .l t, .l xs, .l ys])) ?_
  rintro ⟨i, zs⟩ ⟨hi, hl⟩
  dsimp only at hi hl ⊢
  have h := st_round nn N rd m (zs.length : Int) (i : Int) b t xs ys zs s
  rcases Nat.lt_or_ge i zs.length with hlt | hge
  · rw [decide_eq_true (show (i : Int) < (zs.length : Int) by omega), decide_eq_true (show 0 ≤ (i : Int) ∧ (i : Int) < Int.ofNat zs.length from ⟨by omega, by show (i : Int) < (zs.length : Int); omega⟩), show ((i : Int)).toNat = i from rfl, decide_eq_true hlt, wrI64 (by omega) (by omega)] at h
    refine ⟨_, _, _, h, codesE, .inl ⟨rfl, (i + 1, zs.set i 99), ?_, ?_, ?_, rfl⟩⟩
    · dsimp only
      rw [List.length_set]; rfl
    · dsimp only
      rw [List.length_set]; omega
    · dsimp only
      rw [List.length_set]; omega
  · rw [decide_eq_false (show ¬ (i : Int) < (zs.length : Int) by omega), cond_false] at h
    exact ⟨_, _, _, h, codesE, .inr ⟨by simp, rfl⟩⟩
noncomputable def stC (n i : Int) (zs : List Int) : Bool := pB (i = 0 ∧ n = Int.ofNat zs.length ∧ zs.length ≤ 1000000)
noncomputable def stTree (nn : Bool) : List PV → Fin
  | [.i m, .s s, .b b, .i n, .i i, .l t, .l xs, .l ys, .l zs] => .br (stC n i zs) (.leaf (.exit 0) ((stX nn).at [.i m, .s s, .b b, .l t, .l xs, .l ys])) .no
  | _ => .no
noncomputable def stL (nn : Bool) : Loops := sums (fun n => match n with | 4 => some (lsumF 2 (stT nn) stLp (stTree nn)) | _ => none)
theorem stL_ok {N : NS} (hN : OracleOk Tryd.prog (orcS7 N)) (nn : Bool) : loopsOk Tryd.prog (stL nn) := by
  intro n g hg
  simp only [stL, sums] at hg
  split at hg
  · cases hg
    refine lsumF_ok (by cases nn <;> kernel_rfl) (fun rd ps e1 st1 hq => ?_)
    unfold stTree at hq
    split at hq
    · rename_i m s b n i t xs ys zs
      simp only [Fin.pick] at hq
      cases hc : stC n i zs with
      | false => rw [hc] at hq; cases hq
      | true =>
        rw [hc, cond_true] at hq
        cases hq
        unfold stC at hc
        rw [pB_iff] at hc
        obtain ⟨rfl, rfl, h1⟩ := hc
        exact st_loop hN nn rd m b t xs ys s (0, zs) ⟨Nat.zero_le _, h1⟩
    · cases hq
  · cases hg
end Go.Proofs.YtbocdcnkmcejjaaDoor

/- Chapter 4: the law CardSets: 'sets' is true. -/
namespace Go.Proofs.YtbocdcnkmcejjaaDoor
open Go Go.Eng
noncomputable def stSuit (N : NS) (m k : Int) (K : Option V) : Option V := bif N.u m && N.u k then bif N.u m && N.u k then bif pB (bruijnL = bruijnL) && (N.u m && N.u k) then bif N.u m && N.u k then bif !decide (N.tV m k = N.tV m k) then some (.bool false) else
  bif !(bif N.tB m k then N.tB m k else !N.tB m k) then some (.bool false) else bif !decide (N.oV m k = N.oV m k) then some (.bool false) else bif !(bif N.tB m k then N.tB m k else !N.tB m k) then some (.bool false) else K else none else none else none else none
def stV (xs : List Int) : List Int := List.take ((Int.ofNat xs.length).toNat - 0) (List.drop 0 (xs ++ [77]))
noncomputable def stEnd (N : NS) (m : Int) (s : ByteArray) : Option V := bif N.u m then bif N.u m then bif N.pC s then bif N.pC s then bif !strEq (N.wV m) (N.wV m) then some (.bool false) else bif !decide (N.wE m = N.wE m) then some (.bool false) else
  bif !decide (N.pV s = N.pV s) then some (.bool false) else bif !decide (N.pE s = N.pE s) then some (.bool false) else stSuit N m 0 (stSuit N m 1 (stSuit N m 2 (stSuit N m 3 (stSuit N m 4 (some (.bool true)))))) else none else none else none else none
theorem sets_eval (nn : Bool) (N : NS) (m : Int) (xs : List Int) (s : ByteArray) : evalFn Tryd.prog (orcS7 N) (stL nn) 100 24 Tryd.f24 [.int .u64 m, .gs 1, .str s] (gH ++ [.rs nn 1 (.ints .u8 xs)]) (fun v _ => some v) =
    bif decide (xs.length * 2 ≤ 70368744177664) then bif decide ((xs ++ [77]).length * 2 ≤ 70368744177664) then bif N.u m then cond (codesB [(stLp, stLp)]) (bif stC (Int.ofNat (N.lV m).length) 0 (N.lV m) then bif N.u m then bif N.u m then
      bif decide ((0 : Int) ≤ 0 ∧ (0 : Int) ≤ Int.ofNat xs.length ∧ Int.ofNat xs.length ≤ Int.ofNat (xs ++ [77]).length) then bif decide (0 + ((Int.ofNat xs.length).toNat - 0) ≤ (xs ++ [77]).length) then bif N.mC (stV xs) then bif N.mC xs then
      bif !strEq (bytesOf (N.lV m)) (bytesOf (N.lV m)) then some (.bool false) else bif !decide (N.lE m = N.lE m) then some (.bool false) else bif !decide (N.mV (stV xs) = N.mV xs) then some (.bool false) else bif !decide (N.mE (stV xs) = N.mE xs) then some (.bool false) else
      bif decide (xs.length * 2 ≤ 70368744177664) then bif decide ((xs ++ [77]).length * 2 ≤ 70368744177664) then bif !strEq (bytesOf (xs ++ [77])) (bytesOf (xs ++ [77])) then some (.bool false) else stEnd N m s
      else none else none else none else none else none else none else none else none else none) none else none else none else none := by cases nn <;> kernel_rfl
end Go.Proofs.YtbocdcnkmcejjaaDoor
