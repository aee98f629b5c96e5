/- Texts merged: Fs3, RnT, RnR. -/
import Derived.Test.YtnbfnoomhlamnaaGreatFi5
import Derived.Test.YtnbfnoomhlamnaaGreatRf3
/- Chapter 3: the law SeedShuffles is true. -/
namespace Go.Proofs.YtnbfnoomhlamnaaGreat
open Go Go.Eng
def addM (S : SN) (xs : List Int) : Nat → List Int
  | 0 => xs
  | n + 1 => addM S xs n ++ [S.MK 1 (n : Int)]
theorem addM_len (S : SN) (xs : List Int) : ∀ n : Nat, (addM S xs n).length = xs.length + n
  | 0 => rfl
  | n + 1 => by rw [addM, List.length_append, addM_len S xs n]; simp; omega
theorem addM_is (S : SN) (xs : List Int) : ∀ n : Nat, addM S xs n = xs ++ (List.range n).map fun (i : Nat) => S.MK 1 (i : Int)
  | 0 => by simp [addM]
  | n + 1 => by rw [addM, addM_is S xs n, List.range_succ]; simp
theorem shuffles_eval (S : SN) (s : Int) (xs : List Int) : evalFn Tryz.prog (orcS S) noLoops 100 9 Tryz.f9 [.int .i64 s, .gs 0] [.rs false 1 (.ints .i64 xs)] (fun v _ => some v) =
    bif decide (300 < Int.ofNat xs.length) then some (.bool true) else
    bif decide (0 ≤ (0 : Int) ∧ 0 ≤ wr .i64 (Int.ofNat xs.length + 12) ∧ wr .i64 (Int.ofNat xs.length + 12) * 9 ≤ 140737488355328) then
    bif decide ((addM S xs 0).length * 9 ≤ 70368744177664) then
    bif decide ((addM S xs 1).length * 9 ≤ 70368744177664) then
    bif decide ((addM S xs 2).length * 9 ≤ 70368744177664) then
    bif decide ((addM S xs 3).length * 9 ≤ 70368744177664) then
    bif decide ((addM S xs 4).length * 9 ≤ 70368744177664) then
    bif decide ((addM S xs 5).length * 9 ≤ 70368744177664) then
    bif decide ((addM S xs 6).length * 9 ≤ 70368744177664) then
    bif decide ((addM S xs 7).length * 9 ≤ 70368744177664) then
    bif decide ((addM S xs 8).length * 9 ≤ 70368744177664) then
    bif decide ((addM S xs 9).length * 9 ≤ 70368744177664) then
    bif decide ((addM S xs 10).length * 9 ≤ 70368744177664) then
    bif decide ((addM S xs 11).length * 9 ≤ 70368744177664) then
    bif decide ((addM S xs 12).length * 9 ≤ 70368744177664) then
    bif decide (0 ≤ (0 : Int) ∧ 0 ≤ Int.ofNat xs.length ∧ Int.ofNat xs.length ≤ Int.ofNat (addM S xs 12).length) then
    bif decide (0 + ((Int.ofNat xs.length).toNat - 0) ≤ (addM S xs 12).length) then
    bif !decide (S.SS s (List.take ((Int.ofNat xs.length).toNat - 0) (addM S xs 12)) = S.SS s xs) then some (.bool false) else bif !decide (S.SE s (List.take ((Int.ofNat xs.length).toNat - 0) (addM S xs 12)) = S.SE s xs) then some (.bool false) else
    bif decide ((S.SV s (List.take ((Int.ofNat xs.length).toNat - 0) (addM S xs 12))).length ≤ 1000000) then bif !S.EQ (S.SV s (List.take ((Int.ofNat xs.length).toNat - 0) (addM S xs 12))) (S.SV s xs) then some (.bool false) else
    bif S.KP (addM S xs 12) xs && decide ((Int.ofNat xs.length).toNat - 0 = xs.length) then
    bif decide ((Int.ofNat xs.length).toNat - 0 ≤ (addM S xs 12).length) && S.FC (S.SV s (List.take ((Int.ofNat xs.length).toNat - 0) (addM S xs 12))) (List.take ((Int.ofNat xs.length).toNat - 0) (addM S xs 12)) then some (.bool true) else none else none else none else none else none else none else none else none else none else none else none else none else none else none else none else none else none else none else none := by kernel_rfl
theorem shufR_len : ∀ (n : Nat) (s : Int) (ys : List Int), (shufR n s ys).2.length = ys.length
  | 0, _, _ => rfl
  | n + 1, s, ys => by rw [shufR, shufR_len n]; simp [swapL]
theorem SV_len (s : Int) (xs : List Int) : (SV s xs).length ≤ xs.length := by
  unfold SV
  cases SB s xs with
  | true => rw [cond_true, shufR_len]; exact Nat.le_refl _
  | false => simp
theorem shuffles_true (s : Int) (xs : List Int) : evalFn Tryz.prog (orcS sN) noLoops 100 9 Tryz.f9 [.int .i64 s, .gs 0] [.rs false 1 (.ints .i64 xs)] (fun v _ => some v) = some (.bool true) := by
  rw [shuffles_eval]
  rcases Nat.lt_or_ge 300 xs.length with h | h
  · rw [decide_eq_true (show (300 : Int) < Int.ofNat xs.length by show (300 : Int) < (xs.length : Int); omega)]; rfl
  · have hw : wr .i64 (Int.ofNat xs.length + 12) = (xs.length : Int) + 12 := wrK (by show _ ≤ (xs.length : Int) + 12; omega) (by show (xs.length : Int) + 12 < _; omega)
    have ht : List.take ((Int.ofNat xs.length).toNat - 0) (addM sN xs 12) = xs := by
      rw [addM_is, show (Int.ofNat xs.length).toNat - 0 = xs.length from rfl, List.take_append_of_le_length (Nat.le_refl _), List.take_length]
    have hsv := SV_len s xs
    have hl : ∀ k : Nat, k ≤ 12 → decide ((addM sN xs k).length * 9 ≤ 70368744177664) = true := fun k hk => decide_eq_true (by rw [addM_len]; omega)
    rw [ht, hw, decide_eq_false (show ¬ (300 : Int) < Int.ofNat xs.length by show ¬ (300 : Int) < (xs.length : Int); omega), decide_eq_true (show 0 ≤ (0 : Int) ∧ 0 ≤ (xs.length : Int) + 12 ∧ ((xs.length : Int) + 12) * 9 ≤ 140737488355328 by omega),
      hl 0 (by omega), hl 1 (by omega), hl 2 (by omega), hl 3 (by omega), hl 4 (by omega), hl 5 (by omega), hl 6 (by omega), hl 7 (by omega), hl 8 (by omega), hl 9 (by omega), hl 10 (by omega), hl 11 (by omega), hl 12 (by omega),
      decide_eq_true (show 0 ≤ (0 : Int) ∧ 0 ≤ Int.ofNat xs.length ∧ Int.ofNat xs.length ≤ Int.ofNat (addM sN xs 12).length by rw [addM_len]; refine ⟨by omega, ?_, ?_⟩; show 0 ≤ (xs.length : Int); omega; show (xs.length : Int) ≤ ((xs.length + 12 : Nat) : Int); omega),
      decide_eq_true (show 0 + ((Int.ofNat xs.length).toNat - 0) ≤ (addM sN xs 12).length by rw [addM_len]; show 0 + (xs.length - 0) ≤ _; omega)]
    have e1 : sN.EQ (sN.SV s xs) (sN.SV s xs) = true := eqI_iff.2 rfl
    have e2 : sN.KP (addM sN xs 12) xs = true := by
      show kpC (addM sN xs 12) xs = true
      unfold kpC
      rw [decide_eq_true (show addM sN xs 12 = xs ++ marks mkV from addM_is sN xs 12), decide_eq_true (show xs.length ≤ 1000000 by omega)]; rfl
    have e3 : sN.FC (sN.SV s xs) xs = true := by
      show fiC (SV s xs) xs = true
      unfold fiC
      rw [decide_eq_true (show (SV s xs).length ≤ 900000 by omega), decide_eq_true (show xs.length ≤ 900000 by omega)]; rfl
    rw [e1, e2, e3, decide_eq_true (rfl : sN.SS s xs = sN.SS s xs), decide_eq_true (rfl : sN.SE s xs = sN.SE s xs), decide_eq_true (show (sN.SV s xs).length ≤ 1000000 by show (SV s xs).length ≤ _; omega),
      decide_eq_true (show (Int.ofNat xs.length).toNat - 0 = xs.length from rfl), decide_eq_true (show (Int.ofNat xs.length).toNat - 0 ≤ (addM sN xs 12).length by rw [addM_len]; show xs.length - 0 ≤ _; omega)]
    rfl
theorem shuffles_fn (nn : Bool) (s : Int) (xs : List Int) : FnOK Tryz.prog 9 [.int .i64 s, .gs 0] [.rs nn 1 (.ints .i64 xs)] (.bool true) ([.rs nn 1 (.ints .i64 xs)] ++ []) := by
  obtain ⟨v1, h1, hk, hok⟩ := evalFn_ok orcS_ok mixed Tryz.func9 noLoops_ok (shuffles_true s xs)
  cases hk
  exact FnOK.hard rfl (by
    rw [List.append_nil]
    exact hok.plain rfl fun b blk hb => by
      cases b with
      | zero => simp only [List.getElem?_cons_zero, Option.some.injEq] at hb; subst hb; rfl
      | succ b => simp at hb)
def gS10 : List V → List Blk → Option (Bool × V × List Blk)
  | [.int .i64 _, .gs 0], [.rs _ 1 (.ints .i64 _)] => some (true, .bool true, [])
  | _, _ => none
theorem gS10_ok : HTabOk Tryz.prog (addH 9 gS10 emptyH) := by
  refine addH_ok ?_ emptyH_ok
  intro args h c v nb hq hc
  unfold gS10 at hq
  split at hq
  · cases hq; exact ⟨.of Tryz.func9 (by kernel_rfl), shuffles_fn _ _ _⟩
  · cases hq
def domL : FuncId → Bool := fun f => Nat.beq f 9
noncomputable abbrev orcL : Oracle := inl Tryz.prog ftab tab1 plainL 100 never domL (hOrcN glS nrS (addH 9 gS10 emptyH)) 20
theorem orcL_ok : OracleOk Tryz.prog orcL := inl_ok (hOrcN_ok gS10_ok) ftab_ok tab1_ok plainL_ok mixed 20
end Go.Proofs.YtnbfnoomhlamnaaGreat

/- Chapter 3: the reference's BelowNat: contracts as names. -/
namespace Go.Proofs.YtnbfnoomhlamnaaGreat
open Go Go.Eng
structure RN where
  B : NB
  ofz : Int → Int
  ofe : Int → Int
  fit : Int → Bool
  ns : Int → Int
  nv : Int → Int
  ne : Int → Int
  /-- The loop's state and answer: k, state, number, limit. -/
  ls : Nat → Int → Int → Int → Int
  lv : Nat → Int → Int → Int → Int
/-- The state and what is drawn after at most so many draws. -/
def natQ (k : Nat) (z m : Int) : Nat → Int → Int → Int × Int
  | 0, s, r => (s, r)
  | u + 1, s, _ => bif decide (N2.divZ (drawN k s 0 1).2 z < m) then ((drawN k s 0 1).1, N2.remZ (drawN k s 0 1).2 z) else natQ k z m u (drawN k s 0 1).1 (N2.remZ (drawN k s 0 1).2 z)
def rN : RN := ⟨nB, N2.ofZ, N2.ofE, fitI, nextS, nextV, fun s => errI (rightB s), fun k s z m => (natQ k z m 101 s 0).1, fun k s z m => (natQ k z m 101 s 0).2⟩
def gNextR (Q : RN) : List V → Option (Bool × V)
  | [.int .i64 s] => some (true, .tuple [.int .i64 (Q.ns s), .int .i64 (Q.nv s), .int .i64 (Q.ne s)])
  | _ => none
def gOfR (Q : RN) : List V → Option (Bool × V)
  | [.int .i64 n] => some (Q.fit n, .tuple [Q.B.nW (Q.ofz n), .int .i64 (Q.ofe n)])
  | _ => none
def tabRn (Q : RN) : PTab := addTab 18 (gNextR Q) (addTab 26 gRight (addTab 47 (gTwoB Q.B fun x y => .int .i64 (Q.B.cmp x y)) (addTab 48 (gOfR Q)
  (addTab 50 (gTwoB Q.B fun x y => .tuple [Q.B.nW (Q.B.quo x y), Q.B.nW (Q.B.rem x y), .int .i64 (Q.B.divE y)]) (addTab 51 (gTwoB Q.B fun x y => .tuple [Q.B.nW (Q.B.add x y), .int .i64 (Q.B.addE x y)]) emptyTab)))))
def hTabRn (N : NB) : HTab := addH 49 (gMulB N) emptyH
def dom59 : FuncId → Bool := fun f => Nat.beq f 49
noncomputable abbrev orcRn (Q : RN) : Oracle := inl Tryz.prog ftab (tabRn Q) plainL 200 never dom59 (hOrc (hTabRn Q.B)) 20
theorem pt_add (x y : Int) : N2.ptZ (x + y) = N2.addZ x y ∧ N2.ptE (x + y) = N2.addE x y := ⟨rfl, rfl⟩
theorem tabRn_ok : PTabOk Tryz.prog (tabRn rN) := by
  refine addTab_ok ?_ (addTab_ok gR42_ok (addTab_ok (gTwoB_ok ?_) (addTab_ok ?_ (addTab_ok (gTwoB_ok ?_) (addTab_ok (gTwoB_ok ?_) emptyTab_ok)))))
  · intro args c v h _
    unfold gNextR at h
    split at h
    · cases h; exact rnext_pure _
    · cases h
  · exact fun _ _ _ _ _ _ _ _ hx hy => N2.rcmp_p hx hy
  · intro args c v h hc
    unfold gOfR at h
    split at h
    · cases h
      have hc' : fitI _ = true := hc
      simp only [fitI, Bool.and_eq_true, decide_eq_true_eq] at hc'
      exact N2.rof_p hc'
    · cases h
  · exact fun _ _ _ _ _ _ _ _ hx hy => N2.rdiv_p hx hy
  · exact fun _ _ _ _ _ _ _ _ hx hy => N2.radd_p hx hy
theorem hTabRn_ok : HTabOk Tryz.prog (hTabRn nB) := by
  refine addH_ok ?_ emptyH_ok
  intro args h c v nb hq hc
  unfold gMulB at hq
  split at hq
  · cases hq
    simp only [Bool.and_eq_true] at hc
    exact ⟨.of Tryz.func49 (by kernel_rfl), N2.rmul_fn hc.1 hc.2⟩
  · cases hq
theorem orcRn_ok : OracleOk Tryz.prog (orcRn rN) := inl_ok (hOrc_ok hTabRn_ok) ftab_ok tabRn_ok plainL_ok mixed 20
noncomputable def rnLp : Code := loopOf 11 Tryz.f24
/-- The state in round: k values a draw; the blocks: the number, the answer, the base, all, the slices of the products, the limit, a remainder, what is drawn. -/
def rnT (k : Nat) : Tm := ⟨mkS [(0, .int .i64), (3, .ptr 0 0), (5, .ptr 1 0), (7, .ptr 2 0), (9, .lit .i64 k), (11, .ptr (3 + k) 0), (14, .ptr (5 + k) 0), (15, .int .i64)] 0 126,
  [.own 24 i4, .own 24 z4, .own 24 i4, .dead] ++ deads (k - 1) ++ [.own 24 i4, .dead, .own 24 i4], []⟩
def rnX (k : Nat) : Tm := ⟨mkS [(0, .int .i64), (5, .ptr 1 0), (14, .ptr (5 + k) 0)] 0 126,
  [.own 24 i4, .own 24 z4, .own 24 i4, .dead] ++ deads (k - 1) ++ [.own 24 i4, .dead, .own 24 i4], []⟩
end Go.Proofs.YtnbfnoomhlamnaaGreat

/- Chapter 3: the reference's BelowNat: one round of the loop in which it draws. -/
namespace Go.Proofs.YtnbfnoomhlamnaaGreat
open Go Go.Eng
/-- So many values: the state after them, and they from the last one on. -/
def rnV (Q : RN) : Nat → Int → List Int → Int × List Int
  | 0, s, l => (s, l)
  | k + 1, s, l => rnV Q k (Q.ns s) (Q.nv s :: l)
def rnSum {R : Type} (Q : RN) (b0 b1 b2 b3 : Int) : List Int → Int → Int → Int → Int → (Int → Int → Int → Int → Option R) → Option R
  | [], a0, a1, a2, a3, K => K a0 a1 a2 a3
  | v :: l, a0, a1, a2, a3, K => bif Q.fit v then bif Q.B.inn a0 a1 a2 a3 && Q.B.inn b0 b1 b2 b3 then
      Q.B.ws (Q.B.mul (Q.B.z a0 a1 a2 a3) (Q.B.z b0 b1 b2 b3)) fun p0 p1 p2 p3 => Q.B.ws (Q.ofz v) fun x0 x1 x2 x3 => bif Q.B.inn p0 p1 p2 p3 && Q.B.inn x0 x1 x2 x3 then
        Q.B.ws (Q.B.add (Q.B.z p0 p1 p2 p3) (Q.B.z x0 x1 x2 x3)) fun y0 y1 y2 y3 => rnSum Q b0 b1 b2 b3 l y0 y1 y2 y3 K else none else none else none
def rnE (Q : RN) (k : Nat) (s i n0 n1 n2 n3 b0 b1 b2 b3 m0 m1 m2 m3 r0 r1 r2 r3 : Int) : RTb :=
  bif decide (i < 101) then rnSum Q b0 b1 b2 b3 (rnV Q k s []).2 0 0 0 0 fun a0 a1 a2 a3 => bif Q.B.inn a0 a1 a2 a3 && Q.B.inn n0 n1 n2 n3 then
      Q.B.ws (Q.B.quo (Q.B.z a0 a1 a2 a3) (Q.B.z n0 n1 n2 n3)) fun q0 q1 q2 q3 => bif Q.B.inn q0 q1 q2 q3 && Q.B.inn m0 m1 m2 m3 then Q.B.ws (Q.B.rem (Q.B.z a0 a1 a2 a3) (Q.B.z n0 n1 n2 n3)) fun t0 t1 t2 t3 =>
        bif decide (Q.B.cmp (Q.B.z q0 q1 q2 q3) (Q.B.z m0 m1 m2 m3) < 0) then some (.exit 2, [.i (rnV Q k s []).1, .i n0, .i n1, .i n2, .i n3, .i b0, .i b1, .i b2, .i b3, .i m0, .i m1, .i m2, .i m3, .i t0, .i t1, .i t2, .i t3], [])
        else some (.normal, [.i (rnV Q k s []).1, .i (wr .i64 (i + 1)), .i n0, .i n1, .i n2, .i n3, .i b0, .i b1, .i b2, .i b3, .i m0, .i m1, .i m2, .i m3, .i t0, .i t1, .i t2, .i t3], []) else none else none
  else some (.exit 2, [.i s, .i n0, .i n1, .i n2, .i n3, .i b0, .i b1, .i b2, .i b3, .i m0, .i m1, .i m2, .i m3, .i r0, .i r1, .i r2, .i r3], [])
theorem rn_round (Q : RN) (rd : Option Nat) (s i n0 n1 n2 n3 b0 b1 b2 b3 m0 m1 m2 m3 r0 r1 r2 r3 : Int) : ∀ k : Nat, 1 ≤ k ∧ k ≤ 4 →
    roundT Tryz.prog (orcRn Q) noLoops 100 0 rd 24 rnLp (rnT k) (rnX k) [.i s, .i i, .i n0, .i n1, .i n2, .i n3, .i b0, .i b1, .i b2, .i b3, .i m0, .i m1, .i m2, .i m3, .i r0, .i r1, .i r2, .i r3] =
      rnE Q k s i n0 n1 n2 n3 b0 b1 b2 b3 m0 m1 m2 m3 r0 r1 r2 r3
  | 0, h => by omega
  | 1, _ => by kernel_rfl
  | 2, _ => by kernel_rfl
  | 3, _ => by kernel_rfl
  | 4, _ => by kernel_rfl
  | _ + 5, h => by omega
end Go.Proofs.YtnbfnoomhlamnaaGreat
