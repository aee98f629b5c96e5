/- Texts merged: Rf, Ac, Ac2, Ac3, Ac4. -/
import Derived.Test.YtojlmpcbplepcaaCd
/- Chapter 10: Refuse. -/
namespace Go.Proofs.Ytojlmpcbplepcaa
open Go Go.Eng
def rfCd (N : NC) (xs ac : List Int) (s : CD) (y x k e : Int) : Bool := N.J.OK xs && (N.DK s && N.J.BY x) && decide (N.KV s xs ac y x = k ∧ N.KE s xs ac y x = e)
noncomputable def rfW (N : NC) (xs ac : List Int) (X : AN) : AN := bif N.CK xs then bif N.CK ac then X else none else none
noncomputable abbrev rfV (N : NC) (t : Nat) (k e : Int) (f : FuncId) (fn : Func) (xs ac : List Int) (s : CD) (y x : Int) : AN := evalFn Try.prog (orcE10 N (dTurnL N t) (dKindL N k e) (tabS N) plainL) noLoops 100 f fn [.agg (s.vs (.gs 0) (.gs 1)), .int .u8 y, .int .u8 x] (crsH false false xs ac) (ansT (crsA false false [.int .i64]) 2)
noncomputable def badA (e : Int) (xs ac : List Int) : AN := some (ansP c0 e xs ac [] [], [])
noncomputable def sameA (s : CD) (xs ac : List Int) : AN := some (ansP s 0 xs ac xs ac, [])
noncomputable def raiA (s : CD) (k : Nat) (xs ac : List Int) : AN := bif decide (s.p.at k = 0) then sameA (s.setP 1 k) xs ac else sameA s xs ac
section
variable (N : NC) (xs ac : List Int) (s : CD) (x : Int)
theorem rf_e100 (y : Int) : rfV N 0 0 100 13 Try.f13 xs ac s y x = bif rfCd N xs ac s y x 0 100 then badA 100 xs ac else none := by kernel_rfl
theorem rf_e2 (y : Int) : rfV N 0 0 2 13 Try.f13 xs ac s y x = bif rfCd N xs ac s y x 0 2 then badA 2 xs ac else none := by kernel_rfl
theorem rf_e80 (y : Int) : rfV N 0 0 80 13 Try.f13 xs ac s y x = bif rfCd N xs ac s y x 0 80 then badA 80 xs ac else none := by kernel_rfl
theorem rf_k0 (y : Int) : rfV N 0 0 0 13 Try.f13 xs ac s y x = bif rfCd N xs ac s y x 0 0 then badA 6 xs ac else none := by kernel_rfl
theorem rf_k1 (y : Int) : rfV N 0 1 0 13 Try.f13 xs ac s y x = bif rfCd N xs ac s y x 1 0 then rfW N xs ac (sameA (s.setH (wr .u8 (x + 1))) xs ac) else none := by kernel_rfl
theorem rf_k2 (y : Int) : rfV N 0 2 0 13 Try.f13 xs ac s y x = bif rfCd N xs ac s y x 2 0 then rfW N xs ac (sameA (s.setH (wr .u8 (x + 1))) xs ac) else none := by kernel_rfl
theorem rf_k6 (y : Int) : rfV N 0 6 0 13 Try.f13 xs ac s y x = bif rfCd N xs ac s y x 6 0 then rfW N xs ac (sameA s xs ac) else none := by kernel_rfl
theorem rf_k7 (y : Int) : rfV N 0 7 0 13 Try.f13 xs ac s y x = bif rfCd N xs ac s y x 7 0 then rfW N xs ac (sameA s xs ac) else none := by kernel_rfl
theorem rf_k3 : ∀ y : Nat, y < 4 → rfV N 0 3 0 13 Try.f13 xs ac s (y : Int) x = bif rfCd N xs ac s (y : Int) x 3 0 then rfW N xs ac (bif decide (x = 0) then raiA s y xs ac else sameA (s.setA (wr .u8 (x + 1)) y) xs ac) else none
  | 0, _ => by kernel_rfl
  | 1, _ => by kernel_rfl
  | 2, _ => by kernel_rfl
  | 3, _ => by kernel_rfl
  | n + 4, h => absurd h (by omega)
theorem rf_k4 : ∀ y : Nat, y < 4 → rfV N 0 4 0 13 Try.f13 xs ac s (y : Int) x = bif rfCd N xs ac s (y : Int) x 4 0 then rfW N xs ac (bif decide (x = 0) then raiA s y xs ac else sameA (silI N.SU s y (mate y) x) xs ac) else none
  | 0, _ => by kernel_rfl
  | 1, _ => by kernel_rfl
  | 2, _ => by kernel_rfl
  | 3, _ => by kernel_rfl
  | n + 4, h => absurd h (by omega)
theorem rf_k5 : ∀ y : Nat, y < 4 → rfV N 0 5 0 13 Try.f13 xs ac s (y : Int) x = bif rfCd N xs ac s (y : Int) x 5 0 then rfW N xs ac (bif !decide (x = 0) then raiA s (mate y) xs ac else sameA s xs ac) else none
  | 0, _ => by kernel_rfl
  | 1, _ => by kernel_rfl
  | 2, _ => by kernel_rfl
  | 3, _ => by kernel_rfl
  | n + 4, h => absurd h (by omega)
end
def raiI (s : CD) (k : Nat) : CD := bif decide (s.p.at k = 0) then s.setP 1 k else s
def rfS (k : Int) (s : CD) (y : Nat) (x : Int) : CD := bif decide (k = 1) || decide (k = 2) then s.setH (wr .u8 (x + 1)) else bif decide (k = 3) then (bif decide (x = 0) then raiI s y else s.setA (wr .u8 (x + 1)) y) else
  bif decide (k = 4) then (bif decide (x = 0) then raiI s y else silI suI s y (mate y) x) else bif decide (k = 5) then (bif decide (x = 0) then s else raiI s (mate y)) else s
def rfX (s : CD) (xs ac : List Int) (y x : Int) : Int := bif !decide (keI s xs ac y x = 0) then keI s xs ac y x else bif decide (kdI s xs ac y x = 0) then 6 else 0
def rfC (s : CD) (xs ac : List Int) (y x : Int) : CD := bif decide (rfX s xs ac y x = 0) then rfS (kdI s xs ac y x) s y.toNat x else c0
def rfL (s : CD) (xs ac : List Int) (y x : Int) : List Int := bif decide (rfX s xs ac y x = 0) then xs else []
def rfK (s : CD) (xs ac : List Int) (y x : Int) : List Int := bif decide (rfX s xs ac y x = 0) then ac else []
theorem kd_range (s : CD) (xs ac : List Int) (y x : Int) : (kdI s xs ac y x = 0 ∨ kdI s xs ac y x = 1 ∨ kdI s xs ac y x = 2 ∨ kdI s xs ac y x = 3 ∨ kdI s xs ac y x = 4 ∨ kdI s xs ac y x = 5 ∨ kdI s xs ac y x = 6 ∨ kdI s xs ac y x = 7) ∧
    (keI s xs ac y x = 0 ∨ (kdI s xs ac y x = 0 ∧ (keI s xs ac y x = 100 ∨ keI s xs ac y x = 2 ∨ keI s xs ac y x = 80))) ∧ (keI s xs ac y x = 0 → y ≤ 3 ∧ x ≤ 37 ∧ rgtI s xs ac = true) := by
  unfold kdI keI kdO
  cases rgtI s xs ac with
  | false => simp
  | true =>
    by_cases h1 : 3 < y
    · rw [decide_eq_true h1]; simp
    · by_cases h2 : x ≤ 37
      · rw [decide_eq_false h1, decide_eq_true h2]
        refine ⟨?_, .inl rfl, fun _ => ⟨by omega, h2, rfl⟩⟩
        cases ovI s.d xs <;> cases decide (rlI s xs y = 1) <;> cases decide (rlI s xs y = 2) <;> cases decide (rlI s xs y = 3) <;> cases lgI s xs x <;> cases lwI xs x <;> cases ((decide (x = 1) || decide (x = 2)) && !frI s.d xs x) <;> simp
      · rw [decide_eq_false h1, decide_eq_false h2]; simp
def rfA (s : CD) (xs ac : List Int) (y x : Int) : AN := some (ansP (rfC s xs ac y x) (rfX s xs ac y x) xs ac (rfL s xs ac y x) (rfK s xs ac y x), [])
theorem rf_all {s : CD} {xs ac : List Int} {y x : Int} (h : okL xs = true) (hc : lenOk ac = true) (hd : dkB s = true) (hx : byB x = true) (hy : 0 ≤ y) : ∃ k e, rfV nC 0 k e 13 Try.f13 xs ac s y x = rfA s xs ac y x := by
  have hl := (okL_iff.1 h).1
  obtain ⟨hk, he, hr⟩ := kd_range s xs ac y x
  have cd : ∀ k e, kdI s xs ac y x = k → keI s xs ac y x = e → rfCd nC xs ac s y x k e = true := fun k e h1 h2 => by
    unfold rfCd
    rw [show nC.J.OK xs = true from h, show nC.DK s = true from hd, show nC.J.BY x = true from hx, show nC.KV s xs ac y x = kdI s xs ac y x from rfl, show nC.KE s xs ac y x = keI s xs ac y x from rfl, decide_eq_true ⟨h1, h2⟩]; rfl
  have hw : ∀ X, rfW nC xs ac X = X := fun X => by
    unfold rfW
    rw [show nC.CK xs = true from decide_eq_true (by omega), show nC.CK ac = true from hc]; rfl
  rcases he with he | ⟨h0, he⟩
  · obtain ⟨n, rfl⟩ : ∃ n : Nat, y = n := ⟨y.toNat, by omega⟩
    have hn : n < 4 := by have := (hr he).1; omega
    have hX : ∀ k, kdI s xs ac n x = k → k ≠ 0 → rfA s xs ac n x = sameA (rfS k s n x) xs ac := fun k h1 h2 => by
      unfold rfA rfC rfL rfK rfX
      rw [he, h1, decide_eq_true (rfl : (0 : Int) = 0), decide_eq_false h2]; rfl
    rcases hk with hk | hk | hk | hk | hk | hk | hk | hk
    · refine ⟨0, 0, ?_⟩
      rw [rf_k0, cd 0 0 hk he]
      unfold rfA rfC rfL rfK rfX
      rw [he, hk]; rfl
    · refine ⟨1, 0, ?_⟩
      rw [rf_k1, cd 1 0 hk he, hX 1 hk (by omega), hw]; rfl
    · refine ⟨2, 0, ?_⟩
      rw [rf_k2, cd 2 0 hk he, hX 2 hk (by omega), hw]; rfl
    · refine ⟨3, 0, ?_⟩
      rw [rf_k3 _ _ _ _ _ _ hn, cd 3 0 hk he, hX 3 hk (by omega), hw]
      unfold rfS raiA raiI sameA
      cases decide (x = 0) <;> cases decide (s.p.at n = 0) <;> rfl
    · refine ⟨4, 0, ?_⟩
      rw [rf_k4 _ _ _ _ _ _ hn, cd 4 0 hk he, hX 4 hk (by omega), hw]
      unfold rfS raiA raiI sameA
      cases decide (x = 0) <;> cases decide (s.p.at n = 0) <;> rfl
    · refine ⟨5, 0, ?_⟩
      rw [rf_k5 _ _ _ _ _ _ hn, cd 5 0 hk he, hX 5 hk (by omega), hw]
      unfold rfS raiA raiI sameA
      cases decide (x = 0) <;> cases decide (s.p.at (mate n) = 0) <;> rfl
    · refine ⟨6, 0, ?_⟩
      rw [rf_k6, cd 6 0 hk he, hX 6 hk (by omega), hw]; rfl
    · refine ⟨7, 0, ?_⟩
      rw [rf_k7, cd 7 0 hk he, hX 7 hk (by omega), hw]; rfl
  · have hX : ∀ e, keI s xs ac y x = e → e ≠ 0 → rfA s xs ac y x = badA e xs ac := fun e h1 h2 => by
      unfold rfA rfC rfL rfK rfX
      rw [h1, decide_eq_false h2]
      simp only [Bool.not_false, cond_true]
      rw [decide_eq_false h2]; rfl
    rcases he with he | he | he
    · exact ⟨0, 100, by rw [rf_e100, cd 0 100 h0 he, hX 100 he (by omega)]; rfl⟩
    · exact ⟨0, 2, by rw [rf_e2, cd 0 2 h0 he, hX 2 he (by omega)]; rfl⟩
    · exact ⟨0, 80, by rw [rf_e80, cd 0 80 h0 he, hX 80 he (by omega)]; rfl⟩
theorem refuse13_fn (n1 n2 : Bool) {s : CD} {xs ac : List Int} {y x : Int} (h : okL xs = true) (hc : lenOk ac = true) (hd : dkB s = true) (hx : byB x = true) (hy : 0 ≤ y) :
    FnOK Try.prog 13 [.agg (s.vs (.gs 0) (.gs 1)), .int .u8 y, .int .u8 x] (crsH n1 n2 xs ac) (.tuple [.agg ((rfC s xs ac y x).vs (.gs 2) (.gs 3)), .int .i64 (rfX s xs ac y x)]) (crsH n1 n2 xs ac ++ crsNb (rfL s xs ac y x) (rfK s xs ac y x)) := by
  obtain ⟨k, e, key⟩ := rf_all h hc hd hx hy
  exact fn_crs (fn_ans (T := crsA false false [.int .i64]) (orcE10_ok (dTurnL_ok _) (dKindL_ok k e) tabS_ok plainL_ok) mixed Try.func13 noLoops_ok (by kernel_rfl) key codesNil rfl)
end Go.Proofs.Ytojlmpcbplepcaa

/- Chapter 10: Accept: its formula. -/
namespace Go.Proofs.Ytojlmpcbplepcaa
open Go Go.Eng
noncomputable def acM (s : CD) (j : Nat) (X : CD → AN) : AN := bif decide (0 < s.p.at j) then X ((s.setP (wr .i64 (s.p.at j - 1)) j).setA 0 j) else X (s.setA 0 j)
noncomputable def acT (xs ac : List Int) (x : Int) (ys bc : List Int) (s : CD) (j : Nat) : AN := bif decide (400 ≤ Int.ofNat ys.length) then badA 5 xs ac else bif decide ((ys ++ [x]).length * 2 ≤ 70368744177664) then acM s j (fun s' => some (ansP (s'.setH 0) 0 xs ac (ys ++ [x]) bc, [])) else none
noncomputable def acF (N : NC) (xs ac : List Int) (x : Int) (ys : List Int) (s : CD) (j : Nat) : AN := bif N.J.OK ys && N.J.BY x then bif !N.J.FR s.d ys x then badA 104 xs ac else acT xs ac x ys ac s j else none
noncomputable def acR (N : NC) (xs ac : List Int) (x : Int) : Nat → List Int → CD → Nat → AN
  | 0, ys, s, j => acF N xs ac x ys s j
  | r + 1, ys, s, j => bif N.J.OK ys then bif N.J.OV s.d ys then badA 104 xs ac else bif decide ((ys ++ [0]).length * 2 ≤ 70368744177664) then acM s j (fun s' => acR N xs ac x r (ys ++ [0]) s' ((j + 1) % 4)) else none else none
noncomputable def acK1 (xs ac : List Int) (x : Int) (s : CD) (j : Nat) : AN := bif decide ((ac ++ [Int.ofNat xs.length]).length * 9 ≤ 70368744177664) then acT xs ac x xs (ac ++ [Int.ofNat xs.length]) s j else none
noncomputable def acW (N : NC) (xs ac : List Int) (s : CD) (t : Nat) (X : AN) : AN := rfW N xs ac (bif N.J.OK xs && decide (N.TR s xs = (t : Int)) then X else none)
section
variable (N : NC) (xs ac : List Int) (s : CD) (x : Int)
theorem ac_e100 (y : Int) : rfV N 0 0 100 12 Try.f12 xs ac s y x = bif rfCd N xs ac s y x 0 100 then badA 100 xs ac else none := by kernel_rfl
theorem ac_e2 (y : Int) : rfV N 0 0 2 12 Try.f12 xs ac s y x = bif rfCd N xs ac s y x 0 2 then badA 2 xs ac else none := by kernel_rfl
theorem ac_e80 (y : Int) : rfV N 0 0 80 12 Try.f12 xs ac s y x = bif rfCd N xs ac s y x 0 80 then badA 80 xs ac else none := by kernel_rfl
theorem ac_k0 (y : Int) : rfV N 0 0 0 12 Try.f12 xs ac s y x = bif rfCd N xs ac s y x 0 0 then badA 6 xs ac else none := by kernel_rfl
theorem ac_k2 (y : Int) : rfV N 0 2 0 12 Try.f12 xs ac s y x = bif rfCd N xs ac s y x 2 0 then badA 104 xs ac else none := by kernel_rfl
theorem ac_k6 (y : Int) : rfV N 0 6 0 12 Try.f12 xs ac s y x = bif rfCd N xs ac s y x 6 0 then badA 104 xs ac else none := by kernel_rfl
theorem ac_k7 (y : Int) : rfV N 0 7 0 12 Try.f12 xs ac s y x = bif rfCd N xs ac s y x 7 0 then badA 104 xs ac else none := by kernel_rfl
theorem ac_k1 : ∀ t : Nat, t < 4 → rfV N t 1 0 12 Try.f12 xs ac s (t : Int) x = bif rfCd N xs ac s (t : Int) x 1 0 then acW N xs ac s t (acK1 xs ac x s t) else none
  | 0, _ => by kernel_rfl
  | 1, _ => by kernel_rfl
  | 2, _ => by kernel_rfl
  | 3, _ => by kernel_rfl
  | n + 4, h => absurd h (by omega)
theorem ac_k3 : ∀ t : Nat, t < 4 → rfV N t 3 0 12 Try.f12 xs ac s (((t + 1) % 4 : Nat) : Int) x = bif rfCd N xs ac s (((t + 1) % 4 : Nat) : Int) x 3 0 then acW N xs ac s t (acR N xs ac x 1 xs s t) else none
  | 0, _ => by kernel_rfl
  | 1, _ => by kernel_rfl
  | 2, _ => by kernel_rfl
  | 3, _ => by kernel_rfl
  | n + 4, h => absurd h (by omega)
end
end Go.Proofs.Ytojlmpcbplepcaa

/- Chapter 10: Accept: its formula, for the partner's call. -/
namespace Go.Proofs.Ytojlmpcbplepcaa
open Go Go.Eng
theorem ac_k4 (N : NC) (xs ac : List Int) (s : CD) (x : Int) : ∀ t : Nat, t < 4 → rfV N t 4 0 12 Try.f12 xs ac s (((t + 2) % 4 : Nat) : Int) x = bif rfCd N xs ac s (((t + 2) % 4 : Nat) : Int) x 4 0 then acW N xs ac s t (acR N xs ac x 2 xs s t) else none
  | 0, _ => by kernel_rfl
  | 1, _ => by kernel_rfl
  | 2, _ => by kernel_rfl
  | 3, _ => by kernel_rfl
  | n + 4, h => absurd h (by omega)
end Go.Proofs.Ytojlmpcbplepcaa

/- Chapter 10: Accept: its formula, for the call of the seat on the right. -/
namespace Go.Proofs.Ytojlmpcbplepcaa
open Go Go.Eng
theorem ac_k5 (N : NC) (xs ac : List Int) (s : CD) (x : Int) : ∀ t : Nat, t < 4 → rfV N t 5 0 12 Try.f12 xs ac s (((t + 3) % 4 : Nat) : Int) x = bif rfCd N xs ac s (((t + 3) % 4 : Nat) : Int) x 5 0 then acW N xs ac s t (acR N xs ac x 3 xs s t) else none
  | 0, _ => by kernel_rfl
  | 1, _ => by kernel_rfl
  | 2, _ => by kernel_rfl
  | 3, _ => by kernel_rfl
  | n + 4, h => absurd h (by omega)
end Go.Proofs.Ytojlmpcbplepcaa

/- Chapter 10: Accept, plainly; its contract. -/
namespace Go.Proofs.Ytojlmpcbplepcaa
open Go Go.Eng
def metI (s : CD) (j : Nat) : CD := (bif decide (0 < s.p.at j) then s.setP (wr .i64 (s.p.at j - 1)) j else s).setA 0 j
def acP : Nat → CD → List Int → Nat → Option (CD × List Int)
  | 0, s, ys, _ => some (s, ys)
  | r + 1, s, ys, j => bif ovI s.d ys then none else acP r (metI s j) (ys ++ [0]) ((j + 1) % 4)
structure AR where
  e : Int
  s : CD
  ys : List Int
  bc : List Int
def badR (e : Int) : AR := ⟨e, c0, [], []⟩
def acZ (x : Int) (ys bc : List Int) (s : CD) (j : Nat) : AR := bif decide (400 ≤ ys.length) then badR 5 else ⟨0, (metI s j).setH 0, ys ++ [x], bc⟩
def acY (r : Nat) (s : CD) (xs ac : List Int) (t : Nat) (x : Int) : AR := match acP r s xs t with
  | none => badR 104
  | some (s', ys) => bif !frI s'.d ys x then badR 104 else acZ x ys ac s' ((t + r) % 4)
def acI (s : CD) (xs ac : List Int) (y x : Int) : AR := bif !decide (keI s xs ac y x = 0) then badR (keI s xs ac y x) else bif decide (kdI s xs ac y x = 0) then badR 6 else
  bif decide (kdI s xs ac y x = 1) then acZ x xs (ac ++ [(xs.length : Int)]) s (tN s xs) else bif decide (kdI s xs ac y x = 3) then acY 1 s xs ac (tN s xs) x else bif decide (kdI s xs ac y x = 4) then acY 2 s xs ac (tN s xs) x else
    bif decide (kdI s xs ac y x = 5) then acY 3 s xs ac (tN s xs) x else badR 104
def arA (xs ac : List Int) (R : AR) : AN := some (ansP R.s R.e xs ac R.ys R.bc, [])
theorem acM_is (s : CD) (j : Nat) (X : CD → AN) : acM s j X = X (metI s j) := by
  unfold acM metI
  cases decide (0 < s.p.at j) <;> rfl
theorem d400 (ys : List Int) : decide (400 ≤ Int.ofNat ys.length) = decide (400 ≤ ys.length) := by
  have : Int.ofNat ys.length = (ys.length : Int) := rfl
  rw [this]
  by_cases hq : 400 ≤ ys.length
  · rw [decide_eq_true hq, decide_eq_true (by omega)]
  · rw [decide_eq_false hq, decide_eq_false (by omega)]
theorem acT_is (xs ac : List Int) (x : Int) (ys bc : List Int) (s : CD) (j : Nat) : acT xs ac x ys bc s j = arA xs ac (acZ x ys bc s j) := by
  unfold acT acZ
  rw [d400, acM_is]
  cases hq : decide (400 ≤ ys.length) with
  | true => rfl
  | false =>
    simp only [decide_eq_false_iff_not] at hq
    rw [decide_eq_true (show (ys ++ [x]).length * 2 ≤ 70368744177664 by simp; omega)]; rfl
theorem metI_d (s : CD) (j : Nat) : (metI s j).d = s.d := by
  unfold metI
  cases decide (0 < s.p.at j) <;> rfl
theorem acR_is (xs ac : List Int) (x : Int) (hx : byB x = true) : ∀ (r : Nat) (ys : List Int) (s : CD) (j : Nat), j < 4 → ys.length + r ≤ 100000 → allU ys = true → acR nC xs ac x r ys s j = arA xs ac (match acP r s ys j with
    | none => badR 104
    | some (s', zs) => bif !frI s'.d zs x then badR 104 else acZ x zs ac s' ((j + r) % 4)) := by
  intro r
  induction r with
  | zero =>
    intro ys s j hj hl hu
    unfold acR acF
    rw [show nC.J.OK ys = true from okL_iff.2 ⟨by omega, hu⟩, show nC.J.BY x = true from hx]
    show (bif !frI s.d ys x then badA 104 xs ac else acT xs ac x ys ac s j) = arA xs ac (bif !frI s.d ys x then badR 104 else acZ x ys ac s ((j + 0) % 4))
    rw [acT_is, show (j + 0) % 4 = j by omega]
    cases frI s.d ys x <;> rfl
  | succ r ih =>
    intro ys s j hj hl hu
    unfold acR
    rw [show nC.J.OK ys = true from okL_iff.2 ⟨by omega, hu⟩, decide_eq_true (show (ys ++ [(0 : Int)]).length * 2 ≤ 70368744177664 by simp; omega), acM_is, ih _ _ _ (by omega) (by simp; omega) (allU_snoc hu (by omega))]
    show (bif ovI s.d ys then badA 104 xs ac else arA xs ac _) = arA xs ac (match (bif ovI s.d ys then none else acP r (metI s j) (ys ++ [0]) ((j + 1) % 4)) with | none => _ | some (s', zs) => _)
    cases ovI s.d ys with
    | true => rfl
    | false =>
      simp only [cond_false]
      rw [show ((j + 1) % 4 + r) % 4 = (j + (r + 1)) % 4 by omega]
theorem rl_is {s : CD} {xs : List Int} {y k : Nat} (hd : 0 ≤ s.d ∧ s.d < 256) (h : okL xs = true) (hy : y < 4) (hr : rlI s xs y = (k : Int)) : y = (tN s xs + k) % 4 := by
  obtain ⟨ht, hk⟩ := tN_lt s xs h hd
  unfold rlI at hr
  rw [ht, wr_u8_id (n := (y : Int) + 4) (by omega), wr_u8_id (by omega), Int.tmod_eq_emod_of_nonneg (by omega)] at hr
  omega
theorem kd_turn {s : CD} {xs ac : List Int} {y : Nat} {x : Int} (hd : 0 ≤ s.d ∧ s.d < 256) (h : okL xs = true) (hy : y < 4) (he : keI s xs ac y x = 0) :
    (kdI s xs ac y x = 1 → y = tN s xs) ∧ (kdI s xs ac y x = 3 → y = (tN s xs + 1) % 4) ∧ (kdI s xs ac y x = 4 → y = (tN s xs + 2) % 4) ∧ (kdI s xs ac y x = 5 → y = (tN s xs + 3) % 4) := by
  obtain ⟨h1, h2, h3⟩ := (kd_range s xs ac y x).2.2 he
  obtain ⟨ht, hk⟩ := tN_lt s xs h hd
  have hrr : 0 ≤ rlI s xs y ∧ rlI s xs y < 4 := by
    unfold rlI
    rw [ht, wr_u8_id (n := (y : Int) + 4) (by omega), wr_u8_id (by omega), Int.tmod_eq_emod_of_nonneg (by omega)]
    omega
  have e0 : kdI s xs ac y x = bif ovI s.d xs then 6 else bif decide (rlI s xs y = 1) then 3 else bif decide (rlI s xs y = 2) then 4 else bif decide (rlI s xs y = 3) then 5 else kdO s xs x := by
    unfold kdI
    rw [h3, decide_eq_false (show ¬ (3 : Int) < y by omega), decide_eq_true h2]; rfl
  rw [e0]
  cases ovI s.d xs with
  | true => exact ⟨(fun h => by cases h), (fun h => by cases h), (fun h => by cases h), (fun h => by cases h)⟩
  | false =>
    rw [cond_false]
    by_cases r1 : rlI s xs y = 1
    · have := rl_is (k := 1) hd h hy r1
      rw [decide_eq_true r1]
      exact ⟨(fun h => by cases h), fun _ => this, (fun h => by cases h), (fun h => by cases h)⟩
    by_cases r2 : rlI s xs y = 2
    · have := rl_is (k := 2) hd h hy r2
      rw [decide_eq_false r1, decide_eq_true r2]
      exact ⟨(fun h => by cases h), (fun h => by cases h), fun _ => this, (fun h => by cases h)⟩
    by_cases r3 : rlI s xs y = 3
    · have := rl_is (k := 3) hd h hy r3
      rw [decide_eq_false r1, decide_eq_false r2, decide_eq_true r3]
      exact ⟨(fun h => by cases h), (fun h => by cases h), (fun h => by cases h), fun _ => this⟩
    have := rl_is (k := 0) hd h hy (by omega)
    rw [decide_eq_false r1, decide_eq_false r2, decide_eq_false r3]
    simp only [cond_false]
    have ko : kdO s xs x = 0 ∨ kdO s xs x = 1 ∨ kdO s xs x = 2 ∨ kdO s xs x = 7 := by
      unfold kdO
      cases lgI s xs x <;> cases lwI xs x <;> cases ((decide (x = 1) || decide (x = 2)) && !frI s.d xs x) <;> simp
    exact ⟨fun _ => by omega, fun h => by omega, fun h => by omega, fun h => by omega⟩
theorem ac_all {s : CD} {xs ac : List Int} {y x : Int} (h : okL xs = true) (hc : lenOk ac = true) (hd : dkB s = true) (hx : byB x = true) (hy : 0 ≤ y) (hl : xs.length ≤ 99990) : ∃ t k e, rfV nC t k e 12 Try.f12 xs ac s y x = arA xs ac (acI s xs ac y x) := by
  obtain ⟨hk, he, hr⟩ := kd_range s xs ac y x
  obtain ⟨ht, hk4⟩ := tN_lt s xs h (of_decide_eq_true hd)
  have cd : ∀ (z k e : Int), z = y → kdI s xs ac y x = k → keI s xs ac y x = e → rfCd nC xs ac s z x k e = true := fun z k e hz h1 h2 => by
    subst hz
    unfold rfCd
    rw [show nC.J.OK xs = true from h, show nC.DK s = true from hd, show nC.J.BY x = true from hx, show nC.KV s xs ac z x = kdI s xs ac z x from rfl, show nC.KE s xs ac z x = keI s xs ac z x from rfl, decide_eq_true ⟨h1, h2⟩]; rfl
  have hw : ∀ X, acW nC xs ac s (tN s xs) X = X := fun X => by
    unfold acW rfW
    rw [show nC.CK xs = true from decide_eq_true (by omega), show nC.CK ac = true from hc, show nC.J.OK xs = true from h, show nC.TR s xs = trnI s xs from rfl, decide_eq_true ht]; rfl
  have hR : ∀ r, r ≤ 3 → acR nC xs ac x r xs s (tN s xs) = arA xs ac (acY r s xs ac (tN s xs) x) := fun r hr3 => acR_is xs ac x hx r xs s (tN s xs) hk4 (by omega) (okL_iff.1 h).2
  rcases he with he | ⟨h0, he⟩
  · obtain ⟨n, rfl⟩ : ∃ n : Nat, y = n := ⟨y.toNat, by omega⟩
    have hn : n < 4 := by have := (hr he).1; omega
    obtain ⟨t1, t3, t4, t5⟩ := kd_turn (ac := ac) (x := x) (of_decide_eq_true hd) h hn he
    have hX : ∀ k, kdI s xs ac n x = k → acI s xs ac n x = bif decide (k = 0) then badR 6 else bif decide (k = 1) then acZ x xs (ac ++ [(xs.length : Int)]) s (tN s xs) else bif decide (k = 3) then acY 1 s xs ac (tN s xs) x else bif decide (k = 4) then acY 2 s xs ac (tN s xs) x else bif decide (k = 5) then acY 3 s xs ac (tN s xs) x else badR 104 := fun k h1 => by
      unfold acI
      rw [he, h1]; rfl
    rcases hk with hk | hk | hk | hk | hk | hk | hk | hk
    · exact ⟨0, 0, 0, by rw [ac_k0, cd _ 0 0 rfl hk he, hX 0 hk]; rfl⟩
    · refine ⟨tN s xs, 1, 0, ?_⟩
      have := t1 hk
      rw [hX 1 hk, show (n : Int) = (tN s xs : Int) by omega, ac_k1 _ _ _ _ _ _ hk4, cd _ 1 0 (by omega) hk he, cond_true, hw]
      unfold acK1
      rw [show Int.ofNat xs.length = (xs.length : Int) from rfl, acT_is]
      have hcl : ac.length ≤ 200000 := of_decide_eq_true hc
      rw [decide_eq_true (show (ac ++ [(xs.length : Int)]).length * 9 ≤ 70368744177664 by simp; omega)]; rfl
    · exact ⟨0, 2, 0, by rw [ac_k2, cd _ 2 0 rfl hk he, hX 2 hk]; rfl⟩
    · refine ⟨tN s xs, 3, 0, ?_⟩
      have := t3 hk
      rw [hX 3 hk, show (n : Int) = (((tN s xs + 1) % 4 : Nat) : Int) by omega, ac_k3 _ _ _ _ _ _ hk4, cd _ 3 0 (by omega) hk he, cond_true, hw, hR 1 (by omega)]; rfl
    · refine ⟨tN s xs, 4, 0, ?_⟩
      have := t4 hk
      rw [hX 4 hk, show (n : Int) = (((tN s xs + 2) % 4 : Nat) : Int) by omega, ac_k4 _ _ _ _ _ _ hk4, cd _ 4 0 (by omega) hk he, cond_true, hw, hR 2 (by omega)]; rfl
    · refine ⟨tN s xs, 5, 0, ?_⟩
      have := t5 hk
      rw [hX 5 hk, show (n : Int) = (((tN s xs + 3) % 4 : Nat) : Int) by omega, ac_k5 _ _ _ _ _ _ hk4, cd _ 5 0 (by omega) hk he, cond_true, hw, hR 3 (by omega)]; rfl
    · exact ⟨0, 6, 0, by rw [ac_k6, cd _ 6 0 rfl hk he, hX 6 hk]; rfl⟩
    · exact ⟨0, 7, 0, by rw [ac_k7, cd _ 7 0 rfl hk he, hX 7 hk]; rfl⟩
  · have hX : ∀ e, keI s xs ac y x = e → e ≠ 0 → acI s xs ac y x = badR e := fun e h1 h2 => by
      unfold acI
      rw [h1, decide_eq_false h2]; rfl
    rcases he with he | he | he
    · exact ⟨0, 0, 100, by rw [ac_e100, cd _ 0 100 rfl h0 he, hX 100 he (by omega)]; rfl⟩
    · exact ⟨0, 0, 2, by rw [ac_e2, cd _ 0 2 rfl h0 he, hX 2 he (by omega)]; rfl⟩
    · exact ⟨0, 0, 80, by rw [ac_e80, cd _ 0 80 rfl h0 he, hX 80 he (by omega)]; rfl⟩
theorem accept12_fn (n1 n2 : Bool) {s : CD} {xs ac : List Int} {y x : Int} (h : okL xs = true) (hc : lenOk ac = true) (hd : dkB s = true) (hx : byB x = true) (hy : 0 ≤ y) (hl : xs.length ≤ 99990) :
    FnOK Try.prog 12 [.agg (s.vs (.gs 0) (.gs 1)), .int .u8 y, .int .u8 x] (crsH n1 n2 xs ac) (.tuple [.agg ((acI s xs ac y x).s.vs (.gs 2) (.gs 3)), .int .i64 (acI s xs ac y x).e]) (crsH n1 n2 xs ac ++ crsNb (acI s xs ac y x).ys (acI s xs ac y x).bc) := by
  obtain ⟨t, k, e, key⟩ := ac_all h hc hd hx hy hl
  exact fn_crs (fn_ans (T := crsA false false [.int .i64]) (orcE10_ok (dTurnL_ok t) (dKindL_ok k e) tabS_ok plainL_ok) mixed Try.func12 noLoops_ok (by kernel_rfl) key codesNil rfl)
end Go.Proofs.Ytojlmpcbplepcaa
