/- Texts merged: Rf, Ac, Ac2, Ac3. -/
import Derived.Test.YtojlmpcbplepcaaGreatCd
/- Chapter 10: Refuse. -/
namespace Go.Proofs.YtojlmpcbplepcaaGreat
open Go Go.Eng
def rfCd (N : NC) (xs ac : List Int) (s : CD) (y x k e : Int) : Bool := N.J.OK xs && (N.DK s && N.J.BY x) && decide (N.KV s xs ac y x = k ∧ N.KE s xs ac y x = e)
noncomputable def rfW (N : NC) (xs ac : List Int) (X : AN) : AN := bif N.CK xs then bif N.CK ac then X else none else none
noncomputable abbrev rfV (N : NC) (t : Nat) (k e : Int) (f : FuncId) (fn : Func) (xs ac : List Int) (s : CD) (y x : Int) : AN := evalFn Tryz.prog (orcE10 N (dTurnL N t) (dKindL N k e) (tabS N) plainL) noLoops 100 f fn [.agg (s.vs (.gs 0) (.gs 1)), .int .u8 y, .int .u8 x] (crsH false false xs ac) (ansT (crsA false false [.int .i64]) 2)
noncomputable def badA (e : Int) (xs ac : List Int) : AN := some (ansP c0 e xs ac [] [], [])
noncomputable def sameA (s : CD) (xs ac : List Int) : AN := some (ansP s 0 xs ac xs ac, [])
noncomputable def raiA (s : CD) (k : Nat) (xs ac : List Int) : AN := bif decide (s.p.at k = 0) then sameA (s.setP 1 k) xs ac else sameA s xs ac
section
variable (N : NC) (xs ac : List Int) (s : CD) (x : Int)
theorem rf_e100 (y : Int) : rfV N 0 0 100 36 Tryz.f36 xs ac s y x = bif rfCd N xs ac s y x 0 100 then badA 100 xs ac else none := by kernel_rfl
theorem rf_e2 (y : Int) : rfV N 0 0 2 36 Tryz.f36 xs ac s y x = bif rfCd N xs ac s y x 0 2 then badA 2 xs ac else none := by kernel_rfl
theorem rf_e80 (y : Int) : rfV N 0 0 80 36 Tryz.f36 xs ac s y x = bif rfCd N xs ac s y x 0 80 then badA 80 xs ac else none := by kernel_rfl
theorem rf_k0 (y : Int) : rfV N 0 0 0 36 Tryz.f36 xs ac s y x = bif rfCd N xs ac s y x 0 0 then badA 6 xs ac else none := by kernel_rfl
theorem rf_k1 (y : Int) : rfV N 0 1 0 36 Tryz.f36 xs ac s y x = bif rfCd N xs ac s y x 1 0 then rfW N xs ac (sameA (s.setH (wr .u8 (x + 1))) xs ac) else none := by kernel_rfl
theorem rf_k2 (y : Int) : rfV N 0 2 0 36 Tryz.f36 xs ac s y x = bif rfCd N xs ac s y x 2 0 then rfW N xs ac (sameA (s.setH (wr .u8 (x + 1))) xs ac) else none := by kernel_rfl
theorem rf_k6 (y : Int) : rfV N 0 6 0 36 Tryz.f36 xs ac s y x = bif rfCd N xs ac s y x 6 0 then rfW N xs ac (sameA s xs ac) else none := by kernel_rfl
theorem rf_k7 (y : Int) : rfV N 0 7 0 36 Tryz.f36 xs ac s y x = bif rfCd N xs ac s y x 7 0 then rfW N xs ac (sameA s xs ac) else none := by kernel_rfl
theorem rf_k3 : ∀ y : Nat, y < 4 → rfV N 0 3 0 36 Tryz.f36 xs ac s (y : Int) x = bif rfCd N xs ac s (y : Int) x 3 0 then rfW N xs ac (bif decide (x = 0) then raiA s y xs ac else sameA (s.setA (wr .u8 (x + 1)) y) xs ac) else none
  | 0, _ => by kernel_rfl
  | 1, _ => by kernel_rfl
  | 2, _ => by kernel_rfl
  | 3, _ => by kernel_rfl
  | n + 4, h => absurd h (by omega)
theorem rf_k4 : ∀ y : Nat, y < 4 → rfV N 0 4 0 36 Tryz.f36 xs ac s (y : Int) x = bif rfCd N xs ac s (y : Int) x 4 0 then rfW N xs ac (bif decide (x = 0) then raiA s y xs ac else sameA (silI N.SU s y (mate y) x) xs ac) else none
  | 0, _ => by kernel_rfl
  | 1, _ => by kernel_rfl
  | 2, _ => by kernel_rfl
  | 3, _ => by kernel_rfl
  | n + 4, h => absurd h (by omega)
theorem rf_k5 : ∀ y : Nat, y < 4 → rfV N 0 5 0 36 Tryz.f36 xs ac s (y : Int) x = bif rfCd N xs ac s (y : Int) x 5 0 then rfW N xs ac (bif !decide (x = 0) then raiA s (mate y) xs ac else sameA s xs ac) else none
  | 0, _ => by kernel_rfl
  | 1, _ => by kernel_rfl
  | 2, _ => by kernel_rfl
  | 3, _ => by kernel_rfl
  | n + 4, h => absurd h (by omega)
end
def raiI (s : CD) (k : Nat) : CD := bif decide (s.p.at k = 0) then s.setP 1 k else s
def rfS (k : Int) (s : CD) (y : Nat) (x : Int) : CD := bif decide (k = 1) || decide (k = 2) then s.setH (wr .u8 (x + 1)) else bif decide (k = 3) then (bif decide (x = 0) then raiI s y else s.setA (wr .u8 (x + 1)) y) else
  bif decide (k = 4) then (bif decide (x = 0) then raiI s y else silI suI s y (mate y) x) else bif decide (k = 5) then (bif decide (x = 0) then s else raiI s (mate y)) else s
def rfX (s : CD) (xs ac : List Int) (y x : Int) : Int := bif !decide (keI s xs ac y x = 0) then keI s xs ac y x else bif decide (kdI s xs ac y x = 0) then 6 else 0
def rfC (s : CD) (xs ac : List Int) (y x : Int) : CD := bif decide (rfX s xs ac y x = 0) then rfS (kdI s xs ac y x) s y.toNat x else c0
def rfL (s : CD) (xs ac : List Int) (y x : Int) : List Int := bif decide (rfX s xs ac y x = 0) then xs else []
def rfK (s : CD) (xs ac : List Int) (y x : Int) : List Int := bif decide (rfX s xs ac y x = 0) then ac else []
theorem kd_range (s : CD) (xs ac : List Int) (y x : Int) : (kdI s xs ac y x = 0 ∨ kdI s xs ac y x = 1 ∨ kdI s xs ac y x = 2 ∨ kdI s xs ac y x = 3 ∨ kdI s xs ac y x = 4 ∨ kdI s xs ac y x = 5 ∨ kdI s xs ac y x = 6 ∨ kdI s xs ac y x = 7) ∧
    (keI s xs ac y x = 0 ∨ (kdI s xs ac y x = 0 ∧ (keI s xs ac y x = 100 ∨ keI s xs ac y x = 2 ∨ keI s xs ac y x = 80))) ∧ (keI s xs ac y x = 0 → y ≤ 3 ∧ x ≤ 37 ∧ rgtI s xs ac = true) := by
  unfold kdI keI kdO
  cases rgtI s xs ac with
  | false => simp
  | true =>
    by_cases h1 : 3 < y
    · rw [decide_eq_true h1]; simp
    · by_cases h2 : x ≤ 37
      · rw [decide_eq_false h1, decide_eq_true h2]
        refine ⟨?_, .inl rfl, fun _ => ⟨by omega, h2, rfl⟩⟩
        cases ovI s.d xs <;> cases decide (rlI s xs y = 1) <;> cases decide (rlI s xs y = 2) <;> cases decide (rlI s xs y = 3) <;> cases lgI s xs x <;> cases lwI xs x <;> cases ((decide (x = 1) || decide (x = 2)) && !frI s.d xs x) <;> simp
      · rw [decide_eq_false h1, decide_eq_false h2]; simp
def rfA (s : CD) (xs ac : List Int) (y x : Int) : AN := some (ansP (rfC s xs ac y x) (rfX s xs ac y x) xs ac (rfL s xs ac y x) (rfK s xs ac y x), [])
theorem rf_all {s : CD} {xs ac : List Int} {y x : Int} (h : okL xs = true) (hc : lenOk ac = true) (hd : dkB s = true) (hx : byB x = true) (hy : 0 ≤ y) : ∃ k e, rfV nC 0 k e 36 Tryz.f36 xs ac s y x = rfA s xs ac y x := by
  have hl := (okL_iff.1 h).1
  obtain ⟨hk, he, hr⟩ := kd_range s xs ac y x
  have cd : ∀ k e, kdI s xs ac y x = k → keI s xs ac y x = e → rfCd nC xs ac s y x k e = true := fun k e h1 h2 => by
    unfold rfCd
    rw [show nC.J.OK xs = true from h, show nC.DK s = true from hd, show nC.J.BY x = true from hx, show nC.KV s xs ac y x = kdI s xs ac y x from rfl, show nC.KE s xs ac y x = keI s xs ac y x from rfl, decide_eq_true ⟨h1, h2⟩]; rfl
  have hw : ∀ X, rfW nC xs ac X = X := fun X => by
    unfold rfW
    rw [show nC.CK xs = true from decide_eq_true (by omega), show nC.CK ac = true from hc]; rfl
  rcases he with he | ⟨h0, he⟩
  · obtain ⟨n, rfl⟩ : ∃ n : Nat, y = n := ⟨y.toNat, by omega⟩
    have hn : n < 4 := by have := (hr he).1; omega
    have hX : ∀ k, kdI s xs ac n x = k → k ≠ 0 → rfA s xs ac n x = sameA (rfS k s n x) xs ac := fun k h1 h2 => by
      unfold rfA rfC rfL rfK rfX
      rw [he, h1, decide_eq_true (rfl : (0 : Int) = 0), decide_eq_false h2]; rfl
    rcases hk with hk | hk | hk | hk | hk | hk | hk | hk
    · refine ⟨0, 0, ?_⟩
      rw [rf_k0, cd 0 0 hk he]
      unfold rfA rfC rfL rfK rfX
      rw [he, hk]; rfl
    · refine ⟨1, 0, ?_⟩
      rw [rf_k1, cd 1 0 hk he, hX 1 hk (by omega), hw]; rfl
    · refine ⟨2, 0, ?_⟩
      rw [rf_k2, cd 2 0 hk he, hX 2 hk (by omega), hw]; rfl
    · refine ⟨3, 0, ?_⟩
      rw [rf_k3 _ _ _ _ _ _ hn, cd 3 0 hk he, hX 3 hk (by omega), hw]
      unfold rfS raiA raiI sameA
      cases decide (x = 0) <;> cases decide (s.p.at n = 0) <;> rfl
    · refine ⟨4, 0, ?_⟩
      rw [rf_k4 _ _ _ _ _ _ hn, cd 4 0 hk he, hX 4 hk (by omega), hw]
      unfold rfS raiA raiI sameA
      cases decide (x = 0) <;> cases decide (s.p.at n = 0) <;> rfl
    · refine ⟨5, 0, ?_⟩
      rw [rf_k5 _ _ _ _ _ _ hn, cd 5 0 hk he, hX 5 hk (by omega), hw]
      unfold rfS raiA raiI sameA
      cases decide (x = 0) <;> cases decide (s.p.at (mate n) = 0) <;> rfl
    · refine ⟨6, 0, ?_⟩
      rw [rf_k6, cd 6 0 hk he, hX 6 hk (by omega), hw]; rfl
    · refine ⟨7, 0, ?_⟩
      rw [rf_k7, cd 7 0 hk he, hX 7 hk (by omega), hw]; rfl
  · have hX : ∀ e, keI s xs ac y x = e → e ≠ 0 → rfA s xs ac y x = badA e xs ac := fun e h1 h2 => by
      unfold rfA rfC rfL rfK rfX
      rw [h1, decide_eq_false h2]
      simp only [Bool.not_false, cond_true]
      rw [decide_eq_false h2]; rfl
    rcases he with he | he | he
    · exact ⟨0, 100, by rw [rf_e100, cd 0 100 h0 he, hX 100 he (by omega)]; rfl⟩
    · exact ⟨0, 2, by rw [rf_e2, cd 0 2 h0 he, hX 2 he (by omega)]; rfl⟩
    · exact ⟨0, 80, by rw [rf_e80, cd 0 80 h0 he, hX 80 he (by omega)]; rfl⟩
theorem refuse13_fn (n1 n2 : Bool) {s : CD} {xs ac : List Int} {y x : Int} (h : okL xs = true) (hc : lenOk ac = true) (hd : dkB s = true) (hx : byB x = true) (hy : 0 ≤ y) :
    FnOK Tryz.prog 36 [.agg (s.vs (.gs 0) (.gs 1)), .int .u8 y, .int .u8 x] (crsH n1 n2 xs ac) (.tuple [.agg ((rfC s xs ac y x).vs (.gs 2) (.gs 3)), .int .i64 (rfX s xs ac y x)]) (crsH n1 n2 xs ac ++ crsNb (rfL s xs ac y x) (rfK s xs ac y x)) := by
  obtain ⟨k, e, key⟩ := rf_all h hc hd hx hy
  exact fn_crs (fn_ans (T := crsA false false [.int .i64]) (orcE10_ok (dTurnL_ok _) (dKindL_ok k e) tabS_ok plainL_ok) mixed Tryz.func36 noLoops_ok (by kernel_rfl) key codesNil rfl)
end Go.Proofs.YtojlmpcbplepcaaGreat

/- Chapter 10: Accept: its formula. -/
namespace Go.Proofs.YtojlmpcbplepcaaGreat
open Go Go.Eng
noncomputable def acM (s : CD) (j : Nat) (X : CD → AN) : AN := bif decide (0 < s.p.at j) then X ((s.setP (wr .i64 (s.p.at j - 1)) j).setA 0 j) else X (s.setA 0 j)
noncomputable def acT (xs ac : List Int) (x : Int) (ys bc : List Int) (s : CD) (j : Nat) : AN := bif decide (400 ≤ Int.ofNat ys.length) then badA 5 xs ac else bif decide ((ys ++ [x]).length * 2 ≤ 70368744177664) then acM s j (fun s' => some (ansP (s'.setH 0) 0 xs ac (ys ++ [x]) bc, [])) else none
noncomputable def acF (N : NC) (xs ac : List Int) (x : Int) (ys : List Int) (s : CD) (j : Nat) : AN := bif N.J.OK ys && N.J.BY x then bif !N.J.FR s.d ys x then badA 104 xs ac else acT xs ac x ys ac s j else none
noncomputable def acR (N : NC) (xs ac : List Int) (x : Int) : Nat → List Int → CD → Nat → AN
  | 0, ys, s, j => acF N xs ac x ys s j
  | r + 1, ys, s, j => bif N.J.OK ys then bif N.J.OV s.d ys then badA 104 xs ac else bif decide ((ys ++ [0]).length * 2 ≤ 70368744177664) then acM s j (fun s' => acR N xs ac x r (ys ++ [0]) s' ((j + 1) % 4)) else none else none
noncomputable def acK1 (xs ac : List Int) (x : Int) (s : CD) (j : Nat) : AN := bif decide ((ac ++ [Int.ofNat xs.length]).length * 9 ≤ 70368744177664) then acT xs ac x xs (ac ++ [Int.ofNat xs.length]) s j else none
noncomputable def acW (N : NC) (xs ac : List Int) (s : CD) (t : Nat) (X : AN) : AN := rfW N xs ac (bif N.J.OK xs && decide (N.TR s xs = (t : Int)) then X else none)
section
variable (N : NC) (xs ac : List Int) (s : CD) (x : Int)
theorem ac_e100 (y : Int) : rfV N 0 0 100 32 Tryz.f32 xs ac s y x = bif rfCd N xs ac s y x 0 100 then badA 100 xs ac else none := by kernel_rfl
theorem ac_e2 (y : Int) : rfV N 0 0 2 32 Tryz.f32 xs ac s y x = bif rfCd N xs ac s y x 0 2 then badA 2 xs ac else none := by kernel_rfl
theorem ac_e80 (y : Int) : rfV N 0 0 80 32 Tryz.f32 xs ac s y x = bif rfCd N xs ac s y x 0 80 then badA 80 xs ac else none := by kernel_rfl
theorem ac_k0 (y : Int) : rfV N 0 0 0 32 Tryz.f32 xs ac s y x = bif rfCd N xs ac s y x 0 0 then badA 6 xs ac else none := by kernel_rfl
theorem ac_k2 (y : Int) : rfV N 0 2 0 32 Tryz.f32 xs ac s y x = bif rfCd N xs ac s y x 2 0 then badA 104 xs ac else none := by kernel_rfl
theorem ac_k6 (y : Int) : rfV N 0 6 0 32 Tryz.f32 xs ac s y x = bif rfCd N xs ac s y x 6 0 then badA 104 xs ac else none := by kernel_rfl
theorem ac_k7 (y : Int) : rfV N 0 7 0 32 Tryz.f32 xs ac s y x = bif rfCd N xs ac s y x 7 0 then badA 104 xs ac else none := by kernel_rfl
theorem ac_k1 : ∀ t : Nat, t < 4 → rfV N t 1 0 32 Tryz.f32 xs ac s (t : Int) x = bif rfCd N xs ac s (t : Int) x 1 0 then acW N xs ac s t (acK1 xs ac x s t) else none
  | 0, _ => by kernel_rfl
  | 1, _ => by kernel_rfl
  | 2, _ => by kernel_rfl
  | 3, _ => by kernel_rfl
  | n + 4, h => absurd h (by omega)
theorem ac_k3 : ∀ t : Nat, t < 4 → rfV N t 3 0 32 Tryz.f32 xs ac s (((t + 1) % 4 : Nat) : Int) x = bif rfCd N xs ac s (((t + 1) % 4 : Nat) : Int) x 3 0 then acW N xs ac s t (acR N xs ac x 1 xs s t) else none
  | 0, _ => by kernel_rfl
  | 1, _ => by kernel_rfl
  | 2, _ => by kernel_rfl
  | 3, _ => by kernel_rfl
  | n + 4, h => absurd h (by omega)
end
end Go.Proofs.YtojlmpcbplepcaaGreat

/- Chapter 10: Accept: its formula, for the partner's call. -/
namespace Go.Proofs.YtojlmpcbplepcaaGreat
open Go Go.Eng
theorem ac_k4 (N : NC) (xs ac : List Int) (s : CD) (x : Int) : ∀ t : Nat, t < 4 → rfV N t 4 0 32 Tryz.f32 xs ac s (((t + 2) % 4 : Nat) : Int) x = bif rfCd N xs ac s (((t + 2) % 4 : Nat) : Int) x 4 0 then acW N xs ac s t (acR N xs ac x 2 xs s t) else none
  | 0, _ => by kernel_rfl
  | 1, _ => by kernel_rfl
  | 2, _ => by kernel_rfl
  | 3, _ => by kernel_rfl
  | n + 4, h => absurd h (by omega)
end Go.Proofs.YtojlmpcbplepcaaGreat

/- Chapter 10: Accept: its formula, for the call of the seat on the right. -/
namespace Go.Proofs.YtojlmpcbplepcaaGreat
open Go Go.Eng
theorem ac_k5 (N : NC) (xs ac : List Int) (s : CD) (x : Int) : ∀ t : Nat, t < 4 → rfV N t 5 0 32 Tryz.f32 xs ac s (((t + 3) % 4 : Nat) : Int) x = bif rfCd N xs ac s (((t + 3) % 4 : Nat) : Int) x 5 0 then acW N xs ac s t (acR N xs ac x 3 xs s t) else none
  | 0, _ => by kernel_rfl
  | 1, _ => by kernel_rfl
  | 2, _ => by kernel_rfl
  | 3, _ => by kernel_rfl
  | n + 4, h => absurd h (by omega)
end Go.Proofs.YtojlmpcbplepcaaGreat
