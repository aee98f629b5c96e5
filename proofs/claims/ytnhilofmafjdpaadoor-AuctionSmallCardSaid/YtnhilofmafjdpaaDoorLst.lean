/- Texts merged: Lst, Lst2, Leg. -/
import Derived.Test.YtnhilofmafjdpaaDoorCtr2
import Derived.Test.YtnhilofmafjdpaaDoorEng4
/- Chapter 9: Last, Legal: their loops. -/
namespace Go.Proofs.YtnhilofmafjdpaaDoor
open Go Go.Eng
def u8s : TR := .ints .u8
noncomputable def laLp : Code := loopOf 2 Tryd.f21
def laT (nn : Bool) : Tm := ⟨mkS [(0, .gs 0), (2, .int .i64), (3, .bool), (4, .int .i64)] 0 26, [.rs nn 1 u8s], []⟩
def laX (nn : Bool) : Tm := ⟨mkS [(2, .int .i64), (3, .bool)] 0 26, [.rs nn 1 u8s], []⟩
noncomputable def leLp : Code := loopOf 8 Tryd.f23
def leT (nn : Bool) : Tm := ⟨mkS [(6, .ptr 1 0), (9, .gs 2), (10, .int .u8)] 0 35, [.rs nn 1 u8s, .own 70 (.vs tvS), .grow false 5 1 u8s], []⟩
def leX (nn : Bool) : Tm := ⟨mkS [(9, .gs 2)] 0 35, [.rs nn 1 u8s, .dead, .grow false 5 1 u8s], []⟩
end Go.Proofs.YtnhilofmafjdpaaDoor

/- Chapter 9: Last, Legal: one round. -/
namespace Go.Proofs.YtnhilofmafjdpaaDoor
open Go Go.Eng
theorem la_round (CH : St → Int → Int) (OV : St → Bool) (nn : Bool) (rd : Option Nat) (z i : Int) (b : Bool) (xs : List Int) : roundT Tryd.prog (orcE (tabO CH OV) plainL) noLoops 100 1 rd 21 laLp (laT nn) (laX nn) [.i z, .b b, .i i, .l xs] =
    bif decide (0 ≤ i) then atU xs i (fun c => bif isBid c then some (.ret, [.i i, .b true, .l xs], []) else some (.normal, [.i z, .b b, .i (wr .i64 (i - 1)), .l xs], [])) else some (.exit 0, [.i z, .b b, .l xs], []) := by cases nn <;> kernel_rfl
theorem le_round (CH : St → Int → Int) (OV : St → Bool) (nn : Bool) (rd : Option Nat) (c : Int) (s : St) (xs ys : List Int) : roundT Tryd.prog (orcE (tabO CH OV) plainL) noLoops 100 1 rd 23 leLp (leT nn) (leX nn) (.i c :: .l xs :: s.pv [.l ys]) =
    bif decide (c ≤ 37) then bif decide (CH s c = 0) then bif decide ((ys ++ [c]).length * 2 ≤ 70368744177664) then some (.normal, .i (wr .u8 (c + 1)) :: .l xs :: s.pv [.l (ys ++ [c])], []) else none else some (.normal, .i (wr .u8 (c + 1)) :: .l xs :: s.pv [.l ys], []) else some (.exit 0, [.l xs, .l ys], []) := by cases nn <;> kernel_rfl
theorem atU_at {α : Type} {l : List Int} {i : Nat} (h : i < l.length) {K : Int → Option α} : atU l (i : Int) K = K l[i] := by
  unfold atU
  rw [decide_eq_true (show 0 ≤ (i : Int) ∧ (i : Int) < Int.ofNat l.length from ⟨by omega, by show (i : Int) < (l.length : Int); omega⟩), cond_true, show ((i : Int)).toNat = i from rfl, List.getElem?_eq_getElem h]
/-! ### Last -/
def lastN (xs : List Int) : Nat → Int × Bool
  | 0 => (0, false)
  | n + 1 => bif isBid (xs.getD n 0) then ((n : Int), true) else lastN xs n
def laFin (xs : List Int) : Nat → XE × List PV
  | 0 => (.exit 0, [.i 0, .b false, .l xs])
  | n + 1 => bif isBid (xs.getD n 0) then (.ret, [.i (n : Int), .b true, .l xs]) else laFin xs n
theorem laFin_is (xs : List Int) : ∀ n, laFin xs n = (if (lastN xs n).2 = true then .ret else .exit 0, [.i (lastN xs n).1, .b (lastN xs n).2, .l xs])
  | 0 => rfl
  | n + 1 => by
    unfold laFin lastN
    cases isBid (xs.getD n 0) with
    | true => rfl
    | false => exact laFin_is xs n
theorem la_loop (nn : Bool) (rd : Option Nat) (xs : List Int) (hl : xs.length ≤ 9223372036854775806) : ∀ n : Nat, n ≤ xs.length →
    SimC Tryd.prog 1 rd (.loop laLp) ((laT nn).at [.i 0, .b false, .i ((n : Int) - 1), .l xs]) (laFin xs n).1 ((laX nn).at (laFin xs n).2) := by
  refine loop_of_rounds (C := orcE (tabO chk ovr) plainL) (L := noLoops) (N := 100) (me := 21) (T := laT nn) (T' := laX nn) (orcE_ok tabO_ok plainL_ok) mixed noLoops_ok (by cases nn <;> kernel_rfl) (by cases nn <;> kernel_rfl) (X := Nat)
    (fun n => [.i 0, .b false, .i ((n : Int) - 1), .l xs]) (fun n => n ≤ xs.length) (fun n => n) (fun n => laFin xs n) ?_
  intro n hn
  have h := la_round chk ovr nn rd 0 ((n : Int) - 1) false xs
  cases n with
  | zero =>
    rw [decide_eq_false (show ¬ (0 : Int) ≤ ((0 : Nat) : Int) - 1 by omega), cond_false] at h
    exact ⟨_, _, _, h, codes0, .inr ⟨by simp, rfl⟩⟩
  | succ n =>
    have hlt : n < xs.length := by omega
    rw [show ((n + 1 : Nat) : Int) - 1 = (n : Int) by omega, decide_eq_true (show (0 : Int) ≤ (n : Int) by omega), cond_true, atU_at hlt, wr64 (by omega) (by omega)] at h
    have hg : xs.getD n 0 = xs[n] := by rw [List.getD_eq_getElem?_getD, List.getElem?_eq_getElem hlt]; rfl
    simp only [laFin, hg]
    cases hb : isBid xs[n] with
    | true =>
      rw [hb, cond_true] at h
      refine ⟨_, _, _, by rw [show ((n + 1 : Nat) : Int) - 1 = (n : Int) by omega]; exact h, codes0, .inr ⟨by simp, rfl⟩⟩
    | false =>
      rw [hb, cond_false] at h
      refine ⟨_, _, _, by rw [show ((n + 1 : Nat) : Int) - 1 = (n : Int) by omega]; exact h, codes0, .inl ⟨rfl, n, rfl, by omega, by omega, rfl⟩⟩
noncomputable def laTree (LN : List Int → Nat → Int × Bool) (nn : Bool) : List PV → Fin
  | [.i z, .b b, .i i, .l xs] => .br (decide (z = 0 ∧ b = false ∧ i = Int.ofNat xs.length - 1 ∧ xs.length ≤ 9223372036854775806)) (.br (LN xs xs.length).2 (.leaf .ret ((laX nn).at [.i (LN xs xs.length).1, .b true, .l xs])) (.leaf (.exit 0) ((laX nn).at [.i (LN xs xs.length).1, .b false, .l xs]))) .no
  | _ => .no
noncomputable def laL (LN : List Int → Nat → Int × Bool) (nn : Bool) : Loops := sums (fun n => match n with | 2 => some (lsumF 1 (laT nn) laLp (laTree LN nn)) | _ => none)
theorem laL_ok (nn : Bool) : loopsOk Tryd.prog (laL lastN nn) := by
  intro n g hg
  simp only [laL, sums] at hg
  split at hg
  · cases hg
    refine lsumF_ok (by cases nn <;> kernel_rfl) (fun rd ps e1 st1 hq => ?_)
    unfold laTree at hq
    split at hq
    · rename_i z b i xs
      simp only [Fin.pick] at hq
      cases hc : decide (z = 0 ∧ b = false ∧ i = Int.ofNat xs.length - 1 ∧ xs.length ≤ 9223372036854775806) with
      | false => rw [hc] at hq; cases hq
      | true =>
        rw [hc, cond_true] at hq
        simp only [decide_eq_true_eq] at hc
        obtain ⟨rfl, rfl, rfl, h1⟩ := hc
        have := la_loop nn rd xs h1 xs.length (Nat.le_refl _)
        rw [laFin_is] at this
        cases hr : (lastN xs xs.length).2 with
        | true => rw [hr] at hq this; cases hq; exact this
        | false => rw [hr] at hq this; cases hq; exact this
    · cases hq
  · cases hg
theorem last_eval (LN : List Int → Nat → Int × Bool) (nn : Bool) (xs : List Int) : evalFn Tryd.prog (orcE emptyTab plainL) (laL LN nn) 100 21 Tryd.f21 [.gs 0] [.rs nn 1 (.ints .u8 xs)] (fun v _ => some v) =
    cond (codesB [(laLp, laLp)]) (bif decide ((0 : Int) = 0 ∧ false = false ∧ wr .i64 (Int.ofNat xs.length - 1) = Int.ofNat xs.length - 1 ∧ xs.length ≤ 9223372036854775806) then bif (LN xs xs.length).2 then some (.tuple [.int .i64 (LN xs xs.length).1, .bool true]) else some (.tuple [.int .i64 0, .bool false]) else none) none := by cases nn <;> kernel_rfl
theorem last_no (xs : List Int) : ∀ n, (lastN xs n).2 = false → (lastN xs n).1 = 0
  | 0, _ => rfl
  | n + 1, h => by
    unfold lastN at h ⊢
    cases hb : isBid (xs.getD n 0) with
    | true => rw [hb] at h; cases h
    | false => rw [hb] at h; exact last_no xs n h
def lastV (xs : List Int) : V := .tuple [.int .i64 (lastN xs xs.length).1, .bool (lastN xs xs.length).2]
theorem laCd : codesB [(laLp, laLp)] = true := by rw [codesB_iff]; intro x hx; simp at hx; rw [hx]
theorem last_fn (nn : Bool) {xs : List Int} (h : smallL xs = true) : FnOK Tryd.prog 21 [.gs 0] [.rs nn 1 (.ints .u8 xs)] (lastV xs) [.rs nn 1 (.ints .u8 xs)] := by
  simp only [smallL, decide_eq_true_eq] at h
  have e : wr .i64 (Int.ofNat xs.length - 1) = Int.ofNat xs.length - 1 := wr64 (by have : (0 : Int) ≤ Int.ofNat xs.length := Int.natCast_nonneg _; omega) (by have : Int.ofNat xs.length = (xs.length : Int) := rfl; omega)
  have hev := last_eval lastN nn xs
  rw [laCd, decide_eq_true (show (0 : Int) = 0 ∧ false = false ∧ wr .i64 (Int.ofNat xs.length - 1) = Int.ofNat xs.length - 1 ∧ xs.length ≤ 9223372036854775806 from ⟨rfl, rfl, e, h⟩), cond_true, cond_true] at hev
  have hv : evalFn Tryd.prog (orcE emptyTab plainL) (laL lastN nn) 100 21 Tryd.f21 [.gs 0] [.rs nn 1 (.ints .u8 xs)] (fun v _ => some v) = some (lastV xs) := by
    rw [hev]; unfold lastV
    cases hb : (lastN xs xs.length).2 with
    | true => rfl
    | false => rw [last_no xs _ hb]; rfl
  obtain ⟨v1, h1, hk, hok⟩ := evalFn_ok (orcE_ok emptyTab_ok plainL_ok) mixed Tryd.func21 (laL_ok nn) hv
  cases hk
  exact hok.plain rfl rs_ro
end Go.Proofs.YtnhilofmafjdpaaDoor

/- Chapter 9: Legal for every list. -/
namespace Go.Proofs.YtnhilofmafjdpaaDoor
open Go Go.Eng
def calls38 : List Int := (List.range 38).map fun (n : Nat) => (n : Int)
/-- The calls that are legal in a state. -/
def lgl (s : St) : List Int := calls38.filter fun c => decide (chk s c = 0)
theorem c38_len : calls38.length = 38 := rfl
theorem c38_get {i : Nat} (h : i < 38) : calls38[i]'(by rw [c38_len]; exact h) = (i : Int) := by simp [calls38]
theorem le_loop (nn : Bool) (rd : Option Nat) (xs : List Int) (s : St) : ∀ x : Nat × List Int, (x.1 ≤ 38 ∧ x.2.length ≤ x.1) →
    SimC Tryd.prog 1 rd (.loop leLp) ((leT nn).at (.i (x.1 : Int) :: .l xs :: s.pv [.l x.2])) (.exit 0) ((leX nn).at [.l xs, .l (x.2 ++ (calls38.drop x.1).filter fun c => decide (chk s c = 0))]) := by
  refine loop_of_rounds (C := orcE (tabO chk ovr) plainL) (L := noLoops) (N := 100) (me := 23) (T := leT nn) (T' := leX nn) (orcE_ok tabO_ok plainL_ok) mixed noLoops_ok (by cases nn <;> kernel_rfl) (by cases nn <;> kernel_rfl) (X := Nat × List Int)
    (fun x => .i (x.1 : Int) :: .l xs :: s.pv [.l x.2]) (fun x => x.1 ≤ 38 ∧ x.2.length ≤ x.1) (fun x => 38 - x.1) (fun x => (.exit 0, [.l xs, .l (x.2 ++ (calls38.drop x.1).filter fun c => decide (chk s c = 0))])) ?_
  rintro ⟨i, ys⟩ ⟨hi, hy⟩
  dsimp only at hi hy ⊢
  have h := le_round chk ovr nn rd (i : Int) s xs ys
  rcases Nat.lt_or_ge i 38 with hlt | hge
  · have hw : wr .u8 ((i : Int) + 1) = ((i + 1 : Nat) : Int) := by rw [wr_u8_id (by omega)]; omega
    rw [decide_eq_true (show (i : Int) ≤ 37 by omega), cond_true, hw, decide_eq_true (show (ys ++ [(i : Int)]).length * 2 ≤ 70368744177664 by rw [List.length_append, List.length_singleton]; omega), cond_true] at h
    rw [List.drop_eq_getElem_cons (show i < calls38.length from hlt), List.filter_cons, c38_get hlt]
    by_cases hb : chk s (i : Int) = 0
    · rw [decide_eq_true hb, cond_true] at h
      refine ⟨_, _, _, h, codes0, .inl ⟨rfl, (i + 1, ys ++ [(i : Int)]), rfl, ⟨by dsimp only; omega, by dsimp only; rw [List.length_append, List.length_singleton]; omega⟩, by dsimp only; omega, ?_⟩⟩
      dsimp only
      rw [if_pos (decide_eq_true hb), List.append_assoc]; rfl
    · rw [decide_eq_false hb, cond_false] at h
      refine ⟨_, _, _, h, codes0, .inl ⟨rfl, (i + 1, ys), rfl, ⟨by dsimp only; omega, by dsimp only; omega⟩, by dsimp only; omega, ?_⟩⟩
      dsimp only
      rw [if_neg (by rw [decide_eq_false hb]; simp)]
  · rw [decide_eq_false (show ¬ (i : Int) ≤ 37 by omega), cond_false] at h
    refine ⟨_, _, _, h, codes0, .inr ⟨by simp, ?_⟩⟩
    rw [List.drop_eq_nil_of_le (by rw [c38_len]; omega), List.filter_nil, List.append_nil]
noncomputable def leTree (LG : St → List Int) (nn : Bool) : List PV → Fin
  | .i c :: .l xs :: ps => match stP ps with
    | some (s, [.l ys]) => .br (decide (c = 0 ∧ ys.length = 0)) (.leaf (.exit 0) ((leX nn).at [.l xs, .l (LG s)])) .no
    | _ => .no
  | _ => .no
noncomputable def leL (LG : St → List Int) (nn : Bool) : Loops := sums (fun n => match n with | 8 => some (lsumF 1 (leT nn) leLp (leTree LG nn)) | _ => none)
theorem leL_ok (nn : Bool) : loopsOk Tryd.prog (leL lgl nn) := by
  intro n g hg
  simp only [leL, sums] at hg
  split at hg
  · cases hg
    refine lsumF_ok (by cases nn <;> kernel_rfl) (fun rd ps e1 st1 hq => ?_)
    unfold leTree at hq
    split at hq
    · rename_i c xs ps
      split at hq
      · rename_i s ys hs
        rw [stP_ok hs]
        simp only [Fin.pick] at hq
        cases hc : decide (c = 0 ∧ ys.length = 0) with
        | false => rw [hc] at hq; cases hq
        | true =>
          rw [hc, cond_true] at hq
          simp only [decide_eq_true_eq] at hc
          obtain ⟨rfl, h1⟩ := hc
          obtain rfl := List.eq_nil_of_length_eq_zero h1
          cases hq
          exact le_loop nn rd xs s (0, []) ⟨Nat.zero_le _, Nat.le_refl _⟩
      · cases hq
    · cases hq
  · cases hg
def keepX (v : V) (h : List Blk) : Option (V × Option (Bool × TypeId × Nat × Row)) := match v with
  | .tuple [.gs b, w] => match getB h b with
    | .grow nn ty sz row => some (.tuple [.gs b, w], some (nn, ty, sz, row))
    | _ => none
  | v => some (v, none)
theorem legal_eval (F : Int → List Int → FR) (CH : St → Int → Int) (OV : St → Bool) (LG : St → List Int) (nn : Bool) (d : Int) (xs : List Int) : evalFn Tryd.prog (orc1 (tabO CH OV) F plainL) (leL LG nn) 100 23 Tryd.f23 [.int .u8 d, .gs 0] [.rs nn 1 (.ints .u8 xs)] keepX =
    bif okA d xs then bif !decide ((F d xs).e = 0) then some (.tuple [.flat (.slice none 0 0), .int .i64 2], none) else bif OV (F d xs).s then some (.tuple [.flat (.slice none 0 0), .int .i64 90], none) else
      cond (codesB [(leLp, leLp)]) (bif decide ((0 : Int) = 0 ∧ ([] : List Int).length = 0) then some (.tuple [.gs 2, .int .i64 0], some (false, 5, 1, .ints .u8 (LG (F d xs).s))) else none) none else none := by cases nn <;> kernel_rfl
def legE (F : FR) : Int := bif decide (F.e = 0) then (bif ovr F.s then 90 else 0) else 2
def legV (F : FR) : List Int := bif decide (F.e = 0) then (bif ovr F.s then [] else lgl F.s) else []
theorem leCd : codesB [(leLp, leLp)] = true := by rw [codesB_iff]; intro x hx; simp at hx; rw [hx]
theorem legal_fn (nn : Bool) {d : Int} {xs : List Int} (h : okA d xs = true) : FnOK Tryd.prog 23 [.int .u8 d, .gs 0] [.rs nn 1 (.ints .u8 xs)] (.tuple [.gs 1, .int .i64 (legE (fol d xs))]) ([.rs nn 1 (.ints .u8 xs)] ++ [.grow false 5 1 (.ints .u8 (legV (fol d xs)))]) := by
  have key := legal_eval fol chk ovr lgl nn d xs
  rw [h, cond_true] at key
  unfold legE legV
  cases he : decide ((fol d xs).e = 0) with
  | false =>
    rw [he] at key
    obtain ⟨v1, h1, hk, hok⟩ := evalFn_ok (orc1_ok tabO_ok plainL_ok) mixed Tryd.func23 (leL_ok nn) key
    unfold keepX at hk
    split at hk
    · split at hk
      · cases hk
      · cases hk
    · cases hk
      exact hok.nilT rs_ro
  | true =>
    rw [he] at key
    cases ho : ovr (fol d xs).s with
    | true =>
      rw [ho] at key
      obtain ⟨v1, h1, hk, hok⟩ := evalFn_ok (orc1_ok tabO_ok plainL_ok) mixed Tryd.func23 (leL_ok nn) key
      unfold keepX at hk
      split at hk
      · split at hk
        · cases hk
        · cases hk
      · cases hk
        exact hok.nilT rs_ro
    | false =>
      rw [ho, leCd] at key
      obtain ⟨v1, h1, hk, hok⟩ := evalFn_ok (orc1_ok tabO_ok plainL_ok) mixed Tryd.func23 (leL_ok nn) key
      unfold keepX at hk
      split at hk
      · split at hk
        · rename_i b w nn ty sz row hb
          simp only [Option.some.injEq, Prod.mk.injEq, V.tuple.injEq, List.cons.injEq, V.gs.injEq, and_true] at hk
          obtain ⟨⟨rfl, rfl⟩, rfl, rfl, rfl, rfl⟩ := hk
          exact hok.lastAtT (getB_some hb (by simp)) rfl rs_ro
        · cases hk
      · cases hk
end Go.Proofs.YtnhilofmafjdpaaDoor
