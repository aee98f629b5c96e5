/- Chapter 9: Legal for every list. -/
import Derived.Test.YtojlmpcbplepcaaLst
import Derived.Test.YtojlmpcbplepcaaEng4
namespace Go.Proofs.Ytojlmpcbplepcaa
open Go Go.Eng
def calls38 : List Int := (List.range 38).map fun (n : Nat) => (n : Int)
/-- The calls that are legal in a state. -/
def lgl (s : St) : List Int := calls38.filter fun c => decide (chk s c = 0)
theorem c38_len : calls38.length = 38 := rfl
theorem c38_get {i : Nat} (h : i < 38) : calls38[i]'(by rw [c38_len]; exact h) = (i : Int) := by simp [calls38]
theorem le_loop (nn : Bool) (rd : Option Nat) (xs : List Int) (s : St) : ∀ x : Nat × List Int, (x.1 ≤ 38 ∧ x.2.length ≤ x.1) →
    SimC Try.prog 1 rd (.loop leLp) ((leT nn).at (.i (x.1 : Int) :: .l xs :: s.pv [.l x.2])) (.exit 0) ((leX nn).at [.l xs, .l (x.2 ++ (calls38.drop x.1).filter fun c => decide (chk s c = 0))]) := by
  refine loop_of_rounds (C := orcE (tabO chk ovr) plainL) (L := noLoops) (N := 100) (me := 30) (T := leT nn) (T' := leX nn) (orcE_ok tabO_ok plainL_ok) mixed noLoops_ok (by cases nn <;> kernel_rfl) (by cases nn <;> kernel_rfl) (X := Nat × List Int)
    (fun x => .i (x.1 : Int) :: .l xs :: s.pv [.l x.2]) (fun x => x.1 ≤ 38 ∧ x.2.length ≤ x.1) (fun x => 38 - x.1) (fun x => (.exit 0, [.l xs, .l (x.2 ++ (calls38.drop x.1).filter fun c => decide (chk s c = 0))])) ?_
  rintro ⟨i, ys⟩ ⟨hi, hy⟩
  dsimp only at hi hy ⊢
  have h := le_round chk ovr nn rd (i : Int) s xs ys
  rcases Nat.lt_or_ge i 38 with hlt | hge
  · have hw : wr .u8 ((i : Int) + 1) = ((i + 1 : Nat) : Int) := by rw [wr_u8_id (by omega)]; omega
    rw [decide_eq_true (show (i : Int) ≤ 37 by omega), cond_true, hw, decide_eq_true (show (ys ++ [(i : Int)]).length * 2 ≤ 70368744177664 by rw [List.length_append, List.length_singleton]; omega), cond_true] at h
    rw [List.drop_eq_getElem_cons (show i < calls38.length from hlt), List.filter_cons, c38_get hlt]
    by_cases hb : chk s (i : Int) = 0
    · rw [decide_eq_true hb, cond_true] at h
      refine ⟨_, _, _, h, codes0, .inl ⟨rfl, (i + 1, ys ++ [(i : Int)]), rfl, ⟨by dsimp only; omega, by dsimp only; rw [List.length_append, List.length_singleton]; omega⟩, by dsimp only; omega, ?_⟩⟩
      dsimp only
      rw [if_pos (decide_eq_true hb), List.append_assoc]; rfl
    · rw [decide_eq_false hb, cond_false] at h
      refine ⟨_, _, _, h, codes0, .inl ⟨rfl, (i + 1, ys), rfl, ⟨by dsimp only; omega, by dsimp only; omega⟩, by dsimp only; omega, ?_⟩⟩
      dsimp only
      rw [if_neg (by rw [decide_eq_false hb]; simp)]
  · rw [decide_eq_false (show ¬ (i : Int) ≤ 37 by omega), cond_false] at h
    refine ⟨_, _, _, h, codes0, .inr ⟨by simp, ?_⟩⟩
    rw [List.drop_eq_nil_of_le (by rw [c38_len]; omega), List.filter_nil, List.append_nil]
noncomputable def leTree (LG : St → List Int) (nn : Bool) : List PV → Fin
  | .i c :: .l xs :: ps => match stP ps with
    | some (s, [.l ys]) => .br (decide (c = 0 ∧ ys.length = 0)) (.leaf (.exit 0) ((leX nn).at [.l xs, .l (LG s)])) .no
    | _ => .no
  | _ => .no
noncomputable def leL (LG : St → List Int) (nn : Bool) : Loops := sums (fun n => match n with | 8 => some (lsumF 1 (leT nn) leLp (leTree LG nn)) | _ => none)
theorem leL_ok (nn : Bool) : loopsOk Try.prog (leL lgl nn) := by
  intro n g hg
  simp only [leL, sums] at hg
  split at hg
  · cases hg
    refine lsumF_ok (by cases nn <;> kernel_rfl) (fun rd ps e1 st1 hq => ?_)
    unfold leTree at hq
    split at hq
    · rename_i c xs ps
      split at hq
      · rename_i s ys hs
        rw [stP_ok hs]
        simp only [Fin.pick] at hq
        cases hc : decide (c = 0 ∧ ys.length = 0) with
        | false => rw [hc] at hq; cases hq
        | true =>
          rw [hc, cond_true] at hq
          simp only [decide_eq_true_eq] at hc
          obtain ⟨rfl, h1⟩ := hc
          obtain rfl := List.eq_nil_of_length_eq_zero h1
          cases hq
          exact le_loop nn rd xs s (0, []) ⟨Nat.zero_le _, Nat.le_refl _⟩
      · cases hq
    · cases hq
  · cases hg
def keepX (v : V) (h : List Blk) : Option (V × Option (Bool × TypeId × Nat × Row)) := match v with
  | .tuple [.gs b, w] => match getB h b with
    | .grow nn ty sz row => some (.tuple [.gs b, w], some (nn, ty, sz, row))
    | _ => none
  | v => some (v, none)
theorem legal_eval (F : Int → List Int → FR) (CH : St → Int → Int) (OV : St → Bool) (LG : St → List Int) (nn : Bool) (d : Int) (xs : List Int) : evalFn Try.prog (orc1 (tabO CH OV) F plainL) (leL LG nn) 100 30 Try.f30 [.int .u8 d, .gs 0] [.rs nn 1 (.ints .u8 xs)] keepX =
    bif okA d xs then bif !decide ((F d xs).e = 0) then some (.tuple [.flat (.slice none 0 0), .int .i64 2], none) else bif OV (F d xs).s then some (.tuple [.flat (.slice none 0 0), .int .i64 90], none) else
      cond (codesB [(leLp, leLp)]) (bif decide ((0 : Int) = 0 ∧ ([] : List Int).length = 0) then some (.tuple [.gs 2, .int .i64 0], some (false, 5, 1, .ints .u8 (LG (F d xs).s))) else none) none else none := by cases nn <;> kernel_rfl
def legE (F : FR) : Int := bif decide (F.e = 0) then (bif ovr F.s then 90 else 0) else 2
def legV (F : FR) : List Int := bif decide (F.e = 0) then (bif ovr F.s then [] else lgl F.s) else []
theorem leCd : codesB [(leLp, leLp)] = true := by rw [codesB_iff]; intro x hx; simp at hx; rw [hx]
theorem legal_fn (nn : Bool) {d : Int} {xs : List Int} (h : okA d xs = true) : FnOK Try.prog 30 [.int .u8 d, .gs 0] [.rs nn 1 (.ints .u8 xs)] (.tuple [.gs 1, .int .i64 (legE (fol d xs))]) ([.rs nn 1 (.ints .u8 xs)] ++ [.grow false 5 1 (.ints .u8 (legV (fol d xs)))]) := by
  have key := legal_eval fol chk ovr lgl nn d xs
  rw [h, cond_true] at key
  unfold legE legV
  cases he : decide ((fol d xs).e = 0) with
  | false =>
    rw [he] at key
    obtain ⟨v1, h1, hk, hok⟩ := evalFn_ok (orc1_ok tabO_ok plainL_ok) mixed Try.func30 (leL_ok nn) key
    unfold keepX at hk
    split at hk
    · split at hk
      · cases hk
      · cases hk
    · cases hk
      exact hok.nilT rs_ro
  | true =>
    rw [he] at key
    cases ho : ovr (fol d xs).s with
    | true =>
      rw [ho] at key
      obtain ⟨v1, h1, hk, hok⟩ := evalFn_ok (orc1_ok tabO_ok plainL_ok) mixed Try.func30 (leL_ok nn) key
      unfold keepX at hk
      split at hk
      · split at hk
        · cases hk
        · cases hk
      · cases hk
        exact hok.nilT rs_ro
    | false =>
      rw [ho, leCd] at key
      obtain ⟨v1, h1, hk, hok⟩ := evalFn_ok (orc1_ok tabO_ok plainL_ok) mixed Try.func30 (leL_ok nn) key
      unfold keepX at hk
      split at hk
      · split at hk
        · rename_i b w nn ty sz row hb
          simp only [Option.some.injEq, Prod.mk.injEq, V.tuple.injEq, List.cons.injEq, V.gs.injEq, and_true] at hk
          obtain ⟨⟨rfl, rfl⟩, rfl, rfl, rfl, rfl⟩ := hk
          exact hok.lastAtT (getB_some hb (by simp)) rfl rs_ro
        · cases hk
      · cases hk
end Go.Proofs.Ytojlmpcbplepcaa
