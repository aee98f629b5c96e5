/- Chapter 9: the law AuctionSmall: tables is true. -/
import Derived.Test.YtnhilofmafjdpaaDoorSm3
namespace Go.Proofs.YtnhilofmafjdpaaDoor
open Go Go.Eng
def blL : ByteArray := ⟨#[32, 32, 32, 32, 32, 32, 32, 32, 32, 32, 32, 32, 32, 32, 32, 32, 32, 32, 32, 32]⟩
def akL : ByteArray := ⟨#[63, 32, 32, 32, 32, 32, 32, 32, 32, 32, 32, 32, 32, 32, 32, 32, 32, 32, 32, 32]⟩
def dsL : ByteArray := ⟨#[45, 32, 32, 32, 32, 45, 32, 32, 32, 32, 45, 32, 32, 32, 32, 45, 32, 32, 32, 32]⟩
noncomputable def n2Lp : Code := loopOf 5 Tryd.f31
def n2X : Tm := ⟨mkS [(12, .gs 1), (13, .int .i64), (14, .int .i64)] 0 133, [.glob 0 strsT, .grow true 9 1 (.vs [.str, .str, .str, .str, .str, .str])], []⟩
noncomputable def tbG (X : SX) (C : C3T) (tl g : List ByteArray) (Z : RT) : RT :=
  bif pB (tl = textsL) && X.CT g then bif decide (g.length * 17 ≤ 70368744177664) then bif decide ((g ++ [blL]).length * 17 ≤ 70368744177664) then bif pB (tl = textsL) && X.CT (g ++ [blL]) then
  bif decide (0 ≤ (1 : Int) ∧ 1 ≤ Int.ofNat g.length ∧ Int.ofNat g.length ≤ Int.ofNat g.length) then bif decide (1 + ((Int.ofNat g.length).toNat - 1) ≤ g.length) then bif pB (tl = textsL) && X.CT (List.take ((Int.ofNat g.length).toNat - 1) (List.drop 1 g)) then
  bif decide (g.length * 17 ≤ 70368744177664) then bif decide ((g ++ [akL]).length * 17 ≤ 70368744177664) then bif pB (tl = textsL) && X.CT (g ++ [akL]) then cond (codesB [(m3Lp, m3Lp)]) (bif C (Int.ofNat g.length) 0 tl g then Z else none) none
  else none else none else none else none else none else none else none else none else none else none
theorem n2_round (X : SX) (C : C3T) (rd : Option Nat) (ii d c13 c14 : Int) (s a0 a1 a2 a3 a4 a5 : ByteArray) (tl : List ByteArray) : roundT Tryd.prog (orcSm X plainL) (m3L C) 100 1 rd 31 n2Lp m3X n2X [.i ii, .s s, .i d, .i c13, .i c14, .ss tl, .s a0, .s a1, .s a2, .s a3, .s a4, .s a5] =
    bif decide (d < 4) then bif pB (tl = textsL) && X.RK s then bif X.T.KR d (X.RV s) then tbG X C tl (X.T.K.N.BV d (X.RV s)) (some (.normal, [.i ii, .s s, .i (wr .u8 (d + 1)), .i c13, .i c14, .ss tl, .s a0, .s a1, .s a2, .s a3, .s a4, .s a5], [])) else none else none
    else some (.exit 2, [.i c13, .i c14, .ss tl, .s a0, .s a1, .s a2, .s a3, .s a4, .s a5], []) := by kernel_rfl
theorem tb_all : (raSix.all fun p => ([0, 1, 2, 3] : List Int).all fun d => kR d p.2 && (decide (1 ≤ (tblV (fol d p.2) d p.2).length ∧ (tblV (fol d p.2) d p.2).length ≤ 900) && shL (tblV (fol d p.2) d p.2))) = true := by kernel_rfl
theorem tbG_true {g : List ByteArray} (h1 : 1 ≤ g.length) (h2 : g.length ≤ 900) (hs : shL g = true) (Z : RT) : tbG sX c3B textsL g Z = Z := by
  have hC : ∀ l : List ByteArray, l.length ≤ 1000 → sX.CT l = true := fun l hl => decide_eq_true (by omega)
  have hof : Int.ofNat g.length = (g.length : Int) := rfl
  have hc : c3B (g.length : Int) 0 textsL g = true := by
    unfold c3B
    rw [decide_eq_true (show (0 : Int) = 0 ∧ (g.length : Int) = Int.ofNat g.length ∧ g.length ≤ 1000 from ⟨rfl, rfl, by omega⟩), hs, pB_iff.2 rfl]; rfl
  unfold tbG
  rw [pB_iff.2 rfl, hC g (by omega), hC (g ++ [blL]) (by rw [List.length_append, List.length_singleton]; omega), hC (g ++ [akL]) (by rw [List.length_append, List.length_singleton]; omega), hC (List.take ((Int.ofNat g.length).toNat - 1) (List.drop 1 g)) (by simp only [List.length_take, List.length_drop]; omega),
    decide_eq_true (show g.length * 17 ≤ 70368744177664 by omega), decide_eq_true (show (g ++ [blL]).length * 17 ≤ 70368744177664 by rw [List.length_append, List.length_singleton]; omega), decide_eq_true (show (g ++ [akL]).length * 17 ≤ 70368744177664 by rw [List.length_append, List.length_singleton]; omega), hof,
    decide_eq_true (show 0 ≤ (1 : Int) ∧ 1 ≤ (g.length : Int) ∧ (g.length : Int) ≤ (g.length : Int) from ⟨by omega, by omega, Int.le_refl _⟩), decide_eq_true (show 1 + ((g.length : Int).toNat - 1) ≤ g.length by omega), lpCd, hc]
  rfl
theorem n2_loop (rd : Option Nat) (ii c13 c14 : Int) (s a0 a1 a2 a3 a4 a5 : ByteArray) {v : List Int} (hs : raF raSix s = some v) : ∀ j : Nat, j ≤ 4 →
    SimC Tryd.prog 1 rd (.loop n2Lp) (m3X.at [.i ii, .s s, .i (j : Int), .i c13, .i c14, .ss textsL, .s a0, .s a1, .s a2, .s a3, .s a4, .s a5]) (.exit 2) (n2X.at [.i c13, .i c14, .ss textsL, .s a0, .s a1, .s a2, .s a3, .s a4, .s a5]) := by
  refine loop_of_rounds (C := orcSm sX plainL) (L := m3L c3B) (N := 100) (me := 31) (T := m3X) (T' := n2X) (orcSm_ok plainL_ok) mixed m3L_ok (by kernel_rfl) (by kernel_rfl) (X := Nat)
    (fun j => [.i ii, .s s, .i (j : Int), .i c13, .i c14, .ss textsL, .s a0, .s a1, .s a2, .s a3, .s a4, .s a5]) (fun j => j ≤ 4) (fun j => 4 - j) (fun _ => (.exit 2, [.i c13, .i c14, .ss textsL, .s a0, .s a1, .s a2, .s a3, .s a4, .s a5])) ?_
  intro j hj
  have h := n2_round sX c3B rd ii (j : Int) c13 c14 s a0 a1 a2 a3 a4 a5 textsL
  rcases Nat.lt_or_ge j 4 with hlt | hge
  · have hRK : sX.RK s = true := by show (raF raSix s).isSome = true; rw [hs]; rfl
    have hRV : sX.RV s = v := by show (raF raSix s).getD [] = v; rw [hs]; rfl
    have hm : (j : Int) ∈ ([0, 1, 2, 3] : List Int) := by
      rcases (show j = 0 ∨ j = 1 ∨ j = 2 ∨ j = 3 by omega) with h | h | h | h <;> subst h <;> decide
    have hall := List.all_eq_true.1 (List.all_eq_true.1 tb_all _ (raF_ok hs)) _ hm
    dsimp only at hall
    simp only [Bool.and_eq_true, decide_eq_true_eq] at hall
    obtain ⟨g1, ⟨g2, g3⟩, g4⟩ := hall
    rw [decide_eq_true (show (j : Int) < 4 by omega), cond_true, pB_iff.2 rfl, hRK, hRV, show sX.T.KR (j : Int) v = true from g1, show sX.T.K.N.BV (j : Int) v = tblV (fol (j : Int) v) (j : Int) v from rfl, tbG_true g2 g3 g4, wr_u8_id (n := (j : Int) + 1) (by omega)] at h
    exact ⟨_, _, _, h, codes0, .inl ⟨rfl, j + 1, rfl, by omega, by omega, rfl⟩⟩
  · rw [decide_eq_false (show ¬ (j : Int) < 4 by omega), cond_false] at h
    exact ⟨_, _, _, h, codes0, .inr ⟨by simp, rfl⟩⟩
abbrev D2T := Int → ByteArray → List ByteArray → Bool
noncomputable def d2B : D2T := fun d s tl => decide (d = 0) && ((raF raSix s).isSome && pB (tl = textsL))
noncomputable def n2Tree (C : D2T) : List PV → Fin
  | [.i _, .s s, .i d, .i c13, .i c14, .ss tl, .s a0, .s a1, .s a2, .s a3, .s a4, .s a5] => .br (C d s tl) (.leaf (.exit 2) (n2X.at [.i c13, .i c14, .ss tl, .s a0, .s a1, .s a2, .s a3, .s a4, .s a5])) .no
  | _ => .no
noncomputable def n2L (C : D2T) : Loops := sums (fun n => match n with | 5 => some (lsumF 1 m3X n2Lp (n2Tree C)) | _ => none)
theorem n2L_ok : loopsOk Tryd.prog (n2L d2B) := by
  intro n g hg
  simp only [n2L, sums] at hg
  split at hg
  · cases hg
    refine lsumF_ok (by kernel_rfl) (fun rd ps e1 st1 hq => ?_)
    unfold n2Tree at hq
    split at hq
    · rename_i ii s d c13 c14 tl a0 a1 a2 a3 a4 a5
      simp only [Fin.pick] at hq
      cases hc : d2B d s tl with
      | false => rw [hc] at hq; cases hq
      | true =>
        rw [hc, cond_true] at hq
        simp only [d2B, Bool.and_eq_true, decide_eq_true_eq, pB_iff] at hc
        obtain ⟨rfl, h1, rfl⟩ := hc
        obtain ⟨v, hv⟩ := Option.isSome_iff_exists.1 h1
        cases hq
        exact n2_loop rd ii c13 c14 s a0 a1 a2 a3 a4 a5 hv 0 (Nat.zero_le _)
    · cases hq
  · cases hg
noncomputable def tbF (X : SX) (C : D2T) : List ByteArray → Option V
  | [] => bif pB (textsL = textsL) && X.CT [] then bif pB (textsL = textsL) && X.CT [⟨#[]⟩] then bif pB (textsL = textsL) && X.CT [dsL, akL] then some (.bool true) else none else none else none
  | s :: r => cond (codesB [(n2Lp, n2Lp)]) (bif C 0 s textsL then tbF X C r else none) none
def tbQ : List ByteArray := [⟨#[80, 32, 49, 72, 32, 88]⟩, ⟨#[]⟩, ⟨#[80, 32, 80, 32, 80, 32, 80]⟩, ⟨#[49, 67, 32, 49, 68, 32, 49, 72, 32, 49, 83, 32, 49, 78, 84]⟩, ⟨#[55, 78, 84, 32, 80, 32, 80, 32, 80]⟩, ⟨#[49, 67, 32, 88, 32, 88, 88, 32, 80, 32, 80]⟩]
theorem tables_eval (X : SX) (C : D2T) : evalFn Tryd.prog (orcSm X plainL) (n2L C) 100 31 Tryd.f31 [] gH (fun v _ => some v) = tbF X C tbQ := by kernel_rfl
theorem tbF_true : ∀ l : List ByteArray, (∀ s ∈ l, (raF raSix s).isSome = true) → tbF sX d2B l = some (.bool true)
  | [], _ => by
    unfold tbF
    rw [pB_iff.2 rfl, show sX.CT [] = true from rfl, show sX.CT [⟨#[]⟩] = true from rfl, show sX.CT [dsL, akL] = true from rfl]
    rfl
  | s :: r, h => by
    have hc : d2B 0 s textsL = true := by unfold d2B; rw [h s (by simp), pB_iff.2 rfl]; rfl
    unfold tbF
    rw [lpCd, hc, cond_true, tbF_true r fun x hx => h x (by simp [hx])]; rfl
theorem tables_true : evalFn Tryd.prog (orcSm sX plainL) (n2L d2B) 100 31 Tryd.f31 [] gH (fun v _ => some v) = some (.bool true) := by
  rw [tables_eval, tbF_true tbQ (by decide)]
theorem tables_fn : FnOK Tryd.prog 31 [] gH (.bool true) gH := by
  obtain ⟨v1, e1, hk, hok⟩ := evalFn_ok (orcSm_ok plainL_ok) mixed Tryd.func31 n2L_ok tables_true
  cases hk
  exact hok.plain rfl gH_ro
end Go.Proofs.YtnhilofmafjdpaaDoor
