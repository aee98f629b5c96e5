/- Chapter 9: Leader, by the program and by the reference; the law AuctionLeader. -/
import Derived.Test.YtnhilofmafjdpaaDoorAw
namespace Go.Proofs.YtnhilofmafjdpaaDoor
open Go Go.Eng
def ldN (a b c d : Int) : Bool := decide (7 < a) || (decide (4 < b) || (decide (2 < c) || decide (3 < d)))
def ldE (a b c d : Int) : Int := bif decide (a = 0) then 6 else bif ldN a b c d then 2 else 0
def ldV (a b c d : Int) : Int := bif decide (a = 0) || ldN a b c d then 0 else (d + 1).tmod 4
def ctA (a b c d : Int) : V := .agg [.int .u8 a, .int .u8 b, .int .u8 c, .int .u8 d]
noncomputable def ldF (v e : Int) : Option V := some (.tuple [.int .u8 v, .int .i64 e])
noncomputable def ldX (a b c d z : Int) : Option V := bif decide (a = 0) then ldF 0 6 else bif decide (7 < a) then ldF 0 2 else bif decide (4 < b) then ldF 0 2 else bif decide (2 < c) then ldF 0 2 else bif decide (3 < d) then ldF 0 2 else ldF z 0
theorem leader_eval (a b c d : Int) : evalP emptyTab 27 Tryd.f27 [ctA a b c d] = ldX a b c d ((wr .u8 (d + 1)).tmod 4) := by kernel_rfl
theorem rleader_eval (a b c d : Int) : evalP emptyTab 32 Tryd.f32 [ctA a b c d] = ldX a b c d (wr .u8 ((wr .i64 (wr .i64 d + 1)).tmod 4)) := by kernel_rfl
theorem ldX_is (a b c d : Int) {z : Int} (h : d ≤ 3 → z = (d + 1).tmod 4) : ldX a b c d z = some (.tuple [.int .u8 (ldV a b c d), .int .i64 (ldE a b c d)]) := by
  unfold ldX ldV ldE ldN ldF
  by_cases hd : 3 < d
  · rw [decide_eq_true hd]
    cases decide (a = 0) <;> cases decide (7 < a) <;> cases decide (4 < b) <;> cases decide (2 < c) <;> rfl
  · rw [decide_eq_false hd, h (by omega)]
    cases decide (a = 0) <;> cases decide (7 < a) <;> cases decide (4 < b) <;> cases decide (2 < c) <;> rfl
theorem leader_p (a b c : Int) {d : Int} (h0 : 0 ≤ d) : FnPure Tryd.prog 27 [ctA a b c d] (.tuple [.int .u8 (ldV a b c d), .int .i64 (ldE a b c d)]) :=
  pure_at emptyTab_ok Tryd.func27 (by kernel_rfl) (by rw [leader_eval, ldX_is]; intro h; rw [wr_u8_id (by omega)]) rfl rfl
theorem rleader_p (a b c : Int) {d : Int} (h0 : 0 ≤ d) : FnPure Tryd.prog 32 [ctA a b c d] (.tuple [.int .u8 (ldV a b c d), .int .i64 (ldE a b c d)]) :=
  pure_at emptyTab_ok Tryd.func32 (by kernel_rfl) (by
    rw [rleader_eval, ldX_is]; intro h
    rw [wr64 (n := d) (by omega) (by omega), wr64 (by omega) (by omega), wr_u8_id]
    rw [Int.tmod_eq_emod_of_nonneg (by omega)]; omega) rfl rfl
def gLead (LV LE : Int → Int → Int → Int → Int) : List V → Option (Bool × V)
  | [.agg [.int .u8 a, .int .u8 b, .int .u8 c, .int .u8 d]] => some (decide (0 ≤ d), .tuple [.int .u8 (LV a b c d), .int .i64 (LE a b c d)])
  | _ => none
def tabLd (LV LE : Int → Int → Int → Int → Int) (T : PTab) : PTab := addTab 27 (gLead LV LE) (addTab 32 (gLead LV LE) T)
theorem tabLd_ok {T : PTab} (hT : PTabOk Tryd.prog T) : PTabOk Tryd.prog (tabLd ldV ldE T) := by
  refine addTab_ok ?_ (addTab_ok ?_ hT)
  · intro args c v h hc
    unfold gLead at h
    split at h
    · cases h; exact leader_p _ _ _ (of_decide_eq_true hc)
    · cases h
  · intro args c v h hc
    unfold gLead at h
    split at h
    · cases h; exact rleader_p _ _ _ (of_decide_eq_true hc)
    · cases h
theorem auctionLeader_eval (N : NA) (LV LE : Int → Int → Int → Int → Int) (a b c d : Int) : evalFn Tryd.prog (orcA N (tabLd LV LE emptyTab) plainL) noLoops 100 3 Tryd.f3 [ctA a b c d] gH (fun v _ => some v) =
    bif decide (0 ≤ d) then bif decide (0 ≤ d) then bif decide (LV a b c d = LV a b c d) then bif decide (LE a b c d = LE a b c d) then bif pB (textsL = textsL) then some (.bool true) else none else some (.bool false) else some (.bool false) else none else none := by kernel_rfl
theorem auctionLeader_true (a b c : Int) {d : Int} (h0 : 0 ≤ d) : evalFn Tryd.prog (orcA nA (tabLd ldV ldE emptyTab) plainL) noLoops 100 3 Tryd.f3 [ctA a b c d] gH (fun v _ => some v) = some (.bool true) := by
  rw [auctionLeader_eval, decide_eq_true h0, decide_eq_true (rfl : ldV a b c d = ldV a b c d), decide_eq_true (rfl : ldE a b c d = ldE a b c d), pB_iff.2 rfl]; rfl
end Go.Proofs.YtnhilofmafjdpaaDoor
