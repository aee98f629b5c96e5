/- Chapter 4: a string cut at its points: one round. -/
import Derived.Test.YtbocdcnkmcejjaaDoorWrite3
namespace Go.Proofs.YtbocdcnkmcejjaaDoor
open Go Go.Eng
def gIdx1 : List V → Option (Bool × V)
  | [.str s, .str ⟨⟨[c]⟩⟩] => some (true, .int .i64 (idxI s c.toNat))
  | _ => none
def tabI : PTab := addTab 18 gWrite (addTab 60 gIdx1 tabO)
theorem tabI_ok : PTabOk Tryd.prog tabI := by
  refine addTab_ok ?_ (addTab_ok ?_ tabO_ok)
  · intro args c v h hc
    unfold gWrite at h
    split at h
    · cases h; simp only [decide_eq_true_eq] at hc; exact write_p hc
    · cases h
  · intro args c v h _
    unfold gIdx1 at h
    split at h
    · rename_i s c
      cases h
      have e : idxI s (c.toNat : Int) = Lib.indexByte s.data.toList c := by unfold idxI; simp
      rw [e]
      exact pure_of_same (.of Tryd.func60 (by kernel_rfl)) rfl rfl fun w => Tryd.strings_Index_one _ _ w
    · cases h
noncomputable def spLp : Code := loopOf 11 Tryd.f61
def spT : Tm := ⟨mkS [(0, .str), (1, .str), (2, .lit .i64 0), (3, .int .i64), (9, .gs 1), (10, .int .i64)] 0 66, [.own 58 .strs, .grow true 9 1 .strs], []⟩
def spE : List (Code × Code) := []
noncomputable def spR (n i : Int) (k : Int) (s : ByteArray) (ps ss : List ByteArray) : RT := bif decide (i < n) then bif decide (k < 0) then some (.exit 0, [.s s, .s ⟨⟨[46]⟩⟩, .i n, .i i, .ss ps, .ss ss], []) else
    bif decide (0 ≤ (0 : Int) ∧ 0 ≤ wr .i64 (k + 0) ∧ wr .i64 (k + 0) ≤ Int.ofNat s.data.toList.length) then bif decide (0 ≤ i ∧ i < Int.ofNat ss.length) then bif decide (i.toNat < ss.length) then
      bif decide (0 ≤ wr .i64 (k + 1) ∧ wr .i64 (k + 1) ≤ Int.ofNat s.data.toList.length ∧ Int.ofNat s.data.toList.length ≤ Int.ofNat s.data.toList.length) then
        some (.normal, [.s (extS s (wr .i64 (k + 1)).toNat (Int.ofNat s.data.toList.length).toNat), .s ⟨⟨[46]⟩⟩, .i n, .i (wr .i64 (i + 1)), .ss ps, .ss (ss.set i.toNat (extS s (0 : Int).toNat (wr .i64 (k + 0)).toNat))], [])
      else none else none else none else none
  else some (.exit 0, [.s s, .s ⟨⟨[46]⟩⟩, .i n, .i i, .ss ps, .ss ss], [])
theorem sp_round (rd : Option Nat) (s : ByteArray) (n i : Int) (ps ss : List ByteArray) : roundT Tryd.prog (orcS tabI plainL) noLoops 100 1 rd 61 spLp spT spT [.s s, .s ⟨⟨[46]⟩⟩, .i n, .i i, .ss ps, .ss ss] = spR n i (idxI s 46) s ps ss := by kernel_rfl
end Go.Proofs.YtbocdcnkmcejjaaDoor
