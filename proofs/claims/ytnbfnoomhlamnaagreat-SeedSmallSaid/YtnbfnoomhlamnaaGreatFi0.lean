/- Texts merged: Fi0, Fi1. -/
import Derived.Test.YtnbfnoomhlamnaaGreatFrame
import Derived.Test.YtnbfnoomhlamnaaGreatEng5
/- Chapter 3: rows of marks, plainly. -/
namespace Go.Proofs.YtnbfnoomhlamnaaGreat
open Go Go.Eng
def mks (f : Int → Int) (n : Nat) : List Int := (List.range n).map fun (j : Nat) => f (j : Int)
theorem mks_len (f : Int → Int) (n : Nat) : (mks f n).length = n := by simp [mks]
theorem mks_succ (f : Int → Int) (n : Nat) : mks f (n + 1) = mks f n ++ [f (n : Int)] := by simp [mks, List.range_succ]
theorem mks_get {f : Int → Int} {n i : Nat} (h : i < n) : (mks f n)[i]? = some (f (i : Int)) := by simp [mks, h]
theorem mks_take {f : Int → Int} {n m : Nat} (h : n ≤ m) : (mks f m).take n = mks f n := by
  simp only [mks, ← List.map_take, List.take_range, Nat.min_eq_left h]
theorem mks_set {f : Int → Int} {l : List Int} {i : Nat} (h : i < l.length) : (mks f i ++ l.drop i).set i (f (i : Int)) = mks f (i + 1) ++ l.drop (i + 1) := by
  rw [List.set_append_right _ _ (by rw [mks_len]; exact Nat.le_refl _), mks_len, Nat.sub_self, List.drop_eq_getElem_cons h, List.set_cons_zero, mks_succ]
  simp
end Go.Proofs.YtnbfnoomhlamnaaGreat

/- Chapter 3: flatInts: templates. -/
namespace Go.Proofs.YtnbfnoomhlamnaaGreat
open Go Go.Eng
def mkV (k i : Int) : Int := wr .i64 (wr .i64 (1000003 * wr .i64 (k + 7)) + i)
def gMk (MK : Int → Int → Int) : List V → Option (Bool × V)
  | [.int .i64 k, .int .i64 i] => some (true, .int .i64 (MK k i))
  | _ => none
def tabMk (MK : Int → Int → Int) : PTab := addTab 52 (gMk MK) emptyTab
theorem mark_eval (k i : Int) : evalAt emptyTab plainL 52 Tryz.f52 [.int .i64 k, .int .i64 i] = some (.int .i64 (mkV k i)) := by kernel_rfl
theorem tabMk_ok : PTabOk Tryz.prog (tabMk mkV) := by
  refine addTab_ok (fun args c v h _ => ?_) emptyTab_ok
  unfold gMk at h
  split at h
  · cases h; exact pure_at emptyTab_ok plainL_ok Tryz.func52 (by kernel_rfl) (mark_eval _ _) rfl rfl
  · cases h
noncomputable abbrev orcF (MK : Int → Int → Int) : Oracle := orc (tabMk MK) plainL
theorem orcF_ok : OracleOk Tryz.prog (orcF mkV) := inl_ok (oracleOf_ok emptyTab_ok) ftab_ok tabMk_ok plainL_ok mixed 20
abbrev i64s : TR := .ints .i64
abbrev two : List TB := [.rs true 1 (.vs [.gs 0, .gs 1]), .ro (.vs []), .ro (.vs [])]
noncomputable def fLp1 : Code := loopOf 5 Tryz.f64
noncomputable def fLp2 : Code := loopOf 14 Tryz.f64
noncomputable def fLp3 : Code := loopOf 22 Tryz.f64
noncomputable def fLp4 : Code := loopOf 31 Tryz.f64
noncomputable def fLp5 : Code := loopOf 39 Tryz.f64
/-- The marks are laid: list k. -/
def f1T (k : Int) : Tm := ⟨mkS [(0, .gs 2), (3, .lit .i64 k), (4, .int .i64)] 0 193, .grow false 3 1 i64s :: .grow false 3 1 i64s :: two, []⟩
def f1X (k : Int) : Tm := ⟨mkS [(0, .gs 2), (3, .lit .i64 k)] 0 193, .grow false 3 1 i64s :: .grow false 3 1 i64s :: two, []⟩
/-- 64 marks more: list 0, list 1; the first one. -/
def f2T : Tm := ⟨mkS [(0, .gs 2), (5, .gs 5), (6, .lit .i64 0), (7, .gs 0), (8, .int .i64)] 0 193, .grow false 3 1 i64s :: .grow false 3 1 i64s :: two ++ [.grow true 22 1 (.vs [.nil, .nil])], []⟩
def f2U : Tm := ⟨mkS [(0, .gs 2), (5, .gs 5), (6, .lit .i64 0), (7, .gs 6), (8, .int .i64)] 0 193, .dead :: .grow false 3 1 i64s :: two ++ [.grow true 22 1 (.vs [.nil, .nil]), .grow false 3 1 i64s, .lent 0 6 false 3 1 i64s], []⟩
def f2X : Tm := ⟨mkS [(0, .gs 2), (5, .gs 5), (6, .lit .i64 0), (7, .gs 6)] 0 193, .dead :: .grow false 3 1 i64s :: two ++ [.grow true 22 1 (.vs [.nil, .nil]), .grow false 3 1 i64s, .lent 0 6 false 3 1 i64s], []⟩
def f3T : Tm := ⟨mkS [(0, .gs 2), (5, .gs 5), (6, .lit .i64 1), (7, .gs 1), (8, .int .i64)] 0 193, .dead :: .grow false 3 1 i64s :: two ++ [.grow true 22 1 (.vs [.gs 6, .nil]), .grow false 3 1 i64s, .lent 0 6 false 3 1 i64s], []⟩
def f3U : Tm := ⟨mkS [(0, .gs 2), (5, .gs 5), (6, .lit .i64 1), (7, .gs 8), (8, .int .i64)] 0 193, .dead :: .dead :: two ++ [.grow true 22 1 (.vs [.gs 6, .nil]), .grow false 3 1 i64s, .lent 0 6 false 3 1 i64s, .grow false 3 1 i64s, .lent 1 8 false 3 1 i64s], []⟩
def f3X : Tm := ⟨mkS [(0, .gs 2), (5, .gs 5), (6, .lit .i64 1), (7, .gs 8)] 0 193, .dead :: .dead :: two ++ [.grow true 22 1 (.vs [.gs 6, .nil]), .grow false 3 1 i64s, .lent 0 6 false 3 1 i64s, .grow false 3 1 i64s, .lent 1 8 false 3 1 i64s], []⟩
/-- Both lists lent to longer ones. -/
abbrev both : List TB := .dead :: .dead :: two ++ [.grow true 22 1 (.vs [.gs 6, .gs 8]), .grow false 3 1 i64s, .lent 0 6 false 3 1 i64s, .grow false 3 1 i64s, .lent 1 8 false 3 1 i64s]
def f4T (k : Int) : Tm := ⟨mkS [(0, .gs 2), (5, .gs 5), (9, .lit .i64 k), (10, .int .i64)] 0 193, both, []⟩
def f4X (k : Int) : Tm := ⟨mkS [(0, .gs 2), (5, .gs 5), (9, .lit .i64 k)] 0 193, both, []⟩
/-- A third row of marks. -/
def f5T (k : Int) : Tm := ⟨mkS [(0, .gs 2), (5, .gs 5), (11, .lit .i64 k), (12, .gs 10), (13, .int .i64)] 0 193, both ++ [.grow true 3 1 i64s], []⟩
def f5X (k : Int) : Tm := ⟨mkS [(0, .gs 2), (5, .gs 5), (11, .lit .i64 k), (12, .gs 10)] 0 193, both ++ [.grow true 3 1 i64s], []⟩
def f6T (k : Int) : Tm := ⟨mkS [(0, .gs 2), (5, .gs 5), (14, .lit .i64 k), (15, .int .i64)] 0 193, both, []⟩
def f6X (k : Int) : Tm := ⟨mkS [(0, .gs 2), (5, .gs 5), (14, .lit .i64 k)] 0 193, both, []⟩
end Go.Proofs.YtnbfnoomhlamnaaGreat
