/- Chapter 10: Contract: its two loops. -/
import Derived.Test.YtojlmpcbplepcaaLe
namespace Go.Proofs.Ytojlmpcbplepcaa
open Go Go.Eng
def tabC (MK : Int → Int → Int) : PTab := addTab 55 gPartsP (addTab 56 (iMaker MK) emptyTab)
theorem tabC_ok : PTabOk Try.prog (tabC mkI) := by
  refine addTab_ok ?_ (addTab_ok ?_ emptyTab_ok)
  · intro args c v h _
    unfold gPartsP at h
    split at h
    · cases h; rw [← ptV_is]; exact parts_p _
    · cases h
  · intro args c v h _
    unfold iMaker at h
    split at h
    · cases h; exact maker_p _ _
    · cases h
def ct4 : List TV := [.int .u8, .int .u8, .int .u8, .int .u8]
def ctBk : List TB := [.rs false 1 (.ints .u8), .rs false 1 (.ints .i64), .own 29 (.vs (crsT (.gs 0) (.gs 1))), .own 52 (.vs ct4), .own 52 (.vs ct4)]
noncomputable def caLp : Code := loopOf 12 Try.f23
def caT : Tm := ⟨mkS [(1, .ptr 2 0), (2, .ptr 3 0), (4, .int .i64), (7, .int .u8), (9, .ptr 4 0), (50, .view 0 1), (51, .int .i64), (52, .int .i64)] 0 91, ctBk, []⟩
def caX : Tm := ⟨mkS [(1, .ptr 2 0), (2, .ptr 3 0), (4, .int .i64), (7, .int .u8), (9, .ptr 4 0)] 0 91, ctBk, []⟩
noncomputable def cbLp : Code := loopOf 17 Try.f23
def cbT : Tm := ⟨mkS [(1, .ptr 2 0), (2, .ptr 3 0), (4, .int .i64), (7, .int .u8), (9, .ptr 4 0), (12, .int .i64)] 0 91, ctBk, []⟩
def cbX : Tm := ⟨mkS [(2, .ptr 3 0), (9, .ptr 4 0)] 0 91, ctBk, []⟩
def q4p (q : Q4) (r : List PV) : List PV := .i q.a :: .i q.b :: .i q.c :: .i q.d :: r
def caIn (z dn : Int) (l k : Nat) (n i : Int) (xs ac : List Int) (s : CD) (t f : Q4) : List PV := .i z :: .i dn :: .n l :: .n k :: .i n :: .i i :: .l xs :: .l ac :: s.pv (q4p t (q4p f []))
def caOut (z dn : Int) (xs ac : List Int) (s : CD) (t f : Q4) : List PV := .i z :: .i dn :: .l xs :: .l ac :: s.pv (q4p t (q4p f []))
def cbIn (z dn i : Int) (xs ac : List Int) (s : CD) (t f : Q4) : List PV := .i z :: .i dn :: .i i :: .l xs :: .l ac :: s.pv (q4p t (q4p f []))
def cbOut (xs ac : List Int) (s : CD) (t f : Q4) : List PV := .l xs :: .l ac :: s.pv (q4p t (q4p f []))
theorem ca_round (MK : Int → Int → Int) (rd : Option Nat) (z dn : Int) (l k : Nat) (n i : Int) (xs ac : List Int) (s : CD) (t f : Q4) : roundT Try.prog (orcJ nJ (tabC MK) plainL) noLoops 100 2 rd 23 caLp caT caX (caIn z dn l k n i xs ac s t f) =
    bif decide (i < n) then bif decide (0 ≤ i ∧ i < Int.ofNat k ∧ l + k ≤ xs.length) then atN xs (addS l i.toNat) fun x => some (.normal, caIn z dn l k n (wr .i64 (i + 1)) xs ac s t { f with c := foldI maxI f.c [x] }, []) else none else some (.exit 1, caOut z dn xs ac s t f, []) := by kernel_rfl
theorem cb_round (MK : Int → Int → Int) (rd : Option Nat) (z dn : Int) (i : Int) (xs ac : List Int) (s : CD) (t f : Q4) : roundT Try.prog (orcJ nJ (tabC MK) plainL) noLoops 100 2 rd 23 cbLp cbT cbX (cbIn z dn i xs ac s t f) =
    bif decide (i ≤ z) then bif decide (0 ≤ i ∧ i < Int.ofNat xs.length) then atN xs i.toNat fun x => bif isBid x then bif decide (dnZ x = dn) then some (.exit 3, cbOut xs ac s t { f with d := MK s.d i }, []) else some (.normal, cbIn z dn (wr .i64 (i + 2)) xs ac s t f, []) else
      some (.normal, cbIn z dn (wr .i64 (i + 2)) xs ac s t f, []) else none else some (.exit 3, cbOut xs ac s t f, []) := by kernel_rfl
end Go.Proofs.Ytojlmpcbplepcaa
