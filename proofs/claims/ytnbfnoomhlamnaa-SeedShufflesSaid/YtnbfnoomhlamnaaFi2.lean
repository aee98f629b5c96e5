/- Chapter 3: flatInts: a round of each loop. -/
import Derived.Test.YtnbfnoomhlamnaaFk
namespace Go.Proofs.Ytnbfnoomhlamnaa
open Go Go.Eng
/-- A mark is laid. -/
noncomputable def g1 (f : Int → Int) (i n : Int) (e : Nat) (a : List Int) (K : List Int → List PV) : RTK := bif decide (i < n) then bif decide (0 ≤ i ∧ i < Int.ofNat a.length) then bif decide (i.toNat < a.length) then some (.normal, .i (wr .i64 (i + 1)) :: K (a.set i.toNat (f i)), []) else none else none else some (.exit e, K a, [])
theorem r1_0 (MK : Int → Int → Int) (rd : Option Nat) (i : Int) (a b : List Int) : roundT Try.prog (orcF MK) noLoops 100 5 rd 67 fLp1 (f1T 0) (f1X 0) [.i i, .l a, .l b] = g1 (MK 0) i (Int.ofNat a.length) 2 a (fun a => [.l a, .l b]) := by kernel_rfl
theorem r1_1 (MK : Int → Int → Int) (rd : Option Nat) (i : Int) (a b : List Int) : roundT Try.prog (orcF MK) noLoops 100 5 rd 67 fLp1 (f1T 1) (f1X 1) [.i i, .l a, .l b] = g1 (MK 1) i (Int.ofNat b.length) 2 b (fun b => [.l a, .l b]) := by kernel_rfl
theorem r4_0 (MK : Int → Int → Int) (rd : Option Nat) (i : Int) (p a q b c : List Int) : roundT Try.prog (orcF MK) noLoops 100 5 rd 67 fLp4 (f5T 0) (f5X 0) [.i i, .l p, .l a, .l q, .l b, .l c] = g1 (MK (wr .i64 (0 + Int.ofNat 2))) i 64 14 c (fun c => [.l p, .l a, .l q, .l b, .l c]) := by kernel_rfl
theorem r4_1 (MK : Int → Int → Int) (rd : Option Nat) (i : Int) (p a q b c : List Int) : roundT Try.prog (orcF MK) noLoops 100 5 rd 67 fLp4 (f5T 1) (f5X 1) [.i i, .l p, .l a, .l q, .l b, .l c] = g1 (MK (wr .i64 (1 + Int.ofNat 2))) i 64 14 c (fun c => [.l p, .l a, .l q, .l b, .l c]) := by kernel_rfl
/-- One mark more. -/
noncomputable def g2 (f : Int → Int) (i : Int) (c a : List Int) (ck : Bool) (K : List Int → List PV) : RTK := bif decide ((c ++ [f (wr .i64 (Int.ofNat a.length + i))]).length * 9 ≤ 70368744177664) then bif ck then some (.normal, .i (wr .i64 (i + 1)) :: K (c ++ [f (wr .i64 (Int.ofNat a.length + i))]), []) else none else none
theorem r2_0 (MK : Int → Int → Int) (rd : Option Nat) (i : Int) (a b : List Int) : roundG Try.prog (orcF MK) noLoops 100 5 rd 67 fLp2 f2T f2U f2X [.i i, .l a, .l b] = bif decide (i < 64) then g2 (MK 0) i a a true (fun c => [.l b, .l c, .l a]) else none := by kernel_rfl
theorem r2_1 (MK : Int → Int → Int) (rd : Option Nat) (i : Int) (p a b : List Int) : roundG Try.prog (orcF MK) noLoops 100 5 rd 67 fLp2 f3T f3U f3X [.i i, .l b, .l p, .l a] = bif decide (i < 64) then g2 (MK 1) i b b true (fun c => [.l p, .l a, .l c, .l b]) else none := by kernel_rfl
theorem u2_0 (MK : Int → Int → Int) (rd : Option Nat) (i : Int) (a b c : List Int) : roundT Try.prog (orcF MK) noLoops 100 5 rd 67 fLp2 f2U f2X [.i i, .l b, .l c, .l a] = bif decide (i < 64) then g2 (MK 0) i c a (decide (List.take a.length c = a)) (fun c => [.l b, .l c, .l a]) else some (.exit 6, [.l b, .l c, .l a], []) := by kernel_rfl
theorem u2_1 (MK : Int → Int → Int) (rd : Option Nat) (i : Int) (p a b c : List Int) : roundT Try.prog (orcF MK) noLoops 100 5 rd 67 fLp2 f3U f3X [.i i, .l p, .l a, .l c, .l b] = bif decide (i < 64) then g2 (MK 1) i c b (decide (List.take b.length c = b)) (fun c => [.l p, .l a, .l c, .l b]) else some (.exit 6, [.l p, .l a, .l c, .l b], []) := by kernel_rfl
def atM (l : List Int) (i : Int) (K : Int → RTK) : RTK := match l[i.toNat]? with | some v => K v | none => none
/-- Both rows are looked at. -/
noncomputable def g3 (f : Int → Int) (i : Int) (p a : List Int) (all : List PV) : RTK := bif decide (i < Int.ofNat p.length) then atU p i (fun v => bif !decide (v = f i) then some (.ret, all, []) else
  bif decide (i < Int.ofNat a.length) then bif decide (0 ≤ i ∧ i < Int.ofNat a.length) then bif decide (List.take a.length p = a) then atM a i (fun v => bif !decide (v = f i) then some (.ret, all, []) else some (.normal, .i (wr .i64 (i + 1)) :: all, [])) else none else none
  else some (.normal, .i (wr .i64 (i + 1)) :: all, [])) else some (.exit 10, all, [])
theorem r3_0 (MK : Int → Int → Int) (rd : Option Nat) (i : Int) (p a q b : List Int) : roundT Try.prog (orcF MK) noLoops 100 5 rd 67 fLp3 (f4T 0) (f4X 0) [.i i, .l p, .l a, .l q, .l b] = g3 (MK 0) i p a [.l p, .l a, .l q, .l b] := by kernel_rfl
theorem r3_1 (MK : Int → Int → Int) (rd : Option Nat) (i : Int) (p a q b : List Int) : roundT Try.prog (orcF MK) noLoops 100 5 rd 67 fLp3 (f4T 1) (f4X 1) [.i i, .l p, .l a, .l q, .l b] = g3 (MK 1) i q b [.l p, .l a, .l q, .l b] := by kernel_rfl
noncomputable def g5 (f : Int → Int) (i : Int) (p a : List Int) (all : List PV) : RTK := bif decide (i < Int.ofNat a.length) then bif decide (0 ≤ i ∧ i < Int.ofNat a.length) then bif decide (List.take a.length p = a) then atM a i (fun v => bif !decide (v = f i) then some (.ret, all, []) else
  atU p i (fun v => bif !decide (v = f i) then some (.ret, all, []) else some (.normal, .i (wr .i64 (i + 1)) :: all, []))) else none else none else some (.exit 18, all, [])
theorem r5_0 (MK : Int → Int → Int) (rd : Option Nat) (i : Int) (p a q b : List Int) : roundT Try.prog (orcF MK) noLoops 100 5 rd 67 fLp5 (f6T 0) (f6X 0) [.i i, .l p, .l a, .l q, .l b] = g5 (MK 0) i p a [.l p, .l a, .l q, .l b] := by kernel_rfl
theorem r5_1 (MK : Int → Int → Int) (rd : Option Nat) (i : Int) (p a q b : List Int) : roundT Try.prog (orcF MK) noLoops 100 5 rd 67 fLp5 (f6T 1) (f6X 1) [.i i, .l p, .l a, .l q, .l b] = g5 (MK 1) i q b [.l p, .l a, .l q, .l b] := by kernel_rfl
end Go.Proofs.Ytnbfnoomhlamnaa
