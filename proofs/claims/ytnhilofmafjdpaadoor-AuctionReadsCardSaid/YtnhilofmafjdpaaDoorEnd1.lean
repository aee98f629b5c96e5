/- Chapter 9: the law AuctionEnds: its loops' rounds. -/
import Derived.Test.YtnhilofmafjdpaaDoorLdr
namespace Go.Proofs.YtnhilofmafjdpaaDoor
open Go Go.Eng
noncomputable def e1G (K : NK) (S : List Int → Bool) (d i : Int) (l P : List Int) (Z R : RT) : RT :=
  bif decide (0 ≤ (0 : Int) ∧ 0 ≤ i ∧ i ≤ Int.ofNat l.length) then bif decide (0 + (i.toNat - 0) ≤ l.length) then bif K.N.K d P then bif decide (0 ≤ (0 : Int) ∧ 0 ≤ i ∧ i ≤ Int.ofNat l.length) then bif decide (0 + (i.toNat - 0) ≤ l.length) then bif K.N.K d P then
  bif !decide (wr .i64 (K.N.GE d P + K.N.TE d P) = 0) then Z else bif !decide (K.N.TV d P = (wr .u8 (d + wr .u8 (i.tmod 4))).tmod 4) then Z else bif decide (Int.ofNat (K.N.GV d P).length = 0) then Z else
  bif decide ((0 : Int) ≤ 0 ∧ 0 < Int.ofNat (K.N.GV d P).length) then (match (K.N.GV d P)[0]? with | some v => bif !decide (v = 0) then Z else bif S (K.N.GV d P) then atU l i (fun x => bif K.KL (K.N.GV d P) then bif !decide (0 ≤ K.IX x (K.N.GV d P)) then Z else R else none) else none | none => none) else none
  else none else none else none else none else none else none
theorem e1_round (K : NK) (S : List Int → Bool) (LV LE : Int → Int → Int → Int → Int) (nn : Bool) (rd : Option Nat) (b : Bool) (d n i : Int) (tl : List ByteArray) (xs l : List Int) : roundT Tryd.prog (orcS K S (tabEn LV LE) plainL) noLoops 100 2 rd 8 e1Lp (e1T nn) (e1X nn) [.b b, .i d, .i n, .i i, .ss tl, .l xs, .l l] =
    bif decide (i < n) then e1G K S d i l (List.take (i.toNat - 0) l) (some (.ret, [.b false, .i d, .ss tl, .l xs, .l l], [])) (some (.normal, [.b b, .i d, .i n, .i (wr .i64 (i + 1)), .ss tl, .l xs, .l l], [])) else some (.exit 0, [.b b, .i d, .ss tl, .l xs, .l l], []) := by cases nn <;> kernel_rfl
noncomputable def e2G (x d i dn bd c4 : Int) (Z X R : RT) : RT :=
  bif isBid x then bif decide (dnZ x = dn) then bif decide ((wr .i64 (wr .i64 d + i)).tmod 2 = bd.tmod 2) then bif !decide ((wr .i64 (wr .i64 d + i)).tmod 4 = wr .i64 c4) then Z else X else R else R else R
theorem e2_round (K : NK) (S : List Int → Bool) (LV LE : Int → Int → Int → Int → Int) (nn : Bool) (rd : Option Nat) (b : Bool) (d a dn bd n i c1 c2 c3 c4 : Int) (tl : List ByteArray) (xs l : List Int) : roundT Tryd.prog (orcS K S (tabEn LV LE) plainL) noLoops 100 2 rd 8 e2Lp (e2T nn) (e2X nn) [.b b, .i d, .i a, .i dn, .i bd, .i n, .i i, .ss tl, .l xs, .l l, .i c1, .i c2, .i c3, .i c4] =
    bif decide (i < n) then atU l i (fun x => e2G x d i dn bd c4 (some (.ret, [.b false, .i d, .i a, .i bd, .ss tl, .l xs, .l l, .i c1, .i c2, .i c3, .i c4], [])) (some (.exit 2, [.b b, .i d, .i a, .i bd, .ss tl, .l xs, .l l, .i c1, .i c2, .i c3, .i c4], []))
      (some (.normal, [.b b, .i d, .i a, .i dn, .i bd, .i n, .i (wr .i64 (i + 1)), .ss tl, .l xs, .l l, .i c1, .i c2, .i c3, .i c4], []))) else some (.exit 2, [.b b, .i d, .i a, .i bd, .ss tl, .l xs, .l l, .i c1, .i c2, .i c3, .i c4], []) := by cases nn <;> kernel_rfl
noncomputable def e3G (x d i bd r : Int) (Z R : RT) : RT :=
  bif !decide (x = wr .u8 (r + 1)) then Z else bif !(bif decide ((wr .i64 (wr .i64 d + i)).tmod 2 = bd.tmod 2) then decide (r = 1) else !decide (r = 1)) then Z else R
theorem e3_round (K : NK) (S : List Int → Bool) (LV LE : Int → Int → Int → Int → Int) (nn : Bool) (rd : Option Nat) (b : Bool) (d bd r i c1 c2 c3 c4 : Int) (tl : List ByteArray) (xs l : List Int) : roundT Tryd.prog (orcS K S (tabEn LV LE) plainL) noLoops 100 2 rd 8 e3Lp (e3T nn) (e3X nn) [.b b, .i d, .i bd, .i r, .i i, .ss tl, .l xs, .l l, .i c1, .i c2, .i c3, .i c4] =
    bif decide (i < Int.ofNat l.length) then atU l i (fun x => bif !decide (x = 0) then atU l i (fun x => e3G x d i bd r (some (.ret, [.b false, .i d, .i r, .ss tl, .l xs, .l l, .i c1, .i c2, .i c3, .i c4], [])) (some (.normal, [.b b, .i d, .i bd, .i (wr .u8 (r + 1)), .i (wr .i64 (i + 1)), .ss tl, .l xs, .l l, .i c1, .i c2, .i c3, .i c4], []))) else
      some (.normal, [.b b, .i d, .i bd, .i r, .i (wr .i64 (i + 1)), .ss tl, .l xs, .l l, .i c1, .i c2, .i c3, .i c4], [])) else some (.exit 4, [.b b, .i d, .i r, .ss tl, .l xs, .l l, .i c1, .i c2, .i c3, .i c4], []) := by cases nn <;> kernel_rfl
noncomputable def e1Tree (C : Int → Int → List Int → Bool) (nn : Bool) : List PV → Fin
  | [.b b, .i d, .i n, .i i, .ss tl, .l xs, .l l] => .br (decide (i = 0) && C d n l) (.leaf (.exit 0) ((e1X nn).at [.b b, .i d, .ss tl, .l xs, .l l])) .no
  | _ => .no
noncomputable def e2Tree (C : Int → Int → Int → Int → List Int → Int → Bool) (nn : Bool) : List PV → Fin
  | [.b b, .i d, .i a, .i dn, .i bd, .i n, .i i, .ss tl, .l xs, .l l, .i c1, .i c2, .i c3, .i c4] => .br (decide (i = 0) && C d dn bd n l c4) (.leaf (.exit 2) ((e2X nn).at [.b b, .i d, .i a, .i bd, .ss tl, .l xs, .l l, .i c1, .i c2, .i c3, .i c4])) .no
  | _ => .no
noncomputable def e3Tree (C : Int → Int → Int → List Int → Int → Bool) (nn : Bool) : List PV → Fin
  | [.b b, .i d, .i bd, .i r, .i i, .ss tl, .l xs, .l l, .i c1, .i c2, .i c3, .i c4] => .br (decide (r = 0) && C d bd i l c3) (.leaf (.exit 4) ((e3X nn).at [.b b, .i d, .i c3, .ss tl, .l xs, .l l, .i c1, .i c2, .i c3, .i c4])) .no
  | _ => .no
noncomputable def enL (C1 : Int → Int → List Int → Bool) (C2 : Int → Int → Int → Int → List Int → Int → Bool) (C3 : Int → Int → Int → List Int → Int → Bool) (nn : Bool) : Loops :=
  sums (fun n => match n with | 5 => some (lsumF 2 (e1T nn) e1Lp (e1Tree C1 nn)) | 24 => some (lsumF 2 (e2T nn) e2Lp (e2Tree C2 nn)) | 33 => some (lsumF 2 (e3T nn) e3Lp (e3Tree C3 nn)) | _ => none)
end Go.Proofs.YtnhilofmafjdpaaDoor
