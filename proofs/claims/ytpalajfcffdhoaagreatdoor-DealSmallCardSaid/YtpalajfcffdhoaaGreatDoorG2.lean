/- Texts merged: G2, G3, G4, G5a, G5b, G5c, G5d. -/
import Derived.Test.YtpalajfcffdhoaaGreatDoorZ11
import Derived.Test.YtpalajfcffdhoaaGreatDoorRr3
import Derived.Test.YtpalajfcffdhoaaGreatDoorTrn
/- Chapter 6: the law DealSmall: what it reads of the contracts, and its loops' templates. -/
namespace Go.Proofs.YtpalajfcffdhoaaGreatDoor
open Go Go.Eng Go.Deal
def wl8 : List (Nat × Nat × Nat × Nat × Nat) := [(8190, 67035136, 545393737728, 4221574894845952, 24), (8191, 66035712, 549688705024, 3931303825113088, 6), (8127, 67035136, 549621596160, 4221574894845952, 24), (8175, 66052096, 480969228288, 4501950359928832, 24),
  (8126, 67100672, 514792095744, 4503049871556608, 6), (8175, 67084288, 480969228288, 4432681127378944, 24), (8127, 62906368, 549621596160, 4498651825045504, 24), (8191, 58580992, 549688705024, 4431581615751168, 6)]
def lookW (a b c d : Int) : List (Nat × Nat × Nat × Nat × Nat) → Option Nat
  | [] => none
  | (x, y, z, w, m) :: r => bif decide (a = (x : Int)) && (decide (b = (y : Int)) && (decide (c = (z : Int)) && decide (d = (w : Int)))) then some m else lookW a b c d r
def wOk : Nat × Nat × Nat × Nat × Nat → Bool
  | (a, b, c, d, m) => parK a b c d && Nat.beq (Deal.wyF (lks a b c d)) m && Nat.blt m 4294967296
theorem wl8_ok : wl8.all wOk = true := by kernel_rfl
theorem lookW_in {a b c d : Int} {m : Nat} : ∀ {l : List (Nat × Nat × Nat × Nat × Nat)}, lookW a b c d l = some m → ∃ x y z w : Nat, a = x ∧ b = y ∧ c = z ∧ d = w ∧ (x, y, z, w, m) ∈ l
  | [], h => by cases h
  | (x, y, z, w, m') :: r, h => by
    unfold lookW at h
    cases hc : (decide (a = (x : Int)) && (decide (b = (y : Int)) && (decide (c = (z : Int)) && decide (d = (w : Int))))) with
    | true =>
      rw [hc] at h; cases h
      simp only [Bool.and_eq_true, decide_eq_true_eq] at hc
      exact ⟨x, y, z, w, hc.1, hc.2.1, hc.2.2.1, hc.2.2.2, List.mem_cons_self ..⟩
    | false =>
      rw [hc] at h
      obtain ⟨x', y', z', w', h1, h2, h3, h4, h5⟩ := lookW_in (l := r) h
      exact ⟨x', y', z', w', h1, h2, h3, h4, List.mem_cons_of_mem _ h5⟩
def lWay : List V → Option (Bool × V)
  | [.agg [.int .u64 a, .int .u64 b, .int .u64 c, .int .u64 d]] => match lookW a b c d wl8 with
    | some m => some (true, .tuple [.agg [.int .u32 (m : Nat), .int .u32 0, .int .u32 0, .int .u32 0], .int .i64 0])
    | none => none
  | _ => none
theorem nW_lit {m : Nat} (h : m < 4294967296) : n6.nW (m : Int) = .agg [.int .u32 (m : Nat), .int .u32 0, .int .u32 0, .int .u32 0] := by
  show V.agg [.int .u32 (N2.w0 (m : Int)), .int .u32 (N2.w1 (m : Int)), .int .u32 (N2.w2 (m : Int)), .int .u32 (N2.w3 (m : Int))] = _
  unfold N2.w0 N2.w1 N2.w2 N2.w3
  rw [show (m : Int) % 4294967296 = (m : Int) by omega, show (m : Int) / 4294967296 % 4294967296 = 0 by omega, show (m : Int) / 18446744073709551616 % 4294967296 = 0 by omega, show (m : Int) / 79228162514264337593543950336 % 4294967296 = 0 by omega]
theorem lWay_ok {args : List V} {c : Bool} {v : V} (h : lWay args = some (c, v)) : FnPure Tryz.prog 6 args v := by
  unfold lWay at h
  split at h
  · rename_i a b c d
    cases hq : lookW a b c d wl8 with
    | none => rw [hq] at h; cases h
    | some m =>
      rw [hq] at h; cases h
      obtain ⟨x, y, z, w, rfl, rfl, rfl, rfl, hm⟩ := lookW_in hq
      have hw := List.all_eq_true.1 wl8_ok _ hm
      unfold wOk at hw
      simp only [Bool.and_eq_true, Nat.blt_eq] at hw
      obtain ⟨⟨h1, h2⟩, h3⟩ := hw
      have hp := parK_ok h1
      have P := parB_iff.1 hp
      have := rways_p (in4_lt P.la P.lb P.lc P.ld)
      unfold wyI leI at this
      rw [hp] at this
      have ho : o0 (x : Int) (y : Int) (z : Int) (w : Int) = (m : Int) := by
        show ((wy (lks x y z w) : Nat) : Int) = _
        rw [Deal.wy_F, Nat.eq_of_beq_eq_true h2]
      rw [cond_true, cond_true, ho, nW_lit h3] at this
      exact this
  · cases h
structure GL where
  u : Int → Int → Int → Int → Bool
  n : N6
  c0 : Int → Int → Int → Int → Int → Int
  c1 : Int → Int → Int → Int → Int → Int
  c2 : Int → Int → Int → Int → Int → Int
  c3 : Int → Int → Int → Int → Int → Int
  ce : Int → Int → Int → Int → Int → Int
section
variable (D : GL)
def lSta : List V → Option (Bool × V)
  | [.agg [.int .u64 a, .int .u64 b, .int .u64 c, .int .u64 d], .int .u8 k, .int .i64 _] => some (D.u a b c d && decide (0 ≤ k ∧ k < 256), .bool true)
  | _ => none
def lCpl : List V → Option (Bool × V)
  | [.agg [.int .u64 a, .int .u64 b, .int .u64 c, .int .u64 d], .agg [.int .u32 e, .int .u32 f, .int .u32 g, .int .u32 h]] => some (D.u a b c d && D.n.inn e f g h,
      .tuple [q4 (D.c0 a b c d (D.n.z e f g h)) (D.c1 a b c d (D.n.z e f g h)) (D.c2 a b c d (D.n.z e f g h)) (D.c3 a b c d (D.n.z e f g h)), .int .i64 (D.ce a b c d (D.n.z e f g h))])
  | _ => none
def lCom : List V → Option (Bool × V)
  | [.agg [.int .u64 a, .int .u64 b, .int .u64 c, .int .u64 d], .agg [.int .u64 x, .int .u64 y, .int .u64 z, .int .u64 w], .agg [.int .u32 e, .int .u32 f, .int .u32 g, .int .u32 h]] => some (D.u a b c d && (D.u x y z w && D.n.inn e f g h), .bool true)
  | _ => none
def sL : ByteArray := ⟨⟨[78, 58, 46, 46, 46, 65, 75, 81, 74, 84, 57, 56, 55, 54, 53, 52, 51, 50, 32, 46, 46, 65, 75, 81, 74, 84, 57, 56, 55, 54, 53, 52, 51, 50, 46, 32, 46, 65, 75, 81, 74, 84, 57, 56, 55, 54, 53, 52, 51, 50, 46, 46, 32, 65, 75, 81, 74, 84, 57, 56, 55, 54, 53, 52, 51, 50, 46, 46, 46]⟩⟩
def lWri : List V → Option (Bool × V)
  | [.agg [.int .u64 a, .int .u64 b, .int .u64 c, .int .u64 d]] => bif decide (a = 8191) && (decide (b = 67100672) && (decide (c = 549688705024) && decide (d = 4503049871556608))) then some (true, .tuple [.str sL, .int .i64 0]) else none
  | _ => none
def lRea : List V → Option (Bool × V)
  | [.str s] => some (decide (s.data.toList.length ≤ 1000), .bool true)
  | _ => none
def lAwa : List V → Option (Bool × V)
  | [] => some (true, .bool true)
  | _ => none
def tabSm : PTab := addTab 5 (lSta D) (addTab 6 lWay (addTab 7 (lCpl D) (addTab 8 (lCom D) (addTab 9 lWri (addTab 10 lRea (addTab 11 lAwa emptyTab))))))
noncomputable abbrev orcSm : Oracle := orcN D.n (tabSm D) plainL
end
theorem sL_is : sL = N4.bA (txL 8191 67100672 549688705024 4503049871556608) := by kernel_rfl
theorem k9 : parK 8191 67100672 549688705024 4503049871556608 = true := by kernel_rfl
noncomputable def gL : GL := ⟨in4, n6, cp0, cp1, cp2, cp3, cpE⟩
theorem gLu : gL.u = in4 := rfl
theorem tabSm_ok : PTabOk Tryz.prog (tabSm gL) := by
  refine addTab_ok ?_ (addTab_ok ?_ (addTab_ok ?_ (addTab_ok ?_ (addTab_ok ?_ (addTab_ok ?_ (addTab_ok ?_ emptyTab_ok))))))
  · intro args c v h hc
    unfold lSta at h; split at h
    · cases h; rw [Bool.and_eq_true, decide_eq_true_eq, gLu] at hc; exact states_p _ hc.1 hc.2.1 hc.2.2
    · cases h
  · intro args c v h _
    exact lWay_ok h
  · intro args c v h hc
    unfold lCpl at h; split at h
    · cases h; rw [Bool.and_eq_true] at hc; exact rcpl_p hc.1 hc.2
    · cases h
  · intro args c v h hc
    unfold lCom at h; split at h
    · cases h; rw [Bool.and_eq_true, Bool.and_eq_true] at hc; exact completes_p hc.1 hc.2.1 hc.2.2
    · cases h
  · intro args c v h _
    unfold lWri at h; split at h
    · rename_i a b c d
      cases hq : (decide (a = 8191) && (decide (b = 67100672) && (decide (c = 549688705024) && decide (d = 4503049871556608)))) with
      | false => rw [hq] at h; cases h
      | true =>
        rw [hq] at h; cases h
        simp only [Bool.and_eq_true, decide_eq_true_eq] at hq
        obtain ⟨rfl, rfl, rfl, rfl⟩ := hq
        have hp := parK_ok k9
        have P := parB_iff.1 hp
        have := rwr_p (in4_lt P.la P.lb P.lc P.ld)
        unfold txI leI at this
        rw [hp] at this
        rw [sL_is]
        exact this
    · cases h
  · intro args c v h hc
    unfold lRea at h; split at h
    · cases h; exact reads_p (of_decide_eq_true hc)
    · cases h
  · intro args c v h _
    unfold lAwa at h; split at h
    · cases h; exact awake_p
    · cases h
theorem orcSm_ok : OracleOk Tryz.prog (orcSm gL) := orcN_ok tabSm_ok plainL_ok
end Go.Proofs.YtpalajfcffdhoaaGreatDoor

/- Chapter 6: the law DealSmall: the rounds of its loops. -/
namespace Go.Proofs.YtpalajfcffdhoaaGreatDoor
open Go Go.Eng Go.Deal
def dLit : TR := .vs [.lit .u64 8191, .lit .u64 67100672, .lit .u64 549688705024, .lit .u64 4503049871556608]
noncomputable def smLp1 : Code := loopOf 3 Tryz.f3
noncomputable def smLp3 : Code := loopOf 16 Tryz.f3
noncomputable def smLp5 : Code := loopOf 30 Tryz.f3
noncomputable def smLp6 : Code := loopOf 39 Tryz.f3
def smT1 : Tm := ⟨mkS [(1, .ptr 0 0), (24, .int .u8)] 0 224, [.own 24 dLit], []⟩
def smT3 : Tm := ⟨mkS [(1, .ptr 0 0), (73, .int .i64)] 0 224, [.own 24 dLit], []⟩
def smX : Tm := ⟨mkS [(1, .ptr 0 0)] 0 224, [.own 24 dLit], []⟩
def smT5 : Tm := ⟨mkS [(1, .ptr 0 0), (7, .ptr 1 0), (73, .int .i64), (129, .int .u32), (130, .int .u32)] 0 224, [.own 24 dLit, .own 24 u64s], []⟩
def smT6 : Tm := ⟨mkS [(16, .str), (18, .int .i64)] 0 224, [], []⟩
def smX6 : Tm := ⟨mkS [] 0 224, [], []⟩
def smP5 (k m n : Int) (p : DQ) : List PV := [.i k, .i m, .i n, .i p.a, .i p.b, .i p.c, .i p.d]
section
variable (D : GL)
def GL.U (q : DQ) : Bool := D.u q.a q.b q.c q.d
def GL.C (q : DQ) (z : Int) : DQ := ⟨D.c0 q.a q.b q.c q.d z, D.c1 q.a q.b q.c q.d z, D.c2 q.a q.b q.c q.d z, D.c3 q.a q.b q.c q.d z⟩
def dQ : DQ := ⟨8191, 67100672, 549688705024, 4503049871556608⟩
theorem sm5_round (rd : Option Nat) (k m n : Int) (p : DQ) : roundT Tryz.prog (orcSm D) noLoops 100 0 rd 3 smLp5 smT5 smT3 (smP5 k m n p) =
    bif decide (n < m) then bif D.U p && D.n.inn n 0 0 0 then bif D.U p && (D.U (D.C p (D.n.z n 0 0 0)) && D.n.inn n 0 0 0) then bif D.U p && (D.U dQ && D.n.inn n 1 0 0) then bif D.U (D.C p (D.n.z n 0 0 0)) && (D.U (D.C p (D.n.z n 0 0 0)) && D.n.inn n 0 0 0) then
      some (.normal, smP5 k m (wr .u32 (n + 1)) p, []) else none else none else none else none
    else some (.exit 8, [.i k], []) := by kernel_rfl
noncomputable def sm5Tr (C : Int → Int → Int → DQ → Bool) : List PV → Fin
  | [.i k, .i m, .i n, .i a, .i b, .i c, .i d] => .br (C k m n ⟨a, b, c, d⟩) (.leaf (.exit 8) (smT3.at [.i k])) .no
  | _ => .no
noncomputable def sm5L (C : Int → Int → Int → DQ → Bool) : Loops := sums (fun n => match n with | 30 => some (lsumF 0 smT5 smLp5 (sm5Tr C)) | _ => none)
variable (C : Int → Int → Int → DQ → Bool)
theorem sm3_0 (rd : Option Nat) : roundT Tryz.prog (orcSm D) (sm5L C) 100 0 rd 3 smLp3 smT3 smX [.i 0] = cond (codesB [(smLp5, smLp5)]) (bif C 0 26 0 ⟨8190, 67035136, 545393737728, 4221574894845952⟩ then some (.normal, [.i 1], []) else none) none := by kernel_rfl
theorem sm3_1 (rd : Option Nat) : roundT Tryz.prog (orcSm D) (sm5L C) 100 0 rd 3 smLp3 smT3 smX [.i 1] = cond (codesB [(smLp5, smLp5)]) (bif C 1 8 0 ⟨8191, 66035712, 549688705024, 3931303825113088⟩ then some (.normal, [.i 2], []) else none) none := by kernel_rfl
theorem sm3_2 (rd : Option Nat) : roundT Tryz.prog (orcSm D) (sm5L C) 100 0 rd 3 smLp3 smT3 smX [.i 2] = cond (codesB [(smLp5, smLp5)]) (bif C 2 26 0 ⟨8127, 67035136, 549621596160, 4221574894845952⟩ then some (.normal, [.i 3], []) else none) none := by kernel_rfl
theorem sm3_3 (rd : Option Nat) : roundT Tryz.prog (orcSm D) (sm5L C) 100 0 rd 3 smLp3 smT3 smX [.i 3] = cond (codesB [(smLp5, smLp5)]) (bif C 3 26 0 ⟨8175, 66052096, 480969228288, 4501950359928832⟩ then some (.normal, [.i 4], []) else none) none := by kernel_rfl
theorem sm3_4 (rd : Option Nat) : roundT Tryz.prog (orcSm D) (sm5L C) 100 0 rd 3 smLp3 smT3 smX [.i 4] = cond (codesB [(smLp5, smLp5)]) (bif C 4 8 0 ⟨8126, 67100672, 514792095744, 4503049871556608⟩ then some (.normal, [.i 5], []) else none) none := by kernel_rfl
theorem sm3_5 (rd : Option Nat) : roundT Tryz.prog (orcSm D) (sm5L C) 100 0 rd 3 smLp3 smT3 smX [.i 5] = cond (codesB [(smLp5, smLp5)]) (bif C 5 26 0 ⟨8175, 67084288, 480969228288, 4432681127378944⟩ then some (.normal, [.i 6], []) else none) none := by kernel_rfl
theorem sm3_6 (rd : Option Nat) : roundT Tryz.prog (orcSm D) (sm5L C) 100 0 rd 3 smLp3 smT3 smX [.i 6] = cond (codesB [(smLp5, smLp5)]) (bif C 6 26 0 ⟨8127, 62906368, 549621596160, 4498651825045504⟩ then some (.normal, [.i 7], []) else none) none := by kernel_rfl
theorem sm3_7 (rd : Option Nat) : roundT Tryz.prog (orcSm D) (sm5L C) 100 0 rd 3 smLp3 smT3 smX [.i 7] = cond (codesB [(smLp5, smLp5)]) (bif C 7 8 0 ⟨8191, 58580992, 549688705024, 4431581615751168⟩ then some (.normal, [.i 8], []) else none) none := by kernel_rfl
theorem sm3_8 (rd : Option Nat) : roundT Tryz.prog (orcSm D) (sm5L C) 100 0 rd 3 smLp3 smT3 smX [.i 8] = some (.exit 4, [], []) := by kernel_rfl
end
end Go.Proofs.YtpalajfcffdhoaaGreatDoor

/- Chapter 6: the law DealSmall: the rounds over the cards, and over the text, number by number. -/
namespace Go.Proofs.YtpalajfcffdhoaaGreatDoor
open Go Go.Eng Go.Deal
noncomputable def okR1 (rd : Option Nat) (c : Nat) : Bool := match roundT Tryz.prog (orcSm gL) noLoops 100 0 rd 3 smLp1 smT1 smX [.i (c : Int)] with
  | some (.normal, [.i m], []) => decide (m = (c : Int) + 1)
  | _ => false
theorem okR1_is {rd : Option Nat} {c : Nat} (h : okR1 rd c = true) : roundT Tryz.prog (orcSm gL) noLoops 100 0 rd 3 smLp1 smT1 smX [.i (c : Int)] = some (.normal, [.i ((c + 1 : Nat) : Int)], []) := by
  unfold okR1 at h
  split at h
  · rename_i m hm
    rw [hm, of_decide_eq_true h]; rfl
  · cases h
theorem sm1_all (rd : Option Nat) : (List.range 56).all (okR1 rd) = true := by kernel_rfl
theorem sm1_end (rd : Option Nat) : roundT Tryz.prog (orcSm gL) noLoops 100 0 rd 3 smLp1 smT1 smX [.i ((56 : Nat) : Int)] = some (.exit 0, [], []) := by kernel_rfl
noncomputable def okR6 (rd : Option Nat) (i : Nat) : Bool := match roundT Tryz.prog (orcSm gL) noLoops 100 0 rd 3 smLp6 smT6 smX6 [.s sL, .i ((3 * i : Nat) : Int)] with
  | some (.normal, [.s s, .i m], []) => strEq s sL && decide (m = ((3 * (i + 1) : Nat) : Int))
  | _ => false
theorem okR6_is {rd : Option Nat} {i : Nat} (h : okR6 rd i = true) : roundT Tryz.prog (orcSm gL) noLoops 100 0 rd 3 smLp6 smT6 smX6 [.s sL, .i ((3 * i : Nat) : Int)] = some (.normal, [.s sL, .i ((3 * (i + 1) : Nat) : Int)], []) := by
  unfold okR6 at h
  split at h
  · rename_i s m hm
    rw [Bool.and_eq_true, strEq_iff, decide_eq_true_eq] at h
    rw [hm, h.1, h.2]
  · cases h
theorem sm6_end (rd : Option Nat) : roundT Tryz.prog (orcSm gL) noLoops 100 0 rd 3 smLp6 smT6 smX6 [.s sL, .i ((3 * 24 : Nat) : Int)] = some (.exit 10, [], []) := by kernel_rfl
end Go.Proofs.YtpalajfcffdhoaaGreatDoor

/- Chapter 6: the law DealSmall: rounds over the text, part 1 of 4. -/
namespace Go.Proofs.YtpalajfcffdhoaaGreatDoor
open Go Go.Eng Go.Deal
theorem sm6_0 (rd : Option Nat) : okR6 rd 0 = true := by kernel_rfl
theorem sm6_1 (rd : Option Nat) : okR6 rd 1 = true := by kernel_rfl
theorem sm6_2 (rd : Option Nat) : okR6 rd 2 = true := by kernel_rfl
theorem sm6_3 (rd : Option Nat) : okR6 rd 3 = true := by kernel_rfl
theorem sm6_4 (rd : Option Nat) : okR6 rd 4 = true := by kernel_rfl
theorem sm6_5 (rd : Option Nat) : okR6 rd 5 = true := by kernel_rfl
end Go.Proofs.YtpalajfcffdhoaaGreatDoor

/- Chapter 6: the law DealSmall: rounds over the text, part 2 of 4. -/
namespace Go.Proofs.YtpalajfcffdhoaaGreatDoor
open Go Go.Eng Go.Deal
theorem sm6_6 (rd : Option Nat) : okR6 rd 6 = true := by kernel_rfl
theorem sm6_7 (rd : Option Nat) : okR6 rd 7 = true := by kernel_rfl
theorem sm6_8 (rd : Option Nat) : okR6 rd 8 = true := by kernel_rfl
theorem sm6_9 (rd : Option Nat) : okR6 rd 9 = true := by kernel_rfl
theorem sm6_10 (rd : Option Nat) : okR6 rd 10 = true := by kernel_rfl
theorem sm6_11 (rd : Option Nat) : okR6 rd 11 = true := by kernel_rfl
end Go.Proofs.YtpalajfcffdhoaaGreatDoor

/- Chapter 6: the law DealSmall: rounds over the text, part 3 of 4. -/
namespace Go.Proofs.YtpalajfcffdhoaaGreatDoor
open Go Go.Eng Go.Deal
theorem sm6_12 (rd : Option Nat) : okR6 rd 12 = true := by kernel_rfl
theorem sm6_13 (rd : Option Nat) : okR6 rd 13 = true := by kernel_rfl
theorem sm6_14 (rd : Option Nat) : okR6 rd 14 = true := by kernel_rfl
theorem sm6_15 (rd : Option Nat) : okR6 rd 15 = true := by kernel_rfl
theorem sm6_16 (rd : Option Nat) : okR6 rd 16 = true := by kernel_rfl
theorem sm6_17 (rd : Option Nat) : okR6 rd 17 = true := by kernel_rfl
end Go.Proofs.YtpalajfcffdhoaaGreatDoor

/- Chapter 6: the law DealSmall: rounds over the text, part 4 of 4. -/
namespace Go.Proofs.YtpalajfcffdhoaaGreatDoor
open Go Go.Eng Go.Deal
theorem sm6_18 (rd : Option Nat) : okR6 rd 18 = true := by kernel_rfl
theorem sm6_19 (rd : Option Nat) : okR6 rd 19 = true := by kernel_rfl
theorem sm6_20 (rd : Option Nat) : okR6 rd 20 = true := by kernel_rfl
theorem sm6_21 (rd : Option Nat) : okR6 rd 21 = true := by kernel_rfl
theorem sm6_22 (rd : Option Nat) : okR6 rd 22 = true := by kernel_rfl
theorem sm6_23 (rd : Option Nat) : okR6 rd 23 = true := by kernel_rfl
end Go.Proofs.YtpalajfcffdhoaaGreatDoor
