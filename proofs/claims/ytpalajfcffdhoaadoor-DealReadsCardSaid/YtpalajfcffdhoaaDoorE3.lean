/- Texts merged: E3, Sp1, Sp2. -/
import Derived.Test.YtpalajfcffdhoaaDoorCRParse3
/- Chapter 6, the reference: Partial, Right: their contracts. -/
namespace Go.Proofs.YtpalajfcffdhoaaDoor
open Go Go.Eng Go.Deal
structure E6 where
  u : Int → Bool
  ma : Int → Int
  hk : Int → Int → Int → Int → Int → Bool
  ho : Int → Int → Int → Int → Int → Int
section
variable (E : E6)
def gMa : List V → Option (Bool × V)
  | [.int .u64 m] => some (E.u m, .int .i64 (E.ma m))
  | _ => none
def gHo : List V → Option (Bool × V)
  | [.agg [.int .u64 a, .int .u64 b, .int .u64 c, .int .u64 d], .int .i64 k] => some (E.hk a b c d k, .int .i64 (E.ho a b c d k))
  | _ => none
def tabQ : PTab := addTab 77 (gMa E) (addTab 78 (gHo E) emptyTab)
noncomputable abbrev orcQ : Oracle := orcN n6 (tabQ E) plainL
def prS (x : Int) (K : Option V) : Option V := bif !decide (x < 4503599627370496) then flsV else bif E.u x then bif decide (13 < E.ma x) then flsV else K else none
def prL (a b c d : Int) : Nat → Int → Option V
  | 0, _ => some (.bool true)
  | f + 1, i => bif E.hk a b c d i then bif decide (1 < E.ho a b c d i) then flsV else prL a b c d f (i + 1) else none
theorem rpar_eval (a b c d : Int) : evalFn Tryd.prog (orcQ E) noLoops 100 50 Tryd.f50 [q4 a b c d] [] (fun v _ => some v) = prS E a (prS E b (prS E c (prS E d (prL E a b c d 52 0)))) := by kernel_rfl
end
def e6 : E6 := ⟨in64, maI, fun a b c d k => in4 a b c d && decide (0 ≤ k ∧ k ≤ 1000), hoI⟩
theorem e6u (x : Int) : e6.u x = in64 x := rfl
theorem e6m (x : Int) : e6.ma x = maI x := rfl
theorem e6k (a b c d k : Int) : e6.hk a b c d k = (in4 a b c d && decide (0 ≤ k ∧ k ≤ 1000)) := rfl
theorem e6o (a b c d k : Int) : e6.ho a b c d k = hoI a b c d k := rfl
theorem maI_n (x : Nat) : maI (x : Int) = ((cnt x 52 : Nat) : Int) := by unfold maI; rw [Int.toNat_natCast]
theorem tabQ_ok : PTabOk Tryd.prog (tabQ e6) := by
  refine addTab_ok ?_ (addTab_ok ?_ emptyTab_ok)
  · intro args c v h hc
    unfold gMa at h; split at h
    · cases h; rw [e6u] at hc; rw [e6m]; exact many_p hc
    · cases h
  · intro args c v h hc
    unfold gHo at h; split at h
    · cases h
      rw [e6k, Bool.and_eq_true, decide_eq_true_eq] at hc
      rw [e6o]
      exact hold_p hc.1 hc.2
    · cases h
theorem prS_is {x : Nat} (hx : x < 18446744073709551616) (K : Option V) : prS e6 (x : Int) K = if x < 2 ^ 52 ∧ cnt x 52 ≤ 13 then K else flsV := by
  unfold prS
  by_cases h1 : x < 4503599627370496
  · rw [decide_eq_true (show (x : Int) < 4503599627370496 by omega), e6u, e6m, maI_n, in64_iff.2 ⟨by omega, by omega⟩]
    by_cases h2 : cnt x 52 ≤ 13
    · rw [if_pos ⟨h1, h2⟩, decide_eq_false (by omega)]; rfl
    · rw [if_neg (fun h => h2 h.2), decide_eq_true (by omega)]; rfl
  · rw [if_neg (fun h => h1 h.1), decide_eq_false (by omega)]; rfl
def hoN (a b c d i : Nat) : Nat := (if a.testBit i then 1 else 0) + (if b.testBit i then 1 else 0) + (if c.testBit i then 1 else 0) + (if d.testBit i then 1 else 0)
theorem ho_n (a b c d i : Nat) : hoI (a : Int) b c d (i : Int) = ((hoN a b c d i : Nat) : Int) := by
  unfold hoI hoN b1
  rw [Int.toNat_natCast, Int.toNat_natCast, Int.toNat_natCast, Int.toNat_natCast, Int.toNat_natCast]
  cases a.testBit i <;> cases b.testBit i <;> cases c.testBit i <;> cases d.testBit i <;> rfl
theorem hk_n {a b c d : Nat} (h : in4 (a : Int) b c d = true) {i : Nat} (hi : i ≤ 1000) : e6.hk (a : Int) b c d (i : Int) = true := by
  rw [e6k, h, decide_eq_true (show 0 ≤ (i : Int) ∧ (i : Int) ≤ 1000 by omega)]; rfl
def allB (a b c d : Nat) : Nat → Nat → Bool
  | 0, _ => true
  | f + 1, i => decide (hoN a b c d i ≤ 1) && allB a b c d f (i + 1)
theorem allB_iff (a b c d : Nat) : ∀ (f i : Nat), allB a b c d f i = true ↔ ∀ j, i ≤ j → j < i + f → hoN a b c d j ≤ 1
  | 0, i => ⟨fun _ j h1 h2 => by omega, fun _ => rfl⟩
  | f + 1, i => by
    have ih := allB_iff a b c d f (i + 1)
    rw [allB, Bool.and_eq_true, decide_eq_true_eq, ih]
    constructor
    · rintro ⟨q, H⟩ j h1 h2
      by_cases e : j = i
      · subst e; exact q
      · exact H j (by omega) (by omega)
    · intro H
      exact ⟨H i (by omega) (by omega), fun j h1 h2 => H j (by omega) (by omega)⟩
theorem prL_is {a b c d : Nat} (h : in4 (a : Int) b c d = true) : ∀ (f i : Nat), i + f ≤ 1000 → prL e6 (a : Int) b c d f (i : Int) = some (.bool (allB a b c d f i))
  | 0, i, _ => rfl
  | f + 1, i, hi => by
    have ih := prL_is h f (i + 1) (by omega)
    rw [prL, hk_n h (by omega), cond_true, e6o, ho_n, show (i : Int) + 1 = ((i + 1 : Nat) : Int) by omega, ih, allB]
    by_cases q : hoN a b c d i ≤ 1
    · rw [decide_eq_false (show ¬ (1 : Int) < ((hoN a b c d i : Nat) : Int) by omega), cond_false, decide_eq_true q, Bool.true_and]
    · rw [decide_eq_true (show (1 : Int) < ((hoN a b c d i : Nat) : Int) by omega), cond_true, decide_eq_false q, Bool.false_and]; rfl
theorem ho_part {a b c d : Nat} (ha : a < 2 ^ 52) (hb : b < 2 ^ 52) (hc : c < 2 ^ 52) (hd : d < 2 ^ 52) : (∀ j, 0 ≤ j → j < 0 + 52 → hoN a b c d j ≤ 1) ↔ (Dis a b ∧ Dis a c ∧ Dis a d ∧ Dis b c ∧ Dis b d ∧ Dis c d) := by
  constructor
  · intro H
    have key : ∀ j, hoN a b c d j ≤ 1 := fun j => by
      rcases Nat.lt_or_ge j 52 with h | h
      · exact H j (by omega) (by omega)
      · unfold hoN; rw [bit_lt ha h, bit_lt hb h, bit_lt hc h, bit_lt hd h]; decide
    refine ⟨fun j x y => ?_, fun j x y => ?_, fun j x y => ?_, fun j x y => ?_, fun j x y => ?_, fun j x y => ?_⟩ <;>
    · have := key j
      unfold hoN at this
      revert this
      rw [x, y]
      cases a.testBit j <;> cases b.testBit j <;> cases c.testBit j <;> cases d.testBit j <;> decide
  · rintro ⟨h1, h2, h3, h4, h5, h6⟩ j _ _
    have q1 := h1 j; have q2 := h2 j; have q3 := h3 j; have q4 := h4 j; have q5 := h5 j; have q6 := h6 j
    unfold hoN
    cases ha : a.testBit j <;> cases hb : b.testBit j <;> cases hc : c.testBit j <;> cases hd : d.testBit j <;> simp_all
theorem rpar_p {a b c d : Int} (h : in4 a b c d = true) : FnPure Tryd.prog 50 [q4 a b c d] (.bool (parB a b c d)) := by
  have h4 := h
  obtain ⟨a, b, c, d, rfl, rfl, rfl, rfl, ha, hb, hc, hd⟩ := in4_nat h
  refine fnPure_of_eval (N := 100) (orcN_ok tabQ_ok plainL_ok) mixed Tryd.func50 (by kernel_rfl) noLoops_ok ?_ rfl rfl
  refine (rpar_eval e6 _ _ _ _).trans ?_
  have hl := prL_is h4 52 0 (by decide)
  rw [prS_is ha, prS_is hb, prS_is hc, prS_is hd, show (0 : Int) = ((0 : Nat) : Int) from rfl, hl]
  have hq := parB_iff (a := a) (b := b) (c := c) (d := d)
  by_cases p1 : a < 2 ^ 52 ∧ cnt a 52 ≤ 13
  · by_cases p2 : b < 2 ^ 52 ∧ cnt b 52 ≤ 13
    · by_cases p3 : c < 2 ^ 52 ∧ cnt c 52 ≤ 13
      · by_cases p4 : d < 2 ^ 52 ∧ cnt d 52 ≤ 13
        · rw [if_pos p1, if_pos p2, if_pos p3, if_pos p4]
          refine congrArg (fun b => some (V.bool b)) ?_
          rw [Bool.eq_iff_iff, allB_iff, hq, ho_part p1.1 p2.1 p3.1 p4.1]
          exact ⟨fun ⟨x1, x2, x3, x4, x5, x6⟩ => ⟨p1.1, p2.1, p3.1, p4.1, p1.2, p2.2, p3.2, p4.2, x1, x2, x3, x4, x5, x6⟩, fun P => ⟨P.ab, P.ac, P.ad, P.bc, P.bd, P.cd'⟩⟩
        · rw [if_pos p1, if_pos p2, if_pos p3, if_neg p4, Bool.eq_false_iff.2 (fun h => p4 ⟨(hq.1 h).ld, (hq.1 h).cd⟩)]; rfl
      · rw [if_pos p1, if_pos p2, if_neg p3, Bool.eq_false_iff.2 (fun h => p3 ⟨(hq.1 h).lc, (hq.1 h).cc⟩)]; rfl
    · rw [if_pos p1, if_neg p2, Bool.eq_false_iff.2 (fun h => p2 ⟨(hq.1 h).lb, (hq.1 h).cb⟩)]; rfl
  · rw [if_neg p1, Bool.eq_false_iff.2 (fun h => p1 ⟨(hq.1 h).la, (hq.1 h).ca⟩)]; rfl
end Go.Proofs.YtpalajfcffdhoaaDoor

/- Chapter 6: strings.Split at spaces, within deal.Read: one round. -/
namespace Go.Proofs.YtpalajfcffdhoaaDoor
open Go Go.Eng
def u64t : TR := .vs [.int .u64, .int .u64, .int .u64, .int .u64]
noncomputable def ssLp : Code := loopOf 11 Tryd.f35
def ssT : Tm := ⟨mkS [(0, .str), (1, .str), (2, .lit .i64 0), (3, .int .i64), (9, .gs 2), (10, .int .i64)] 0 66, [.own 25 u64t, .own 25 u64t, .grow true 9 1 .strs], []⟩
structure R8 where
  r0 : Int
  r1 : Int
  r2 : Int
  r3 : Int
  p0 : Int
  p1 : Int
  p2 : Int
  p3 : Int
def ssP (s : ByteArray) (n i : Int) (r : R8) (ss : List ByteArray) : List PV := [.s s, .s ⟨⟨[32]⟩⟩, .i n, .i i, .i r.r0, .i r.r1, .i r.r2, .i r.r3, .i r.p0, .i r.p1, .i r.p2, .i r.p3, .ss ss]
noncomputable def ssR (n i : Int) (k : Int) (s : ByteArray) (r : R8) (ss : List ByteArray) : RT := bif decide (i < n) then bif decide (k < 0) then some (.exit 0, ssP s n i r ss, []) else
    bif decide (0 ≤ (0 : Int) ∧ 0 ≤ wr .i64 (k + 0) ∧ wr .i64 (k + 0) ≤ Int.ofNat s.data.toList.length) then bif decide (0 ≤ i ∧ i < Int.ofNat ss.length) then bif decide (i.toNat < ss.length) then
      bif decide (0 ≤ wr .i64 (k + 1) ∧ wr .i64 (k + 1) ≤ Int.ofNat s.data.toList.length ∧ Int.ofNat s.data.toList.length ≤ Int.ofNat s.data.toList.length) then
        some (.normal, ssP (extS s (wr .i64 (k + 1)).toNat (Int.ofNat s.data.toList.length).toNat) n (wr .i64 (i + 1)) r (ss.set i.toNat (extS s (0 : Int).toNat (wr .i64 (k + 0)).toNat)), [])
      else none else none else none else none
  else some (.exit 0, ssP s n i r ss, [])
theorem ss_round (rd : Option Nat) (s : ByteArray) (n i : Int) (r : R8) (ss : List ByteArray) : roundT Tryd.prog (N4.orcS N4.tabI plainL) noLoops 100 2 rd 35 ssLp ssT ssT (ssP s n i r ss) = ssR n i (N4.idxI s 32) s r ss := by kernel_rfl
structure ES where
  pk : ByteArray → Bool
  pv : ByteArray → Int
  pe : ByteArray → Int
  u4 : Int → Int → Int → Int → Bool
  pb : Int → Int → Int → Int → Bool
  C : ByteArray → Int → Int → List ByteArray → Bool
  S : ByteArray → ByteArray
  L : ByteArray → List ByteArray
  I : ByteArray → Int
  cs : ByteArray → ByteArray
  cb : ByteArray → Bool
section
variable (E : ES)
def ssTr : List PV → Fin
  | [.s s, .s sep, .i n, .i i, .i r0, .i r1, .i r2, .i r3, .i p0, .i p1, .i p2, .i p3, .ss ss] => .br (strEq sep ⟨⟨[32]⟩⟩ && E.C s n i ss) (.leaf (.exit 0) (ssT.at (ssP (E.S s) n (E.I s) ⟨r0, r1, r2, r3, p0, p1, p2, p3⟩ (E.L s)))) .no
  | _ => .no
noncomputable def ssL : FuncId → Loops := fun f => match f with
  | 35 => sums (fun n => match n with | 11 => some (lsumF 2 ssT ssLp (ssTr E)) | _ => none)
  | _ => noLoops
def sPa : List V → Option (Bool × V)
  | [.str s] => some (E.pk s, .tuple [.int .u64 (E.pv s), .int .i64 (E.pe s)])
  | _ => none
def sPb : List V → Option (Bool × V)
  | [.agg [.int .u64 a, .int .u64 b, .int .u64 c, .int .u64 d]] => some (E.u4 a b c d, .bool (E.pb a b c d))
  | _ => none
def sCp : List V → Option (Bool × V)
  | [.str s, .str ⟨⟨[78, 58]⟩⟩] => some (true, .tuple [.str (E.cs s), .bool (E.cb s)])
  | _ => none
def tabSp : PTab := addTab 14 (sCp E) (addTab 16 (sPa E) (addTab 8 (sPb E) N4.tabI))
noncomputable abbrev orcSp : Oracle := N4.orcS (tabSp E) (ssL E)
end
end Go.Proofs.YtpalajfcffdhoaaDoor

/- Chapter 6: deal.Read's own course. -/
namespace Go.Proofs.YtpalajfcffdhoaaDoor
open Go Go.Eng
def nS (s : ByteArray) : Int := foldI minI (wr .i64 (N4.cntI s 32 + 1)) [wr .i64 (Int.ofNat s.data.toList.length + 1)]
def e61 : Option V := some (.tuple [.agg [.int .u64 0, .int .u64 0, .int .u64 0, .int .u64 0], .int .i64 61])
section
variable (E : ES)
def rdF (p0 p1 p2 p3 : Int) : Option V := bif E.u4 p0 p1 p2 p3 then bif !E.pb p0 p1 p2 p3 then e61 else some (.tuple [.agg [.int .u64 p0, .int .u64 p1, .int .u64 p2, .int .u64 p3], .int .i64 0]) else none
def rdI (i : Int) (vl : Nat) (L : List ByteArray) (K : Int → Option V) (F : Option V) : Option V := bif decide (i < Int.ofNat vl) then bif decide (0 ≤ i ∧ i < Int.ofNat vl ∧ 0 + vl ≤ L.length) then (match L[i.toNat]? with
  | some x => bif E.pk x then bif !decide (E.pe x = 0) then e61 else K (E.pv x) else none
  | none => none) else none else F
def rdX (vl : Nat) (L : List ByteArray) : Option V := rdI E 0 vl L (fun p0 => rdI E 1 vl L (fun p1 => rdI E 2 vl L (fun p2 => rdI E 3 vl L (fun p3 => rdI E 4 vl L (fun _ => none) (rdF E p0 p1 p2 p3)) (rdF E p0 p1 p2 0)) (rdF E p0 p1 0 0)) (rdF E p0 0 0 0)) (rdF E 0 0 0 0)
noncomputable def rdS (s : ByteArray) (K : Nat → List ByteArray → Option V) : Option V :=
  bif decide (0 ≤ nS s ∧ nS s ≤ nS s ∧ nS s * 17 ≤ 140737488355328) then (cond (codesB [(ssLp, ssLp)])
    (bif strEq ⟨⟨[32]⟩⟩ ⟨⟨[32]⟩⟩ && E.C s (wr .i64 (nS s - 1)) 0 (List.replicate (nS s).toNat ⟨#[]⟩) then 
        bif decide (0 ≤ E.I s ∧ E.I s < Int.ofNat (E.L s).length) then bif decide ((E.I s).toNat < (E.L s).length) then
          bif decide (0 ≤ (0 : Int) ∧ 0 ≤ wr .i64 (E.I s + 1) ∧ wr .i64 (E.I s + 1) ≤ Int.ofNat ((E.L s).set (E.I s).toNat (E.S s)).length) then K (wr .i64 (E.I s + 1)).toNat ((E.L s).set (E.I s).toNat (E.S s)) else none
        else none else none
     else none) none) else none
theorem read_eval (s : ByteArray) : evalFn Tryd.prog (orcSp E) noLoops 100 7 Tryd.f7 [.str s] [] (fun v _ => some v) =
    bif !E.cb s then e61 else bif decide (69 < Int.ofNat s.data.toList.length) then e61 else
    rdS E (E.cs s) fun vl L => bif !decide (Int.ofNat vl = 4) then e61 else rdX E vl L := by kernel_rfl
end
end Go.Proofs.YtpalajfcffdhoaaDoor
