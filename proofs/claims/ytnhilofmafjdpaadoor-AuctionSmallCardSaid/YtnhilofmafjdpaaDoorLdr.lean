/- Texts merged: Ldr, EndT, End1. -/
import Derived.Test.YtnhilofmafjdpaaDoorRB
import Derived.Test.YtnhilofmafjdpaaDoorKit3
/- Chapter 9: Leader, by the program and by the reference; the law AuctionLeader. -/
namespace Go.Proofs.YtnhilofmafjdpaaDoor
open Go Go.Eng
def ldN (a b c d : Int) : Bool := decide (7 < a) || (decide (4 < b) || (decide (2 < c) || decide (3 < d)))
def ldE (a b c d : Int) : Int := bif decide (a = 0) then 6 else bif ldN a b c d then 2 else 0
def ldV (a b c d : Int) : Int := bif decide (a = 0) || ldN a b c d then 0 else (d + 1).tmod 4
def ctA (a b c d : Int) : V := .agg [.int .u8 a, .int .u8 b, .int .u8 c, .int .u8 d]
noncomputable def ldF (v e : Int) : Option V := some (.tuple [.int .u8 v, .int .i64 e])
noncomputable def ldX (a b c d z : Int) : Option V := bif decide (a = 0) then ldF 0 6 else bif decide (7 < a) then ldF 0 2 else bif decide (4 < b) then ldF 0 2 else bif decide (2 < c) then ldF 0 2 else bif decide (3 < d) then ldF 0 2 else ldF z 0
theorem leader_eval (a b c d : Int) : evalP emptyTab 27 Tryd.f27 [ctA a b c d] = ldX a b c d ((wr .u8 (d + 1)).tmod 4) := by kernel_rfl
theorem rleader_eval (a b c d : Int) : evalP emptyTab 32 Tryd.f32 [ctA a b c d] = ldX a b c d (wr .u8 ((wr .i64 (wr .i64 d + 1)).tmod 4)) := by kernel_rfl
theorem ldX_is (a b c d : Int) {z : Int} (h : d ≤ 3 → z = (d + 1).tmod 4) : ldX a b c d z = some (.tuple [.int .u8 (ldV a b c d), .int .i64 (ldE a b c d)]) := by
  unfold ldX ldV ldE ldN ldF
  by_cases hd : 3 < d
  · rw [decide_eq_true hd]
    cases decide (a = 0) <;> cases decide (7 < a) <;> cases decide (4 < b) <;> cases decide (2 < c) <;> rfl
  · rw [decide_eq_false hd, h (by omega)]
    cases decide (a = 0) <;> cases decide (7 < a) <;> cases decide (4 < b) <;> cases decide (2 < c) <;> rfl
theorem leader_p (a b c : Int) {d : Int} (h0 : 0 ≤ d) : FnPure Tryd.prog 27 [ctA a b c d] (.tuple [.int .u8 (ldV a b c d), .int .i64 (ldE a b c d)]) :=
  pure_at emptyTab_ok Tryd.func27 (by kernel_rfl) (by rw [leader_eval, ldX_is]; intro h; rw [wr_u8_id (by omega)]) rfl rfl
theorem rleader_p (a b c : Int) {d : Int} (h0 : 0 ≤ d) : FnPure Tryd.prog 32 [ctA a b c d] (.tuple [.int .u8 (ldV a b c d), .int .i64 (ldE a b c d)]) :=
  pure_at emptyTab_ok Tryd.func32 (by kernel_rfl) (by
    rw [rleader_eval, ldX_is]; intro h
    rw [wr64 (n := d) (by omega) (by omega), wr64 (by omega) (by omega), wr_u8_id]
    rw [Int.tmod_eq_emod_of_nonneg (by omega)]; omega) rfl rfl
def gLead (LV LE : Int → Int → Int → Int → Int) : List V → Option (Bool × V)
  | [.agg [.int .u8 a, .int .u8 b, .int .u8 c, .int .u8 d]] => some (decide (0 ≤ d), .tuple [.int .u8 (LV a b c d), .int .i64 (LE a b c d)])
  | _ => none
def tabLd (LV LE : Int → Int → Int → Int → Int) (T : PTab) : PTab := addTab 27 (gLead LV LE) (addTab 32 (gLead LV LE) T)
theorem tabLd_ok {T : PTab} (hT : PTabOk Tryd.prog T) : PTabOk Tryd.prog (tabLd ldV ldE T) := by
  refine addTab_ok ?_ (addTab_ok ?_ hT)
  · intro args c v h hc
    unfold gLead at h
    split at h
    · cases h; exact leader_p _ _ _ (of_decide_eq_true hc)
    · cases h
  · intro args c v h hc
    unfold gLead at h
    split at h
    · cases h; exact rleader_p _ _ _ (of_decide_eq_true hc)
    · cases h
theorem auctionLeader_eval (N : NA) (LV LE : Int → Int → Int → Int → Int) (a b c d : Int) : evalFn Tryd.prog (orcA N (tabLd LV LE emptyTab) plainL) noLoops 100 3 Tryd.f3 [ctA a b c d] gH (fun v _ => some v) =
    bif decide (0 ≤ d) then bif decide (0 ≤ d) then bif decide (LV a b c d = LV a b c d) then bif decide (LE a b c d = LE a b c d) then bif pB (textsL = textsL) then some (.bool true) else none else some (.bool false) else some (.bool false) else none else none := by kernel_rfl
theorem auctionLeader_true (a b c : Int) {d : Int} (h0 : 0 ≤ d) : evalFn Tryd.prog (orcA nA (tabLd ldV ldE emptyTab) plainL) noLoops 100 3 Tryd.f3 [ctA a b c d] gH (fun v _ => some v) = some (.bool true) := by
  rw [auctionLeader_eval, decide_eq_true h0, decide_eq_true (rfl : ldV a b c d = ldV a b c d), decide_eq_true (rfl : ldE a b c d = ldE a b c d), pB_iff.2 rfl]; rfl
end Go.Proofs.YtnhilofmafjdpaaDoor

/- Chapter 9: the law AuctionEnds: IsSorted; its loops' templates. -/
namespace Go.Proofs.YtnhilofmafjdpaaDoor
open Go Go.Eng
def srt (xs : List Int) : Bool := decide (xs.Pairwise (· ≤ ·))
theorem so_round (nn : Bool) (rd : Option Nat) (b : Bool) (i : Int) (xs : List Int) : roundT Tryd.prog (orcE emptyTab plainL) noLoops 100 1 rd 25 soLp (soT nn) (soX nn) [.b b, .i i, .l xs] =
    bif decide (0 < i) then atU xs i (fun x => atU xs (wr .i64 (i - 1)) (fun y => bif !decide (x = x) then bif !!decide (y = y) then some (.ret, [.b false, .l xs], []) else
      bif decide (x < y) then some (.ret, [.b false, .l xs], []) else some (.normal, [.b b, .i (wr .i64 (i - 1)), .l xs], []) else
      bif decide (x < y) then some (.ret, [.b false, .l xs], []) else some (.normal, [.b b, .i (wr .i64 (i - 1)), .l xs], []))) else some (.exit 0, [.b b, .l xs], []) := by cases nn <;> kernel_rfl
theorem so_loop (nn : Bool) (rd : Option Nat) (b : Bool) (xs : List Int) (hs : srt xs = true) (hl : xs.length ≤ 1000000) : ∀ i : Int, -1 ≤ i ∧ i < (xs.length : Int) →
    SimC Tryd.prog 1 rd (.loop soLp) ((soT nn).at [.b b, .i i, .l xs]) (.exit 0) ((soX nn).at [.b b, .l xs]) := by
  refine loop_of_rounds (C := orcE emptyTab plainL) (L := noLoops) (N := 100) (me := 25) (T := soT nn) (T' := soX nn) (orcE_ok emptyTab_ok plainL_ok) mixed noLoops_ok (by cases nn <;> kernel_rfl) (by cases nn <;> kernel_rfl) (X := Int)
    (fun i => [.b b, .i i, .l xs]) (fun i => -1 ≤ i ∧ i < (xs.length : Int)) (fun i => (i + 1).toNat) (fun _ => (.exit 0, [.b b, .l xs])) ?_
  intro i hi
  have h := so_round nn rd b i xs
  by_cases hp : 0 < i
  · obtain ⟨k, rfl⟩ : ∃ k : Nat, i = ((k + 1 : Nat) : Int) := ⟨(i - 1).toNat, by omega⟩
    have e1 : wr .i64 (((k + 1 : Nat) : Int) - 1) = (k : Int) := by rw [wr64 (by omega) (by omega)]; omega
    have hlt : k + 1 < xs.length := by omega
    have hle : xs[k] ≤ xs[k + 1] := List.pairwise_iff_getElem.1 (of_decide_eq_true hs) k (k + 1) (by omega) hlt (by omega)
    rw [decide_eq_true hp, cond_true, e1, atU_at hlt, atU_at (show k < xs.length by omega), decide_eq_true (rfl : xs[k + 1] = xs[k + 1]), decide_eq_false (show ¬ xs[k + 1] < xs[k] by omega)] at h
    exact ⟨_, _, _, h, codes0, .inl ⟨rfl, (k : Int), rfl, by omega, by omega, rfl⟩⟩
  · rw [decide_eq_false hp, cond_false] at h
    exact ⟨_, _, _, h, codes0, .inr ⟨by simp, rfl⟩⟩
noncomputable def soTree (S : List Int → Bool) (nn : Bool) : List PV → Fin
  | [.b b, .i i, .l xs] => .br (decide (-1 ≤ i ∧ i < Int.ofNat xs.length) && (S xs && decide (xs.length ≤ 1000000))) (.leaf (.exit 0) ((soX nn).at [.b b, .l xs])) .no
  | _ => .no
noncomputable def soL (S : List Int → Bool) (nn : Bool) : Loops := sums (fun n => match n with | 2 => some (lsumF 1 (soT nn) soLp (soTree S nn)) | _ => none)
theorem soL_ok (nn : Bool) : loopsOk Tryd.prog (soL srt nn) := by
  intro n g hg
  simp only [soL, sums] at hg
  split at hg
  · cases hg
    refine lsumF_ok (by cases nn <;> kernel_rfl) (fun rd ps e1 st1 hq => ?_)
    unfold soTree at hq
    split at hq
    · rename_i b i xs
      simp only [Fin.pick] at hq
      cases hc : (decide (-1 ≤ i ∧ i < Int.ofNat xs.length) && (srt xs && decide (xs.length ≤ 1000000))) with
      | false => rw [hc] at hq; cases hq
      | true =>
        rw [hc, cond_true] at hq
        simp only [Bool.and_eq_true, decide_eq_true_eq] at hc
        cases hq
        exact so_loop nn rd b xs hc.2.1 hc.2.2 i hc.1
    · cases hq
  · cases hg
theorem so_eval (S : List Int → Bool) (nn : Bool) (xs : List Int) : evalFn Tryd.prog (orcE emptyTab plainL) (soL S nn) 100 25 Tryd.f25 [.gs 0] [.rs nn 1 (.ints .u8 xs)] (fun v _ => some v) =
    cond (codesB [(soLp, soLp)]) (bif decide (-1 ≤ wr .i64 (Int.ofNat xs.length - 1) ∧ wr .i64 (Int.ofNat xs.length - 1) < Int.ofNat xs.length) && (S xs && decide (xs.length ≤ 1000000)) then some (.bool true) else none) none := by cases nn <;> kernel_rfl
def soK (xs : List Int) : Bool := srt xs && decide (xs.length ≤ 1000000)
theorem so_fn (nn : Bool) {xs : List Int} (hs : soK xs = true) : FnOK Tryd.prog 25 [.gs 0] [.rs nn 1 (.ints .u8 xs)] (.bool true) [.rs nn 1 (.ints .u8 xs)] := by
  have key : evalFn Tryd.prog (orcE emptyTab plainL) (soL srt nn) 100 25 Tryd.f25 [.gs 0] [.rs nn 1 (.ints .u8 xs)] (fun v _ => some v) = some (.bool true) := by
    have h := so_eval srt nn xs
    have hs' := hs
    simp only [soK, Bool.and_eq_true, decide_eq_true_eq] at hs'
    rw [show (srt xs && decide (xs.length ≤ 1000000)) = true from hs, lpCd, wr64 (n := Int.ofNat xs.length - 1) (by show _ ≤ (xs.length : Int) - 1; omega) (by show (xs.length : Int) - 1 < _; omega), decide_eq_true (show -1 ≤ Int.ofNat xs.length - 1 ∧ Int.ofNat xs.length - 1 < Int.ofNat xs.length by show -1 ≤ (xs.length : Int) - 1 ∧ (xs.length : Int) - 1 < (xs.length : Int); omega)] at h
    exact h
  obtain ⟨v1, h1, hk, hok⟩ := evalFn_ok (orcE_ok emptyTab_ok plainL_ok) mixed Tryd.func25 (soL_ok nn) key
  cases hk
  exact hok.plain rfl rs_ro
def gSo (S : List Int → Bool) : List V → List Blk → Option (Bool × V × List Blk)
  | [.gs 0], [.rs _ 1 (.ints .u8 xs)] => some (S xs, .bool true, [])
  | _, _ => none
noncomputable def hTabS (K : NK) (S : List Int → Bool) : HTab := addH 25 (gSo S) (hTabK K)
def domS : FuncId → Bool := fun f => Nat.beq f 25 || domK f
theorem hTabS_ok : HTabOk Tryd.prog (hTabS nK soK) := by
  refine addH_ok ?_ hTabK_ok
  intro args h c v nb hq hc
  unfold gSo at hq
  split at hq
  · cases hq; exact ⟨.of Tryd.func25 (by kernel_rfl), by rw [List.append_nil]; exact so_fn _ hc⟩
  · cases hq
noncomputable abbrev orcS (K : NK) (S : List Int → Bool) (T : PTab) (LL : FuncId → Loops) : Oracle := inl Tryd.prog ftab T LL 100 never domS (orElse isCl (hOrcP nrK (hTabS K S)) (hOrcN glA nrK (hTabS K S))) 20
theorem orcS_ok {T : PTab} (hT : PTabOk Tryd.prog T) {LL : FuncId → Loops} (hL : ∀ f, loopsOk Tryd.prog (LL f)) : OracleOk Tryd.prog (orcS nK soK T LL) := inl_ok (orElse_ok (hOrcP_ok hTabS_ok) (hOrcN_ok hTabS_ok)) ftab_ok hT hL mixed 20
/-! ### the loops' templates -/
noncomputable def e1Lp : Code := loopOf 5 Tryd.f8
noncomputable def e2Lp : Code := loopOf 24 Tryd.f8
noncomputable def e3Lp : Code := loopOf 33 Tryd.f8
def tvC : List TV := [.int .u8, .int .u8, .int .u8, .int .u8]
def e1T (nn : Bool) : Tm := ⟨mkS [(4, .bool), (5, .int .u8), (6, .gs 2), (39, .int .i64), (40, .int .i64)] 0 267, [.glob 0 strsT, .rs nn 1 u8s, .grow false 5 1 u8s], []⟩
def e1X (nn : Bool) : Tm := ⟨mkS [(4, .bool), (5, .int .u8), (6, .gs 2)] 0 267, [.glob 0 strsT, .rs nn 1 u8s, .grow false 5 1 u8s], []⟩
def e2T (nn : Bool) : Tm := ⟨mkS [(4, .bool), (5, .int .u8), (6, .gs 2), (14, .ptr 3 0), (16, .int .i64), (19, .int .u8), (21, .int .i64), (172, .gs 2), (173, .int .i64), (174, .int .i64)] 0 267, [.glob 0 strsT, .rs nn 1 u8s, .grow false 5 1 u8s, .own 23 (.vs tvC)], []⟩
def e2X (nn : Bool) : Tm := ⟨mkS [(4, .bool), (5, .int .u8), (6, .gs 2), (14, .ptr 3 0), (16, .int .i64), (21, .int .i64)] 0 267, [.glob 0 strsT, .rs nn 1 u8s, .grow false 5 1 u8s, .own 23 (.vs tvC)], []⟩
def e3T (nn : Bool) : Tm := ⟨mkS [(4, .bool), (5, .int .u8), (6, .gs 2), (14, .ptr 3 0), (21, .int .i64), (27, .int .u8), (28, .int .i64)] 0 267, [.glob 0 strsT, .rs nn 1 u8s, .grow false 5 1 u8s, .own 23 (.vs tvC)], []⟩
def e3X (nn : Bool) : Tm := ⟨mkS [(4, .bool), (5, .int .u8), (14, .ptr 3 0), (27, .int .u8)] 0 267, [.glob 0 strsT, .rs nn 1 u8s, .grow false 5 1 u8s, .own 23 (.vs tvC)], []⟩
def tabEn (LV LE : Int → Int → Int → Int → Int) : PTab := addTab 26 gPartsP (tabLd LV LE emptyTab)
theorem tabEn_ok : PTabOk Tryd.prog (tabEn ldV ldE) := by
  refine addTab_ok ?_ (tabLd_ok emptyTab_ok)
  intro args c v h _
  unfold gPartsP at h
  split at h
  · cases h; rw [← ptV_is]; exact parts_p _
  · cases h
end Go.Proofs.YtnhilofmafjdpaaDoor

/- Chapter 9: the law AuctionEnds: its loops' rounds. -/
namespace Go.Proofs.YtnhilofmafjdpaaDoor
open Go Go.Eng
noncomputable def e1G (K : NK) (S : List Int → Bool) (d i : Int) (l P : List Int) (Z R : RT) : RT :=
  bif decide (0 ≤ (0 : Int) ∧ 0 ≤ i ∧ i ≤ Int.ofNat l.length) then bif decide (0 + (i.toNat - 0) ≤ l.length) then bif K.N.K d P then bif decide (0 ≤ (0 : Int) ∧ 0 ≤ i ∧ i ≤ Int.ofNat l.length) then bif decide (0 + (i.toNat - 0) ≤ l.length) then bif K.N.K d P then
  bif !decide (wr .i64 (K.N.GE d P + K.N.TE d P) = 0) then Z else bif !decide (K.N.TV d P = (wr .u8 (d + wr .u8 (i.tmod 4))).tmod 4) then Z else bif decide (Int.ofNat (K.N.GV d P).length = 0) then Z else
  bif decide ((0 : Int) ≤ 0 ∧ 0 < Int.ofNat (K.N.GV d P).length) then (match (K.N.GV d P)[0]? with | some v => bif !decide (v = 0) then Z else bif S (K.N.GV d P) then atU l i (fun x => bif K.KL (K.N.GV d P) then bif !decide (0 ≤ K.IX x (K.N.GV d P)) then Z else R else none) else none | none => none) else none
  else none else none else none else none else none else none
theorem e1_round (K : NK) (S : List Int → Bool) (LV LE : Int → Int → Int → Int → Int) (nn : Bool) (rd : Option Nat) (b : Bool) (d n i : Int) (tl : List ByteArray) (xs l : List Int) : roundT Tryd.prog (orcS K S (tabEn LV LE) plainL) noLoops 100 2 rd 8 e1Lp (e1T nn) (e1X nn) [.b b, .i d, .i n, .i i, .ss tl, .l xs, .l l] =
    bif decide (i < n) then e1G K S d i l (List.take (i.toNat - 0) l) (some (.ret, [.b false, .i d, .ss tl, .l xs, .l l], [])) (some (.normal, [.b b, .i d, .i n, .i (wr .i64 (i + 1)), .ss tl, .l xs, .l l], [])) else some (.exit 0, [.b b, .i d, .ss tl, .l xs, .l l], []) := by cases nn <;> kernel_rfl
noncomputable def e2G (x d i dn bd c4 : Int) (Z X R : RT) : RT :=
  bif isBid x then bif decide (dnZ x = dn) then bif decide ((wr .i64 (wr .i64 d + i)).tmod 2 = bd.tmod 2) then bif !decide ((wr .i64 (wr .i64 d + i)).tmod 4 = wr .i64 c4) then Z else X else R else R else R
theorem e2_round (K : NK) (S : List Int → Bool) (LV LE : Int → Int → Int → Int → Int) (nn : Bool) (rd : Option Nat) (b : Bool) (d a dn bd n i c1 c2 c3 c4 : Int) (tl : List ByteArray) (xs l : List Int) : roundT Tryd.prog (orcS K S (tabEn LV LE) plainL) noLoops 100 2 rd 8 e2Lp (e2T nn) (e2X nn) [.b b, .i d, .i a, .i dn, .i bd, .i n, .i i, .ss tl, .l xs, .l l, .i c1, .i c2, .i c3, .i c4] =
    bif decide (i < n) then atU l i (fun x => e2G x d i dn bd c4 (some (.ret, [.b false, .i d, .i a, .i bd, .ss tl, .l xs, .l l, .i c1, .i c2, .i c3, .i c4], [])) (some (.exit 2, [.b b, .i d, .i a, .i bd, .ss tl, .l xs, .l l, .i c1, .i c2, .i c3, .i c4], []))
      (some (.normal, [.b b, .i d, .i a, .i dn, .i bd, .i n, .i (wr .i64 (i + 1)), .ss tl, .l xs, .l l, .i c1, .i c2, .i c3, .i c4], []))) else some (.exit 2, [.b b, .i d, .i a, .i bd, .ss tl, .l xs, .l l, .i c1, .i c2, .i c3, .i c4], []) := by cases nn <;> kernel_rfl
noncomputable def e3G (x d i bd r : Int) (Z R : RT) : RT :=
  bif !decide (x = wr .u8 (r + 1)) then Z else bif !(bif decide ((wr .i64 (wr .i64 d + i)).tmod 2 = bd.tmod 2) then decide (r = 1) else !decide (r = 1)) then Z else R
theorem e3_round (K : NK) (S : List Int → Bool) (LV LE : Int → Int → Int → Int → Int) (nn : Bool) (rd : Option Nat) (b : Bool) (d bd r i c1 c2 c3 c4 : Int) (tl : List ByteArray) (xs l : List Int) : roundT Tryd.prog (orcS K S (tabEn LV LE) plainL) noLoops 100 2 rd 8 e3Lp (e3T nn) (e3X nn) [.b b, .i d, .i bd, .i r, .i i, .ss tl, .l xs, .l l, .i c1, .i c2, .i c3, .i c4] =
    bif decide (i < Int.ofNat l.length) then atU l i (fun x => bif !decide (x = 0) then atU l i (fun x => e3G x d i bd r (some (.ret, [.b false, .i d, .i r, .ss tl, .l xs, .l l, .i c1, .i c2, .i c3, .i c4], [])) (some (.normal, [.b b, .i d, .i bd, .i (wr .u8 (r + 1)), .i (wr .i64 (i + 1)), .ss tl, .l xs, .l l, .i c1, .i c2, .i c3, .i c4], []))) else
      some (.normal, [.b b, .i d, .i bd, .i r, .i (wr .i64 (i + 1)), .ss tl, .l xs, .l l, .i c1, .i c2, .i c3, .i c4], [])) else some (.exit 4, [.b b, .i d, .i r, .ss tl, .l xs, .l l, .i c1, .i c2, .i c3, .i c4], []) := by cases nn <;> kernel_rfl
noncomputable def e1Tree (C : Int → Int → List Int → Bool) (nn : Bool) : List PV → Fin
  | [.b b, .i d, .i n, .i i, .ss tl, .l xs, .l l] => .br (decide (i = 0) && C d n l) (.leaf (.exit 0) ((e1X nn).at [.b b, .i d, .ss tl, .l xs, .l l])) .no
  | _ => .no
noncomputable def e2Tree (C : Int → Int → Int → Int → List Int → Int → Bool) (nn : Bool) : List PV → Fin
  | [.b b, .i d, .i a, .i dn, .i bd, .i n, .i i, .ss tl, .l xs, .l l, .i c1, .i c2, .i c3, .i c4] => .br (decide (i = 0) && C d dn bd n l c4) (.leaf (.exit 2) ((e2X nn).at [.b b, .i d, .i a, .i bd, .ss tl, .l xs, .l l, .i c1, .i c2, .i c3, .i c4])) .no
  | _ => .no
noncomputable def e3Tree (C : Int → Int → Int → List Int → Int → Bool) (nn : Bool) : List PV → Fin
  | [.b b, .i d, .i bd, .i r, .i i, .ss tl, .l xs, .l l, .i c1, .i c2, .i c3, .i c4] => .br (decide (r = 0) && C d bd i l c3) (.leaf (.exit 4) ((e3X nn).at [.b b, .i d, .i c3, .ss tl, .l xs, .l l, .i c1, .i c2, .i c3, .i c4])) .no
  | _ => .no
noncomputable def enL (C1 : Int → Int → List Int → Bool) (C2 : Int → Int → Int → Int → List Int → Int → Bool) (C3 : Int → Int → Int → List Int → Int → Bool) (nn : Bool) : Loops :=
  sums (fun n => match n with | 5 => some (lsumF 2 (e1T nn) e1Lp (e1Tree C1 nn)) | 24 => some (lsumF 2 (e2T nn) e2Lp (e2Tree C2 nn)) | 33 => some (lsumF 2 (e3T nn) e3Lp (e3Tree C3 nn)) | _ => none)
end Go.Proofs.YtnhilofmafjdpaaDoor
