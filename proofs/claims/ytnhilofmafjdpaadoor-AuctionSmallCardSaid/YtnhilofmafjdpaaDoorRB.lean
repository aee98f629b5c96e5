/- Texts merged: RB, Orc, Aw, Md, Md2. -/
import Derived.Test.YtnhilofmafjdpaaDoorRA2
import Derived.Test.YtnhilofmafjdpaaDoorTb6
/- Chapter 9: the reference: Ended, Allowed. -/
namespace Go.Proofs.YtnhilofmafjdpaaDoor
open Go Go.Eng
structure RF where
  LI : List Int → Int
  LB : List Int → Bool
  PS : List Int → Int → Bool
  AC : List Int → Int
  KS : List Int → Bool
  PK : List Int → Int → Bool
def rF : RF := ⟨fun xs => (lastN xs xs.length).1, fun xs => (lastN xs xs.length).2, psV, actV, smallL, psK⟩
def gRLast (R : RF) : List V → List Blk → Option (Bool × V × List Blk)
  | [.gs 0], [.rs _ 1 (.ints .u8 xs)] => some (R.KS xs, .tuple [.int .i64 (R.LI xs), .bool (R.LB xs)], [])
  | _, _ => none
def gRPas (R : RF) : List V → List Blk → Option (Bool × V × List Blk)
  | [.gs 0, .int .i64 n], [.rs _ 1 (.ints .u8 xs)] => some (R.PK xs n, .bool (R.PS xs n), [])
  | _, _ => none
def gRAct (R : RF) : List V → List Blk → Option (Bool × V × List Blk)
  | [.gs 0], [.rs _ 1 (.ints .u8 xs)] => some (R.KS xs, .int .i64 (R.AC xs), [])
  | _, _ => none
noncomputable def hTabR (R : RF) : HTab := addH 43 (gRLast R) (addH 77 (gRPas R) (addH 78 (gRAct R) emptyH))
def domR1 : FuncId → Bool := fun f => Nat.beq f 43 || (Nat.beq f 77 || Nat.beq f 78)
theorem hTabR_ok : HTabOk Tryd.prog (hTabR rF) := by
  refine addH_ok ?_ (addH_ok ?_ (addH_ok ?_ emptyH_ok))
  · intro args h c v nb hq hc
    unfold gRLast at hq
    split at hq
    · cases hq; exact ⟨.of Tryd.func43 (by kernel_rfl), by rw [List.append_nil]; exact rlast_fn _ hc⟩
    · cases hq
  · intro args h c v nb hq hc
    unfold gRPas at hq
    split at hq
    · cases hq; exact ⟨.of Tryd.func77 (by kernel_rfl), by rw [List.append_nil]; exact passes_fn _ hc⟩
    · cases hq
  · intro args h c v nb hq hc
    unfold gRAct at hq
    split at hq
    · cases hq; exact ⟨.of Tryd.func78 (by kernel_rfl), by rw [List.append_nil]; exact act_fn _ hc⟩
    · cases hq
noncomputable abbrev orcR1 (R : RF) (T : PTab) (LL : FuncId → Loops) : Oracle := inl Tryd.prog ftab T LL 100 never domR1 (hOrcP nrB (hTabR R)) 20
theorem orcR1_ok {T : PTab} (hT : PTabOk Tryd.prog T) {LL : FuncId → Loops} (hL : ∀ f, loopsOk Tryd.prog (LL f)) : OracleOk Tryd.prog (orcR1 rF T LL) := inl_ok (hOrcP_ok hTabR_ok) ftab_ok hT hL mixed 20
noncomputable def endE (R : RF) (xs : List Int) : Option V := bif R.KS xs then bif R.LB xs then bif R.PK xs 3 then some (.bool (R.PS xs 3)) else none else bif decide (Int.ofNat xs.length = 4) then bif R.PK xs 4 then some (.bool (R.PS xs 4)) else none else some (.bool false) else none
theorem ended_eval (R : RF) (nn : Bool) (xs : List Int) : evalFn Tryd.prog (orcR1 R emptyTab plainL) noLoops 100 62 Tryd.f62 [.gs 0] [.rs nn 1 (.ints .u8 xs)] (fun v _ => some v) = endE R xs := by cases nn <;> kernel_rfl
noncomputable def alwE (R : RF) (xs : List Int) (c : Int) : Option V := bif decide (c = 0) then some (.bool true) else bif decide (3 ≤ c) then bif R.KS xs then bif decide (c < 38) then bif !R.LB xs then some (.bool true) else atU xs (R.LI xs) (fun v => some (.bool (decide (v < c)))) else some (.bool false) else none else
  bif R.KS xs then bif decide (R.AC xs < 0) then some (.bool false) else bif decide ((wr .i64 (Int.ofNat xs.length - R.AC xs)).tmod 2 = 0) then some (.bool false) else bif decide (c = 1) then atU xs (R.AC xs) (fun v => some (.bool (decide (3 ≤ v)))) else atU xs (R.AC xs) (fun v => some (.bool (decide (v = 1)))) else none
theorem allowed_eval (R : RF) (nn : Bool) (xs : List Int) (c : Int) : evalFn Tryd.prog (orcR1 R emptyTab plainL) noLoops 100 63 Tryd.f63 [.gs 0, .int .u8 c] [.rs nn 1 (.ints .u8 xs)] (fun v _ => some v) = alwE R xs c := by cases nn <;> kernel_rfl
end Go.Proofs.YtnhilofmafjdpaaDoor

/- Chapter 9: the contracts of package auction, as an oracle. -/
namespace Go.Proofs.YtnhilofmafjdpaaDoor
open Go Go.Eng
def okU (b : Bool) (x y : Int) : Int := bif b then x else y
def ovB (F : FR) : Bool := decide (F.e = 0) && ovr F.s
def ovE (F : FR) : Int := okU (decide (F.e = 0)) 0 2
def tnV (F : FR) : Int := okU (decide (F.e = 0) && !ovr F.s) F.s.turn 0
def tnE (F : FR) : Int := okU (decide (F.e = 0)) (okU (ovr F.s) 90 0) 2
def ctM (F : FR) : Bool := decide (F.e = 0) && (ovr F.s && F.s.b.m)
def ctE (F : FR) : Int := okU (decide (F.e = 0)) (okU (ovr F.s) 0 91) 2
def ctL (F : FR) : Int := okU (ctM F) F.s.b.l 0
def ctD (F : FR) : Int := okU (ctM F) F.s.b.d 0
def ctR (F : FR) : Int := okU (ctM F) F.s.risk 0
def ctS (F : FR) : Int := okU (ctM F) (F.s.fst (kOf F.s.b.s F.s.b.d)).s 0
theorem overV_is (F : FR) : overV ovr F = .tuple [.bool (ovB F), .int .i64 (ovE F)] := by
  unfold overV ovB ovE okU; cases decide (F.e = 0) <;> rfl
theorem turnV_is (F : FR) : turnV ovr F = .tuple [.int .u8 (tnV F), .int .i64 (tnE F)] := by
  unfold turnV tnV tnE okU; cases decide (F.e = 0) <;> cases ovr F.s <;> rfl
theorem contrV_is (F : FR) : contrV ovr F = .tuple [.agg [.int .u8 (ctL F), .int .u8 (ctD F), .int .u8 (ctR F), .int .u8 (ctS F)], .int .i64 (ctE F)] := by
  unfold contrV ctL ctD ctR ctS ctE ctM okU ctV; cases decide (F.e = 0) <;> cases ovr F.s <;> cases F.s.b.m <;> rfl
structure NA where
  A : Int → List Int → Int
  E : Int → List Int → Int
  OB : Int → List Int → Bool
  OE : Int → List Int → Int
  TV : Int → List Int → Int
  TE : Int → List Int → Int
  CL : Int → List Int → Int
  CD : Int → List Int → Int
  CR : Int → List Int → Int
  CS : Int → List Int → Int
  CE : Int → List Int → Int
  LI : List Int → Int
  LB : List Int → Bool
  GV : Int → List Int → List Int
  GE : Int → List Int → Int
  BV : Int → List Int → List ByteArray
  BE : Int → List Int → Int
  K : Int → List Int → Bool
  KS : List Int → Bool
  KT : List Int → Bool
def nA : NA := ⟨fun d xs => (fol d xs).at_, fun d xs => (fol d xs).e, fun d xs => ovB (fol d xs), fun d xs => ovE (fol d xs), fun d xs => tnV (fol d xs), fun d xs => tnE (fol d xs),
  fun d xs => ctL (fol d xs), fun d xs => ctD (fol d xs), fun d xs => ctR (fol d xs), fun d xs => ctS (fol d xs), fun d xs => ctE (fol d xs), fun xs => (lastN xs xs.length).1, fun xs => (lastN xs xs.length).2,
  fun d xs => legV (fol d xs), fun d xs => legE (fol d xs), fun d xs => tblV (fol d xs) d xs, fun d xs => tblE (fol d xs), okA, smallL, lenT⟩
def gCheckF (N : NA) : List V → List Blk → Option (Bool × V × List Blk)
  | [.int .u8 d, .gs 0], [.rs _ 1 (.ints .u8 xs)] => some (N.K d xs, .tuple [.int .i64 (N.A d xs), .int .i64 (N.E d xs)], [])
  | _, _ => none
def gOverF (N : NA) : List V → List Blk → Option (Bool × V × List Blk)
  | [.int .u8 d, .gs 0], [.rs _ 1 (.ints .u8 xs)] => some (N.K d xs, .tuple [.bool (N.OB d xs), .int .i64 (N.OE d xs)], [])
  | _, _ => none
def gTurnF (N : NA) : List V → List Blk → Option (Bool × V × List Blk)
  | [.int .u8 d, .gs 0], [.rs _ 1 (.ints .u8 xs)] => some (N.K d xs, .tuple [.int .u8 (N.TV d xs), .int .i64 (N.TE d xs)], [])
  | _, _ => none
def gContrF (N : NA) : List V → List Blk → Option (Bool × V × List Blk)
  | [.int .u8 d, .gs 0], [.rs _ 1 (.ints .u8 xs)] => some (N.K d xs, .tuple [.agg [.int .u8 (N.CL d xs), .int .u8 (N.CD d xs), .int .u8 (N.CR d xs), .int .u8 (N.CS d xs)], .int .i64 (N.CE d xs)], [])
  | _, _ => none
def gLastF (N : NA) : List V → List Blk → Option (Bool × V × List Blk)
  | [.gs 0], [.rs _ 1 (.ints .u8 xs)] => some (N.KS xs, .tuple [.int .i64 (N.LI xs), .bool (N.LB xs)], [])
  | _, _ => none
def gLegalF (N : NA) : List V → List Blk → Option (Bool × V × List Blk)
  | [.int .u8 d, .gs 0], [.rs _ 1 (.ints .u8 xs)] => some (N.K d xs, .tuple [.gs 1, .int .i64 (N.GE d xs)], [.grow false 5 1 (.ints .u8 (N.GV d xs))])
  | _, _ => none
noncomputable def gTableF (N : NA) : List V → List Blk → Option (Bool × V × List Blk)
  | [.int .u8 d, .gs 1], [.glob 0 (.strs l), .rs _ 1 (.ints .u8 xs)] => some (pB (l = textsL) && (N.K d xs && N.KT xs), .tuple [.gs 2, .int .i64 (N.BE d xs)], [.grow false 9 1 (.strs (N.BV d xs))])
  | _, _ => none
noncomputable def hTabC (N : NA) : HTab := addH 18 (gCheckF N) (addH 22 (gOverF N) (addH 19 (gTurnF N) (addH 15 (gContrF N) (addH 21 (gLastF N) (addH 23 (gLegalF N) (addH 20 (gTableF N) emptyH))))))
theorem hTabC_ok : HTabOk Tryd.prog (hTabC nA) := by
  refine addH_ok ?_ (addH_ok ?_ (addH_ok ?_ (addH_ok ?_ (addH_ok ?_ (addH_ok ?_ (addH_ok ?_ emptyH_ok))))))
  · intro args h c v nb hq hc
    unfold gCheckF at hq
    split at hq
    · cases hq; exact ⟨.of Tryd.func18 (by kernel_rfl), by rw [List.append_nil]; exact check18_fn _ hc⟩
    · cases hq
  · intro args h c v nb hq hc
    unfold gOverF at hq
    split at hq
    · cases hq; exact ⟨.of Tryd.func22 (by kernel_rfl), by rw [List.append_nil]; have := over22_fn (by assumption) hc; rw [overV_is] at this; exact this⟩
    · cases hq
  · intro args h c v nb hq hc
    unfold gTurnF at hq
    split at hq
    · cases hq; exact ⟨.of Tryd.func19 (by kernel_rfl), by rw [List.append_nil]; have := turn19_fn (by assumption) hc; rw [turnV_is] at this; exact this⟩
    · cases hq
  · intro args h c v nb hq hc
    unfold gContrF at hq
    split at hq
    · cases hq; exact ⟨.of Tryd.func15 (by kernel_rfl), by rw [List.append_nil]; have := contr15_fn (by assumption) hc; rw [contrV_is] at this; exact this⟩
    · cases hq
  · intro args h c v nb hq hc
    unfold gLastF at hq
    split at hq
    · cases hq; exact ⟨.of Tryd.func21 (by kernel_rfl), by rw [List.append_nil]; exact last_fn _ hc⟩
    · cases hq
  · intro args h c v nb hq hc
    unfold gLegalF at hq
    split at hq
    · cases hq; exact ⟨.of Tryd.func23 (by kernel_rfl), legal_fn _ hc⟩
    · cases hq
  · intro args h c v nb hq hc
    unfold gTableF at hq
    split at hq
    · cases hq
      simp only [Bool.and_eq_true, pB_iff] at hc
      obtain ⟨rfl, h1, h2⟩ := hc
      exact ⟨.of Tryd.func20 (by kernel_rfl), table_fn _ h1 h2⟩
    · cases hq
def domC : FuncId → Bool := fun f => Nat.ble 18 f && Nat.ble f 23 || Nat.beq f 15
def glC : FuncId → List Nat := fun f => bif Nat.beq f 20 then [0] else []
noncomputable abbrev orcC (N : NA) (T : PTab) (LL : FuncId → Loops) : Oracle := inl Tryd.prog ftab T LL 100 never domC (hOrcN glC nrB (hTabC N)) 20
theorem orcC_ok {T : PTab} (hT : PTabOk Tryd.prog T) {LL : FuncId → Loops} (hL : ∀ f, loopsOk Tryd.prog (LL f)) : OracleOk Tryd.prog (orcC nA T LL) := inl_ok (hOrcN_ok hTabC_ok) ftab_ok hT hL mixed 20
end Go.Proofs.YtnhilofmafjdpaaDoor

/- Chapter 9: the examples hold. -/
namespace Go.Proofs.YtnhilofmafjdpaaDoor
open Go Go.Eng
def idxI (s : ByteArray) (c : Int) : Int := Lib.indexByte s.data.toList c.toNat.toUInt8
def gIdx : List V → Option (Bool × V)
  | [.str s, .int .u8 c] => some (true, .int .i64 (idxI s c))
  | _ => none
def tabW : PTab := addTab 48 (gLine lineS) (addTab 111 gIdx emptyTab)
theorem tabW_ok : PTabOk Tryd.prog tabW := by
  refine addTab_ok ?_ (addTab_ok ?_ emptyTab_ok)
  · intro args c v h hc
    unfold gLine at h
    split at h
    · cases h
      simp only [decide_eq_true_eq] at hc
      exact pure_of_below (.of Tryd.func48 (by kernel_rfl)) rfl rfl fun w => line_p _ _ _ _ w hc.1 hc.2.1 hc.2.2.1 hc.2.2.2
    · cases h
  · intro args c v h _
    unfold gIdx at h
    split at h
    · cases h
      exact pure_of_same (.of Tryd.func111 (by kernel_rfl)) rfl rfl fun w => Tryd.stringslite_IndexByte _ _ w
    · cases h
def gH : List Blk := [.glob 0 (.strs textsL)]
/-- What a call leaves of the tables: nothing else is looked at. -/
def keepG (v : V) : List Blk → Option (V × List ByteArray)
  | .glob 0 (.strs l) :: _ => some (v, l)
  | _ => none
theorem awake_eval : evalFn Tryd.prog (orcC nA tabW plainL) noLoops 100 13 Tryd.f13 [] gH keepG = bif pB (textsL = textsL) && true then some (.bool true, textsL) else none := by kernel_rfl
theorem cutG {f : FuncId} {fn : Func} {T : PTab} (hT : PTabOk Tryd.prog T) {LL : FuncId → Loops} (hL : ∀ f, loopsOk Tryd.prog (LL f)) (hf : Tryd.prog.funcs[f]? = some fn) {args : List V} {v : V}
    (h : evalFn Tryd.prog (orcC nA T LL) (LL f) 100 f fn args gH keepG = some (v, textsL)) (hv : plainV v = true) : FnOK Tryd.prog f args gH v gH := by
  obtain ⟨v1, h1, hk, hok⟩ := evalFn_ok (orcC_ok hT hL) mixed hf (hL f) h
  unfold keepG at hk
  split at hk
  · cases hk
    exact FnOK.cut (h := gH) hok rfl hv
  · cases hk
theorem awake_fn : FnOK Tryd.prog 13 [] gH (.bool true) gH := cutG tabW_ok plainL_ok Tryd.func13 (by rw [show plainL 13 = noLoops from rfl, awake_eval, pB_iff.2 rfl]; rfl) rfl
/-! ### the examples as a contract, beside the others -/
noncomputable def gAwake : List V → List Blk → Option (Bool × V × List Blk)
  | [], [.glob 0 (.strs l)] => some (pB (l = textsL), .bool true, [])
  | _, _ => none
noncomputable def hTabA (N : NA) : HTab := addH 13 gAwake (hTabC N)
def domA : FuncId → Bool := fun f => Nat.beq f 13 || domC f
def glA : FuncId → List Nat := fun f => bif Nat.beq f 20 || Nat.beq f 13 then [0] else []
theorem hTabA_ok : HTabOk Tryd.prog (hTabA nA) := by
  refine addH_ok ?_ hTabC_ok
  intro args h c v nb hq hc
  unfold gAwake at hq
  split at hq
  · cases hq
    rw [pB_iff] at hc
    subst hc
    exact ⟨.of Tryd.func13 (by kernel_rfl), awake_fn⟩
  · cases hq
noncomputable abbrev orcA (N : NA) (T : PTab) (LL : FuncId → Loops) : Oracle := inl Tryd.prog ftab T LL 100 never domA (hOrcN glA nrB (hTabA N)) 20
theorem orcA_ok {T : PTab} (hT : PTabOk Tryd.prog T) {LL : FuncId → Loops} (hL : ∀ f, loopsOk Tryd.prog (LL f)) : OracleOk Tryd.prog (orcA nA T LL) := inl_ok (hOrcN_ok hTabA_ok) ftab_ok hT hL mixed 20
end Go.Proofs.YtnhilofmafjdpaaDoor

/- Chapter 9: Made: its loops. -/
namespace Go.Proofs.YtnhilofmafjdpaaDoor
open Go Go.Eng
noncomputable def m1Lp : Code := loopOf 4 Tryd.f14
noncomputable def m2Lp : Code := loopOf 14 Tryd.f14
def m1T (nn : Bool) : Tm := ⟨mkS [(0, .int .u8), (2, .bool), (8, .gs 1), (22, .view 0 1), (23, .int .i64), (24, .int .i64)] 0 84, [.rs nn 1 u8s, .grow false 5 1 u8s], []⟩
def m1X (nn : Bool) : Tm := ⟨mkS [(0, .int .u8), (2, .bool), (8, .gs 1)] 0 84, [.rs nn 1 u8s, .grow false 5 1 u8s], []⟩
def m2T (nn : Bool) : Tm := ⟨mkS [(0, .int .u8), (2, .bool), (8, .gs 1), (61, .int .i64)] 0 84, [.rs nn 1 u8s, .grow false 5 1 u8s], []⟩
def m2X (nn : Bool) : Tm := ⟨mkS [(0, .int .u8), (8, .gs 1)] 0 84, [.rs nn 1 u8s, .grow false 5 1 u8s], []⟩
end Go.Proofs.YtnhilofmafjdpaaDoor

/- Chapter 9: Made: one round; what it makes. -/
namespace Go.Proofs.YtnhilofmafjdpaaDoor
open Go Go.Eng
abbrev RT := Option (XE × List PV × List (Code × Code))
noncomputable def pkA (lg out : List Int) (j : Int) (K : List Int → RT) : RT := bif decide (0 ≤ j ∧ j < Int.ofNat lg.length) then (match lg[j.toNat]? with
  | some c => bif decide ((out ++ [c]).length * 2 ≤ 70368744177664) then K (out ++ [c]) else none
  | none => none) else none
def pk1 (lg : List Int) (n : Int) : Int := (wr .i64 n).tmod (Int.ofNat lg.length)
def pk3 (lg : List Int) : Int := foldI minI (Int.ofNat lg.length) [3]
noncomputable def m1G (N : NA) (d : Int) (out : List Int) (n : Int) (S X : RT) (K : List Int → RT) : RT := bif N.K d out then bif !decide (N.GE d out = 0) then X else bif decide (Int.ofNat (N.GV d out).length = 0) then S else bif decide (Int.ofNat (N.GV d out).length = 0) then none else
  bif decide (128 ≤ n) then bif decide (pk3 (N.GV d out) = 0) then none else pkA (N.GV d out) out ((pk1 (N.GV d out) n).tmod (pk3 (N.GV d out))) K else pkA (N.GV d out) out (pk1 (N.GV d out) n) K else none
theorem m1_round (N : NA) (nn : Bool) (rd : Option Nat) (d n i : Int) (k : Nat) (fin : Bool) (xs out : List Int) : roundT Tryd.prog (orcC N (tabO chk ovr) plainL) noLoops 100 1 rd 14 m1Lp (m1T nn) (m1X nn) [.i d, .b fin, .n 0, .n k, .i n, .i i, .l xs, .l out] =
    bif decide (i < n) then bif decide (0 ≤ i ∧ i < Int.ofNat k ∧ 0 + k ≤ xs.length) then (match xs[addS 0 i.toNat]? with
      | some v => m1G N d out v (some (.exit 0, [.i d, .b fin, .l xs, .l out], [])) (some (.exit 0, [.i d, .b fin, .l xs, .l out], [])) (fun o => some (.normal, [.i d, .b fin, .n 0, .n k, .i n, .i (wr .i64 (i + 1)), .l xs, .l o], []))
      | none => none) else none else some (.exit 0, [.i d, .b fin, .l xs, .l out], []) := by cases nn <;> kernel_rfl
theorem m2_round (N : NA) (nn : Bool) (rd : Option Nat) (d i : Int) (fin : Bool) (xs out : List Int) : roundT Tryd.prog (orcC N (tabO chk ovr) plainL) noLoops 100 1 rd 14 m2Lp (m2T nn) (m2X nn) [.i d, .b fin, .i i, .l xs, .l out] =
    bif decide (i < 4) then bif N.K d out then bif fin then bif decide (N.OE d out = 0) then bif !N.OB d out then bif decide ((out ++ [0]).length * 2 ≤ 70368744177664) then some (.normal, [.i d, .b fin, .i (wr .i64 (i + 1)), .l xs, .l (out ++ [0])], []) else none
      else some (.normal, [.i d, .b fin, .i (wr .i64 (i + 1)), .l xs, .l out], []) else some (.normal, [.i d, .b fin, .i (wr .i64 (i + 1)), .l xs, .l out], []) else some (.normal, [.i d, .b fin, .i (wr .i64 (i + 1)), .l xs, .l out], []) else none else some (.exit 2, [.i d, .l xs, .l out], []) := by cases nn <;> kernel_rfl
end Go.Proofs.YtnhilofmafjdpaaDoor
