/- Texts merged: Aw, Md, Md2. -/
import Derived.Test.YtnhilofmafjdpaaDoorRB
/- Chapter 9: the examples hold. -/
namespace Go.Proofs.YtnhilofmafjdpaaDoor
open Go Go.Eng
def idxI (s : ByteArray) (c : Int) : Int := Lib.indexByte s.data.toList c.toNat.toUInt8
def gIdx : List V → Option (Bool × V)
  | [.str s, .int .u8 c] => some (true, .int .i64 (idxI s c))
  | _ => none
def tabW : PTab := addTab 48 (gLine lineS) (addTab 111 gIdx emptyTab)
theorem tabW_ok : PTabOk Tryd.prog tabW := by
  refine addTab_ok ?_ (addTab_ok ?_ emptyTab_ok)
  · intro args c v h hc
    unfold gLine at h
    split at h
    · cases h
      simp only [decide_eq_true_eq] at hc
      exact pure_of_below (.of Tryd.func48 (by kernel_rfl)) rfl rfl fun w => line_p _ _ _ _ w hc.1 hc.2.1 hc.2.2.1 hc.2.2.2
    · cases h
  · intro args c v h _
    unfold gIdx at h
    split at h
    · cases h
      exact pure_of_same (.of Tryd.func111 (by kernel_rfl)) rfl rfl fun w => Tryd.stringslite_IndexByte _ _ w
    · cases h
def gH : List Blk := [.glob 0 (.strs textsL)]
/-- What a call leaves of the tables: nothing else is looked at. -/
def keepG (v : V) : List Blk → Option (V × List ByteArray)
  | .glob 0 (.strs l) :: _ => some (v, l)
  | _ => none
theorem awake_eval : evalFn Tryd.prog (orcC nA tabW plainL) noLoops 100 13 Tryd.f13 [] gH keepG = bif pB (textsL = textsL) && true then some (.bool true, textsL) else none := by kernel_rfl
theorem cutG {f : FuncId} {fn : Func} {T : PTab} (hT : PTabOk Tryd.prog T) {LL : FuncId → Loops} (hL : ∀ f, loopsOk Tryd.prog (LL f)) (hf : Tryd.prog.funcs[f]? = some fn) {args : List V} {v : V}
    (h : evalFn Tryd.prog (orcC nA T LL) (LL f) 100 f fn args gH keepG = some (v, textsL)) (hv : plainV v = true) : FnOK Tryd.prog f args gH v gH := by
  obtain ⟨v1, h1, hk, hok⟩ := evalFn_ok (orcC_ok hT hL) mixed hf (hL f) h
  unfold keepG at hk
  split at hk
  · cases hk
    exact FnOK.cut (h := gH) hok rfl hv
  · cases hk
theorem awake_fn : FnOK Tryd.prog 13 [] gH (.bool true) gH := cutG tabW_ok plainL_ok Tryd.func13 (by rw [show plainL 13 = noLoops from rfl, awake_eval, pB_iff.2 rfl]; rfl) rfl
/-! ### the examples as a contract, beside the others -/
noncomputable def gAwake : List V → List Blk → Option (Bool × V × List Blk)
  | [], [.glob 0 (.strs l)] => some (pB (l = textsL), .bool true, [])
  | _, _ => none
noncomputable def hTabA (N : NA) : HTab := addH 13 gAwake (hTabC N)
def domA : FuncId → Bool := fun f => Nat.beq f 13 || domC f
def glA : FuncId → List Nat := fun f => bif Nat.beq f 20 || Nat.beq f 13 then [0] else []
theorem hTabA_ok : HTabOk Tryd.prog (hTabA nA) := by
  refine addH_ok ?_ hTabC_ok
  intro args h c v nb hq hc
  unfold gAwake at hq
  split at hq
  · cases hq
    rw [pB_iff] at hc
    subst hc
    exact ⟨.of Tryd.func13 (by kernel_rfl), awake_fn⟩
  · cases hq
noncomputable abbrev orcA (N : NA) (T : PTab) (LL : FuncId → Loops) : Oracle := inl Tryd.prog ftab T LL 100 never domA (hOrcN glA nrB (hTabA N)) 20
theorem orcA_ok {T : PTab} (hT : PTabOk Tryd.prog T) {LL : FuncId → Loops} (hL : ∀ f, loopsOk Tryd.prog (LL f)) : OracleOk Tryd.prog (orcA nA T LL) := inl_ok (hOrcN_ok hTabA_ok) ftab_ok hT hL mixed 20
end Go.Proofs.YtnhilofmafjdpaaDoor

/- Chapter 9: Made: its loops. -/
namespace Go.Proofs.YtnhilofmafjdpaaDoor
open Go Go.Eng
noncomputable def m1Lp : Code := loopOf 4 Tryd.f14
noncomputable def m2Lp : Code := loopOf 14 Tryd.f14
def m1T (nn : Bool) : Tm := ⟨mkS [(0, .int .u8), (2, .bool), (8, .gs 1), (22, .view 0 1), (23, .int .i64), (24, .int .i64)] 0 84, [.rs nn 1 u8s, .grow false 5 1 u8s], []⟩
def m1X (nn : Bool) : Tm := ⟨mkS [(0, .int .u8), (2, .bool), (8, .gs 1)] 0 84, [.rs nn 1 u8s, .grow false 5 1 u8s], []⟩
def m2T (nn : Bool) : Tm := ⟨mkS [(0, .int .u8), (2, .bool), (8, .gs 1), (61, .int .i64)] 0 84, [.rs nn 1 u8s, .grow false 5 1 u8s], []⟩
def m2X (nn : Bool) : Tm := ⟨mkS [(0, .int .u8), (8, .gs 1)] 0 84, [.rs nn 1 u8s, .grow false 5 1 u8s], []⟩
end Go.Proofs.YtnhilofmafjdpaaDoor

/- Chapter 9: Made: one round; what it makes. -/
namespace Go.Proofs.YtnhilofmafjdpaaDoor
open Go Go.Eng
abbrev RT := Option (XE × List PV × List (Code × Code))
noncomputable def pkA (lg out : List Int) (j : Int) (K : List Int → RT) : RT := bif decide (0 ≤ j ∧ j < Int.ofNat lg.length) then (match lg[j.toNat]? with
  | some c => bif decide ((out ++ [c]).length * 2 ≤ 70368744177664) then K (out ++ [c]) else none
  | none => none) else none
def pk1 (lg : List Int) (n : Int) : Int := (wr .i64 n).tmod (Int.ofNat lg.length)
def pk3 (lg : List Int) : Int := foldI minI (Int.ofNat lg.length) [3]
noncomputable def m1G (N : NA) (d : Int) (out : List Int) (n : Int) (S X : RT) (K : List Int → RT) : RT := bif N.K d out then bif !decide (N.GE d out = 0) then X else bif decide (Int.ofNat (N.GV d out).length = 0) then S else bif decide (Int.ofNat (N.GV d out).length = 0) then none else
  bif decide (128 ≤ n) then bif decide (pk3 (N.GV d out) = 0) then none else pkA (N.GV d out) out ((pk1 (N.GV d out) n).tmod (pk3 (N.GV d out))) K else pkA (N.GV d out) out (pk1 (N.GV d out) n) K else none
theorem m1_round (N : NA) (nn : Bool) (rd : Option Nat) (d n i : Int) (k : Nat) (fin : Bool) (xs out : List Int) : roundT Tryd.prog (orcC N (tabO chk ovr) plainL) noLoops 100 1 rd 14 m1Lp (m1T nn) (m1X nn) [.i d, .b fin, .n 0, .n k, .i n, .i i, .l xs, .l out] =
    bif decide (i < n) then bif decide (0 ≤ i ∧ i < Int.ofNat k ∧ 0 + k ≤ xs.length) then (match xs[addS 0 i.toNat]? with
      | some v => m1G N d out v (some (.exit 0, [.i d, .b fin, .l xs, .l out], [])) (some (.exit 0, [.i d, .b fin, .l xs, .l out], [])) (fun o => some (.normal, [.i d, .b fin, .n 0, .n k, .i n, .i (wr .i64 (i + 1)), .l xs, .l o], []))
      | none => none) else none else some (.exit 0, [.i d, .b fin, .l xs, .l out], []) := by cases nn <;> kernel_rfl
theorem m2_round (N : NA) (nn : Bool) (rd : Option Nat) (d i : Int) (fin : Bool) (xs out : List Int) : roundT Tryd.prog (orcC N (tabO chk ovr) plainL) noLoops 100 1 rd 14 m2Lp (m2T nn) (m2X nn) [.i d, .b fin, .i i, .l xs, .l out] =
    bif decide (i < 4) then bif N.K d out then bif fin then bif decide (N.OE d out = 0) then bif !N.OB d out then bif decide ((out ++ [0]).length * 2 ≤ 70368744177664) then some (.normal, [.i d, .b fin, .i (wr .i64 (i + 1)), .l xs, .l (out ++ [0])], []) else none
      else some (.normal, [.i d, .b fin, .i (wr .i64 (i + 1)), .l xs, .l out], []) else some (.normal, [.i d, .b fin, .i (wr .i64 (i + 1)), .l xs, .l out], []) else some (.normal, [.i d, .b fin, .i (wr .i64 (i + 1)), .l xs, .l out], []) else none else some (.exit 2, [.i d, .l xs, .l out], []) := by cases nn <;> kernel_rfl
end Go.Proofs.YtnhilofmafjdpaaDoor
