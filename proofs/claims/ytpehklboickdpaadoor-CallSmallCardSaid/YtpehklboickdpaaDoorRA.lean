/- Chapter 8: ReadAll: its loop over the words. -/
import Derived.Test.YtpehklboickdpaaDoorRd
import Derived.Test.YtpehklboickdpaaDoorEng4
namespace Go.Proofs.YtpehklboickdpaaDoor
open Go Go.Eng
noncomputable def gRd (C : ByteArray → Int) (E : ByteArray → Int) : List V → List Blk → Option (Bool × V × List Blk)
  | [.str s], [.glob 0 (.strs l)] => some (pB (l = textsL), .tuple [.int .u8 (C s), .int .i64 (E s)], [])
  | _, _ => none
noncomputable def hTabRd (C : ByteArray → Int) (E : ByteArray → Int) : HTab := addH 20 (gRd C E) hTabA
def glRd : FuncId → List Nat := fun f => bif Nat.beq f 11 || Nat.beq f 20 then [0] else []
def hDomRd : FuncId → Bool := fun f => Nat.beq f 20 || hDomA f
noncomputable abbrev orcRd (C : ByteArray → Int) (E : ByteArray → Int) (T : PTab) (LL : FuncId → Loops) : Oracle := inl Tryd.prog ftab T LL 100 never hDomRd (hOrcG glRd (hTabRd C E)) 20
theorem hTabRd_ok : HTabOk Tryd.prog (hTabRd rdC rdE) := by
  refine addH_ok ?_ hTabA_ok
  intro args h c v nb hq hc
  unfold gRd at hq
  split at hq
  · cases hq
    rw [pB_iff] at hc
    subst hc
    exact ⟨.of Tryd.func20 (by kernel_rfl), by rw [List.append_nil]; exact read_fn _⟩
  · cases hq
theorem orcRd_ok {T : PTab} (hT : PTabOk Tryd.prog T) {LL : FuncId → Loops} (hL : ∀ f, loopsOk Tryd.prog (LL f)) : OracleOk Tryd.prog (orcRd rdC rdE T LL) := inl_ok (hOrcG_ok hTabRd_ok) ftab_ok hT hL mixed 20
noncomputable def raLp : Code := loopOf 1 Tryd.f51
def uT : Option TV := some (.tuple [])
def raFr : TS := [some .str, uT, some (.ptr 1 0), some (.ptr 2 0), some (.ptr 3 0), uT, uT, uT, some .str, some (.func 51 [.ptr 4 0]), uT, uT, uT, uT, uT, uT, uT, uT, uT, uT, uT, uT, uT, uT, uT, uT, uT, uT]
noncomputable def raA : Code := rangeA 4 Tryd.f21
noncomputable def raB : Code := rangeB 4 Tryd.f21
def raS : TS := mkS [(0, .yield 6), (3, .str), (4, .bool)] 0 20
def raY : TS := mkS [(0, .yield 6)] 0 20
noncomputable def raT : Tm := ⟨raS, [.glob 0 .strs, .own 22 (.vs [.nil]), .own 27 (.vs [.lit .i64 0]), .own 22 (.vs [.gs 7]), .own 9 (.vs [.str]), .defs, .loopB false 21 raFr [10] raA raB 5, .grow false 5 1 (.ints .u8)], []⟩
noncomputable def raT0 : Tm := ⟨raS, [.glob 0 .strs, .own 22 (.vs [.nil]), .own 27 (.vs [.lit .i64 0]), .own 22 (.vs [.nil]), .own 9 (.vs [.str]), .defs, .loopB false 21 raFr [10] raA raB 5], []⟩
noncomputable def raX : Tm := ⟨raY, [.glob 0 .strs, .own 22 (.vs [.nil]), .own 27 (.vs [.lit .i64 0]), .own 22 (.vs [.gs 7]), .own 9 (.vs [.str]), .defs, .loopB false 21 raFr [10] raA raB 5, .grow false 5 1 (.ints .u8)], []⟩
noncomputable def raX0 : Tm := ⟨raY, [.glob 0 .strs, .own 22 (.vs [.nil]), .own 27 (.vs [.lit .i64 0]), .own 22 (.vs [.nil]), .own 9 (.vs [.str]), .defs, .loopB false 21 raFr [10] raA raB 5], []⟩
noncomputable def raR : Tm := ⟨raY, [.glob 0 .strs, .own 22 (.vs [.nil]), .own 27 (.vs [.lit .i64 81]), .dead, .own 9 (.vs [.str]), .defs, .loopB (.done .ret) 21 raFr [10] raA raB 5], []⟩
noncomputable def raE : XE → Tm
  | .ret => raR
  | _ => raX
noncomputable def raE0 : XE → Tm
  | .ret => raR
  | _ => raX0
end Go.Proofs.YtpehklboickdpaaDoor
