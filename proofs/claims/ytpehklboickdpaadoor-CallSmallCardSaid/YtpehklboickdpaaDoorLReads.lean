/- Chapter 8: the law CallReads: its tables. -/
import Derived.Test.YtpehklboickdpaaDoorTr3
namespace Go.Proofs.YtpehklboickdpaaDoor
open Go Go.Eng
def taS (xs : List Int) : ByteArray := bif decide (319 < xs.length) then ⟨#[]⟩ else bif (taR xs []).1 then joinS (taR xs []).2 ⟨#[32]⟩ else ⟨#[]⟩
def taE (xs : List Int) : Int := bif decide (319 < xs.length) then 5 else bif (taR xs []).1 then 0 else 80
theorem textall_fn (nn : Bool) {xs : List Int} (hu : allU xs = true) : FnOK Tryd.prog 18 [.gs 1] (gH ++ [.rs nn 1 (.ints .u8 xs)]) (.tuple [.str (taS xs), .int .i64 (taE xs)]) (gH ++ [.rs nn 1 (.ints .u8 xs)]) := by
  unfold taS taE
  by_cases hl : 319 < xs.length
  · rw [decide_eq_true hl]; exact textall_long nn hl
  · rw [decide_eq_false hl]
    cases hr : (taR xs []).1 with
    | true => exact textall_ok nn (by omega) hu hr
    | false => exact textall_bad nn (by omega) hu hr
def raV (s : ByteArray) : List Int := bif raErr s then [] else raRes s
def raI (s : ByteArray) : Int := bif raErr s then 81 else 0
theorem readall_fn {s : ByteArray} (hl : lenS s ≤ 1000000) : FnOK Tryd.prog 21 [.str s] gH (.tuple [.gs 1, .int .i64 (raI s)]) (gH ++ [.grow false 5 1 (.ints .u8 (raV s))]) := by
  unfold raV raI
  cases h : raErr s with
  | true => exact (readall_bad hl h).nilT gH_ro
  | false => exact readall_ok hl h
structure NL where
  md : List Int → List Int
  tS : List Int → ByteArray
  tE : List Int → Int
  tC : List Int → Bool
  rV : ByteArray → List Int
  rE : ByteArray → Int
  rC : ByteArray → Bool
  eq : List Int → List Int → Bool
  sC : List Int → Bool
  tr : ByteArray → ByteArray
  trC : ByteArray → Bool
def gMdN (N : NL) : List V → List Blk → Option (Bool × V × List Blk)
  | [.gs 0], [.rs _ 1 (.ints .u8 xs)] => some (true, .gs 1, [.grow false 5 1 (.ints .u8 (N.md xs))])
  | _, _ => none
noncomputable def gTaN (N : NL) : List V → List Blk → Option (Bool × V × List Blk)
  | [.gs 1], [.glob 0 (.strs l), .rs _ 1 (.ints .u8 xs)] => some (pB (l = textsL) && N.tC xs, .tuple [.str (N.tS xs), .int .i64 (N.tE xs)], [])
  | _, _ => none
noncomputable def gRaN (N : NL) : List V → List Blk → Option (Bool × V × List Blk)
  | [.str s], [.glob 0 (.strs l)] => some (pB (l = textsL) && N.rC s, .tuple [.gs 1, .int .i64 (N.rE s)], [.grow false 5 1 (.ints .u8 (N.rV s))])
  | _, _ => none
def gSaN (N : NL) : List V → List Blk → Option (Bool × V × List Blk)
  | [.gs 0, .gs 1], [.rs _ 1 (.ints .u8 xs), .rs _ 1 (.ints .u8 ys)] => some (N.sC xs, .bool (N.eq xs ys), [])
  | _, _ => none
noncomputable def gTrN (N : NL) : List V → List Blk → Option (Bool × V × List Blk)
  | [.str s], [.glob 1 (.ints .u8 l)] => some (pB (l = spL) && N.trC s, .str (N.tr s), [])
  | _, _ => none
noncomputable def hTabN (N : NL) : HTab := addH 23 (gMdN N) (addH 18 (gTaN N) (addH 21 (gRaN N) (addH 24 (gSaN N) (addH 25 (gTrN N) (addH 11 gAwake emptyH)))))
def glN : FuncId → List Nat := fun f => bif Nat.beq f 18 || (Nat.beq f 21 || Nat.beq f 11) then [0] else bif Nat.beq f 25 then [1] else []
def hDomN : FuncId → Bool := fun f => Nat.beq f 23 || (Nat.beq f 18 || (Nat.beq f 21 || (Nat.beq f 24 || (Nat.beq f 25 || Nat.beq f 11))))
noncomputable abbrev orcN (N : NL) : Oracle := inl Tryd.prog ftab emptyTab plainL 100 never hDomN (hOrcG glN (hTabN N)) 20
def gH2 : List Blk := [.glob 0 (.strs textsL), .glob 1 (.ints .u8 spL)]
end Go.Proofs.YtpehklboickdpaaDoor
