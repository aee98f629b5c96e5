/- Chapter 10: courses. -/
import Derived.Test.YtojlmpcbplepcaaIr2
namespace Go.Proofs.Ytojlmpcbplepcaa
open Go Go.Eng
/-- Four numbers, by seats. -/
structure Q4 where
  a : Int
  b : Int
  c : Int
  d : Int
/-- A course without its lists: dealer, Pass, Again, Change, Forbid. -/
structure CD where
  d : Int
  p : Q4
  a : Q4
  h : Int
  f : Q4
def Q4.vs (k : IntKind) (q : Q4) (r : List V) : List V := .int k q.a :: .int k q.b :: .int k q.c :: .int k q.d :: r
def CD.vs (s : CD) (x y : V) : List V := .int .u8 s.d :: x :: y :: s.p.vs .i64 (s.a.vs .u8 (.int .u8 s.h :: s.f.vs .u8 []))
def Q4.pv (q : Q4) (r : List PV) : List PV := .i q.a :: .i q.b :: .i q.c :: .i q.d :: r
def CD.pv (s : CD) (r : List PV) : List PV := .i s.d :: s.p.pv (s.a.pv (.i s.h :: s.f.pv r))
def Q4.tv (k : IntKind) (r : List TV) : List TV := .int k :: .int k :: .int k :: .int k :: r
def crsT (x y : TV) : List TV := .int .u8 :: x :: y :: Q4.tv .i64 (Q4.tv .u8 (.int .u8 :: Q4.tv .u8 []))
def Q4.at (q : Q4) : Nat → Int
  | 0 => q.a | 1 => q.b | 2 => q.c | _ => q.d
def Q4.set (q : Q4) (v : Int) : Nat → Q4
  | 0 => { q with a := v } | 1 => { q with b := v } | 2 => { q with c := v } | _ => { q with d := v }
def ofCrs : List V → Option (CD × V × V)
  | [.int .u8 d, x, y, .int .i64 p0, .int .i64 p1, .int .i64 p2, .int .i64 p3, .int .u8 a0, .int .u8 a1, .int .u8 a2, .int .u8 a3, .int .u8 h, .int .u8 f0, .int .u8 f1, .int .u8 f2, .int .u8 f3] => some (⟨d, ⟨p0, p1, p2, p3⟩, ⟨a0, a1, a2, a3⟩, h, ⟨f0, f1, f2, f3⟩⟩, x, y)
  | _ => none
theorem ofCrs_ok {l : List V} {s : CD} {x y : V} (h : ofCrs l = some (s, x, y)) : l = s.vs x y := by
  unfold ofCrs at h
  split at h
  · cases h; rfl
  · cases h
theorem ofCrs_vs (s : CD) (x y : V) : ofCrs (s.vs x y) = some (s, x, y) := rfl
/-- The contracts over lists of calls, as names. -/
structure NJ where
  OK : List Int → Bool
  OV : Int → List Int → Bool
  FR : Int → List Int → Int → Bool
  LW : List Int → Int → Bool
  PS : List Int → Bool
  BY : Int → Bool
def byB (x : Int) : Bool := decide (0 ≤ x ∧ x < 256)
def nJ : NJ := ⟨okL, ovI, frI, lwI, psI, byB⟩
def jOver (N : NJ) : List V → List Blk → Option (Bool × V × List Blk)
  | [.int .u8 d, .gs 0], [.rs _ 1 (.ints .u8 xs)] => some (N.OK xs, .bool (N.OV d xs), [])
  | _, _ => none
def jFree (N : NJ) : List V → List Blk → Option (Bool × V × List Blk)
  | [.int .u8 d, .gs 0, .int .u8 x], [.rs _ 1 (.ints .u8 xs)] => some (N.OK xs && N.BY x, .bool (N.FR d xs x), [])
  | _, _ => none
def jLow (N : NJ) : List V → List Blk → Option (Bool × V × List Blk)
  | [.gs 0, .int .u8 x], [.rs _ 1 (.ints .u8 xs)] => some (N.OK xs, .bool (N.LW xs x), [])
  | _, _ => none
def jPassed (N : NJ) : List V → List Blk → Option (Bool × V × List Blk)
  | [.gs 0], [.rs _ 1 (.ints .u8 xs)] => some (N.OK xs, .bool (N.PS xs), [])
  | _, _ => none
def hTabJ (N : NJ) (T : HTab) : HTab := addH 36 (jOver N) (addH 40 (jFree N) (addH 39 (jLow N) (addH 49 (jPassed N) T)))
theorem hTabJ_ok {T : HTab} (hT : HTabOk Try.prog T) : HTabOk Try.prog (hTabJ nJ T) := by
  refine addH_ok ?_ (addH_ok ?_ (addH_ok ?_ (addH_ok ?_ hT)))
  · intro args h c v nb hq hc
    unfold jOver at hq
    split at hq
    · cases hq; exact ⟨.of Try.func36 (by kernel_rfl), by rw [List.append_nil]; exact over36_fn _ hc⟩
    · cases hq
  · intro args h c v nb hq hc
    unfold jFree at hq
    split at hq
    · cases hq
      simp only [Bool.and_eq_true] at hc
      exact ⟨.of Try.func40 (by kernel_rfl), by rw [List.append_nil]; exact free40_fn _ hc.1 (of_decide_eq_true hc.2)⟩
    · cases hq
  · intro args h c v nb hq hc
    unfold jLow at hq
    split at hq
    · cases hq; exact ⟨.of Try.func39 (by kernel_rfl), by rw [List.append_nil]; exact low39_fn _ hc⟩
    · cases hq
  · intro args h c v nb hq hc
    unfold jPassed at hq
    split at hq
    · cases hq; exact ⟨.of Try.func49 (by kernel_rfl), by rw [List.append_nil]; exact passed49_fn _ hc⟩
    · cases hq
def domJ : FuncId → Bool := fun f => Nat.beq f 36 || (Nat.beq f 40 || (Nat.beq f 39 || Nat.beq f 49))
/-- How a nil slice is written: bytes, but for the second list of a course. -/
def nrC : FuncId → Nat → Option Row := fun _ n => match n with
  | 1 => some (.ints .i64 [])
  | _ => some (.ints .u8 [])
noncomputable abbrev orcJ (N : NJ) (T : PTab) (LL : FuncId → Loops) : Oracle := inl Try.prog ftab T LL 100 never domJ (hOrcX nrC (hTabJ N emptyH)) 20
theorem orcJ_ok {T : PTab} (hT : PTabOk Try.prog T) {LL : FuncId → Loops} (hL : ∀ f, loopsOk Try.prog (LL f)) : OracleOk Try.prog (orcJ nJ T LL) := inl_ok (hOrcX_ok (hTabJ_ok emptyH_ok)) ftab_ok hT hL mixed 20
/-- The heap of a course's two lists. -/
def crsH (n1 n2 : Bool) (xs ac : List Int) : List Blk := [.rs n1 1 (.ints .u8 xs), .rs n2 1 (.ints .i64 ac)]
theorem crs_ro {n1 n2 : Bool} {xs ac : List Int} : ∀ (b : Nat) blk, (crsH n1 n2 xs ac)[b]? = some blk → blk.mine = false := by
  intro b blk hb
  match b, hb with
  | 0, hb => cases hb; rfl
  | 1, hb => cases hb; rfl
  | _ + 2, hb => simp [crsH] at hb
/-! ### Right: one round -/
noncomputable def riLp : Code := loopOf 11 Try.f17
def riT (n1 n2 : Bool) : Tm := ⟨mkS [(1, .ptr 2 0), (2, .bool), (4, .int .i64), (54, .gs 0), (55, .int .i64), (56, .int .i64)] 0 121, [.rs n1 1 (.ints .u8), .rs n2 1 (.ints .i64), .own 29 (.vs (crsT (.gs 0) (.gs 1)))], []⟩
def riX (n1 n2 : Bool) : Tm := ⟨mkS [(1, .ptr 2 0), (2, .bool), (4, .int .i64)] 0 121, [.rs n1 1 (.ints .u8), .rs n2 1 (.ints .i64), .own 29 (.vs (crsT (.gs 0) (.gs 1)))], []⟩
end Go.Proofs.Ytojlmpcbplepcaa
