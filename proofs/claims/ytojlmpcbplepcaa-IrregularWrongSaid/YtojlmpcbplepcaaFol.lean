/- Chapter 9: follow: its loop. -/
import Derived.Test.YtojlmpcbplepcaaSt2
import Derived.Test.YtojlmpcbplepcaaEng4
namespace Go.Proofs.Ytojlmpcbplepcaa
open Go Go.Eng
def okC (c : Int) : Bool := decide (0 ≤ c) && decide (c ≤ 37)
def gCheck (CH : St → Int → Int) : List V → Option (Bool × V)
  | [.agg l, .int .u8 c] => match ofVs l with
    | some s => some (true, .int .i64 (CH s c))
    | none => none
  | _ => none
def okT (s : St) : Bool := decide (0 ≤ s.turn) && decide (s.turn < 4)
def gAfter (OT : St → Bool) (AF : St → Int → St) : List V → Option (Bool × V)
  | [.agg l, .int .u8 c] => match ofVs l with
    | some s => some (OT s && okC c, .agg (AF s c).vs)
    | none => none
  | _ => none
def gOver' (OV : St → Bool) : List V → Option (Bool × V)
  | [.agg l] => match ofVs l with
    | some s => some (true, .bool (OV s))
    | none => none
  | _ => none
def tabF (CH : St → Int → Int) (OT : St → Bool) (AF : St → Int → St) (OV : St → Bool) : PTab := addTab 62 (gCheck CH) (addTab 97 (gAfter OT AF) (addTab 61 (gOver' OV) (addTab 35 gRight (addTab 55 gParts emptyTab))))
theorem tabF_ok : PTabOk Try.prog (tabF chk okT aft ovr) := by
  refine addTab_ok ?_ (addTab_ok ?_ (addTab_ok ?_ (addTab_ok ?_ (addTab_ok ?_ emptyTab_ok))))
  · intro args c v h _
    unfold gCheck at h
    split at h
    · split at h
      · rename_i s hs; cases h; rw [ofVs_ok hs]; exact check_p s _
      · cases h
    · cases h
  · intro args c v h hc
    unfold gAfter at h
    split at h
    · split at h
      · rename_i s hs
        cases h
        rw [ofVs_ok hs]
        simp only [okT, okC, Bool.and_eq_true, decide_eq_true_eq] at hc
        refine after_p s _ hc.1 ?_
        simp only [isBid, Bool.and_eq_true, decide_eq_true_eq]
        omega
      · cases h
    · cases h
  · intro args c v h _
    unfold gOver' at h
    split at h
    · split at h
      · rename_i s hs; cases h; rw [ofVs_ok hs]; exact over_p s
      · cases h
    · cases h
  · intro args c v h _
    unfold gRight at h
    split at h
    · cases h; exact right_p _
    · cases h
  · intro args c v h _
    unfold gParts at h
    split at h
    · cases h; exact parts_p _
    · cases h
def Bd.pv (b : Bd) (r : List PV) : List PV := .i b.c :: .i b.l :: .i b.d :: .i b.s :: .b b.m :: r
def St.pv (s : St) (r : List PV) : List PV := s.b.pv (.i s.turn :: .i s.risk :: .i s.passes :: s.f0.pv (s.f1.pv (s.f2.pv (s.f3.pv (s.f4.pv (s.f5.pv (s.f6.pv (s.f7.pv (s.f8.pv (s.f9.pv r))))))))))
def tvB (r : List TV) : List TV := .int .u8 :: .int .u8 :: .int .u8 :: .int .u8 :: .bool :: r
def tvS : List TV := tvB (.int .u8 :: .int .u8 :: .int .i64 :: tvB (tvB (tvB (tvB (tvB (tvB (tvB (tvB (tvB (tvB []))))))))))
noncomputable def foLp : Code := loopOf 5 Try.f60
def foT (nn : Bool) : Tm := ⟨mkS [(4, .ptr 1 0), (5, .int .i64), (6, .int .i64), (7, .ptr 2 0), (16, .gs 0), (17, .int .i64), (18, .int .i64)] 0 36, [.rs nn 1 (.ints .u8), .own 95 (.vs tvS), .own 95 (.vs tvS)], []⟩
def foX (nn : Bool) : Tm := ⟨mkS [(4, .ptr 1 0), (5, .int .i64), (6, .int .i64), (7, .ptr 2 0)] 0 36, [.rs nn 1 (.ints .u8), .own 95 (.vs tvS), .own 95 (.vs tvS)], []⟩
def atU {α : Type} (l : List Int) (i : Int) (K : Int → Option α) : Option α := bif decide (0 ≤ i ∧ i < Int.ofNat l.length) then (match l[i.toNat]? with | some v => K v | none => none) else none
noncomputable abbrev orcE (T : PTab) (LL : FuncId → Loops) : Oracle := inl Try.prog ftab T LL 100 never never (oracleOf emptyTab) 20
theorem orcE_ok {T : PTab} (hT : PTabOk Try.prog T) {LL : FuncId → Loops} (hL : ∀ f, loopsOk Try.prog (LL f)) : OracleOk Try.prog (orcE T LL) := inl_ok (oracleOf_ok emptyTab_ok) ftab_ok hT hL mixed 20
theorem fo_round (CH : St → Int → Int) (OT : St → Bool) (AF : St → Int → St) (OV : St → Bool) (nn : Bool) (rd : Option Nat) (a e n i : Int) (xs : List Int) (z s : St) : roundT Try.prog (orcE (tabF CH OT AF OV) plainL) noLoops 100 1 rd 60 foLp (foT nn) (foX nn) (.i a :: .i e :: .i n :: .i i :: .l xs :: z.pv (s.pv [])) =
    bif decide (i < n) then atU xs i (fun c => bif !decide (CH s c = 0) then some (.ret, .i i :: .i (CH s c) :: .l xs :: (st0 0).pv (s.pv []), []) else
      bif OT s && okC c then some (.normal, .i a :: .i e :: .i n :: .i (wr .i64 (i + 1)) :: .l xs :: z.pv ((AF s c).pv []), []) else none) else some (.exit 0, .i a :: .i e :: .l xs :: z.pv (s.pv []), []) := by cases nn <;> kernel_rfl
end Go.Proofs.Ytojlmpcbplepcaa
