/- Texts merged: St2, Fol. -/
import Derived.Test.YtnhilofmafjdpaaDoorBase0
import Derived.Test.YtnhilofmafjdpaaDoorEng4
/- Chapter 9: check; the state after a call. (Printed by St2.py.) -/
namespace Go.Proofs.YtnhilofmafjdpaaDoor
open Go Go.Eng
noncomputable def chkE (s : St) (c : Int) : Option V := bif !decide (c ≤ 37) then some (.int .i64 80) else bif ovr s then some (.int .i64 90) else
  bif s.b.m then bif decide (c = 0) then some (.int .i64 0) else
    bif decide (c = 1) then bif !decide (s.b.s.tmod 2 = s.turn.tmod 2) then bif !decide (s.risk = 0) then some (.int .i64 2) else some (.int .i64 0) else some (.int .i64 2) else
    bif decide (c = 2) then bif s.b.m then bif !!decide (s.b.s.tmod 2 = s.turn.tmod 2) then bif !decide (s.risk = 1) then some (.int .i64 2) else some (.int .i64 0) else some (.int .i64 2) else some (.int .i64 2) else
    bif !decide (s.b.c < c) then some (.int .i64 2) else some (.int .i64 0)
  else bif decide (c = 0) then some (.int .i64 0) else bif decide (c = 1) then some (.int .i64 2) else
    bif decide (c = 2) then bif s.b.m then bif !decide (s.risk = 1) then some (.int .i64 2) else some (.int .i64 0) else some (.int .i64 2) else
    bif !decide (s.b.c < c) then some (.int .i64 2) else some (.int .i64 0)
theorem check_eval (s : St) (c : Int) : evalP tab0 50 Tryd.f50 [.agg s.vs, .int .u8 c] = chkE s c := by kernel_rfl
theorem chkE_is (s : St) (c : Int) : chkE s c = some (.int .i64 (chk s c)) := by
  unfold chkE chk same2
  cases decide (c ≤ 37) <;> cases ovr s <;> cases hm : s.b.m <;> cases decide (c = 0) <;> cases decide (c = 1) <;> cases decide (c = 2) <;> cases decide (s.b.s.tmod 2 = s.turn.tmod 2) <;> cases decide (s.risk = 0) <;> cases decide (s.risk = 1) <;> cases decide (s.b.c < c) <;> rfl
theorem check_p (s : St) (c : Int) : FnPure Tryd.prog 50 [.agg s.vs, .int .u8 c] (.int .i64 (chk s c)) :=
  pure_at tab0_ok Tryd.func50 (by kernel_rfl) (by rw [check_eval, chkE_is]) rfl rfl
/-! ### the state after a call -/
def nx (t : Int) : Int := (wr .u8 (t + 1)).tmod 4
def passA (s : St) : St := { s with turn := nx s.turn, passes := wr .i64 (s.passes + 1) }
def dblA (s : St) (r : Int) : St := { s with turn := nx s.turn, risk := r, passes := 0 }
def newB (s : St) (c d : Int) : Bd := ⟨c, lvI c, d, s.turn, true⟩
def bidA (s : St) (c d r : Int) : St := { s with b := newB s c d, turn := nx s.turn, risk := r, passes := 0 }
def kOf (t d : Int) : Nat := t.toNat % 2 * 5 + d.toNat
def aft (s : St) (c : Int) : St := bif decide (c = 0) then passA s else bif decide (c = 1) || decide (c = 2) then dblA s c else
  bif (s.fst (kOf s.turn (dnI c))).m then bidA s c (dnI c) 0 else (bidA s c (dnI c) 0).setF (newB s c (dnI c)) (kOf s.turn (dnI c))
noncomputable def aftE (s : St) (c d : Int) (k : Nat) : Option V := bif decide (c = 0) then some (.agg (passA s).vs) else
  bif decide (c = 1) then bif decide (2 < c) then some (.agg (dblA s 0).vs) else some (.agg (dblA s c).vs) else
  bif decide (c = 2) then bif decide (2 < c) then some (.agg (dblA s 0).vs) else some (.agg (dblA s c).vs) else
  bif isBid c && decide (dnI c = d) then bif !(s.fst k).m then bif decide (2 < c) then some (.agg ((bidA s c d 0).setF (newB s c d) k).vs) else some (.agg ((bidA s c d c).setF (newB s c d) k).vs)
    else bif decide (2 < c) then some (.agg (bidA s c d 0).vs) else some (.agg (bidA s c d c).vs) else none
abbrev tabD (d : Int) : PTab := addTab 26 (gPartsD d) tab0
theorem tabD_ok (d : Int) : PTabOk Tryd.prog (tabD d) := by
  refine addTab_ok ?_ tab0_ok
  intro args c v h hc
  unfold gPartsD at h
  split at h
  · cases h
    simp only [Bool.and_eq_true, decide_eq_true_eq] at hc
    have := parts_p (by assumption)
    unfold ptV at this
    rw [hc.1, cond_true, hc.2] at this
    exact this
  · cases h

theorem after_0_0 (s : St) (c : Int) : evalP (tabD 0) 60 Tryd.f60 [.agg (s.at 0).vs, .int .u8 c] = aftE (s.at 0) c 0 0 := by kernel_rfl
theorem after_0_1 (s : St) (c : Int) : evalP (tabD 1) 60 Tryd.f60 [.agg (s.at 0).vs, .int .u8 c] = aftE (s.at 0) c 1 1 := by kernel_rfl
theorem after_0_2 (s : St) (c : Int) : evalP (tabD 2) 60 Tryd.f60 [.agg (s.at 0).vs, .int .u8 c] = aftE (s.at 0) c 2 2 := by kernel_rfl
theorem after_0_3 (s : St) (c : Int) : evalP (tabD 3) 60 Tryd.f60 [.agg (s.at 0).vs, .int .u8 c] = aftE (s.at 0) c 3 3 := by kernel_rfl
theorem after_0_4 (s : St) (c : Int) : evalP (tabD 4) 60 Tryd.f60 [.agg (s.at 0).vs, .int .u8 c] = aftE (s.at 0) c 4 4 := by kernel_rfl
theorem after_1_0 (s : St) (c : Int) : evalP (tabD 0) 60 Tryd.f60 [.agg (s.at 1).vs, .int .u8 c] = aftE (s.at 1) c 0 5 := by kernel_rfl
theorem after_1_1 (s : St) (c : Int) : evalP (tabD 1) 60 Tryd.f60 [.agg (s.at 1).vs, .int .u8 c] = aftE (s.at 1) c 1 6 := by kernel_rfl
theorem after_1_2 (s : St) (c : Int) : evalP (tabD 2) 60 Tryd.f60 [.agg (s.at 1).vs, .int .u8 c] = aftE (s.at 1) c 2 7 := by kernel_rfl
theorem after_1_3 (s : St) (c : Int) : evalP (tabD 3) 60 Tryd.f60 [.agg (s.at 1).vs, .int .u8 c] = aftE (s.at 1) c 3 8 := by kernel_rfl
theorem after_1_4 (s : St) (c : Int) : evalP (tabD 4) 60 Tryd.f60 [.agg (s.at 1).vs, .int .u8 c] = aftE (s.at 1) c 4 9 := by kernel_rfl
theorem after_2_0 (s : St) (c : Int) : evalP (tabD 0) 60 Tryd.f60 [.agg (s.at 2).vs, .int .u8 c] = aftE (s.at 2) c 0 0 := by kernel_rfl
theorem after_2_1 (s : St) (c : Int) : evalP (tabD 1) 60 Tryd.f60 [.agg (s.at 2).vs, .int .u8 c] = aftE (s.at 2) c 1 1 := by kernel_rfl
theorem after_2_2 (s : St) (c : Int) : evalP (tabD 2) 60 Tryd.f60 [.agg (s.at 2).vs, .int .u8 c] = aftE (s.at 2) c 2 2 := by kernel_rfl
theorem after_2_3 (s : St) (c : Int) : evalP (tabD 3) 60 Tryd.f60 [.agg (s.at 2).vs, .int .u8 c] = aftE (s.at 2) c 3 3 := by kernel_rfl
theorem after_2_4 (s : St) (c : Int) : evalP (tabD 4) 60 Tryd.f60 [.agg (s.at 2).vs, .int .u8 c] = aftE (s.at 2) c 4 4 := by kernel_rfl
theorem after_3_0 (s : St) (c : Int) : evalP (tabD 0) 60 Tryd.f60 [.agg (s.at 3).vs, .int .u8 c] = aftE (s.at 3) c 0 5 := by kernel_rfl
theorem after_3_1 (s : St) (c : Int) : evalP (tabD 1) 60 Tryd.f60 [.agg (s.at 3).vs, .int .u8 c] = aftE (s.at 3) c 1 6 := by kernel_rfl
theorem after_3_2 (s : St) (c : Int) : evalP (tabD 2) 60 Tryd.f60 [.agg (s.at 3).vs, .int .u8 c] = aftE (s.at 3) c 2 7 := by kernel_rfl
theorem after_3_3 (s : St) (c : Int) : evalP (tabD 3) 60 Tryd.f60 [.agg (s.at 3).vs, .int .u8 c] = aftE (s.at 3) c 3 8 := by kernel_rfl
theorem after_3_4 (s : St) (c : Int) : evalP (tabD 4) 60 Tryd.f60 [.agg (s.at 3).vs, .int .u8 c] = aftE (s.at 3) c 4 9 := by kernel_rfl
theorem aftE_is {s : St} {c d : Int} (h : isBid c = true → dnI c = d) (hc : c = 0 ∨ c = 1 ∨ c = 2 ∨ isBid c = true) : aftE s c d (kOf s.turn d) = some (.agg (aft s c).vs) := by
  unfold aftE aft
  rcases hc with rfl | rfl | rfl | hb
  · rfl
  · rfl
  · rfl
  · have hd := h hb
    subst hd
    rw [hb]
    simp only [isBid, Bool.and_eq_true, decide_eq_true_eq] at hb
    have e0 : decide (c = 0) = false := by simp; omega
    have e1 : decide (c = 1) = false := by simp; omega
    have e2 : decide (c = 2) = false := by simp; omega
    have e3 : decide (2 < c) = true := by simp; omega
    rw [e0, e1, e2, e3]
    simp only [cond_false, cond_true, Bool.or_self, decide_true, Bool.and_self]
    cases (s.fst (kOf s.turn (dnI c))).m <;> rfl
theorem at_self (s : St) : s.at s.turn = s := rfl
theorem dn_range {c : Int} (h : isBid c = true) : 0 ≤ dnI c ∧ dnI c < 5 := by
  simp only [isBid, Bool.and_eq_true, decide_eq_true_eq] at h
  unfold dnI
  rw [wr_u8_id (by omega), Int.tmod_eq_emod_of_nonneg (by omega)]
  omega
theorem after_p (s : St) (c : Int) (ht : 0 ≤ s.turn ∧ s.turn < 4) (hc : c = 0 ∨ c = 1 ∨ c = 2 ∨ isBid c = true) : FnPure Tryd.prog 60 [.agg s.vs, .int .u8 c] (.agg (aft s c).vs) := by
  obtain ⟨d, hd, h0⟩ : ∃ d, (isBid c = true → dnI c = d) ∧ (d = 0 ∨ d = 1 ∨ d = 2 ∨ d = 3 ∨ d = 4) := by
    cases hb : isBid c with
    | false => exact ⟨0, ⟨fun h => (by cases h), .inl rfl⟩⟩
    | true => have := dn_range hb; exact ⟨dnI c, ⟨fun _ => rfl, by omega⟩⟩
  refine pure_at (tabD_ok d) Tryd.func60 (by kernel_rfl) ?_ rfl rfl
  rw [← aftE_is hd hc]
  have key : ∀ t : Int, t = s.turn → evalP (tabD d) 60 Tryd.f60 [.agg (s.at t).vs, .int .u8 c] = aftE (s.at t) c d (kOf t d) := by
    intro t e
    have ht' : t = 0 ∨ t = 1 ∨ t = 2 ∨ t = 3 := by omega
    clear hd hc e ht
    rcases ht' with rfl | rfl | rfl | rfl <;> rcases h0 with rfl | rfl | rfl | rfl | rfl
    · exact after_0_0 s c
    · exact after_0_1 s c
    · exact after_0_2 s c
    · exact after_0_3 s c
    · exact after_0_4 s c
    · exact after_1_0 s c
    · exact after_1_1 s c
    · exact after_1_2 s c
    · exact after_1_3 s c
    · exact after_1_4 s c
    · exact after_2_0 s c
    · exact after_2_1 s c
    · exact after_2_2 s c
    · exact after_2_3 s c
    · exact after_2_4 s c
    · exact after_3_0 s c
    · exact after_3_1 s c
    · exact after_3_2 s c
    · exact after_3_3 s c
    · exact after_3_4 s c
  have := key s.turn rfl
  rw [at_self] at this
  exact this
end Go.Proofs.YtnhilofmafjdpaaDoor

/- Chapter 9: follow: its loop. -/
namespace Go.Proofs.YtnhilofmafjdpaaDoor
open Go Go.Eng
def okC (c : Int) : Bool := decide (0 ≤ c) && decide (c ≤ 37)
def gCheck (CH : St → Int → Int) : List V → Option (Bool × V)
  | [.agg l, .int .u8 c] => match ofVs l with
    | some s => some (true, .int .i64 (CH s c))
    | none => none
  | _ => none
def okT (s : St) : Bool := decide (0 ≤ s.turn) && decide (s.turn < 4)
def gAfter (OT : St → Bool) (AF : St → Int → St) : List V → Option (Bool × V)
  | [.agg l, .int .u8 c] => match ofVs l with
    | some s => some (OT s && okC c, .agg (AF s c).vs)
    | none => none
  | _ => none
def gOver' (OV : St → Bool) : List V → Option (Bool × V)
  | [.agg l] => match ofVs l with
    | some s => some (true, .bool (OV s))
    | none => none
  | _ => none
def tabF (CH : St → Int → Int) (OT : St → Bool) (AF : St → Int → St) (OV : St → Bool) : PTab := addTab 50 (gCheck CH) (addTab 60 (gAfter OT AF) (addTab 36 (gOver' OV) (addTab 49 gRight (addTab 26 gParts emptyTab))))
theorem tabF_ok : PTabOk Tryd.prog (tabF chk okT aft ovr) := by
  refine addTab_ok ?_ (addTab_ok ?_ (addTab_ok ?_ (addTab_ok ?_ (addTab_ok ?_ emptyTab_ok))))
  · intro args c v h _
    unfold gCheck at h
    split at h
    · split at h
      · rename_i s hs; cases h; rw [ofVs_ok hs]; exact check_p s _
      · cases h
    · cases h
  · intro args c v h hc
    unfold gAfter at h
    split at h
    · split at h
      · rename_i s hs
        cases h
        rw [ofVs_ok hs]
        simp only [okT, okC, Bool.and_eq_true, decide_eq_true_eq] at hc
        refine after_p s _ hc.1 ?_
        simp only [isBid, Bool.and_eq_true, decide_eq_true_eq]
        omega
      · cases h
    · cases h
  · intro args c v h _
    unfold gOver' at h
    split at h
    · split at h
      · rename_i s hs; cases h; rw [ofVs_ok hs]; exact over_p s
      · cases h
    · cases h
  · intro args c v h _
    unfold gRight at h
    split at h
    · cases h; exact right_p _
    · cases h
  · intro args c v h _
    unfold gParts at h
    split at h
    · cases h; exact parts_p _
    · cases h
def Bd.pv (b : Bd) (r : List PV) : List PV := .i b.c :: .i b.l :: .i b.d :: .i b.s :: .b b.m :: r
def St.pv (s : St) (r : List PV) : List PV := s.b.pv (.i s.turn :: .i s.risk :: .i s.passes :: s.f0.pv (s.f1.pv (s.f2.pv (s.f3.pv (s.f4.pv (s.f5.pv (s.f6.pv (s.f7.pv (s.f8.pv (s.f9.pv r))))))))))
def tvB (r : List TV) : List TV := .int .u8 :: .int .u8 :: .int .u8 :: .int .u8 :: .bool :: r
def tvS : List TV := tvB (.int .u8 :: .int .u8 :: .int .i64 :: tvB (tvB (tvB (tvB (tvB (tvB (tvB (tvB (tvB (tvB []))))))))))
noncomputable def foLp : Code := loopOf 5 Tryd.f35
def foT (nn : Bool) : Tm := ⟨mkS [(4, .ptr 1 0), (5, .int .i64), (6, .int .i64), (7, .ptr 2 0), (16, .gs 0), (17, .int .i64), (18, .int .i64)] 0 36, [.rs nn 1 (.ints .u8), .own 70 (.vs tvS), .own 70 (.vs tvS)], []⟩
def foX (nn : Bool) : Tm := ⟨mkS [(4, .ptr 1 0), (5, .int .i64), (6, .int .i64), (7, .ptr 2 0)] 0 36, [.rs nn 1 (.ints .u8), .own 70 (.vs tvS), .own 70 (.vs tvS)], []⟩
def atU {α : Type} (l : List Int) (i : Int) (K : Int → Option α) : Option α := bif decide (0 ≤ i ∧ i < Int.ofNat l.length) then (match l[i.toNat]? with | some v => K v | none => none) else none
noncomputable abbrev orcE (T : PTab) (LL : FuncId → Loops) : Oracle := inl Tryd.prog ftab T LL 100 never never (oracleOf emptyTab) 20
theorem orcE_ok {T : PTab} (hT : PTabOk Tryd.prog T) {LL : FuncId → Loops} (hL : ∀ f, loopsOk Tryd.prog (LL f)) : OracleOk Tryd.prog (orcE T LL) := inl_ok (oracleOf_ok emptyTab_ok) ftab_ok hT hL mixed 20
theorem fo_round (CH : St → Int → Int) (OT : St → Bool) (AF : St → Int → St) (OV : St → Bool) (nn : Bool) (rd : Option Nat) (a e n i : Int) (xs : List Int) (z s : St) : roundT Tryd.prog (orcE (tabF CH OT AF OV) plainL) noLoops 100 1 rd 35 foLp (foT nn) (foX nn) (.i a :: .i e :: .i n :: .i i :: .l xs :: z.pv (s.pv [])) =
    bif decide (i < n) then atU xs i (fun c => bif !decide (CH s c = 0) then some (.ret, .i i :: .i (CH s c) :: .l xs :: (st0 0).pv (s.pv []), []) else
      bif OT s && okC c then some (.normal, .i a :: .i e :: .i n :: .i (wr .i64 (i + 1)) :: .l xs :: z.pv ((AF s c).pv []), []) else none) else some (.exit 0, .i a :: .i e :: .l xs :: z.pv (s.pv []), []) := by cases nn <;> kernel_rfl
end Go.Proofs.YtnhilofmafjdpaaDoor
