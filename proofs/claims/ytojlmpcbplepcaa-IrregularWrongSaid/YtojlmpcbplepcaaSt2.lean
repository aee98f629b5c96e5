/- Chapter 9: check; the state after a call. (Printed by St2.py.) -/
import Derived.Test.YtojlmpcbplepcaaBase0
namespace Go.Proofs.Ytojlmpcbplepcaa
open Go Go.Eng
noncomputable def chkE (s : St) (c : Int) : Option V := bif !decide (c ≤ 37) then some (.int .i64 80) else bif ovr s then some (.int .i64 90) else
  bif s.b.m then bif decide (c = 0) then some (.int .i64 0) else
    bif decide (c = 1) then bif !decide (s.b.s.tmod 2 = s.turn.tmod 2) then bif !decide (s.risk = 0) then some (.int .i64 2) else some (.int .i64 0) else some (.int .i64 2) else
    bif decide (c = 2) then bif s.b.m then bif !!decide (s.b.s.tmod 2 = s.turn.tmod 2) then bif !decide (s.risk = 1) then some (.int .i64 2) else some (.int .i64 0) else some (.int .i64 2) else some (.int .i64 2) else
    bif !decide (s.b.c < c) then some (.int .i64 2) else some (.int .i64 0)
  else bif decide (c = 0) then some (.int .i64 0) else bif decide (c = 1) then some (.int .i64 2) else
    bif decide (c = 2) then bif s.b.m then bif !decide (s.risk = 1) then some (.int .i64 2) else some (.int .i64 0) else some (.int .i64 2) else
    bif !decide (s.b.c < c) then some (.int .i64 2) else some (.int .i64 0)
theorem check_eval (s : St) (c : Int) : evalP tab0 62 Try.f62 [.agg s.vs, .int .u8 c] = chkE s c := by kernel_rfl
theorem chkE_is (s : St) (c : Int) : chkE s c = some (.int .i64 (chk s c)) := by
  unfold chkE chk same2
  cases decide (c ≤ 37) <;> cases ovr s <;> cases hm : s.b.m <;> cases decide (c = 0) <;> cases decide (c = 1) <;> cases decide (c = 2) <;> cases decide (s.b.s.tmod 2 = s.turn.tmod 2) <;> cases decide (s.risk = 0) <;> cases decide (s.risk = 1) <;> cases decide (s.b.c < c) <;> rfl
theorem check_p (s : St) (c : Int) : FnPure Try.prog 62 [.agg s.vs, .int .u8 c] (.int .i64 (chk s c)) :=
  pure_at tab0_ok Try.func62 (by kernel_rfl) (by rw [check_eval, chkE_is]) rfl rfl
/-! ### the state after a call -/
def nx (t : Int) : Int := (wr .u8 (t + 1)).tmod 4
def passA (s : St) : St := { s with turn := nx s.turn, passes := wr .i64 (s.passes + 1) }
def dblA (s : St) (r : Int) : St := { s with turn := nx s.turn, risk := r, passes := 0 }
def newB (s : St) (c d : Int) : Bd := ⟨c, lvI c, d, s.turn, true⟩
def bidA (s : St) (c d r : Int) : St := { s with b := newB s c d, turn := nx s.turn, risk := r, passes := 0 }
def kOf (t d : Int) : Nat := t.toNat % 2 * 5 + d.toNat
def aft (s : St) (c : Int) : St := bif decide (c = 0) then passA s else bif decide (c = 1) || decide (c = 2) then dblA s c else
  bif (s.fst (kOf s.turn (dnI c))).m then bidA s c (dnI c) 0 else (bidA s c (dnI c) 0).setF (newB s c (dnI c)) (kOf s.turn (dnI c))
noncomputable def aftE (s : St) (c d : Int) (k : Nat) : Option V := bif decide (c = 0) then some (.agg (passA s).vs) else
  bif decide (c = 1) then bif decide (2 < c) then some (.agg (dblA s 0).vs) else some (.agg (dblA s c).vs) else
  bif decide (c = 2) then bif decide (2 < c) then some (.agg (dblA s 0).vs) else some (.agg (dblA s c).vs) else
  bif isBid c && decide (dnI c = d) then bif !(s.fst k).m then bif decide (2 < c) then some (.agg ((bidA s c d 0).setF (newB s c d) k).vs) else some (.agg ((bidA s c d c).setF (newB s c d) k).vs)
    else bif decide (2 < c) then some (.agg (bidA s c d 0).vs) else some (.agg (bidA s c d c).vs) else none
abbrev tabD (d : Int) : PTab := addTab 55 (gPartsD d) tab0
theorem tabD_ok (d : Int) : PTabOk Try.prog (tabD d) := by
  refine addTab_ok ?_ tab0_ok
  intro args c v h hc
  unfold gPartsD at h
  split at h
  · cases h
    simp only [Bool.and_eq_true, decide_eq_true_eq] at hc
    have := parts_p (by assumption)
    unfold ptV at this
    rw [hc.1, cond_true, hc.2] at this
    exact this
  · cases h

theorem after_0_0 (s : St) (c : Int) : evalP (tabD 0) 97 Try.f97 [.agg (s.at 0).vs, .int .u8 c] = aftE (s.at 0) c 0 0 := by kernel_rfl
theorem after_0_1 (s : St) (c : Int) : evalP (tabD 1) 97 Try.f97 [.agg (s.at 0).vs, .int .u8 c] = aftE (s.at 0) c 1 1 := by kernel_rfl
theorem after_0_2 (s : St) (c : Int) : evalP (tabD 2) 97 Try.f97 [.agg (s.at 0).vs, .int .u8 c] = aftE (s.at 0) c 2 2 := by kernel_rfl
theorem after_0_3 (s : St) (c : Int) : evalP (tabD 3) 97 Try.f97 [.agg (s.at 0).vs, .int .u8 c] = aftE (s.at 0) c 3 3 := by kernel_rfl
theorem after_0_4 (s : St) (c : Int) : evalP (tabD 4) 97 Try.f97 [.agg (s.at 0).vs, .int .u8 c] = aftE (s.at 0) c 4 4 := by kernel_rfl
theorem after_1_0 (s : St) (c : Int) : evalP (tabD 0) 97 Try.f97 [.agg (s.at 1).vs, .int .u8 c] = aftE (s.at 1) c 0 5 := by kernel_rfl
theorem after_1_1 (s : St) (c : Int) : evalP (tabD 1) 97 Try.f97 [.agg (s.at 1).vs, .int .u8 c] = aftE (s.at 1) c 1 6 := by kernel_rfl
theorem after_1_2 (s : St) (c : Int) : evalP (tabD 2) 97 Try.f97 [.agg (s.at 1).vs, .int .u8 c] = aftE (s.at 1) c 2 7 := by kernel_rfl
theorem after_1_3 (s : St) (c : Int) : evalP (tabD 3) 97 Try.f97 [.agg (s.at 1).vs, .int .u8 c] = aftE (s.at 1) c 3 8 := by kernel_rfl
theorem after_1_4 (s : St) (c : Int) : evalP (tabD 4) 97 Try.f97 [.agg (s.at 1).vs, .int .u8 c] = aftE (s.at 1) c 4 9 := by kernel_rfl
theorem after_2_0 (s : St) (c : Int) : evalP (tabD 0) 97 Try.f97 [.agg (s.at 2).vs, .int .u8 c] = aftE (s.at 2) c 0 0 := by kernel_rfl
theorem after_2_1 (s : St) (c : Int) : evalP (tabD 1) 97 Try.f97 [.agg (s.at 2).vs, .int .u8 c] = aftE (s.at 2) c 1 1 := by kernel_rfl
theorem after_2_2 (s : St) (c : Int) : evalP (tabD 2) 97 Try.f97 [.agg (s.at 2).vs, .int .u8 c] = aftE (s.at 2) c 2 2 := by kernel_rfl
theorem after_2_3 (s : St) (c : Int) : evalP (tabD 3) 97 Try.f97 [.agg (s.at 2).vs, .int .u8 c] = aftE (s.at 2) c 3 3 := by kernel_rfl
theorem after_2_4 (s : St) (c : Int) : evalP (tabD 4) 97 Try.f97 [.agg (s.at 2).vs, .int .u8 c] = aftE (s.at 2) c 4 4 := by kernel_rfl
theorem after_3_0 (s : St) (c : Int) : evalP (tabD 0) 97 Try.f97 [.agg (s.at 3).vs, .int .u8 c] = aftE (s.at 3) c 0 5 := by kernel_rfl
theorem after_3_1 (s : St) (c : Int) : evalP (tabD 1) 97 Try.f97 [.agg (s.at 3).vs, .int .u8 c] = aftE (s.at 3) c 1 6 := by kernel_rfl
theorem after_3_2 (s : St) (c : Int) : evalP (tabD 2) 97 Try.f97 [.agg (s.at 3).vs, .int .u8 c] = aftE (s.at 3) c 2 7 := by kernel_rfl
theorem after_3_3 (s : St) (c : Int) : evalP (tabD 3) 97 Try.f97 [.agg (s.at 3).vs, .int .u8 c] = aftE (s.at 3) c 3 8 := by kernel_rfl
theorem after_3_4 (s : St) (c : Int) : evalP (tabD 4) 97 Try.f97 [.agg (s.at 3).vs, .int .u8 c] = aftE (s.at 3) c 4 9 := by kernel_rfl
theorem aftE_is {s : St} {c d : Int} (h : isBid c = true → dnI c = d) (hc : c = 0 ∨ c = 1 ∨ c = 2 ∨ isBid c = true) : aftE s c d (kOf s.turn d) = some (.agg (aft s c).vs) := by
  unfold aftE aft
  rcases hc with rfl | rfl | rfl | hb
  · rfl
  · rfl
  · rfl
  · have hd := h hb
    subst hd
    rw [hb]
    simp only [isBid, Bool.and_eq_true, decide_eq_true_eq] at hb
    have e0 : decide (c = 0) = false := by simp; omega
    have e1 : decide (c = 1) = false := by simp; omega
    have e2 : decide (c = 2) = false := by simp; omega
    have e3 : decide (2 < c) = true := by simp; omega
    rw [e0, e1, e2, e3]
    simp only [cond_false, cond_true, Bool.or_self, decide_true, Bool.and_self]
    cases (s.fst (kOf s.turn (dnI c))).m <;> rfl
theorem at_self (s : St) : s.at s.turn = s := rfl
theorem dn_range {c : Int} (h : isBid c = true) : 0 ≤ dnI c ∧ dnI c < 5 := by
  simp only [isBid, Bool.and_eq_true, decide_eq_true_eq] at h
  unfold dnI
  rw [wr_u8_id (by omega), Int.tmod_eq_emod_of_nonneg (by omega)]
  omega
theorem after_p (s : St) (c : Int) (ht : 0 ≤ s.turn ∧ s.turn < 4) (hc : c = 0 ∨ c = 1 ∨ c = 2 ∨ isBid c = true) : FnPure Try.prog 97 [.agg s.vs, .int .u8 c] (.agg (aft s c).vs) := by
  obtain ⟨d, hd, h0⟩ : ∃ d, (isBid c = true → dnI c = d) ∧ (d = 0 ∨ d = 1 ∨ d = 2 ∨ d = 3 ∨ d = 4) := by
    cases hb : isBid c with
    | false => exact ⟨0, ⟨fun h => (by cases h), .inl rfl⟩⟩
    | true => have := dn_range hb; exact ⟨dnI c, ⟨fun _ => rfl, by omega⟩⟩
  refine pure_at (tabD_ok d) Try.func97 (by kernel_rfl) ?_ rfl rfl
  rw [← aftE_is hd hc]
  have key : ∀ t : Int, t = s.turn → evalP (tabD d) 97 Try.f97 [.agg (s.at t).vs, .int .u8 c] = aftE (s.at t) c d (kOf t d) := by
    intro t e
    have ht' : t = 0 ∨ t = 1 ∨ t = 2 ∨ t = 3 := by omega
    clear hd hc e ht
    rcases ht' with rfl | rfl | rfl | rfl <;> rcases h0 with rfl | rfl | rfl | rfl | rfl
    · exact after_0_0 s c
    · exact after_0_1 s c
    · exact after_0_2 s c
    · exact after_0_3 s c
    · exact after_0_4 s c
    · exact after_1_0 s c
    · exact after_1_1 s c
    · exact after_1_2 s c
    · exact after_1_3 s c
    · exact after_1_4 s c
    · exact after_2_0 s c
    · exact after_2_1 s c
    · exact after_2_2 s c
    · exact after_2_3 s c
    · exact after_2_4 s c
    · exact after_3_0 s c
    · exact after_3_1 s c
    · exact after_3_2 s c
    · exact after_3_3 s c
    · exact after_3_4 s c
  have := key s.turn rfl
  rw [at_self] at this
  exact this
end Go.Proofs.Ytojlmpcbplepcaa
