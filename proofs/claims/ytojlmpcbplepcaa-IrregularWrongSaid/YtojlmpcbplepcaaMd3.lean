/- Chapter 10: Made's contract; the contracts for the laws. -/
import Derived.Test.YtojlmpcbplepcaaMd2
namespace Go.Proofs.Ytojlmpcbplepcaa
open Go Go.Eng
def actsH (nn : Bool) (ws : List Int) : List Blk := [.rs nn 3 (.ints .u8 ws)]
theorem acts_ro {nn : Bool} {ws : List Int} : ∀ (b : Nat) blk, (actsH nn ws)[b]? = some blk → blk.mine = false := by
  intro b blk hb
  match b, hb with
  | 0, hb => cases hb; rfl
  | _ + 1, hb => simp [actsH] at hb
def mdA : Tm := ⟨[some (.tuple [.agg (crsT (.gs 1) (.gs 2)), .bool])], [.rs false 3 (.ints .u8), .grow false 5 1 (.ints .u8), .grow false 3 1 (.ints .i64)], []⟩
def fm (ws : List Int) : Int := foldI minI (Int.ofNat (ws.length / 3)) [40]
def kk (ws : List Int) : Nat := (fm ws).toNat - 0
theorem md_eval (N : NS) (M : NMd) (d : Int) (ws : List Int) : evalFn Try.prog (orcS N emptyTab plainL) (mdL M) 100 10 Try.f10 [.int .u8 d, .gs 0] (actsH false ws) (ansT mdA 1) =
    bif decide ((0 : Int) ≤ 0 ∧ 0 ≤ fm ws ∧ fm ws ≤ Int.ofNat (ws.length / 3)) then cond (codesB [(mdLp, mdLp)]) (bif decide ((0 : Nat) = 0 ∧ Int.ofNat (kk ws) = Int.ofNat (kk ws) ∧ (0 : Int) = 0 ∧ ([] : List Int).length = 0 ∧ ([] : List Int).length = 0 ∧ kk ws ≤ 40 ∧ kk ws ≤ ws.length / 3) && (M.OK ws && (isC0 (crs0 (d.tmod 4)) && M.D4 (d.tmod 4))) then
      some ((M.MC (crs0 (d.tmod 4)) ws (kk ws)).pv [.b true, .l ws, .l (M.ML (crs0 (d.tmod 4)) ws (kk ws)), .l (M.MA (crs0 (d.tmod 4)) ws (kk ws))], []) else none) none else none := by kernel_rfl
theorem mdCd : codesB [(mdLp, mdLp)] = true := by rw [codesB_iff]; intro x hx; simp at hx; rw [hx]
theorem fm_is (ws : List Int) : fm ws = ((min 40 (ws.length / 3) : Nat) : Int) := by
  have h : fm ws = minI (Int.ofNat (ws.length / 3)) 40 := rfl
  rw [h]
  have h2 : Int.ofNat (ws.length / 3) = ((ws.length / 3 : Nat) : Int) := rfl
  rw [h2]
  unfold minI
  simp only [cond_eq_ite, decide_eq_true_eq]
  split <;> omega
theorem made10_fn (nn : Bool) {d : Int} {ws : List Int} (hd : 0 ≤ d) (hw : okW ws = true) : FnOK Try.prog 10 [.int .u8 d, .gs 0] (actsH nn ws) (.tuple [.agg ((mdI d ws).s.vs (.gs 1) (.gs 2)), .bool true]) (actsH nn ws ++ crsNb (mdI d ws).xs (mdI d ws).ac) := by
  have key := md_eval nS nMd d ws
  have hk : kk ws = min 40 (ws.length / 3) := by unfold kk; rw [fm_is]; omega
  have hd4 : 0 ≤ d.tmod 4 ∧ d.tmod 4 ≤ 3 := by rw [Int.tmod_eq_emod_of_nonneg hd]; omega
  rw [mdCd, hk, fm_is, decide_eq_true (show (0 : Int) ≤ 0 ∧ 0 ≤ ((min 40 (ws.length / 3) : Nat) : Int) ∧ ((min 40 (ws.length / 3) : Nat) : Int) ≤ Int.ofNat (ws.length / 3) from ⟨by omega, by omega, by show _ ≤ ((ws.length / 3 : Nat) : Int); omega⟩),
    decide_eq_true (show (0 : Nat) = 0 ∧ Int.ofNat (min 40 (ws.length / 3)) = Int.ofNat (min 40 (ws.length / 3)) ∧ (0 : Int) = 0 ∧ ([] : List Int).length = 0 ∧ ([] : List Int).length = 0 ∧ min 40 (ws.length / 3) ≤ 40 ∧ min 40 (ws.length / 3) ≤ ws.length / 3 from ⟨rfl, rfl, rfl, rfl, rfl, by omega, by omega⟩),
    show nMd.OK ws = true from hw, show isC0 (crs0 (d.tmod 4)) = true from rfl, show nMd.D4 (d.tmod 4) = true from decide_eq_true hd4] at key
  exact FnOK.hard rfl (fn_ans (T := mdA) (orcS_ok emptyTab_ok plainL_ok) mixed Try.func10 mdL_ok (by kernel_rfl) key codesNil rfl)
/-- What Made makes is right. -/
theorem mdR_ok {ws : List Int} (hw : okW ws = true) : ∀ (n i : Nat) (c : CS) (m : Nat), c.Ok m → m + 4 * n ≤ 396 + 4 → (i + n) * 3 ≤ ws.length → (mdR ws n i c).Ok (m + 4 * n) ∧ (mdR ws n i c).s.d = c.s.d
  | 0, _, _, _, h, _, _ => ⟨h, rfl⟩
  | n + 1, i, c, m, h, hm, hl => by
    obtain ⟨q1, q2⟩ := h.act (by omega) hw (i := i) (by omega)
    obtain ⟨r1, r2⟩ := mdR_ok hw n (i + 1) (c.act ws i) (m + 4) q1 (by omega) (by rw [show i + 1 + n = i + (n + 1) by omega]; exact hl)
    refine ⟨?_, r2.trans q2.d⟩
    rw [show m + 4 * (n + 1) = m + 4 + 4 * n by omega]
    exact r1
theorem made_ok {d : Int} {ws : List Int} (hd : 0 ≤ d) (hw : okW ws = true) : (mdI d ws).Ok 160 ∧ (mdI d ws).s.d = d.tmod 4 := by
  have hd4 : 0 ≤ d.tmod 4 ∧ d.tmod 4 ≤ 3 := by rw [Int.tmod_eq_emod_of_nonneg hd]; omega
  obtain ⟨h1, h2⟩ := mdR_ok hw (min 40 (ws.length / 3)) 0 ⟨crs0 (d.tmod 4), [], []⟩ 0 (rc0 hd4) (by omega) (by omega)
  exact ⟨⟨h1.rc, h1.ho, Nat.le_trans h1.le (by omega)⟩, h2⟩
/-! ### the laws' oracle -/
structure NMk where
  MC : Int → List Int → CD
  ML : Int → List Int → List Int
  MA : Int → List Int → List Int
  OK : Int → List Int → Bool
def nMk : NMk := ⟨fun d ws => (mdI d ws).s, fun d ws => (mdI d ws).xs, fun d ws => (mdI d ws).ac, fun d ws => decide (0 ≤ d) && okW ws⟩
def fMade (M : NMk) : CH
  | [.int .u8 d, .gs 0], [.rs _ 3 (.ints .u8 ws)] => some (M.OK d ws, (.tuple [.agg ((M.MC d ws).vs (.gs 1) (.gs 2)), .bool true], crsNb (M.ML d ws) (M.MA d ws)))
  | _, _ => none
theorem fMade_ok : cOk 10 (fMade nMk) := by
  intro args hp c v nb hq hc
  unfold fMade at hq
  split at hq
  · rename_i d _ ws
    cases hq
    have hc2 : (decide (0 ≤ d) && okW ws) = true := hc
    simp only [Bool.and_eq_true, decide_eq_true_eq] at hc2
    exact ⟨.of Try.func10 (by kernel_rfl), made10_fn _ hc2.1 hc2.2⟩
  · cases hq
def gAwake : List V → Option (Bool × V)
  | [] => some (true, .bool true)
  | _ => none
def tabAw : PTab := addTab 9 gAwake (addTab 35 gRight emptyTab)
theorem tabAw_ok : PTabOk Try.prog tabAw := by
  refine addTab_ok ?_ tabR_ok
  intro args c v h _
  unfold gAwake at h
  split at h
  · cases h; exact awake_p
  · cases h
def hTabK (N : NF) (M : NMk) : HTab := addH 10 (fMade M) (hTabF N emptyH)
def domK : FuncId → Bool := fun f => Nat.beq f 10 || domF f
noncomputable abbrev orcK (N : NF) (M : NMk) (T : PTab) (LL : FuncId → Loops) : Oracle := inl Try.prog ftab T LL 100 never domK (hOrcX nrC (hTabK N M)) 20
theorem orcK_ok {T : PTab} (hT : PTabOk Try.prog T) {LL : FuncId → Loops} (hL : ∀ f, loopsOk Try.prog (LL f)) : OracleOk Try.prog (orcK nF nMk T LL) := inl_ok (hOrcX_ok (addH_ok fMade_ok (hTabF_ok emptyH_ok))) ftab_ok hT hL mixed 20
end Go.Proofs.Ytojlmpcbplepcaa
