/- Texts merged: Za, Zb, Zc, Zd. -/
import Derived.Test.YtojlmpcbplepcaaGreatYs
/- Chapter 10: the law's played: its contract. -/
namespace Go.Proofs.YtojlmpcbplepcaaGreat
open Go Go.Eng
structure NPz where
  PS : List Int → CD → CD
  PL : List Int → CD → List Int
  PK : List Int → CD → List Int
def pyZ (ws : List Int) (s : CD) : PyC := pyR2 ws (ws.length / 3) 0 ⟨s, [], []⟩
def nPz : NPz := ⟨fun ws s => (pyZ ws s).s, fun ws s => (pyZ ws s).xs, fun ws s => (pyZ ws s).ac⟩
def pyD (n i : Int) (ws : List Int) (s : CD) (xs ac : List Int) : Prop := n = Int.ofNat (ws.length / 3) ∧ i = 0 ∧ ws.length / 3 ≤ 1000 ∧ okW ws = true ∧ xs = [] ∧ ac = [] ∧ crB s = true
noncomputable def tPy (Z : NPz) : List PV → Fin
  | .i n :: .i i :: .l ws :: ps => match crsP ps with
    | some (s, [.l xs, .l ac]) => .br (pB (pyD n i ws s xs ac)) (.leaf (.exit 0) (pyX.at (.l ws :: (Z.PS ws s).pv [.l (Z.PL ws s), .l (Z.PK ws s)]))) .no
    | _ => .no
  | _ => .no
noncomputable def lPy (Z : NPz) : Loops := sums (fun n => match n with | 2 => some (lsumD 1 pyT pyLp (tPy Z) noSum) | _ => none)
theorem lPy_ok : loopsOk Tryz.prog (lPy nPz) := by
  intro n g hg
  simp only [lPy, sums] at hg
  split at hg
  · cases hg
    refine lsumD_ok (by kernel_rfl) (fun rd ps e st h => ?_) noSum_ok
    unfold tPy at h
    split at h
    · rename_i n i ws ps
      split at h
      · rename_i s xs ac hs
        rw [crsP_ok hs]
        obtain ⟨⟨rfl, rfl, h1, h2, rfl, rfl, h3⟩, rfl, rfl⟩ := pick1 h
        obtain ⟨m, hm⟩ := py_loop rd ws (ws.length / 3) h1 rfl h2 (0, ⟨s, [], []⟩) ⟨Nat.zero_le _, h3, rfl, Nat.le_refl _, Nat.le_refl _⟩
        exact hm.loop
      · cases h
    · cases h
  · cases hg
def actsH (nn : Bool) (ws : List Int) : List Blk := [.rs nn 3 (.ints .u8 ws)]
theorem acts_ro {nn : Bool} {ws : List Int} : ∀ (b : Nat) blk, (actsH nn ws)[b]? = some blk → blk.mine = false := by
  intro b blk hb
  match b, hb with
  | 0, hb => cases hb; rfl
  | _ + 1, hb => simp [actsH] at hb
noncomputable def plE (N : NPy) (Z : NPz) (s : CD) (ws : List Int) : Option V :=
  cond (codesB [(pyLp, pyLp)]) (bif pB (pyD (Int.ofNat (ws.length / 3)) 0 ws s [] []) then bif N.G (Z.PS ws s) (Z.PL ws s) (Z.PK ws s) && (N.BY 0 && N.BY 0) then some (.bool true) else none else none) none
theorem pl_eval (N : NPy) (Z : NPz) (s : CD) (ws : List Int) : evalFn Tryz.prog (orcPy N 0) (lPy Z) 100 6 Tryz.f6 [.agg (s.vs nilV nilV), .gs 0] (actsH false ws) (fun v _ => some v) = plE N Z s ws := by kernel_rfl
theorem f6 (nn : Bool) {s : CD} {ws : List Int} (hc : crB s = true) (hw : okW ws = true) (hl : ws.length / 3 ≤ 1000) : FnOK Tryz.prog 6 [.agg (s.vs nilV nilV), .gs 0] (actsH nn ws) (.bool true) (actsH nn ws ++ []) := by
  have hz := pyR2_ok hw (ws.length / 3) 0 ⟨s, [], []⟩ 0 ⟨hc, rfl, Nat.le_refl _, Nat.le_refl _⟩ (by omega)
  have hg : gTl (pyZ ws s).s (pyZ ws s).xs (pyZ ws s).ac = true := PyC.Ok.g hz (by omega)
  have hv : plE nPy nPz s ws = some (.bool true) := by
    unfold plE
    rw [lpCd10, show pB (pyD (Int.ofNat (ws.length / 3)) 0 ws s [] []) = true from pB_iff.2 ⟨rfl, rfl, hl, hw, rfl, rfl, hc⟩, show nPy.G (nPz.PS ws s) (nPz.PL ws s) (nPz.PK ws s) = true from hg]; rfl
  obtain ⟨v1, h1, hk, hok⟩ := evalFn_ok (orcPy_ok 0) mixed Tryz.func6 lPy_ok ((pl_eval nPy nPz s ws).trans hv)
  cases hk
  exact FnOK.hard (h0 := actsH false ws) rfl (by rw [List.append_nil]; exact hok.plain rfl acts_ro)
end Go.Proofs.YtojlmpcbplepcaaGreat

/- Chapter 10: the law IrregularSmall: its contracts and its oracle. -/
namespace Go.Proofs.YtojlmpcbplepcaaGreat
open Go Go.Eng
def keepC (v : V) (h : List Blk) : Option (V × List Blk) := some (v, h)
theorem clU_nil : evalFn Tryz.prog (orcE emptyTab plainL) noLoops 100 45 Tryz.f45 [.flat (.slice none 0 0)] [] keepC = some (.flat (.slice none 0 0), []) := by kernel_rfl
theorem clU_zero (a : Addr) : evalFn Tryz.prog (orcE emptyTab plainL) noLoops 100 45 Tryz.f45 [.flat (.slice (some a) 0 0)] [] keepC = some (.gs 1, [.dead, .grow true 5 1 (.vs [])]) := by kernel_rfl
theorem clU_some (xs : List Int) : evalFn Tryz.prog (orcE emptyTab plainL) noLoops 100 45 Tryz.f45 [.gs 0] [.rs true 1 (.ints .u8 xs)] keepC = bif decide (xs.length * 2 ≤ 70368744177664) then some (.gs 2, [.rs true 1 (.ints .u8 xs), .dead, .grow true 5 1 (.ints .u8 xs)]) else none := by kernel_rfl
theorem clU_fn (nn : Bool) {xs : List Int} (hs : xs.length ≤ 1000000) : FnOK Tryz.prog 45 [.gs 0] [.rs nn 1 (.ints .u8 xs)] (.gs 1) ([.rs nn 1 (.ints .u8 xs)] ++ [.grow false 5 1 (.ints .u8 xs)]) := by
  refine FnOK.clone ?_ ?_ (fun a => ?_) nn
  · have key := clU_some xs
    rw [decide_eq_true (show xs.length * 2 ≤ 70368744177664 by omega)] at key
    obtain ⟨v1, h1, hk, hok⟩ := evalFn_ok (orcE_ok emptyTab_ok plainL_ok) mixed Tryz.func45 noLoops_ok key
    unfold keepC at hk
    cases hk
    exact hok.lastAt rfl rfl rs_ro
  · obtain ⟨v1, h1, hk, hok⟩ := evalFn_ok (orcE_ok emptyTab_ok plainL_ok) mixed Tryz.func45 noLoops_ok clU_nil
    unfold keepC at hk
    cases hk
    exact hok
  · obtain ⟨v1, h1, hk, hok⟩ := evalFn_ok (orcE_ok emptyTab_ok plainL_ok) mixed Tryz.func45 noLoops_ok (clU_zero a)
    unfold keepC at hk
    cases hk
    exact hok.lastAt rfl rfl (fun b blk hb => by simp at hb)
theorem clI_nil : evalFn Tryz.prog (orcE emptyTab plainL) noLoops 100 44 Tryz.f44 [.flat (.slice none 0 0)] [] keepC = some (.flat (.slice none 0 0), []) := by kernel_rfl
theorem clI_zero (a : Addr) : evalFn Tryz.prog (orcE emptyTab plainL) noLoops 100 44 Tryz.f44 [.flat (.slice (some a) 0 0)] [] keepC = some (.gs 1, [.dead, .grow true 3 1 (.vs [])]) := by kernel_rfl
theorem clI_some (xs : List Int) : evalFn Tryz.prog (orcE emptyTab plainL) noLoops 100 44 Tryz.f44 [.gs 0] [.rs true 1 (.ints .i64 xs)] keepC = bif decide (xs.length * 9 ≤ 70368744177664) then some (.gs 2, [.rs true 1 (.ints .i64 xs), .dead, .grow true 3 1 (.ints .i64 xs)]) else none := by kernel_rfl
theorem clI_fn (nn : Bool) {xs : List Int} (hs : xs.length ≤ 1000000) : FnOK Tryz.prog 44 [.gs 0] [.rs nn 1 (.ints .i64 xs)] (.gs 1) ([.rs nn 1 (.ints .i64 xs)] ++ [.grow false 3 1 (.ints .i64 xs)]) := by
  refine FnOK.clone ?_ ?_ (fun a => ?_) nn
  · have key := clI_some xs
    rw [decide_eq_true (show xs.length * 9 ≤ 70368744177664 by omega)] at key
    obtain ⟨v1, h1, hk, hok⟩ := evalFn_ok (orcE_ok emptyTab_ok plainL_ok) mixed Tryz.func44 noLoops_ok key
    unfold keepC at hk
    cases hk
    exact hok.lastAt rfl rfl rs_ro
  · obtain ⟨v1, h1, hk, hok⟩ := evalFn_ok (orcE_ok emptyTab_ok plainL_ok) mixed Tryz.func44 noLoops_ok clI_nil
    unfold keepC at hk
    cases hk
    exact hok
  · obtain ⟨v1, h1, hk, hok⟩ := evalFn_ok (orcE_ok emptyTab_ok plainL_ok) mixed Tryz.func44 noLoops_ok (clI_zero a)
    unfold keepC at hk
    cases hk
    exact hok.lastAt rfl rfl (fun b blk hb => by simp at hb)
def klB (xs : List Int) : Bool := decide (xs.length ≤ 1000000)
def hTabV : HTab := addH 45 (cpU klB) (addH 44 (cpI klB) emptyH)
theorem hTabV_ok : HTabOk Tryz.prog hTabV := by
  refine addH_ok ?_ (addH_ok ?_ emptyH_ok)
  · intro args h c v nb hq hc
    unfold cpU at hq
    split at hq
    · cases hq; exact ⟨.of Tryz.func45 (by kernel_rfl), clU_fn _ (of_decide_eq_true hc)⟩
    · cases hq
  · intro args h c v nb hq hc
    unfold cpI at hq
    split at hq
    · cases hq; exact ⟨.of Tryz.func44 (by kernel_rfl), clI_fn _ (of_decide_eq_true hc)⟩
    · cases hq
def isCl : FuncId → Bool := fun f => Nat.beq f 45 || Nat.beq f 44
def nrCl : FuncId → Option Row := fun f => bif Nat.beq f 45 then some (.ints .u8 []) else some (.ints .i64 [])
/-- The course is of bytes, and so are the acts. -/
def plOk (s : CD) (ws : List Int) : Bool := crB s && (okW ws && decide (ws.length / 3 ≤ 1000))
structure NQm where
  Y : NPy
  P : CD → List Int → Bool
def nQm : NQm := ⟨nPy, plOk⟩
def g6 (Q : NQm) : CH
  | [.agg l, .gs 0], [.rs _ 3 (.ints .u8 ws)] => match ofCrs l with
    | some (s, .flat (.slice none 0 0), .flat (.slice none 0 0)) => some (Q.P s ws, .bool true, [])
    | _ => none
  | _, _ => none
theorem g6_ok : cOk 6 (g6 nQm) := by
  intro args hp c v nb hq hc
  unfold g6 at hq
  split at hq
  · split at hq
    · rename_i s hs
      rw [ofCrs_ok hs]
      cases hq
      obtain ⟨h1, h2⟩ := and_ok hc
      obtain ⟨h3, h4⟩ := and_ok h2
      exact ⟨.of Tryz.func6 (by kernel_rfl), f6 _ h1 h3 (of_decide_eq_true h4)⟩
    · cases hq
  · cases hq
def hTabQm (Q : NQm) : HTab := addH 6 (g6 Q) (addH 4 (gC2 (F59 Q.Y)) emptyH)
theorem hTabQm_ok : HTabOk Tryz.prog (hTabQm nQm) := addH_ok g6_ok (addH_ok g59_ok emptyH_ok)
def domQm : FuncId → Bool := fun f => isCl f || (Nat.beq f 4 || Nat.beq f 6)
def nrQm : FuncId → Nat → Option Row := fun f n => bif Nat.beq f 6 then none else nrC f n
noncomputable abbrev orcQm (Q : NQm) (T : PTab) : Oracle := inl Tryz.prog ftab T plainL 100 never domQm (orElse isCl (hOrcP nrCl hTabV) (hOrcX nrQm (hTabQm Q))) 20
theorem orcQm_ok {T : PTab} (hT : PTabOk Tryz.prog T) : OracleOk Tryz.prog (orcQm nQm T) := inl_ok (orElse_ok (hOrcP_ok hTabV_ok) (hOrcX_ok hTabQm_ok)) ftab_ok hT plainL_ok mixed 20
end Go.Proofs.YtojlmpcbplepcaaGreat

/- Chapter 10: the law IrregularSmall: the courses; templates of its loops. -/
namespace Go.Proofs.YtojlmpcbplepcaaGreat
open Go Go.Eng
/-- The courses, and the blocks of their calls and of what was accepted. -/
def smSt : Nat → CD × TV × TV
  | 0 => (⟨0, q0, q0, 0, q0⟩, .nil, .nil)
  | 1 => (⟨3, q0, q0, 0, q0⟩, .gs 0, .nil)
  | 2 => (⟨0, q0, q0, 0, q0⟩, .gs 1, .nil)
  | 3 => (⟨0, q0, q0, 0, q0⟩, .gs 2, .nil)
  | 4 => (⟨0, q0, q0, 0, q0⟩, .gs 3, .gs 4)
  | 5 => (⟨0, ⟨0, 0, 1, -1⟩, q0, 0, q0⟩, .gs 5, .nil)
  | 6 => (⟨0, q0, ⟨0, 0, 9, 2⟩, 0, q0⟩, .gs 6, .nil)
  | 7 => (⟨0, q0, ⟨0, 0, 9, 2⟩, 0, q0⟩, .gs 7, .nil)
  | 8 => (⟨0, q0, q0, 8, q0⟩, .gs 8, .nil)
  | 9 => (⟨0, q0, q0, 2, q0⟩, .gs 9, .nil)
  | 10 => (⟨0, q0, q0, 9, q0⟩, .gs 10, .nil)
  | 11 => (⟨0, q0, q0, 15, q0⟩, .gs 11, .nil)
  | 12 => (⟨0, q0, q0, 11, q0⟩, .gs 12, .nil)
  | 13 => (⟨0, q0, q0, 0, ⟨0, 9, 0, 0⟩⟩, .gs 13, .nil)
  | 14 => (⟨0, q0, q0, 0, q0⟩, .gs 14, .nil)
  | _ => (⟨0, q0, q0, 5, q0⟩, .nil, .nil)
def Q4.lv (k : IntKind) (q : Q4) (r : List TV) : List TV := .lit k q.a :: .lit k q.b :: .lit k q.c :: .lit k q.d :: r
def litC : CD × TV × TV → List TV
  | (s, x, y) => .lit .u8 s.d :: x :: y :: s.p.lv .i64 (s.a.lv .u8 (.lit .u8 s.h :: s.f.lv .u8 []))
def smCells : Nat → Nat → List TV
  | 0, _ => []
  | n + 1, j => litC (smSt j) ++ smCells n (j + 1)
def smB : List TB := [.grow true 5 1 (.ints .u8), .grow true 5 1 (.ints .u8), .grow true 5 1 (.ints .u8), .grow true 5 1 (.ints .u8), .grow true 3 1 (.ints .i64), .grow true 5 1 (.ints .u8), .grow true 5 1 (.ints .u8), .grow true 5 1 (.ints .u8), .grow true 5 1 (.ints .u8), .grow true 5 1 (.ints .u8), .grow true 5 1 (.ints .u8), .grow true 5 1 (.ints .u8), .grow true 5 1 (.ints .u8), .grow true 5 1 (.ints .u8), .grow true 5 1 (.ints .u8), .grow true 27 16 (.vs (smCells 16 0))]
def smLs : List PV := [.l [0, 0], .l [11], .l [5, 1, 0], .l [11, 10, 0], .l [1], .l [5, 0], .l [5, 0], .l [5, 6], .l [9], .l [9], .l [5, 1], .l [36], .l [7, 0, 0], .l [7, 0, 0, 0], .l [0, 0, 0, 0]]
def smT0 : Tm := ⟨mkS [(44, .gs 15), (45, .lit .i64 16), (46, .int .i64)] 0 117, smB, []⟩
def smX0 : Tm := ⟨mkS [] 0 117, [], []⟩
def smOwn (j : Nat) : List TB := smB ++ [.own 27 (.vs (litC (smSt j)))]
def smT1 (j : Nat) : Tm := ⟨mkS [(3, .ptr 16 0), (44, .gs 15), (45, .lit .i64 16), (46, .lit .i64 j), (50, .int .i64)] 0 117, smOwn j, []⟩
def smX1 (j : Nat) : Tm := ⟨mkS [(3, .ptr 16 0), (44, .gs 15), (45, .lit .i64 16), (46, .lit .i64 j)] 0 117, smOwn j, []⟩
def smT2 (j : Nat) : Tm := ⟨mkS [(3, .ptr 16 0), (44, .gs 15), (45, .lit .i64 16), (46, .lit .i64 j), (63, .int .i64)] 0 117, smOwn j, []⟩
def smX2 (j : Nat) : Tm := ⟨mkS [(44, .gs 15), (45, .lit .i64 16), (46, .lit .i64 j)] 0 117, smB, []⟩
noncomputable def smLp0 : Code := loopOf 3 Tryz.f3
noncomputable def smLp1 : Code := loopOf 6 Tryz.f3
noncomputable def smLp2 : Code := loopOf 12 Tryz.f3
noncomputable def smLp3 : Code := loopOf 20 Tryz.f3
end Go.Proofs.YtojlmpcbplepcaaGreat

/- Chapter 10: the law IrregularSmall: all calls after a course. -/
namespace Go.Proofs.YtojlmpcbplepcaaGreat
open Go Go.Eng
def smXs : Nat → List Int
  | 1 => [0, 0]
  | 2 => [11]
  | 3 => [5, 1, 0]
  | 4 => [11, 10, 0]
  | 5 => [5, 0]
  | 6 => [5, 0]
  | 7 => [5, 6]
  | 8 => [9]
  | 9 => [9]
  | 10 => [5, 1]
  | 11 => [36]
  | 12 => [7, 0, 0]
  | 13 => [7, 0, 0, 0]
  | 14 => [0, 0, 0, 0]
  | _ => []
def smAc : Nat → List Int
  | 4 => [1]
  | _ => []
noncomputable def smE1 (Q : NQm) (j : Nat) (n : Int) : Option (XE × List PV × List (Code × Code)) := bif decide (n < 234) then
  bif Q.Y.G (smSt j).1 (smXs j) (smAc j) && (Q.Y.BY (wr .u8 (n.tmod 6)) && Q.Y.BY (wr .u8 (wr .i64 (n.tdiv 6)))) then some (.normal, .i (wr .i64 (n + 1)) :: smLs, []) else none else some (.exit 2, smLs, [])
theorem sm1_round (Q : NQm) (rd : Option Nat) (n : Int) : ∀ j : Nat, j < 16 → roundX Tryz.prog (orcQm Q emptyTab) noLoops 100 0 rd 3 smLp1 (smT1 j) (smT1 j) (fun _ => smX1 j) (.i n :: smLs) = smE1 Q j n
  | 0, _ => by kernel_rfl
  | 1, _ => by kernel_rfl
  | 2, _ => by kernel_rfl
  | 3, _ => by kernel_rfl
  | 4, _ => by kernel_rfl
  | 5, _ => by kernel_rfl
  | 6, _ => by kernel_rfl
  | 7, _ => by kernel_rfl
  | 8, _ => by kernel_rfl
  | 9, _ => by kernel_rfl
  | 10, _ => by kernel_rfl
  | 11, _ => by kernel_rfl
  | 12, _ => by kernel_rfl
  | 13, _ => by kernel_rfl
  | 14, _ => by kernel_rfl
  | 15, _ => by kernel_rfl
  | n + 16, h => absurd h (by omega)
theorem smT1_ok : ∀ j : Nat, j < 16 → (smT1 j).ok = true ∧ (smX1 j).ok = true
  | 0, _ => ⟨by kernel_rfl, by kernel_rfl⟩
  | 1, _ => ⟨by kernel_rfl, by kernel_rfl⟩
  | 2, _ => ⟨by kernel_rfl, by kernel_rfl⟩
  | 3, _ => ⟨by kernel_rfl, by kernel_rfl⟩
  | 4, _ => ⟨by kernel_rfl, by kernel_rfl⟩
  | 5, _ => ⟨by kernel_rfl, by kernel_rfl⟩
  | 6, _ => ⟨by kernel_rfl, by kernel_rfl⟩
  | 7, _ => ⟨by kernel_rfl, by kernel_rfl⟩
  | 8, _ => ⟨by kernel_rfl, by kernel_rfl⟩
  | 9, _ => ⟨by kernel_rfl, by kernel_rfl⟩
  | 10, _ => ⟨by kernel_rfl, by kernel_rfl⟩
  | 11, _ => ⟨by kernel_rfl, by kernel_rfl⟩
  | 12, _ => ⟨by kernel_rfl, by kernel_rfl⟩
  | 13, _ => ⟨by kernel_rfl, by kernel_rfl⟩
  | 14, _ => ⟨by kernel_rfl, by kernel_rfl⟩
  | 15, _ => ⟨by kernel_rfl, by kernel_rfl⟩
  | n + 16, h => absurd h (by omega)
/-- The courses are of bytes. -/
theorem smG : ∀ j : Nat, j < 16 → gTl (smSt j).1 (smXs j) (smAc j) = true
  | 0, _ => by kernel_rfl
  | 1, _ => by kernel_rfl
  | 2, _ => by kernel_rfl
  | 3, _ => by kernel_rfl
  | 4, _ => by kernel_rfl
  | 5, _ => by kernel_rfl
  | 6, _ => by kernel_rfl
  | 7, _ => by kernel_rfl
  | 8, _ => by kernel_rfl
  | 9, _ => by kernel_rfl
  | 10, _ => by kernel_rfl
  | 11, _ => by kernel_rfl
  | 12, _ => by kernel_rfl
  | 13, _ => by kernel_rfl
  | 14, _ => by kernel_rfl
  | 15, _ => by kernel_rfl
  | n + 16, h => absurd h (by omega)
theorem wrQ {n : Int} (h0 : -9223372036854775808 ≤ n) (h1 : n < 9223372036854775808) : wr .i64 n = n := wr64 h0 h1
theorem sm1_loop (rd : Option Nat) {j : Nat} (hj : j < 16) : ∀ x : Nat, x ≤ 234 → ∃ m, SimL Tryz.prog 0 rd smLp1 m ((smT1 j).at (.i ((234 - x : Nat) : Int) :: smLs)) (.exit 2) ((smX1 j).at smLs) := by
  refine loop_of_roundsX_n (C := orcQm nQm emptyTab) (L := noLoops) (N := 100) (me := 3) (T := smT1 j) (T' := fun _ => smX1 j) (orcQm_ok emptyTab_ok) mixed noLoops_ok (smT1_ok j hj).1 (fun _ => (smT1_ok j hj).2) (X := Nat)
    (fun x => .i ((234 - x : Nat) : Int) :: smLs) (fun x => x ≤ 234) (fun x => x) (fun _ => (.exit 2, smLs)) ?_
  intro m hm
  have h := sm1_round nQm rd ((234 - m : Nat) : Int) j hj
  unfold smE1 at h
  cases m with
  | zero =>
    rw [decide_eq_false (show ¬ ((234 - 0 : Nat) : Int) < 234 by omega), cond_false] at h
    exact ⟨_, _, _, h, codesNil, .inr ⟨by simp, rfl⟩⟩
  | succ m =>
    rw [decide_eq_true (show ((234 - (m + 1) : Nat) : Int) < 234 by omega), cond_true, show nQm.Y.G (smSt j).1 (smXs j) (smAc j) = true from smG j hj, show ∀ z, nQm.Y.BY (wr .u8 z) = true from fun z => by_wr z, show ∀ z, nQm.Y.BY (wr .u8 z) = true from fun z => by_wr z,
      wrQ (n := ((234 - (m + 1) : Nat) : Int) + 1) (by omega) (by omega), show ((234 - (m + 1) : Nat) : Int) + 1 = ((234 - m : Nat) : Int) by omega] at h
    exact ⟨_, _, _, h, codesNil, .inl ⟨rfl, m, rfl, by omega, by omega, rfl⟩⟩
end Go.Proofs.YtojlmpcbplepcaaGreat
