/- Chapter 10: Made, plainly; its contract. -/
import Derived.Test.YtojlmpcbplepcaaMd
namespace Go.Proofs.Ytojlmpcbplepcaa
open Go Go.Eng
/-- A course. -/
structure CS where
  s : CD
  xs : List Int
  ac : List Int
def CS.step (c : CS) (x b w : Int) : CS := ⟨(stepI c.s c.xs c.ac x b w).s, (stepI c.s c.xs c.ac x b w).ys, (stepI c.s c.xs c.ac x b w).bc⟩
def CS.pv (c : CS) (k : Nat) (n i : Int) (ws : List Int) (z : CD) : List PV := mdIn k n i ws z c.s c.xs c.ac
def CS.act (c : CS) (ws : List Int) (i : Nat) : CS := c.step (aX ws (i * 3)) (aB ws (i * 3)) (aW ws (i * 3))
/-- Some acts from a place on. -/
def mdR (ws : List Int) : Nat → Nat → CS → CS
  | 0, _, c => c
  | n + 1, i, c => mdR ws n (i + 1) (c.act ws i)
/-- A right course of at most so many calls. -/
structure CS.Ok (c : CS) (n : Nat) : Prop where
  rc : RC c.s c.xs c.ac
  ho : HO c.s c.xs
  le : c.xs.length ≤ n
theorem CS.Ok.ok {c : CS} {n : Nat} (h : c.Ok n) (hn : n ≤ 396) : okRC c.s c.xs c.ac := ⟨h.rc, h.ho, Nat.le_trans h.le hn⟩
def okW (ws : List Int) : Bool := decide (ws.length % 3 = 0) && allU ws
theorem okW_iff {ws : List Int} : okW ws = true ↔ ws.length % 3 = 0 ∧ allU ws = true := by simp [okW]
theorem okW_at {ws : List Int} (h : okW ws = true) {p : Nat} (hp : p < ws.length) : byB (ws.getD p 0) = true := by
  have := allU_get (okW_iff.1 h).2 hp
  rw [List.getD_eq_getElem?_getD, List.getElem?_eq_getElem hp]
  exact decide_eq_true this
theorem CS.Ok.act {c : CS} {n : Nat} (h : c.Ok n) (hn : n ≤ 396) {ws : List Int} (hw : okW ws = true) {i : Nat} (hi : i * 3 + 3 ≤ ws.length) : (c.act ws i).Ok (n + 4) ∧ StepOk c.s c.xs c.ac (stepI c.s c.xs c.ac (aX ws (i * 3)) (aB ws (i * 3)) (aW ws (i * 3))) := by
  have q : StepOk c.s c.xs c.ac (stepI c.s c.xs c.ac (aX ws (i * 3)) (aB ws (i * 3)) (aW ws (i * 3))) := h.rc.step h.ho (Nat.le_trans h.le hn) (w := aW ws (i * 3)) (byB_iff.1 (okW_at hw (show i * 3 < ws.length by omega))) (byB_iff.1 (okW_at hw (show i * 3 + 1 < ws.length by omega)))
  have hl := q.len
  exact ⟨⟨q.rc, q.ho, by have := h.le; show (stepI c.s c.xs c.ac (aX ws (i * 3)) (aB ws (i * 3)) (aW ws (i * 3))).ys.length ≤ n + 4; omega⟩, q⟩
theorem md_loop (rd : Option Nat) (ws : List Int) (z : CD) (k : Nat) (hk : k ≤ 40) (hkw : k ≤ ws.length / 3) (hw : okW ws = true) : ∀ x : Nat × CS, (x.1 ≤ k ∧ x.2.Ok (4 * x.1)) →
    SimC Try.prog 1 rd (.loop mdLp) (mdT.at (x.2.pv k (k : Int) (x.1 : Int) ws z)) (.exit 0) (mdX.at (mdOut ws z (mdR ws (k - x.1) x.1 x.2).s (mdR ws (k - x.1) x.1 x.2).xs (mdR ws (k - x.1) x.1 x.2).ac)) := by
  refine loop_of_rounds (C := orcS nS emptyTab plainL) (L := noLoops) (N := 100) (me := 10) (T := mdT) (T' := mdX) (orcS_ok emptyTab_ok plainL_ok) mixed noLoops_ok (by kernel_rfl) (by kernel_rfl) (X := Nat × CS)
    (fun x => x.2.pv k (k : Int) (x.1 : Int) ws z) (fun x => x.1 ≤ k ∧ x.2.Ok (4 * x.1)) (fun x => k - x.1) (fun x => (.exit 0, mdOut ws z (mdR ws (k - x.1) x.1 x.2).s (mdR ws (k - x.1) x.1 x.2).xs (mdR ws (k - x.1) x.1 x.2).ac)) ?_
  rintro ⟨i, c⟩ ⟨hi, hc⟩
  dsimp only at hi hc ⊢
  have key := md_round nS rd k (k : Int) (i : Int) ws c.xs c.ac z c.s
  rcases Nat.lt_or_ge i k with hlt | hge
  · have z1 : Int.ofNat k = (k : Int) := rfl
    have hin : i * 3 + 3 ≤ ws.length := by omega
    have hs : nS.SO c.s c.xs c.ac = true := okRCb_iff.2 (hc.ok (by omega))
    obtain ⟨q1, q2⟩ := hc.act (by omega) hw hin
    rw [z1, decide_eq_true (show (i : Int) < (k : Int) by omega), cond_true, decide_eq_true (show 0 ≤ (i : Int) ∧ (i : Int) < (k : Int) ∧ 0 + k ≤ ws.length / 3 by omega), cond_true, show ((i : Int)).toNat = i from rfl, decide_eq_true hin, cond_true, hs,
      show nS.BY = byB from rfl, show byB (aX ws (i * 3)) = true from okW_at hw (by omega), show byB (aB ws (i * 3)) = true from okW_at hw (by omega), wr64 (n := (i : Int) + 1) (by omega) (by omega)] at key
    refine ⟨_, _, _, key, codesNil, .inl ⟨rfl, (i + 1, c.act ws i), rfl, ⟨by dsimp only; omega, by dsimp only; rw [show 4 * (i + 1) = 4 * i + 4 by omega]; exact q1⟩, by dsimp only; omega, ?_⟩⟩
    dsimp only
    rw [show k - i = (k - (i + 1)) + 1 by omega]; rfl
  · rw [decide_eq_false (show ¬ (i : Int) < (k : Int) by omega), cond_false] at key
    refine ⟨_, _, _, key, codesNil, .inr ⟨by simp, ?_⟩⟩
    rw [show k - i = 0 by omega]; rfl
/-! ### the loop as a whole -/
def crs0 (d : Int) : CD := ⟨d, q0, q0, 0, q0⟩
def mdI (d : Int) (ws : List Int) : CS := mdR ws (min 40 (ws.length / 3)) 0 ⟨crs0 (d.tmod 4), [], []⟩
/-- Made's answer as names. -/
structure NMd where
  MC : CD → List Int → Nat → CD
  ML : CD → List Int → Nat → List Int
  MA : CD → List Int → Nat → List Int
  OK : List Int → Bool
  D4 : Int → Bool
def nMd : NMd := ⟨fun s ws k => (mdR ws k 0 ⟨s, [], []⟩).s, fun s ws k => (mdR ws k 0 ⟨s, [], []⟩).xs, fun s ws k => (mdR ws k 0 ⟨s, [], []⟩).ac, okW, fun d => decide (0 ≤ d ∧ d ≤ 3)⟩
def isC0 (s : CD) : Bool := decide (s.p.a = 0 ∧ s.p.b = 0 ∧ s.p.c = 0 ∧ s.p.d = 0) && (decide (s.a.a = 0 ∧ s.a.b = 0 ∧ s.a.c = 0 ∧ s.a.d = 0) && (decide (s.f.a = 0 ∧ s.f.b = 0 ∧ s.f.c = 0 ∧ s.f.d = 0) && decide (s.h = 0)))
theorem isC0_ok {s : CD} (h : isC0 s = true) : s = crs0 s.d := by
  obtain ⟨d, ⟨p0, p1, p2, p3⟩, ⟨a0, a1, a2, a3⟩, hh, ⟨f0, f1, f2, f3⟩⟩ := s
  simp only [isC0, Bool.and_eq_true, decide_eq_true_eq] at h
  obtain ⟨⟨rfl, rfl, rfl, rfl⟩, ⟨rfl, rfl, rfl, rfl⟩, ⟨rfl, rfl, rfl, rfl⟩, rfl⟩ := h
  rfl
theorem rc0 {d : Int} (hd : 0 ≤ d ∧ d ≤ 3) : CS.Ok ⟨crs0 d, [], []⟩ 0 := by
  have z : ∀ lo hi : Int, lo ≤ 0 → 0 ≤ hi → q4ok lo hi q0 := fun lo hi h1 h2 k hk => by
    have : k = 0 ∨ k = 1 ∨ k = 2 ∨ k = 3 := by omega
    rcases this with rfl | rfl | rfl | rfl <;> exact ⟨h1, h2⟩
  exact ⟨⟨hd, .nil, by show (0 : Int) ≤ 0 ∧ (0 : Int) ≤ 38; omega, z _ _ (by omega) (by omega), z _ _ (by omega) (by omega), z _ _ (by omega) (by omega)⟩, .inl rfl, Nat.le_refl _⟩
noncomputable def mdTree (N : NMd) : List PV → Fin
  | .n l :: .n k :: .i n :: .i i :: .l ws :: ps => match crsP ps with
    | some (z, ps2) => match crsP ps2 with
      | some (s, [.l xs, .l ac]) => .br (decide (l = 0 ∧ n = Int.ofNat k ∧ i = 0 ∧ xs.length = 0 ∧ ac.length = 0 ∧ k ≤ 40 ∧ k ≤ ws.length / 3) && (N.OK ws && (isC0 s && N.D4 s.d))) (.leaf (.exit 0) (mdX.at (mdOut ws z (N.MC s ws k) (N.ML s ws k) (N.MA s ws k)))) .no
      | _ => .no
    | _ => .no
  | _ => .no
noncomputable def mdL (N : NMd) : Loops := sums (fun n => match n with | 3 => some (lsumF 1 mdT mdLp (mdTree N)) | _ => none)
theorem mdL_ok : loopsOk Try.prog (mdL nMd) := by
  intro n g hg
  simp only [mdL, sums] at hg
  split at hg
  · cases hg
    refine lsumF_ok (by kernel_rfl) (fun rd ps e1 st1 hq => ?_)
    unfold mdTree at hq
    split at hq
    · rename_i l k n i ws ps
      split at hq
      · rename_i z ps2 hz
        split at hq
        · rename_i s xs ac hs
          rw [crsP_ok hz, crsP_ok hs]
          simp only [Fin.pick] at hq
          cases hc : decide (l = 0 ∧ n = Int.ofNat k ∧ i = 0 ∧ xs.length = 0 ∧ ac.length = 0 ∧ k ≤ 40 ∧ k ≤ ws.length / 3) && (nMd.OK ws && (isC0 s && nMd.D4 s.d)) with
          | false => rw [hc] at hq; cases hq
          | true =>
            rw [hc, cond_true] at hq
            simp only [Bool.and_eq_true, decide_eq_true_eq] at hc
            obtain ⟨⟨rfl, rfl, rfl, h1, h2, h3, h4⟩, h5, h6, h7⟩ := hc
            obtain rfl := List.eq_nil_of_length_eq_zero h1
            obtain rfl := List.eq_nil_of_length_eq_zero h2
            cases hq
            have hs0 := isC0_ok h6
            have := md_loop rd ws z k h3 h4 h5 (0, ⟨s, [], []⟩) ⟨Nat.zero_le _, by rw [hs0]; exact rc0 (of_decide_eq_true h7)⟩
            exact this
        · cases hq
      · cases hq
    · cases hq
  · cases hg
end Go.Proofs.Ytojlmpcbplepcaa
