/- Chapter 3: flatInts: the loops' summaries. -/
import Derived.Test.YtnbfnoomhlamnaaGreatFi2
namespace Go.Proofs.YtnbfnoomhlamnaaGreat
open Go Go.Eng
def okP (f : Int → Int) (p a : List Int) : Prop := ∃ n m, n ≤ m ∧ m ≤ 1000000 ∧ p = mks f m ∧ a = mks f n
def okQ (f : Int → Int) (p a : List Int) : Prop := ∃ n, n ≤ 1000000 ∧ a = mks f n ∧ p.take n = mks f n
def okR (f : Int → Int) (a : List Int) : Prop := a = mks f a.length ∧ a.length ≤ 900000
noncomputable def t1_0 (MK : Int → Int → Int) : List PV → Fin
  | [.i i, .l a, .l b] => .br (pB (i = 0 ∧ a.length ≤ 900000)) (.leaf (.exit 2) ((f1X 0).at [.l (mks (MK 0) a.length), .l b])) .no
  | _ => .no
noncomputable def t1_1 (MK : Int → Int → Int) : List PV → Fin
  | [.i i, .l a, .l b] => .br (pB (i = 0 ∧ b.length ≤ 900000)) (.leaf (.exit 2) ((f1X 1).at [.l a, .l (mks (MK 1) b.length)])) .no
  | _ => .no
noncomputable def t2_0 (MK : Int → Int → Int) : List PV → Fin
  | [.i i, .l a, .l b] => .br (pB (i = 0 ∧ okR (MK 0) a)) (.leaf (.exit 6) (f2X.at [.l b, .l (mks (MK 0) (a.length + 64)), .l a])) .no
  | _ => .no
noncomputable def t2_1 (MK : Int → Int → Int) : List PV → Fin
  | [.i i, .l b, .l p, .l a] => .br (pB (i = 0 ∧ okR (MK 1) b)) (.leaf (.exit 6) (f3X.at [.l p, .l a, .l (mks (MK 1) (b.length + 64)), .l b])) .no
  | _ => .no
noncomputable def t3_0 (MK : Int → Int → Int) : List PV → Fin
  | [.i i, .l p, .l a, .l q, .l b] => .br (pB (i = 0 ∧ okP (MK 0) p a)) (.leaf (.exit 10) ((f4X 0).at [.l p, .l a, .l q, .l b])) .no
  | _ => .no
noncomputable def t3_1 (MK : Int → Int → Int) : List PV → Fin
  | [.i i, .l p, .l a, .l q, .l b] => .br (pB (i = 0 ∧ okP (MK 1) q b)) (.leaf (.exit 10) ((f4X 1).at [.l p, .l a, .l q, .l b])) .no
  | _ => .no
noncomputable def t4 (MK : Int → Int → Int) (k : Int) : List PV → Fin
  | [.i i, .l p, .l a, .l q, .l b, .l c] => .br (pB (i = 0 ∧ c.length = 64)) (.leaf (.exit 14) ((f5X k).at [.l p, .l a, .l q, .l b, .l (mks (MK (wr .i64 (k + Int.ofNat 2))) 64)])) .no
  | _ => .no
noncomputable def t5_0 (MK : Int → Int → Int) : List PV → Fin
  | [.i i, .l p, .l a, .l q, .l b] => .br (pB (i = 0 ∧ okQ (MK 0) p a)) (.leaf (.exit 18) ((f6X 0).at [.l p, .l a, .l q, .l b])) .no
  | _ => .no
noncomputable def t5_1 (MK : Int → Int → Int) : List PV → Fin
  | [.i i, .l p, .l a, .l q, .l b] => .br (pB (i = 0 ∧ okQ (MK 1) q b)) (.leaf (.exit 18) ((f6X 1).at [.l p, .l a, .l q, .l b])) .no
  | _ => .no
noncomputable def fiL (MK : Int → Int → Int) : Loops := sums (fun n => match n with
  | 5 => some (lsumE 5 (f1T 0) fLp1 (t1_0 MK) (lsumF 5 (f1T 1) fLp1 (t1_1 MK)))
  | 14 => some (lsumE 5 f2T fLp2 (t2_0 MK) (lsumF 5 f3T fLp2 (t2_1 MK)))
  | 22 => some (lsumE 5 (f4T 0) fLp3 (t3_0 MK) (lsumF 5 (f4T 1) fLp3 (t3_1 MK)))
  | 31 => some (lsumE 5 (f5T 0) fLp4 (t4 MK 0) (lsumF 5 (f5T 1) fLp4 (t4 MK 1)))
  | 39 => some (lsumE 5 (f6T 0) fLp5 (t5_0 MK) (lsumF 5 (f6T 1) fLp5 (t5_1 MK)))
  | _ => none)
theorem pick_pB {p : Prop} {e e1 : XE} {s s1 : AS} (h : (Fin.br (pB p) (.leaf e s) .no).pick = some (e1, s1)) : p ∧ e = e1 ∧ s = s1 := by
  simp only [Fin.pick] at h
  cases hp : pB p with
  | false => rw [hp] at h; cases h
  | true =>
    rw [hp, cond_true] at h
    cases h
    exact ⟨pB_iff.1 hp, rfl, rfl⟩
theorem t1_0_ok (rd : Option Nat) (ps : List PV) (e : XE) (s : AS) (h : (t1_0 mkV ps).pick = some (e, s)) : SimC Tryz.prog 5 rd (.loop fLp1) ((f1T 0).at ps) e s := by
  unfold t1_0 at h
  split at h
  · rename_i i a b
    obtain ⟨⟨rfl, hl⟩, rfl, rfl⟩ := pick_pB h
    exact loop_g1 (by kernel_rfl) (by kernel_rfl) (mkV 0) a.length 2 (fun a => [.l a, .l b]) a rfl (by omega) fun i a' ha => by rw [r1_0, show Int.ofNat a'.length = (a'.length : Int) from rfl, ha]
  · cases h
theorem t1_1_ok (rd : Option Nat) (ps : List PV) (e : XE) (s : AS) (h : (t1_1 mkV ps).pick = some (e, s)) : SimC Tryz.prog 5 rd (.loop fLp1) ((f1T 1).at ps) e s := by
  unfold t1_1 at h
  split at h
  · rename_i i a b
    obtain ⟨⟨rfl, hl⟩, rfl, rfl⟩ := pick_pB h
    exact loop_g1 (by kernel_rfl) (by kernel_rfl) (mkV 1) b.length 2 (fun b => [.l a, .l b]) b rfl (by omega) fun i a' ha => by rw [r1_1, show Int.ofNat a'.length = (a'.length : Int) from rfl, ha]
  · cases h
theorem t2_0_ok (rd : Option Nat) (ps : List PV) (e : XE) (s : AS) (h : (t2_0 mkV ps).pick = some (e, s)) : SimC Tryz.prog 5 rd (.loop fLp2) (f2T.at ps) e s := by
  unfold t2_0 at h
  split at h
  · rename_i i a b
    obtain ⟨⟨rfl, ha, hl⟩, rfl, rfl⟩ := pick_pB h
    generalize hn : a.length = n at ha hl
    subst ha
    exact loop_g2 (T := f2U) (by kernel_rfl) (by kernel_rfl) (mkV 0) n (fun c => [.l b, .l c, .l (mks (mkV 0) n)]) _ (by omega) (r2_0 mkV rd 0 _ b) fun i c => u2_0 mkV rd i _ b c
  · cases h
theorem t2_1_ok (rd : Option Nat) (ps : List PV) (e : XE) (s : AS) (h : (t2_1 mkV ps).pick = some (e, s)) : SimC Tryz.prog 5 rd (.loop fLp2) (f3T.at ps) e s := by
  unfold t2_1 at h
  split at h
  · rename_i i b p a
    obtain ⟨⟨rfl, hb, hl⟩, rfl, rfl⟩ := pick_pB h
    generalize hn : b.length = n at hb hl
    subst hb
    exact loop_g2 (T := f3U) (by kernel_rfl) (by kernel_rfl) (mkV 1) n (fun c => [.l p, .l a, .l c, .l (mks (mkV 1) n)]) _ (by omega) (r2_1 mkV rd 0 p a _) fun i c => u2_1 mkV rd i p a _ c
  · cases h
theorem t3_0_ok (rd : Option Nat) (ps : List PV) (e : XE) (s : AS) (h : (t3_0 mkV ps).pick = some (e, s)) : SimC Tryz.prog 5 rd (.loop fLp3) ((f4T 0).at ps) e s := by
  unfold t3_0 at h
  split at h
  · rename_i i p a q b
    obtain ⟨⟨rfl, n, m, h1, h2, rfl, rfl⟩, rfl, rfl⟩ := pick_pB h
    exact loop_g3 (by kernel_rfl) (by kernel_rfl) (mkV 0) n m _ h1 h2 fun i => r3_0 mkV rd i _ _ q b
  · cases h
theorem t3_1_ok (rd : Option Nat) (ps : List PV) (e : XE) (s : AS) (h : (t3_1 mkV ps).pick = some (e, s)) : SimC Tryz.prog 5 rd (.loop fLp3) ((f4T 1).at ps) e s := by
  unfold t3_1 at h
  split at h
  · rename_i i p a q b
    obtain ⟨⟨rfl, n, m, h1, h2, rfl, rfl⟩, rfl, rfl⟩ := pick_pB h
    exact loop_g3 (by kernel_rfl) (by kernel_rfl) (mkV 1) n m _ h1 h2 fun i => r3_1 mkV rd i p a _ _
  · cases h
theorem t4_0_ok (rd : Option Nat) (ps : List PV) (e : XE) (s : AS) (h : (t4 mkV 0 ps).pick = some (e, s)) : SimC Tryz.prog 5 rd (.loop fLp4) ((f5T 0).at ps) e s := by
  unfold t4 at h
  split at h
  · rename_i i p a q b c
    obtain ⟨⟨rfl, hl⟩, rfl, rfl⟩ := pick_pB h
    exact loop_g1 (by kernel_rfl) (by kernel_rfl) (mkV (wr .i64 (0 + Int.ofNat 2))) 64 14 (fun c => [.l p, .l a, .l q, .l b, .l c]) c hl (by omega) fun i a' ha => r4_0 mkV rd i p a q b a'
  · cases h
theorem t4_1_ok (rd : Option Nat) (ps : List PV) (e : XE) (s : AS) (h : (t4 mkV 1 ps).pick = some (e, s)) : SimC Tryz.prog 5 rd (.loop fLp4) ((f5T 1).at ps) e s := by
  unfold t4 at h
  split at h
  · rename_i i p a q b c
    obtain ⟨⟨rfl, hl⟩, rfl, rfl⟩ := pick_pB h
    exact loop_g1 (by kernel_rfl) (by kernel_rfl) (mkV (wr .i64 (1 + Int.ofNat 2))) 64 14 (fun c => [.l p, .l a, .l q, .l b, .l c]) c hl (by omega) fun i a' ha => r4_1 mkV rd i p a q b a'
  · cases h
theorem t5_0_ok (rd : Option Nat) (ps : List PV) (e : XE) (s : AS) (h : (t5_0 mkV ps).pick = some (e, s)) : SimC Tryz.prog 5 rd (.loop fLp5) ((f6T 0).at ps) e s := by
  unfold t5_0 at h
  split at h
  · rename_i i p a q b
    obtain ⟨⟨rfl, n, h1, rfl, h2⟩, rfl, rfl⟩ := pick_pB h
    exact loop_g5 (by kernel_rfl) (by kernel_rfl) (mkV 0) n p _ h2 h1 fun i => r5_0 mkV rd i p _ q b
  · cases h
theorem t5_1_ok (rd : Option Nat) (ps : List PV) (e : XE) (s : AS) (h : (t5_1 mkV ps).pick = some (e, s)) : SimC Tryz.prog 5 rd (.loop fLp5) ((f6T 1).at ps) e s := by
  unfold t5_1 at h
  split at h
  · rename_i i p a q b
    obtain ⟨⟨rfl, n, h1, rfl, h2⟩, rfl, rfl⟩ := pick_pB h
    exact loop_g5 (by kernel_rfl) (by kernel_rfl) (mkV 1) n q _ h2 h1 fun i => r5_1 mkV rd i p a q _
  · cases h
theorem fiL_ok : loopsOk Tryz.prog (fiL mkV) := by
  intro n g hg
  simp only [fiL, sums] at hg
  split at hg
  · cases hg; exact lsumE_ok (by kernel_rfl) t1_0_ok (lsumF_ok (by kernel_rfl) t1_1_ok)
  · cases hg; exact lsumE_ok (by kernel_rfl) t2_0_ok (lsumF_ok (by kernel_rfl) t2_1_ok)
  · cases hg; exact lsumE_ok (by kernel_rfl) t3_0_ok (lsumF_ok (by kernel_rfl) t3_1_ok)
  · cases hg; exact lsumE_ok (by kernel_rfl) t4_0_ok (lsumF_ok (by kernel_rfl) t4_1_ok)
  · cases hg; exact lsumE_ok (by kernel_rfl) t5_0_ok (lsumF_ok (by kernel_rfl) t5_1_ok)
  · cases hg
end Go.Proofs.YtnbfnoomhlamnaaGreat
