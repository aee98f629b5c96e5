/- Texts merged: Small, Small0, Small1, Small2, Small3, LSmall, FrameC. -/
import Derived.Test.YthpdeiolhahobaaDoorLMore3
import Derived.Test.YthpdeiolhahobaaDoorW
import Derived.Test.YthpdeiolhahobaaDoorEng3
/- Chapter 2: the law NatSmall: what its calls answer. -/
namespace Go.Proofs.YthpdeiolhahobaaDoor
open Go Go.Eng
def gMoreN : List V → Option (Bool × V)
  | [.int .i64 n, .int .i64 _, .flat (.slice none 0 0)] => some (ofCM n, .bool true)
  | _ => none
def gReadsT : List V → Option (Bool × V)
  | [.str _] => some (true, .bool true)
  | _ => none
def tabSm : PTab := addTab 27 gTrue2 (addTab 14 gMoreN (addTab 12 gReadsT tabAw))
theorem tabSm_ok : PTabOk Tryd.prog tabSm := by
  refine addTab_ok ?_ (addTab_ok ?_ (addTab_ok ?_ tabAw_ok))
  · intro args c v h hc
    unfold gTrue2 at h
    split at h
    · cases h
      simp only [Bool.and_eq_true] at hc
      exact tells_p hc.1 hc.2
    · cases h
  · intro args c v h hc
    unfold gMoreN at h
    split at h
    · cases h
      exact more_nil_p (of_decide_eq_true hc)
    · cases h
  · intro args c v h _
    unfold gReadsT at h
    split at h
    · cases h
      exact reads_p _
    · cases h
noncomputable abbrev orcSm : Oracle := inl Tryd.prog ftab tabSm plainL 200 never (fun f => Nat.beq f 14) (hOrcP nrM hTabML) 20
theorem orcSm_ok : OracleOk Tryd.prog orcSm := inl_ok (hOrcP_ok hTabML_ok) ftab_ok tabSm_ok plainL_ok mixed 20
noncomputable def smLp : Code := loopOf 4 Tryd.f11
def smT : Tm := ⟨mkS [(0, .bool), (1, .ptr 0 0), (2, .func 28 [.ptr 0 0]), (3, .int .i64)] 0 102, [.own 27 (.vs [.lit .u32 0, .lit .u32 1, .lit .u32 2147483648, .lit .u32 4294967295])], []⟩
def smIs (a : Int) : Option (XE × List PV × List (Code × Code)) → Bool
  | some (.normal, [.b false, .i x], []) => decide (x = a)
  | _ => false
theorem smIs_ok {a : Int} {r : Option (XE × List PV × List (Code × Code))} (h : smIs a r = true) : r = some (.normal, [.b false, .i a], []) := by
  unfold smIs at h
  split at h
  · rw [decide_eq_true_eq] at h; rw [h]
  · cases h
noncomputable def smR (rd : Option Nat) (lo : Nat) : Bool := smIs ((lo + 1 : Nat) : Int) (roundT Tryd.prog orcSm noLoops 200 0 rd 11 smLp smT smT [.b false, .i (lo : Int)])
noncomputable def smAll (rd : Option Nat) : Nat → Nat → Bool
  | _, 0 => true
  | lo, n + 1 => smR rd lo && smAll rd (lo + 1) n
set_option maxRecDepth 100000 in
theorem smAll_ok {rd : Option Nat} : ∀ {n lo : Nat}, smAll rd lo n = true → ∀ a, lo ≤ a → a < lo + n → roundT Tryd.prog orcSm noLoops 200 0 rd 11 smLp smT smT [.b false, .i (a : Int)] = some (.normal, [.b false, .i ((a + 1 : Nat) : Int)], [])
  | 0, lo, _, a, h1, h2 => by omega
  | n + 1, lo, h, a, h1, h2 => by
    simp only [smAll, Bool.and_eq_true] at h
    by_cases e : a = lo
    · subst e; exact smIs_ok h.1
    · exact smAll_ok h.2 a (by omega) (by omega)
theorem sm_end (rd : Option Nat) : roundT Tryd.prog orcSm noLoops 200 0 rd 11 smLp smT smT [.b false, .i 256] = some (.exit 0, [.b false, .i 256], []) := by kernel_rfl
end Go.Proofs.YthpdeiolhahobaaDoor

/- Chapter 2: the law NatSmall: numbers 0 to 63. -/
namespace Go.Proofs.YthpdeiolhahobaaDoor
open Go Go.Eng
theorem sm_0 (rd : Option Nat) : smAll rd 0 8 = true := by kernel_rfl
theorem sm_8 (rd : Option Nat) : smAll rd 8 8 = true := by kernel_rfl
theorem sm_16 (rd : Option Nat) : smAll rd 16 8 = true := by kernel_rfl
theorem sm_24 (rd : Option Nat) : smAll rd 24 8 = true := by kernel_rfl
theorem sm_32 (rd : Option Nat) : smAll rd 32 8 = true := by kernel_rfl
theorem sm_40 (rd : Option Nat) : smAll rd 40 8 = true := by kernel_rfl
theorem sm_48 (rd : Option Nat) : smAll rd 48 8 = true := by kernel_rfl
theorem sm_56 (rd : Option Nat) : smAll rd 56 8 = true := by kernel_rfl
end Go.Proofs.YthpdeiolhahobaaDoor

/- Chapter 2: the law NatSmall: numbers 64 to 127. -/
namespace Go.Proofs.YthpdeiolhahobaaDoor
open Go Go.Eng
theorem sm_64 (rd : Option Nat) : smAll rd 64 8 = true := by kernel_rfl
theorem sm_72 (rd : Option Nat) : smAll rd 72 8 = true := by kernel_rfl
theorem sm_80 (rd : Option Nat) : smAll rd 80 8 = true := by kernel_rfl
theorem sm_88 (rd : Option Nat) : smAll rd 88 8 = true := by kernel_rfl
theorem sm_96 (rd : Option Nat) : smAll rd 96 8 = true := by kernel_rfl
theorem sm_104 (rd : Option Nat) : smAll rd 104 8 = true := by kernel_rfl
theorem sm_112 (rd : Option Nat) : smAll rd 112 8 = true := by kernel_rfl
theorem sm_120 (rd : Option Nat) : smAll rd 120 8 = true := by kernel_rfl
end Go.Proofs.YthpdeiolhahobaaDoor

/- Chapter 2: the law NatSmall: numbers 128 to 191. -/
namespace Go.Proofs.YthpdeiolhahobaaDoor
open Go Go.Eng
theorem sm_128 (rd : Option Nat) : smAll rd 128 8 = true := by kernel_rfl
theorem sm_136 (rd : Option Nat) : smAll rd 136 8 = true := by kernel_rfl
theorem sm_144 (rd : Option Nat) : smAll rd 144 8 = true := by kernel_rfl
theorem sm_152 (rd : Option Nat) : smAll rd 152 8 = true := by kernel_rfl
theorem sm_160 (rd : Option Nat) : smAll rd 160 8 = true := by kernel_rfl
theorem sm_168 (rd : Option Nat) : smAll rd 168 8 = true := by kernel_rfl
theorem sm_176 (rd : Option Nat) : smAll rd 176 8 = true := by kernel_rfl
theorem sm_184 (rd : Option Nat) : smAll rd 184 8 = true := by kernel_rfl
end Go.Proofs.YthpdeiolhahobaaDoor

/- Chapter 2: the law NatSmall: numbers 192 to 255. -/
namespace Go.Proofs.YthpdeiolhahobaaDoor
open Go Go.Eng
theorem sm_192 (rd : Option Nat) : smAll rd 192 8 = true := by kernel_rfl
theorem sm_200 (rd : Option Nat) : smAll rd 200 8 = true := by kernel_rfl
theorem sm_208 (rd : Option Nat) : smAll rd 208 8 = true := by kernel_rfl
theorem sm_216 (rd : Option Nat) : smAll rd 216 8 = true := by kernel_rfl
theorem sm_224 (rd : Option Nat) : smAll rd 224 8 = true := by kernel_rfl
theorem sm_232 (rd : Option Nat) : smAll rd 232 8 = true := by kernel_rfl
theorem sm_240 (rd : Option Nat) : smAll rd 240 8 = true := by kernel_rfl
theorem sm_248 (rd : Option Nat) : smAll rd 248 8 = true := by kernel_rfl
end Go.Proofs.YthpdeiolhahobaaDoor

/- Chapter 2: the law NatSmall is true. -/
namespace Go.Proofs.YthpdeiolhahobaaDoor
open Go Go.Eng
theorem sm_round (rd : Option Nat) {a : Nat} (ha : a < 256) : roundT Tryd.prog orcSm noLoops 200 0 rd 11 smLp smT smT [.b false, .i (a : Int)] = some (.normal, [.b false, .i ((a + 1 : Nat) : Int)], []) := by
  by_cases h0 : a < 8
  · exact smAll_ok (sm_0 rd) a (by omega) (by omega)
  by_cases h1 : a < 16
  · exact smAll_ok (sm_8 rd) a (by omega) (by omega)
  by_cases h2 : a < 24
  · exact smAll_ok (sm_16 rd) a (by omega) (by omega)
  by_cases h3 : a < 32
  · exact smAll_ok (sm_24 rd) a (by omega) (by omega)
  by_cases h4 : a < 40
  · exact smAll_ok (sm_32 rd) a (by omega) (by omega)
  by_cases h5 : a < 48
  · exact smAll_ok (sm_40 rd) a (by omega) (by omega)
  by_cases h6 : a < 56
  · exact smAll_ok (sm_48 rd) a (by omega) (by omega)
  by_cases h7 : a < 64
  · exact smAll_ok (sm_56 rd) a (by omega) (by omega)
  by_cases h8 : a < 72
  · exact smAll_ok (sm_64 rd) a (by omega) (by omega)
  by_cases h9 : a < 80
  · exact smAll_ok (sm_72 rd) a (by omega) (by omega)
  by_cases h10 : a < 88
  · exact smAll_ok (sm_80 rd) a (by omega) (by omega)
  by_cases h11 : a < 96
  · exact smAll_ok (sm_88 rd) a (by omega) (by omega)
  by_cases h12 : a < 104
  · exact smAll_ok (sm_96 rd) a (by omega) (by omega)
  by_cases h13 : a < 112
  · exact smAll_ok (sm_104 rd) a (by omega) (by omega)
  by_cases h14 : a < 120
  · exact smAll_ok (sm_112 rd) a (by omega) (by omega)
  by_cases h15 : a < 128
  · exact smAll_ok (sm_120 rd) a (by omega) (by omega)
  by_cases h16 : a < 136
  · exact smAll_ok (sm_128 rd) a (by omega) (by omega)
  by_cases h17 : a < 144
  · exact smAll_ok (sm_136 rd) a (by omega) (by omega)
  by_cases h18 : a < 152
  · exact smAll_ok (sm_144 rd) a (by omega) (by omega)
  by_cases h19 : a < 160
  · exact smAll_ok (sm_152 rd) a (by omega) (by omega)
  by_cases h20 : a < 168
  · exact smAll_ok (sm_160 rd) a (by omega) (by omega)
  by_cases h21 : a < 176
  · exact smAll_ok (sm_168 rd) a (by omega) (by omega)
  by_cases h22 : a < 184
  · exact smAll_ok (sm_176 rd) a (by omega) (by omega)
  by_cases h23 : a < 192
  · exact smAll_ok (sm_184 rd) a (by omega) (by omega)
  by_cases h24 : a < 200
  · exact smAll_ok (sm_192 rd) a (by omega) (by omega)
  by_cases h25 : a < 208
  · exact smAll_ok (sm_200 rd) a (by omega) (by omega)
  by_cases h26 : a < 216
  · exact smAll_ok (sm_208 rd) a (by omega) (by omega)
  by_cases h27 : a < 224
  · exact smAll_ok (sm_216 rd) a (by omega) (by omega)
  by_cases h28 : a < 232
  · exact smAll_ok (sm_224 rd) a (by omega) (by omega)
  by_cases h29 : a < 240
  · exact smAll_ok (sm_232 rd) a (by omega) (by omega)
  by_cases h30 : a < 248
  · exact smAll_ok (sm_240 rd) a (by omega) (by omega)
  by_cases h31 : a < 256
  · exact smAll_ok (sm_248 rd) a (by omega) (by omega)
  omega
theorem sm_loop (rd : Option Nat) : ∀ a : Nat, a ≤ 256 → SimC Tryd.prog 0 rd (.loop smLp) (smT.at [.b false, .i (a : Int)]) (.exit 0) (smT.at [.b false, .i 256]) := by
  refine loop_of_rounds (C := orcSm) (L := noLoops) (N := 200) (me := 11) (T := smT) (T' := smT) orcSm_ok mixed noLoops_ok (by kernel_rfl) (by kernel_rfl) (X := Nat)
    (fun a => [.b false, .i (a : Int)]) (fun a => a ≤ 256) (fun a => 256 - a) (fun _ => (.exit 0, [.b false, .i 256])) ?_
  intro a ha
  by_cases h : a < 256
  · exact ⟨_, _, _, sm_round rd h, codes0, .inl ⟨rfl, a + 1, rfl, by omega, by omega, rfl⟩⟩
  · obtain rfl : a = 256 := by omega
    exact ⟨_, _, _, sm_end rd, codes0, .inr ⟨by simp, rfl⟩⟩
noncomputable def smTree : List PV → Fin
  | [.b f, .i a] => .br (!f && decide (a = 0)) (.leaf (.exit 0) (smT.at [.b false, .i 256])) .no
  | _ => .no
noncomputable def smL : Loops := sums (fun n => match n with | 4 => some (lsumF 0 smT smLp smTree) | _ => none)
theorem smL_ok : loopsOk Tryd.prog smL := by
  intro n g hg
  simp only [smL, sums] at hg
  split at hg
  · cases hg
    refine lsumF_ok (by kernel_rfl) (fun rd ps e1 st1 hq => ?_)
    unfold smTree at hq
    split at hq
    · rename_i f a
      simp only [Fin.pick] at hq
      cases hc : (!f && decide (a = 0)) with
      | false => rw [hc] at hq; cases hq
      | true =>
        rw [hc, cond_true] at hq
        cases hq
        simp only [Bool.and_eq_true, Bool.not_eq_true', decide_eq_true_eq] at hc
        obtain ⟨rfl, rfl⟩ := hc
        exact sm_loop rd 0 (by omega)
    · cases hq
  · cases hg
theorem small_eval : evalFn Tryd.prog orcSm smL 200 11 Tryd.f11 [] [] (fun v _ => some v) = cond (codesB [(smLp, smLp)]) (some (.bool true)) none := by kernel_rfl
theorem small_p : FnPure Tryd.prog 11 [] (.bool true) := by
  refine fnPure_of_eval (N := 200) orcSm_ok mixed Tryd.func11 (by kernel_rfl) smL_ok ?_ rfl rfl
  have hcd : codesB [(smLp, smLp)] = true := by rw [codesB_iff]; intro x hx; simp at hx; rw [hx]
  rw [small_eval, hcd]; rfl
end Go.Proofs.YthpdeiolhahobaaDoor

/- Chapter 2: the row's tables (the law looks at none). -/
namespace Go.Proofs.YthpdeiolhahobaaDoor
open Go Go.Eng
theorem u8_range {a : Int} (w : (Lit.int .u8 a).wf = true) : 0 ≤ a ∧ a < 256 := by
  simp only [Lit.wf, IntKind.min, IntKind.max, IntKind.signed, IntKind.bits, Bool.and_eq_true] at w
  simp at w
  omega
theorem u32_range {a : Int} (w : (Lit.int .u32 a).wf = true) : 0 ≤ a ∧ a < 4294967296 := by
  simp only [Lit.wf, IntKind.min, IntKind.max, IntKind.signed, IntKind.bits, Bool.and_eq_true] at w
  simp at w
  omega
theorem nat_range {a b c d : Int} (h0 : (Lit.int .u32 a).wf = true) (h1 : (Lit.int .u32 b).wf = true) (h2 : (Lit.int .u32 c).wf = true) (h3 : (Lit.int .u32 d).wf = true) : inN a b c d = true :=
  inN_iff.2 ⟨u32_range h0, u32_range h1, u32_range h2, u32_range h3⟩
def laidL : List (String × DataW Unit) := [("unicode/utf8.acceptRanges", Rows.laid_unicode_utf8_acceptRanges), ("unicode/utf8.first", Rows.laid_unicode_utf8_first)]
theorem own : ownKnob Tryd.prog.godebug = none := by kernel_rfl
end Go.Proofs.YthpdeiolhahobaaDoor
