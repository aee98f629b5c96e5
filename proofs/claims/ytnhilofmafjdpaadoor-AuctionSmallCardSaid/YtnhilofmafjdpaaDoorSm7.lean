/- Texts merged: Sm7, Sm8, Sm9. -/
import Derived.Test.YtnhilofmafjdpaaDoorTel2
import Derived.Test.YtnhilofmafjdpaaDoorSm6
/- Chapter 9: the law AuctionSmall: contracts, templates. -/
namespace Go.Proofs.YtnhilofmafjdpaaDoor
open Go Go.Eng
theorem led_eval (LV LE : Int → Int → Int → Int → Int) (a b c d : Int) : evalP (tabLd LV LE emptyTab) 12 Tryd.f12 [ctA a b c d] =
    bif decide (0 ≤ d) then bif decide (0 ≤ d) then bif decide (LV a b c d = LV a b c d) then some (.bool (decide (LE a b c d = LE a b c d))) else some (.bool false) else none else none := by kernel_rfl
theorem led_p (a b c : Int) {d : Int} (h : 0 ≤ d) : FnPure Tryd.prog 12 [ctA a b c d] (.bool true) := by
  refine pure_at (tabLd_ok emptyTab_ok) Tryd.func12 (by kernel_rfl) ?_ rfl rfl
  rw [led_eval, decide_eq_true h, decide_eq_true (rfl : ldV a b c d = ldV a b c d), decide_eq_true (rfl : ldE a b c d = ldE a b c d)]; rfl
def gLed : List V → Option (Bool × V)
  | [.agg [.int .u8 _, .int .u8 _, .int .u8 _, .int .u8 d]] => some (decide (0 ≤ d), .bool true)
  | _ => none
def tabLe : PTab := addTab 12 gLed emptyTab
theorem tabLe_ok : PTabOk Tryd.prog tabLe := by
  refine addTab_ok ?_ emptyTab_ok
  intro args c v h hc
  unfold gLed at h
  split at h
  · cases h; exact led_p _ _ _ (of_decide_eq_true hc)
  · cases h
noncomputable def gTbl : List V → List Blk → Option (Bool × V × List Blk)
  | [], [.glob 0 (.strs l)] => some (pB (l = textsL), .bool true, [])
  | _, _ => none
noncomputable def hTabS7 (X : SX) : HTab := addH 31 gTbl (addH 16 (gTel X.CL) (addH 13 gAwake emptyH))
def domS7 : FuncId → Bool := fun f => Nat.beq f 31 || (Nat.beq f 16 || Nat.beq f 13)
def glS7 : FuncId → List Nat := fun _ => [0]
noncomputable abbrev orcS7 (X : SX) (LL : FuncId → Loops) : Oracle := inl Tryd.prog ftab tabLe LL 100 never domS7 (hOrcN glS7 nrB (hTabS7 X)) 20
noncomputable def s1Lp : Code := loopOf 3 Tryd.f11
noncomputable def s2Lp : Code := loopOf 17 Tryd.f11
def smM : TB := .ro (.vs [])
def s1T : Tm := ⟨mkS [(1, .gs 2), (2, .int .i64)] 0 130, [.glob 0 strsT, smM, .grow true 5 1 u8s], []⟩
def s1X : Tm := ⟨mkS [] 0 130, [.glob 0 strsT, smM], []⟩
def s2T : Tm := ⟨mkS [(6, .int .i64)] 0 130, [.glob 0 strsT, smM], []⟩
def s2X : Tm := ⟨mkS [] 0 130, [.glob 0 strsT, smM], []⟩
end Go.Proofs.YtnhilofmafjdpaaDoor

/- Chapter 9: the law AuctionSmall. -/
namespace Go.Proofs.YtnhilofmafjdpaaDoor
open Go Go.Eng
theorem hTabS7_ok : HTabOk Tryd.prog (hTabS7 sX) := by
  refine addH_ok ?_ (addH_ok ?_ (addH_ok ?_ emptyH_ok))
  · intro args h c v nb hq hc
    unfold gTbl at hq
    split at hq
    · cases hq
      rw [pB_iff] at hc
      subst hc
      exact ⟨.of Tryd.func31 (by kernel_rfl), by rw [List.append_nil]; exact tables_fn⟩
    · cases hq
  · intro args h c v nb hq hc
    unfold gTel at hq
    split at hq
    · cases hq
      simp only [Bool.and_eq_true, pB_iff] at hc
      obtain ⟨rfl, h1⟩ := hc
      have h1 : telC _ _ = true := h1
      simp only [telC, Bool.and_eq_true, decide_eq_true_eq] at h1
      exact ⟨.of Tryd.func16 (by kernel_rfl), by rw [List.append_nil]; exact tells_fn _ h1.1 h1.2⟩
    · cases hq
  · intro args h c v nb hq hc
    unfold gAwake at hq
    split at hq
    · cases hq
      rw [pB_iff] at hc
      subst hc
      exact ⟨.of Tryd.func13 (by kernel_rfl), by rw [List.append_nil]; exact awake_fn⟩
    · cases hq
theorem orcS7_ok {LL : FuncId → Loops} (hL : ∀ f, loopsOk Tryd.prog (LL f)) : OracleOk Tryd.prog (orcS7 sX LL) := inl_ok (hOrcN_ok hTabS7_ok) ftab_ok tabLe_ok hL mixed 20
noncomputable def s1E (X : SX) (n : Int) (tl : List ByteArray) (sm : List Int) : RT :=
  atU sm (n.tmod 8) (fun a => atU sm ((wr .i64 (n.tdiv 8)).tmod 8) (fun b => atU sm ((wr .i64 (n.tdiv 64)).tmod 8) (fun c => atU sm ((wr .i64 (n.tdiv 512)).tmod 8) (fun d => atU sm (wr .i64 (n.tdiv 4096)) (fun e =>
    bif decide (0 ≤ (0 : Int) ∧ 0 ≤ wr .i64 (1 + n.tmod 5) ∧ wr .i64 (1 + n.tmod 5) ≤ 5) then bif decide (0 + ((wr .i64 (1 + n.tmod 5)).toNat - 0) ≤ 5) then bif pB (tl = textsL) && X.CL (wr .u8 (n.tmod 5)) (List.take ((wr .i64 (1 + n.tmod 5)).toNat - 0) (List.drop 0 [a, b, c, d, e])) then
    bif pB (tl = textsL) && X.CL (wr .u8 ((wr .i64 (n.tdiv 5)).tmod 4)) [a, b, c, d, e] then some (.normal, [.i (wr .i64 (n + wr .i64 (1 + wr .i64 (n.tdiv 4096)))), .ss tl, .l sm], []) else none else none else none else none)))))
theorem s1_round (X : SX) (rd : Option Nat) (n : Int) (tl : List ByteArray) (sm : List Int) : roundT Tryd.prog (orcS7 X plainL) noLoops 100 2 rd 11 s1Lp s1T s1X [.i n, .ss tl, .l sm] =
    bif decide (n < 32768) then s1E X n tl sm else some (.exit 0, [.ss tl], []) := by kernel_rfl
theorem s2_round (X : SX) (rd : Option Nat) (n : Int) (tl : List ByteArray) : roundT Tryd.prog (orcS7 X plainL) noLoops 100 2 rd 11 s2Lp s2T s2X [.i n, .ss tl] =
    bif decide (n < 1296) then bif decide (0 ≤ wr .u8 (wr .i64 (n.tdiv 216))) then some (.normal, [.i (wr .i64 (n + 1)), .ss tl], []) else none else some (.exit 4, [.ss tl], []) := by kernel_rfl
end Go.Proofs.YtnhilofmafjdpaaDoor

/- Chapter 9: the law AuctionSmall is true. -/
namespace Go.Proofs.YtnhilofmafjdpaaDoor
open Go Go.Eng
theorem telC_ok {d : Int} {l : List Int} (h1 : 0 ≤ d) (h2 : allU l = true) (h3 : l.length ≤ 400) : telC d l = true := by
  unfold telC okA smallL
  rw [decide_eq_true h1, h2, decide_eq_true h3, decide_eq_true (show l.length ≤ 9223372036854775806 by omega)]; rfl
theorem s1E_is {n : Nat} (hn : n < 32768) {sm : List Int} (h8 : sm.length = 8) (hu : allU sm = true) : s1E sX (n : Int) textsL sm = some (.normal, [.i ((n + 1 + n / 4096 : Nat) : Int), .ss textsL, .l sm], []) := by
  have m8 : ∀ k : Nat, ((k : Int)).tmod 8 = ((k % 8 : Nat) : Int) := fun k => by rw [Int.tmod_eq_emod_of_nonneg (by omega)]; omega
  have dv : ∀ k : Nat, wr .i64 ((n : Int).tdiv (k : Int)) = ((n / k : Nat) : Int) := fun k => by
    have e : (n : Int).tdiv (k : Int) = ((n / k : Nat) : Int) := by rw [Int.tdiv_eq_ediv_of_nonneg (by omega)]; exact (Int.natCast_ediv n k).symm
    have hle : n / k ≤ n := Nat.div_le_self _ _
    rw [e]
    generalize n / k = q at *
    rw [wr64 (by omega) (by omega)]
  have m5 : (n : Int).tmod 5 = ((n % 5 : Nat) : Int) := by rw [Int.tmod_eq_emod_of_nonneg (by omega)]; omega
  unfold s1E
  rw [show (8 : Int) = ((8 : Nat) : Int) from rfl, show (64 : Int) = ((64 : Nat) : Int) from rfl, show (512 : Int) = ((512 : Nat) : Int) from rfl, show (4096 : Int) = ((4096 : Nat) : Int) from rfl, dv 8, dv 64, dv 512, dv 4096]
  have e5 : wr .i64 ((n : Int).tdiv 5) = ((n / 5 : Nat) : Int) := dv 5
  rw [show (((8 : Nat) : Int)) = 8 from rfl, m8, m8, m8, m8, m5, e5]
  rw [atU_at (show n % 8 < sm.length by omega), atU_at (show n / 8 % 8 < sm.length by omega), atU_at (show n / 64 % 8 < sm.length by omega), atU_at (show n / 512 % 8 < sm.length by omega), atU_at (show n / 4096 < sm.length by omega)]
  have ga := allU_get hu (show n % 8 < sm.length by omega)
  have gb := allU_get hu (show n / 8 % 8 < sm.length by omega)
  have gc := allU_get hu (show n / 64 % 8 < sm.length by omega)
  have gd := allU_get hu (show n / 512 % 8 < sm.length by omega)
  have ge := allU_get hu (show n / 4096 < sm.length by omega)
  generalize sm[n % 8]'_ = a at *
  generalize sm[n / 8 % 8]'_ = b at *
  generalize sm[n / 64 % 8]'_ = c at *
  generalize sm[n / 512 % 8]'_ = d at *
  generalize sm[n / 4096]'_ = e at *
  have hl : allU [a, b, c, d, e] = true := by
    rw [allU_iff]
    intro x hx
    simp only [List.mem_cons, List.not_mem_nil, or_false] at hx
    rcases hx with rfl | rfl | rfl | rfl | rfl <;> assumption
  have m4 : ((n / 5 : Nat) : Int).tmod 4 = ((n / 5 % 4 : Nat) : Int) := by rw [Int.tmod_eq_emod_of_nonneg (by omega)]; omega
  rw [wr64 (n := 1 + ((n % 5 : Nat) : Int)) (by omega) (by omega), m4, wr_u8_id (n := ((n % 5 : Nat) : Int)) (by omega), wr_u8_id (n := ((n / 5 % 4 : Nat) : Int)) (by omega),
    decide_eq_true (show 0 ≤ (0 : Int) ∧ 0 ≤ 1 + ((n % 5 : Nat) : Int) ∧ 1 + ((n % 5 : Nat) : Int) ≤ 5 by omega), decide_eq_true (show 0 + ((1 + ((n % 5 : Nat) : Int)).toNat - 0) ≤ 5 by omega), pB_iff.2 rfl,
    show sX.CL ((n % 5 : Nat) : Int) (List.take ((1 + ((n % 5 : Nat) : Int)).toNat - 0) (List.drop 0 [a, b, c, d, e])) = true from telC_ok (by omega) (by rw [List.drop_zero]; exact allU_take hl _) (by rw [List.drop_zero, List.length_take]; simp only [List.length_cons, List.length_nil]; omega),
    show sX.CL ((n / 5 % 4 : Nat) : Int) [a, b, c, d, e] = true from telC_ok (by omega) hl (by simp),
    wr64 (n := 1 + ((n / 4096 : Nat) : Int)) (by omega) (by omega), wr64 (n := (n : Int) + (1 + ((n / 4096 : Nat) : Int))) (by omega) (by omega)]
  simp only [cond_true, Bool.and_self]
  rw [show (n : Int) + (1 + ((n / 4096 : Nat) : Int)) = ((n + 1 + n / 4096 : Nat) : Int) by omega]
theorem s1_loop (rd : Option Nat) {sm : List Int} (h8 : sm.length = 8) (hu : allU sm = true) : ∀ n : Nat, n ≤ 40000 → SimC Tryd.prog 2 rd (.loop s1Lp) (s1T.at [.i (n : Int), .ss textsL, .l sm]) (.exit 0) (s1X.at [.ss textsL]) := by
  refine loop_of_rounds (C := orcS7 sX plainL) (L := noLoops) (N := 100) (me := 11) (T := s1T) (T' := s1X) (orcS7_ok plainL_ok) mixed noLoops_ok (by kernel_rfl) (by kernel_rfl) (X := Nat)
    (fun n => [.i (n : Int), .ss textsL, .l sm]) (fun n => n ≤ 40000) (fun n => 50000 - n) (fun _ => (.exit 0, [.ss textsL])) ?_
  intro n hn
  have h := s1_round sX rd (n : Int) textsL sm
  rcases Nat.lt_or_ge n 32768 with hlt | hge
  · rw [decide_eq_true (show (n : Int) < 32768 by omega), cond_true, s1E_is hlt h8 hu] at h
    exact ⟨_, _, _, h, codes0, .inl ⟨rfl, n + 1 + n / 4096, rfl, by omega, by omega, rfl⟩⟩
  · rw [decide_eq_false (show ¬ (n : Int) < 32768 by omega), cond_false] at h
    exact ⟨_, _, _, h, codes0, .inr ⟨by simp, rfl⟩⟩
theorem s2_loop (rd : Option Nat) : ∀ n : Nat, n ≤ 1296 → SimC Tryd.prog 2 rd (.loop s2Lp) (s2T.at [.i (n : Int), .ss textsL]) (.exit 4) (s2X.at [.ss textsL]) := by
  refine loop_of_rounds (C := orcS7 sX plainL) (L := noLoops) (N := 100) (me := 11) (T := s2T) (T' := s2X) (orcS7_ok plainL_ok) mixed noLoops_ok (by kernel_rfl) (by kernel_rfl) (X := Nat)
    (fun n => [.i (n : Int), .ss textsL]) (fun n => n ≤ 1296) (fun n => 1296 - n) (fun _ => (.exit 4, [.ss textsL])) ?_
  intro n hn
  have h := s2_round sX rd (n : Int) textsL
  rcases Nat.lt_or_ge n 1296 with hlt | hge
  · have e : (n : Int).tdiv 216 = ((n / 216 : Nat) : Int) := by rw [Int.tdiv_eq_ediv_of_nonneg (by omega)]; omega
    rw [decide_eq_true (show (n : Int) < 1296 by omega), cond_true, e, wr64 (n := ((n / 216 : Nat) : Int)) (by omega) (by omega), wr_u8_id (n := ((n / 216 : Nat) : Int)) (by omega), decide_eq_true (show 0 ≤ ((n / 216 : Nat) : Int) by omega), wr64 (n := (n : Int) + 1) (by omega) (by omega)] at h
    exact ⟨_, _, _, h, codes0, .inl ⟨rfl, n + 1, rfl, by omega, by omega, rfl⟩⟩
  · rw [decide_eq_false (show ¬ (n : Int) < 1296 by omega), cond_false] at h
    exact ⟨_, _, _, h, codes0, .inr ⟨by simp, rfl⟩⟩
noncomputable def s1C (n : Int) (tl : List ByteArray) (sm : List Int) : Bool := decide (n = 0 ∧ sm.length = 8) && (allU sm && pB (tl = textsL))
noncomputable def s2C (n : Int) (tl : List ByteArray) : Bool := decide (n = 0) && pB (tl = textsL)
noncomputable def s1Tree (C : Int → List ByteArray → List Int → Bool) : List PV → Fin
  | [.i n, .ss tl, .l sm] => .br (C n tl sm) (.leaf (.exit 0) (s1X.at [.ss tl])) .no
  | _ => .no
noncomputable def s2Tree (C : Int → List ByteArray → Bool) : List PV → Fin
  | [.i n, .ss tl] => .br (C n tl) (.leaf (.exit 4) (s2X.at [.ss tl])) .no
  | _ => .no
noncomputable def s7L (C1 : Int → List ByteArray → List Int → Bool) (C2 : Int → List ByteArray → Bool) : Loops := sums (fun n => match n with | 3 => some (lsumF 2 s1T s1Lp (s1Tree C1)) | 17 => some (lsumF 2 s2T s2Lp (s2Tree C2)) | _ => none)
theorem s7L_ok : loopsOk Tryd.prog (s7L s1C s2C) := by
  intro n g hg
  simp only [s7L, sums] at hg
  split at hg
  · cases hg
    refine lsumF_ok (by kernel_rfl) (fun rd ps e1 st1 hq => ?_)
    unfold s1Tree at hq
    split at hq
    · rename_i n tl sm
      simp only [Fin.pick] at hq
      cases hc : s1C n tl sm with
      | false => rw [hc] at hq; cases hq
      | true =>
        rw [hc, cond_true] at hq
        simp only [s1C, Bool.and_eq_true, decide_eq_true_eq, pB_iff] at hc
        obtain ⟨⟨rfl, h1⟩, h2, rfl⟩ := hc
        cases hq
        exact s1_loop rd h1 h2 0 (Nat.zero_le _)
    · cases hq
  · cases hg
    refine lsumF_ok (by kernel_rfl) (fun rd ps e1 st1 hq => ?_)
    unfold s2Tree at hq
    split at hq
    · rename_i n tl
      simp only [Fin.pick] at hq
      cases hc : s2C n tl with
      | false => rw [hc] at hq; cases hq
      | true =>
        rw [hc, cond_true] at hq
        simp only [s2C, Bool.and_eq_true, decide_eq_true_eq, pB_iff] at hc
        obtain ⟨rfl, rfl⟩ := hc
        cases hq
        exact s2_loop rd 0 (Nat.zero_le _)
    · cases hq
  · cases hg
def lngB : List Int := (List.range 35).flatMap fun (k : Nat) => [0, 0, (k : Int) + 3, 0, 0, 1, 0, 0, 2]
def lngL : List Int := [0] ++ lngB ++ [0, 0, 0]
end Go.Proofs.YtnhilofmafjdpaaDoor
