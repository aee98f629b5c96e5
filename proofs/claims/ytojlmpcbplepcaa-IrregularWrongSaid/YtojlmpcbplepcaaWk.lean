/- Chapter 10: the law IrregularWrong answers true. -/
import Derived.Test.YtojlmpcbplepcaaWi
import Derived.Test.YtojlmpcbplepcaaTu4
namespace Go.Proofs.Ytojlmpcbplepcaa
open Go Go.Eng
def wiC (n k w : Int) (_ : CD) (xs ac : List Int) : Bool := decide ((0 ≤ n ∧ n < 256) ∧ (k = 0 ∨ k = 1 ∨ k = 2 ∨ k = 3) ∧ (w = 0 ∨ w = 1 ∨ w = 2 ∨ w = 3 ∨ w = 4 ∨ w = 5 ∨ w = 6 ∨ w = 7) ∧ xs.length ≤ 1000 ∧ ac.length ≤ 1000)
def wiS (n k w : Int) (s : CD) : CD := bif decide (w = 0) then ⟨wr .u8 (4 + n.tmod 252), s.p, s.a, s.h, s.f⟩ else bif decide (w = 5) then s.setP (wr .i64 (101 + wr .i64 n)) k.toNat else bif decide (w = 6) then s.setA (wr .u8 (39 + n.tmod 217)) k.toNat else
  bif decide (w = 7) then s.setF (wr .u8 (16 + n.tmod 240)) k.toNat else s
def wiL (n w : Int) (xs : List Int) : List Int := bif decide (w = 1) then xs ++ [wr .u8 (38 + n.tmod 218)] else bif decide (w = 2) then xs ++ [0, 0, 0, 0, 0] else bif decide (w = 3) then xs ++ [0] else xs
def wiA (n w : Int) (xs ac : List Int) : List Int := bif decide (w = 3) then ac ++ [Int.ofNat xs.length] else bif decide (w = 4) then ac ++ [wr .i64 (Int.ofNat xs.length + wr .i64 n)] else ac
def nWi : NWi := ⟨wiC, wiS, wiL, wiA⟩
theorem wiBB_ok : ∀ id n f, wiBB nWi id n = some f → CutOk Try.prog id f := by
  intro id n f hf
  unfold wiBB at hf
  cases hi : Nat.beq id 0 && Nat.beq n 15 with
  | false => rw [hi] at hf; cases hf
  | true =>
    rw [hi, cond_true] at hf
    rw [Bool.and_eq_true] at hi
    have h0 := Nat.eq_of_beq_eq_true hi.1
    subst h0
    cases hf
    refine lsumB_ok (by kernel_rfl) (fun rd ps e1 st1 h => ?_)
    unfold wiTr at h
    split at h
    · rename_i n k w ws ps
      split at h
      · rename_i s xs ac hs
        rw [crsP_ok hs]
        simp only [Fin.pick] at h
        cases hc : nWi.C n k w s xs ac with
        | false => rw [hc] at h; cases h
        | true =>
          rw [hc, cond_true] at h
          have hc : wiC n k w s xs ac = true := hc
          unfold wiC at hc
          rw [decide_eq_true_eq] at hc
          obtain ⟨hn, hk, hw, hx, ha⟩ := hc
          have main : ∀ {s' : CD} {xs' ac' : List Int}, wiR nL rd n ws xs ac s k w = wiO n k w ws s' xs' ac' → SimC Try.prog 1 rd (.block 0 wiB) (wiT.at (wiPs n k w ws s xs ac)) .normal (wiT.at (wiPs n k w ws s' xs' ac')) := fun {s' xs' ac'} hq =>
            (roundT_sim orcV_ok mixed noLoops_ok (by kernel_rfl) (by kernel_rfl) hq codesNil).1 rfl
          have l1 : ∀ l : List Int, l.length ≤ 10 → decide ((xs ++ l).length * 2 ≤ 70368744177664) = true := fun l hl => decide_eq_true (by rw [List.length_append]; omega)
          have l2 : ∀ l : List Int, l.length ≤ 10 → decide ((ac ++ l).length * 9 ≤ 70368744177664) = true := fun l hl => decide_eq_true (by rw [List.length_append]; omega)
          have k1 : nL.KL xs = true := decide_eq_true (by omega)
          have k2 : nL.KL ac = true := decide_eq_true (by omega)
          cases h
          rcases hw with rfl | rfl | rfl | rfl | rfl | rfl | rfl | rfl
          · exact main (wi_0 nL rd n k ws xs ac s)
          · refine main ?_
            rw [wi_1, k1, l1 _ (by simp)]; rfl
          · refine main ?_
            rw [wi_2, k1, l1 _ (by simp)]; rfl
          · refine main ?_
            rw [wi_3, k1, k2, l1 _ (by simp), l2 _ (by simp)]; rfl
          · refine main ?_
            rw [wi_4, k2, l2 _ (by simp)]; rfl
          · rcases hk with rfl | rfl | rfl | rfl
            · exact main (wi_50 nL rd n ws xs ac s)
            · exact main (wi_51 nL rd n ws xs ac s)
            · exact main (wi_52 nL rd n ws xs ac s)
            · exact main (wi_53 nL rd n ws xs ac s)
          · rcases hk with rfl | rfl | rfl | rfl
            · exact main (wi_60 nL rd n ws xs ac s)
            · exact main (wi_61 nL rd n ws xs ac s)
            · exact main (wi_62 nL rd n ws xs ac s)
            · exact main (wi_63 nL rd n ws xs ac s)
          · rcases hk with rfl | rfl | rfl | rfl
            · exact main (wi_70 nL rd n ws xs ac s)
            · exact main (wi_71 nL rd n ws xs ac s)
            · exact main (wi_72 nL rd n ws xs ac s)
            · exact main (wi_73 nL rd n ws xs ac s)
      · cases h
    · cases h
/-- A course that is not right answers its error everywhere. -/
theorem wgF_true {s : CD} {xs ac : List Int} (h : rgtI s xs ac = false) (hx : okL xs = true) (hl : xs.length ≤ 1000) (ha : ac.length ≤ 1000) (hd : dkB s = true) : wgF nL s xs ac = some (.bool true) := by
  obtain ⟨d1, d2, d3⟩ := nr_do h 0
  have b : ∀ x : Int, 0 ≤ x → x < 256 → nL.F.BY x = true := fun x h1 h2 => by rw [show nL.F.BY = byB from rfl]; exact by_of (by omega)
  have hop := nr_op h
  have hle : leadE s xs ac = 100 := by
    have hce : conE s xs ac = 100 := by unfold conE; rw [hop]; rfl
    unfold leadE; rw [hce]; rfl
  unfold wgF
  rw [show nL.F.OK xs = true from hx, show nL.F.CK ac = true from decide_eq_true (by omega), show nL.F.DK s = true from hd, b 0 (by decide) (by decide), b 99 (by decide) (by decide), b 3 (by decide) (by decide), show nL.F.AL xs = true from decide_eq_true (by omega),
    show nL.F.DX s xs ac 0 = doX s xs ac 0 from rfl, d1, show nL.F.OE s xs ac = ovrE s xs ac from rfl, nr_oe h, show nL.F.OP s xs ac = opI s xs ac from rfl, hop, show nL.F.KE s xs ac 9 99 = keI s xs ac 9 99 from rfl, nr_ke h,
    show nL.F.AX s xs ac 0 3 = (acI s xs ac 0 3).e from rfl, nr_ac h, show nL.LE s xs ac = leadE s xs ac from rfl, hle, show nL.F.RG s xs ac = rgtI s xs ac from rfl, h, show nL.F.DL s xs ac 0 = doL s xs ac 0 from rfl, d2, show nL.F.DS s xs ac 0 = doC s xs ac 0 from rfl, d3]
  rfl
theorem wgCd : codesB [(wiB, wiB)] = true := by rw [codesB_iff]; intro x hx; simp at hx; rw [hx]
theorem ke_seat {s : CD} {xs ac : List Int} {y x : Int} (h : rgtI s xs ac = true) (hy : 3 < y) : keI s xs ac y x = 2 := by unfold keI; rw [h, decide_eq_true hy]; rfl
theorem rf_call {s : CD} {xs ac : List Int} {y x : Int} (h : rgtI s xs ac = true) (hy : y ≤ 3) (hx : 37 < x) : rfX s xs ac y x = 80 := by
  have : keI s xs ac y x = 80 := by unfold keI; rw [h, decide_eq_false (show ¬ 3 < y by omega), decide_eq_false (show ¬ x ≤ 37 by omega)]; rfl
  unfold rfX; rw [this]; rfl
theorem w0_lt {n : Int} (h : 0 ≤ n ∧ n < 256) : 3 < wr .u8 (4 + n.tmod 252) ∧ 0 ≤ wr .u8 (4 + n.tmod 252) ∧ wr .u8 (4 + n.tmod 252) < 256 := by
  rw [Int.tmod_eq_emod_of_nonneg h.1, wr_u8_id (by omega)]; omega
theorem w1_lt {n : Int} (h : 0 ≤ n ∧ n < 256) : 37 < wr .u8 (38 + n.tmod 218) ∧ 0 ≤ wr .u8 (38 + n.tmod 218) ∧ wr .u8 (38 + n.tmod 218) < 256 := by
  rw [Int.tmod_eq_emod_of_nonneg h.1, wr_u8_id (by omega)]; omega
theorem w5_lt {n : Int} (h : 0 ≤ n ∧ n < 256) : 100 < wr .i64 (101 + wr .i64 n) := by
  rw [wr64 (n := n) (by omega) (by omega), wr64 (by omega) (by omega)]; omega
theorem w6_lt {n : Int} (h : 0 ≤ n ∧ n < 256) : 38 < wr .u8 (39 + n.tmod 217) := by
  rw [Int.tmod_eq_emod_of_nonneg h.1, wr_u8_id (by omega)]; omega
theorem w7_lt {n : Int} (h : 0 ≤ n ∧ n < 256) : 15 < wr .u8 (16 + n.tmod 240) := by
  rw [Int.tmod_eq_emod_of_nonneg h.1, wr_u8_id (by omega)]; omega
theorem w4_is {n : Int} {xs : List Int} (h : 0 ≤ n ∧ n < 256) (hx : xs.length ≤ 1000) : wr .i64 (Int.ofNat xs.length + wr .i64 n) = (xs.length : Int) + n := by
  rw [wr64 (n := n) (by omega) (by omega)]
  exact wr64 (show _ ≤ (xs.length : Int) + n by omega) (show (xs.length : Int) + n < _ by omega)
theorem wgS_true {s : CD} {xs ac : List Int} (h : RC s xs ac) (hl : xs.length ≤ 160) {n k : Int} (hn : 0 ≤ n ∧ n < 256) (hkn : k.toNat < 4) {v : Int} (hw8 : v = 0 ∨ v = 1 ∨ v = 2 ∨ v = 3 ∨ v = 4 ∨ v = 5 ∨ v = 6 ∨ v = 7) :
    wgF nL (wiS n k v s) (wiL n v xs) (wiA n v xs ac) = some (.bool true) := by
  have hal := h.gc.len
  have hok := h.ok (by omega)
  have hdk := h.dk
  obtain ⟨hxl, hxu⟩ := okL_iff.1 hok
  have x1 : xs.length ≤ 1000 := by omega
  have a1 : ac.length ≤ 1000 := by omega
  rcases hw8 with rfl | rfl | rfl | rfl | rfl | rfl | rfl | rfl
  · exact wgF_true (bad_d (w0_lt hn).1) hok x1 a1 (decide_eq_true (w0_lt hn).2)
  · exact wgF_true (s := s) (xs := xs ++ [wr .u8 (38 + n.tmod 218)]) (ac := ac) (h.bad_call (by omega) (w1_lt hn).1) (okL_snoc hxu (by omega) (w1_lt hn).2) (by rw [List.length_append]; show xs.length + 1 ≤ 1000; omega) a1 hdk
  · refine wgF_true (s := s) (xs := xs ++ [0, 0, 0, 0, 0]) (ac := ac) (h.bad_passes (by omega)) (okL_iff.2 ⟨by rw [List.length_append]; show xs.length + 5 ≤ 100000; omega, ?_⟩) (by rw [List.length_append]; show xs.length + 5 ≤ 1000; omega) a1 hdk
    rw [allU_iff] at hxu ⊢
    intro c hc
    rcases List.mem_append.1 hc with hc | hc
    · exact hxu c hc
    · simp at hc; omega
  · exact wgF_true (s := s) (xs := xs ++ [0]) (ac := ac ++ [(xs.length : Int)]) h.bad_pass (okL_snoc hxu (by omega) (by omega)) (by rw [List.length_append]; show xs.length + 1 ≤ 1000; omega) (by rw [List.length_append]; show ac.length + 1 ≤ 1000; omega) hdk
  · have e : wiA n 4 xs ac = ac ++ [(xs.length : Int) + n] := congrArg (fun z => ac ++ [z]) (w4_is hn x1)
    rw [e]
    exact wgF_true (s := s) (xs := xs) (h.bad_acc hn.1) hok x1 (by rw [List.length_append]; show ac.length + 1 ≤ 1000; omega) hdk
  · exact wgF_true (s := s.setP (wr .i64 (101 + wr .i64 n)) k.toNat) (xs := xs) (ac := ac) (bad_p hkn (w5_lt hn)) hok x1 a1 hdk
  · exact wgF_true (s := s.setA (wr .u8 (39 + n.tmod 217)) k.toNat) (xs := xs) (ac := ac) (bad_a hkn (w6_lt hn)) hok x1 a1 hdk
  · exact wgF_true (s := s.setF (wr .u8 (16 + n.tmod 240)) k.toNat) (xs := xs) (ac := ac) (bad_f hkn (w7_lt hn)) hok x1 a1 hdk
theorem wgE_of {N : NL} {U : NWi} {n w : Int} {s : CD} {xs ac : List Int} (h1 : N.F.OK xs = true) (h2 : N.F.DK s = true) (h3 : N.F.BY 0 = true) (h4 : N.F.KE s xs ac (wr .u8 (4 + n.tmod 252)) 0 = 2) (h5 : N.F.CK ac = true) (h6 : N.F.BY (wr .u8 (38 + n.tmod 218)) = true) (h7 : N.F.BY (n.tmod 4) = true)
    (h8 : N.F.RX s xs ac (n.tmod 4) (wr .u8 (38 + n.tmod 218)) = 80) (h9 : U.C n (n.tmod 4) (w.tmod 8) s xs ac = true) : wgE N U n w s xs ac = wgF N (U.S n (n.tmod 4) (w.tmod 8) s) (U.L n (w.tmod 8) xs) (U.A n (w.tmod 8) xs ac) := by
  unfold wgE
  rw [h1, h2, h3, h4, h5, h6, h7, h8, h9, wgCd]; rfl
theorem wgE_true {s : CD} {xs ac : List Int} (h : RC s xs ac) (ho : HO s xs) (hl : xs.length ≤ 160) {w n : Int} (hy : 0 ≤ w) (hn : 0 ≤ n ∧ n < 256) : wgE nL nWi n w s xs ac = some (.bool true) := by
  have hrg := h.right ho (by omega)
  have hal := h.gc.len
  have hok := h.ok (by omega)
  have hdk := h.dk
  have e3 : n.tmod 4 = n % 4 := Int.tmod_eq_emod_of_nonneg hn.1
  have e6 : w.tmod 8 = w % 8 := Int.tmod_eq_emod_of_nonneg hy
  have hk4 : n.tmod 4 = 0 ∨ n.tmod 4 = 1 ∨ n.tmod 4 = 2 ∨ n.tmod 4 = 3 := by omega
  have hw8 : w.tmod 8 = 0 ∨ w.tmod 8 = 1 ∨ w.tmod 8 = 2 ∨ w.tmod 8 = 3 ∨ w.tmod 8 = 4 ∨ w.tmod 8 = 5 ∨ w.tmod 8 = 6 ∨ w.tmod 8 = 7 := by omega
  have hkn : (n.tmod 4).toNat < 4 := by omega
  have z0 := w0_lt hn
  have z1 := w1_lt hn
  have hC : nWi.C n (n.tmod 4) (w.tmod 8) s xs ac = true := decide_eq_true ⟨hn, hk4, hw8, by omega, by omega⟩
  have key := wgS_true h hl hn hkn hw8
  have c1 : nL.F.CK ac = true := decide_eq_true (by omega)
  have b1 : nL.F.BY (n.tmod 4) = true := by_of (by omega)
  have b2 : nL.F.BY (wr .u8 (38 + n.tmod 218)) = true := by_of (by omega)
  have ke : nL.F.KE s xs ac (wr .u8 (4 + n.tmod 252)) 0 = 2 := ke_seat hrg z0.1
  have rx : nL.F.RX s xs ac (n.tmod 4) (wr .u8 (38 + n.tmod 218)) = 80 := rf_call hrg (by omega) z1.1
  exact (wgE_of hok hdk (show nL.F.BY 0 = true from by_of (v := 0) (by omega)) ke c1 b2 b1 rx hC).trans key
theorem wrong_true {d w n : Int} {ws : List Int} (hd : 0 ≤ d) (hw : okW ws = true) (hy : 0 ≤ w) (hn : 0 ≤ n ∧ n < 256) : topFn Try.prog (orcV nL) noLoops 100 (wiBB nWi) 7 Try.f7 [.int .u8 d, .gs 0, .int .u8 w, .int .u8 n] (actsH false ws) (fun v _ => some v) = some (.bool true) := by
  have key := wrong_eval nL nWi d w n ws
  have ok1 : nL.M.OK d ws = true := by show (decide (0 ≤ d) && okW ws) = true; rw [decide_eq_true hd, hw]; rfl
  rw [ok1, cond_true] at key
  rw [key]
  obtain ⟨⟨h, ho, hl⟩, _⟩ := made_ok hd hw
  exact wgE_true h ho hl hy hn
end Go.Proofs.Ytojlmpcbplepcaa
