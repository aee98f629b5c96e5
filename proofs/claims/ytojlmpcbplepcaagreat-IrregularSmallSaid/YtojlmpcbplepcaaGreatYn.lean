/- Texts merged: Yn, Yo. -/
import Derived.Test.YtojlmpcbplepcaaGreatYc0
import Derived.Test.YtojlmpcbplepcaaGreatEng5
/- Chapter 10: the law tells: its contracts hold; its oracle. -/
namespace Go.Proofs.YtojlmpcbplepcaaGreat
open Go Go.Eng
theorem and_ok {a b : Bool} (h : (a && b) = true) : a = true ∧ b = true := by simpa only [Bool.and_eq_true] using h
theorem hTl_ok (de re : Bool) : HTabOk Tryz.prog (hTl nTl de re) := by
  refine addH_ok (gC0_ok (.of Tryz.func12 (by kernel_rfl)) fun n1 n2 s xs ac h => ?_) (addH_ok (gC0_ok (.of Tryz.func14 (by kernel_rfl)) fun n1 n2 s xs ac h => ?_) (addH_ok (gC0_ok (.of Tryz.func16 (by kernel_rfl)) fun n1 n2 s xs ac h => ?_) (addH_ok (gC2_ok (.of Tryz.func18 (by kernel_rfl)) fun n1 n2 s xs ac y x h => ?_)
    (addH_ok (gC0_ok (.of Tryz.func20 (by kernel_rfl)) fun n1 n2 s xs ac h => ?_) (addH_ok (gC0_ok (.of Tryz.func22 (by kernel_rfl)) fun n1 n2 s xs ac h => ?_) (addH_ok (gC0_ok (.of Tryz.func24 (by kernel_rfl)) fun n1 n2 s xs ac h => ?_) (addH_ok (gC1_ok (.of Tryz.func28 (by kernel_rfl)) fun n1 n2 s xs ac x h => ?_)
    (addH_ok (gC2_ok (.of Tryz.func32 (by kernel_rfl)) fun n1 n2 s xs ac y x h => ?_) (addH_ok (gC2_ok (.of Tryz.func36 (by kernel_rfl)) fun n1 n2 s xs ac y x h => ?_)
    (addH_ok (gC0_ok (.of Tryz.func13 (by kernel_rfl)) fun n1 n2 s xs ac h => ?_) (addH_ok (gC0_ok (.of Tryz.func15 (by kernel_rfl)) fun n1 n2 s xs ac h => ?_) (addH_ok (gC0_ok (.of Tryz.func17 (by kernel_rfl)) fun n1 n2 s xs ac h => ?_) (addH_ok (gC2_ok (.of Tryz.func19 (by kernel_rfl)) fun n1 n2 s xs ac y x h => ?_)
    (addH_ok (gC0_ok (.of Tryz.func21 (by kernel_rfl)) fun n1 n2 s xs ac h => ?_) (addH_ok (gC0_ok (.of Tryz.func23 (by kernel_rfl)) fun n1 n2 s xs ac h => ?_) (addH_ok (gC0_ok (.of Tryz.func25 (by kernel_rfl)) fun n1 n2 s xs ac h => ?_) (addH_ok (gC1_ok (.of Tryz.func30 (by kernel_rfl)) fun n1 n2 s xs ac x h => ?_)
    (addH_ok (gC2_ok (.of Tryz.func34 (by kernel_rfl)) fun n1 n2 s xs ac y x h => ?_) (addH_ok (gC2_ok (.of Tryz.func38 (by kernel_rfl)) fun n1 n2 s xs ac y x h => ?_) (addH_ok ?_ (addH_ok g24_ok emptyH_ok)))))))))))))))))))))
  · obtain ⟨h1, h2, h3, h4⟩ := cTl_ok h
    exact (List.append_nil _).symm ▸ over16_fn n1 n2 h1
  · obtain ⟨h1, h2, h3, h4⟩ := cTl_ok h
    exact (List.append_nil _).symm ▸ turn14_fn n1 n2 h1
  · obtain ⟨h1, h2, h3, h4⟩ := cTl_ok h
    exact legal18_fn n1 n2 h1 (crB_dk h4)
  · obtain ⟨h0, hy⟩ := and_ok h
    obtain ⟨h1, h2, h3, h4⟩ := cTl_ok h0
    exact (List.append_nil _).symm ▸ kind11_fn n1 n2 y h1 (crB_dk h4) (and_ok hy).2
  · obtain ⟨h1, h2, h3, h4⟩ := cTl_ok h
    exact (List.append_nil _).symm ▸ contract23_fn n1 n2 h1
  · obtain ⟨h1, h2, h3, h4⟩ := cTl_ok h
    exact (List.append_nil _).symm ▸ lead26_fn n1 n2 h1
  · obtain ⟨h1, h2, h3, h4⟩ := cTl_ok h
    exact (List.append_nil _).symm ▸ right17_fn n1 n2 h1
  · obtain ⟨h0, hx⟩ := and_ok h
    obtain ⟨h1, h2, h3, h4⟩ := cTl_ok h0
    exact do15_fn n1 n2 h1 h3 (crB_dk h4) hx
  · obtain ⟨h0, hy⟩ := and_ok h
    obtain ⟨h1, h2, h3, h4⟩ := cTl_ok h0
    exact accept12_fn n1 n2 h1 h3 (crB_dk h4) (and_ok hy).2 (by_rg (and_ok hy).1).1 h2
  · obtain ⟨h0, hy⟩ := and_ok h
    obtain ⟨h1, h2, h3, h4⟩ := cTl_ok h0
    exact refuse13_fn n1 n2 h1 h3 (crB_dk h4) (and_ok hy).2 (by_rg (and_ok hy).1).1
  · obtain ⟨h1, h2, h3, h4⟩ := cTl_ok h
    exact f81 n1 n2 h1 h3 (crB_dk h4)
  · obtain ⟨h1, h2, h3, h4⟩ := cTl_ok h
    exact f73 n1 n2 h1 h3 (crB_dk h4)
  · obtain ⟨h1, h2, h3, h4⟩ := cTl_ok h
    exact f74 n1 n2 h1 h3 h4
  · obtain ⟨h0, hy⟩ := and_ok h
    obtain ⟨h1, h2, h3, h4⟩ := cTl_ok h0
    exact f82 n1 n2 h1 h3 h4 (and_ok hy).1 (and_ok hy).2
  · obtain ⟨h1, h2, h3, h4⟩ := cTl_ok h
    exact f83 n1 n2 h1 h3 (crB_dk h4)
  · obtain ⟨h1, h2, h3, h4⟩ := cTl_ok h
    exact f84 n1 n2 h1 h3 (crB_dk h4)
  · obtain ⟨h1, h2, h3, h4⟩ := cTl_ok h
    exact f85 n1 n2 h1 h3 (crB_dk h4)
  · cases de with
    | true =>
      obtain ⟨h0, hx⟩ := and_ok h
      obtain ⟨h1, h2, h3, h4⟩ := cTl_ok h0
      obtain ⟨hx1, hx2⟩ := and_ok hx
      exact f75e n1 n2 h1 h3 h4 hx1 (fun he => by rw [show nTl.DX s xs ac x = doX s xs ac x from rfl, he] at hx2; cases hx2)
    | false =>
      obtain ⟨h0, hx⟩ := and_ok h
      obtain ⟨h1, h2, h3, h4⟩ := cTl_ok h0
      obtain ⟨hx1, hx2⟩ := and_ok hx
      exact f75k n1 n2 h1 h3 h4 hx1 (of_decide_eq_true hx2)
  · obtain ⟨h0, hy⟩ := and_ok h
    obtain ⟨h1, h2, h3, h4⟩ := cTl_ok h0
    exact f76 n1 n2 h1 h3 h4 (and_ok hy).1 (and_ok hy).2
  · cases re with
    | true =>
      obtain ⟨h0, hx⟩ := and_ok h
      obtain ⟨h1, h2, h3, h4⟩ := cTl_ok h0
      obtain ⟨hx1, hx2⟩ := and_ok hx
      exact f77e n1 n2 h1 h3 h4 (and_ok hx1).1 (and_ok hx1).2 (fun he => by rw [show nTl.RX s xs ac y x = rfX s xs ac y x from rfl, he] at hx2; cases hx2)
    | false =>
      obtain ⟨h0, hx⟩ := and_ok h
      obtain ⟨h1, h2, h3, h4⟩ := cTl_ok h0
      obtain ⟨hx1, hx2⟩ := and_ok hx
      exact f77k n1 n2 h1 h3 h4 (and_ok hx1).1 (and_ok hx1).2 (of_decide_eq_true hx2)
  · intro args hp c v nb hq hc
    unfold g92 at hq
    split at hq
    · split at hq
      · rename_i s t hs ht
        cases hq
        obtain ⟨rfl, rfl, rfl, h1, h2⟩ := pB_iff.1 hc
        rw [ofCrs_ok hs, ofCrs_ok ht]
        exact ⟨.of Tryz.func39 (by kernel_rfl), f92 _ _ _ _ h1 h2⟩
      · cases hq
    · cases hq
def hLt (T : NTl) : HTab := addH 9 (g78 T .u8 5 T.MB) (addH 10 (g78 T .i64 3 T.MI) emptyH)
theorem hLt_ok : HTabOk Tryz.prog (hLt nTl) := by
  refine addH_ok ?_ (addH_ok ?_ emptyH_ok)
  · intro args hp c v nb hq hc
    unfold g78 at hq
    split at hq
    · split at hq
      · rename_i hk
        cases hq
        rw [of_decide_eq_true hk]
        exact ⟨.of Tryz.func9 (by kernel_rfl), f78 _ (of_decide_eq_true hc)⟩
      · cases hq
    · cases hq
  · intro args hp c v nb hq hc
    unfold g78 at hq
    split at hq
    · split at hq
      · rename_i hk
        cases hq
        rw [of_decide_eq_true hk]
        exact ⟨.of Tryz.func10 (by kernel_rfl), f79 _ (of_decide_eq_true hc)⟩
      · cases hq
    · cases hq
def hKp (T : NTl) : HTab := addH 42 (gKept T.KB) (addH 43 (gKeptJ T.KI) emptyH)
theorem hKp_ok : HTabOk Tryz.prog (hKp nTl) := by
  refine addH_ok ?_ (addH_ok ?_ emptyH_ok)
  · intro args h c v nb hq hc
    unfold gKept at hq
    split at hq
    · cases hq
      simp only [Bool.and_eq_true, decide_eq_true_eq] at hc
      exact ⟨.of Tryz.func42 (by kernel_rfl), by rw [List.append_nil]; exact kept_fn _ _ hc.1 hc.2⟩
    · cases hq
  · intro args h c v nb hq hc
    unfold gKeptJ at hq
    split at hq
    · cases hq
      simp only [Bool.and_eq_true, decide_eq_true_eq] at hc
      exact ⟨.of Tryz.func43 (by kernel_rfl), by rw [List.append_nil]; exact kept_fnJ _ _ hc.1 hc.2⟩
    · cases hq
def oBoth : PTabO := fun f => bif Nat.beq f 40 then oTab f else oTabJ f
theorem oBoth_ok : PTabOOk Tryz.prog oBoth := by
  intro f ty sz hf
  unfold oBoth at hf
  cases hb : Nat.beq f 40 with
  | true => rw [hb] at hf; exact oTab_ok f ty sz hf
  | false => rw [hb] at hf; exact oTab_okJ f ty sz hf
def isLt : FuncId → Bool := fun f => Nat.beq f 9 || Nat.beq f 10
def isKp : FuncId → Bool := fun f => Nat.beq f 42 || Nat.beq f 43
def isOv : FuncId → Bool := fun f => Nat.beq f 40 || Nat.beq f 41
def isSh : FuncId → Bool := fun f => Nat.beq f 30 || Nat.beq f 38
def domTl : FuncId → Bool := fun f => isLt f || (isKp f || (isOv f || ((Nat.beq f 18 || (Nat.beq f 32 || (Nat.beq f 36 || (Nat.beq f 14 || (Nat.beq f 28 || (Nat.beq f 12 || (Nat.beq f 24 || (Nat.beq f 16)))))))) || (Nat.beq f 20 || (Nat.beq f 26 || (Nat.beq f 22 || ((Nat.beq f 15 || (Nat.beq f 17 || (Nat.beq f 30 || (Nat.beq f 34 || (Nat.beq f 38))))) || ((Nat.beq f 13 || (Nat.beq f 19 || (Nat.beq f 21 || (Nat.beq f 23 || (Nat.beq f 25))))) || Nat.beq f 39))))))))
def nrKp : FuncId → Option Row := fun f => bif Nat.beq f 42 then some (.ints .u8 []) else some (.ints .i64 [])
def nrLt : FuncId → Option Row := fun f => bif Nat.beq f 9 then some (.ints .u8 []) else some (.ints .i64 [])
noncomputable abbrev orcTl (T : NTl) (de re : Bool) : Oracle := inl Tryz.prog ftab emptyTab plainL 100 never domTl (orElse isLt (hOrcV nrLt (hLt T)) (orElse isKp (wholeOrc nrKp (hKp T)) (orElse isOv (overOrcT oBoth) (orElse isSh (hOrcS nrY (hTl T de re)) (hOrcX nrY (hTl T de re)))))) 20
theorem orcTl_ok (de re : Bool) : OracleOk Tryz.prog (orcTl nTl de re) := inl_ok (orElse_ok (hOrcV_ok hLt_ok) (orElse_ok (wholeOrc_ok hKp_ok) (orElse_ok (overOrcT_ok oBoth_ok) (orElse_ok (hOrcS_ok (hTl_ok de re)) (hOrcX_ok (hTl_ok de re)))))) ftab_ok emptyTab_ok plainL_ok mixed 20
end Go.Proofs.YtojlmpcbplepcaaGreat

/- Chapter 10: the law tells: its formula. -/
namespace Go.Proofs.YtojlmpcbplepcaaGreat
open Go Go.Eng
noncomputable def tlF : Option V := some (.bool false)
section
variable (T : NTl) (s : CD) (xs ac : List Int) (y x : Int)
noncomputable def tlP (c c' : Bool) (Z : Option V) : Option V := bif decide (0 + xs.length ≤ (xs ++ T.MB).length) then bif decide (0 + ac.length ≤ (ac ++ T.MI).length) then bif c then bif c' then Z else none else none else none else none
noncomputable def tlN (c : Bool) (Z : Option V) : Option V := bif !c then tlF else Z
noncomputable def tlS (e : Bool) (a b : CD) (ys bc ys2 bc2 : List Int) (Z : Option V) : Option V := bif !e then tlF else bif T.SM a b ys bc ys2 bc2 then bif decide (ys.length ≤ 70368744177664) then bif decide (bc.length ≤ 70368744177664) then Z else none else none else none
noncomputable def tlC (XS AC : List Int) (Z : Option V) : Option V :=
  tlN (bif T.RG s XS AC then T.RG s xs ac else !T.RG s xs ac) (tlN (bif T.OB s XS AC then T.OB s xs ac else !T.OB s xs ac) (tlN (decide (T.TV s XS AC = T.TV s xs ac)) (bif T.S.MI (T.LV s XS AC) then tlN (T.S.EQ (T.LV s XS AC) (T.LV s xs ac)) (tlN (decide (T.KV s XS AC y x = T.KV s xs ac y x))
    (tlN (decide ((T.CQ s XS AC).a = (T.CQ s xs ac).a) && (decide ((T.CQ s XS AC).b = (T.CQ s xs ac).b) && (decide ((T.CQ s XS AC).c = (T.CQ s xs ac).c) && (decide ((T.CQ s XS AC).d = (T.CQ s xs ac).d) && true))))
      (tlN (decide (T.VV s XS AC = T.VV s xs ac)) (tlN (decide (T.OE s XS AC = T.OE s xs ac)) (tlN (decide (T.OP s XS AC = T.OP s xs ac)) (tlN (decide (T.OP s XS AC = T.OP s xs ac)) (tlN (decide (T.KE s XS AC y x = T.KE s xs ac y x)) (tlN (decide (T.CE s XS AC = T.CE s xs ac)) (tlN (decide (T.VE s XS AC = T.VE s xs ac)) Z)))))))))
    else none)))
noncomputable def tlE : Option V := bif T.KB (xs ++ T.MB) xs && decide (xs.length = xs.length) then bif T.KI (ac ++ T.MI) ac && decide (ac.length = ac.length) then some (.bool true) else none else none
noncomputable def tlR (re : Bool) (XS AC : List Int) : Option V := match re with
  | false => tlP T xs ac (T.C s XS AC && (T.BY y && T.BY x)) (T.C s xs ac && ((T.BY y && T.BY x) && decide (T.RX s xs ac y x = 0))) (tlS T (decide (T.RX s XS AC y x = 0)) (T.RC s XS AC y x) (T.RC s xs ac y x) (T.RL s XS AC y x) (T.RK s XS AC y x) xs ac (tlE T xs ac))
  | true => tlP T xs ac (T.C s XS AC && (T.BY y && T.BY x)) (T.C s xs ac && ((T.BY y && T.BY x) && !decide (T.RX s xs ac y x = 0))) (tlS T (decide (T.RX s XS AC y x = T.RX s xs ac y x)) (T.RC s XS AC y x) c0 (T.RL s XS AC y x) (T.RK s XS AC y x) [] [] (tlE T xs ac))
noncomputable def tlA (re : Bool) (XS AC : List Int) : Option V := tlP T xs ac (T.C s XS AC && (T.BY y && T.BY x)) (T.C s xs ac && (T.BY y && T.BY x)) (tlS T (decide ((T.AR s XS AC y x).e = (T.AR s xs ac y x).e)) (T.AR s XS AC y x).s (T.AR s xs ac y x).s (T.AR s XS AC y x).ys (T.AR s XS AC y x).bc (T.AR s xs ac y x).ys (T.AR s xs ac y x).bc
  (tlR T s xs ac y x re XS AC))
noncomputable def tlD (de re : Bool) (XS AC : List Int) : Option V := match de with
  | false => tlP T xs ac (T.C s XS AC && T.BY x) (T.C s xs ac && (T.BY x && decide (T.DX s xs ac x = 0))) (tlS T (decide (T.DX s XS AC x = 0)) (T.DC s XS AC x) (T.DC s xs ac x) (T.DL s XS AC x) (T.DK s XS AC x) (T.DL s xs ac x) ac (tlA T s xs ac y x re XS AC))
  | true => tlP T xs ac (T.C s XS AC && T.BY x) (T.C s xs ac && (T.BY x && !decide (T.DX s xs ac x = 0))) (tlS T (decide (T.DX s XS AC x = T.DX s xs ac x)) (T.DC s XS AC x) c0 (T.DL s XS AC x) (T.DK s XS AC x) [] [] (tlA T s xs ac y x re XS AC))
noncomputable def tlX (de re : Bool) (XS AC : List Int) : Option V :=
  tlP T xs ac (T.C s XS AC) (T.C s xs ac) (tlP T xs ac (T.C s XS AC) (T.C s xs ac) (tlP T xs ac (T.C s XS AC) (T.C s xs ac) (tlP T xs ac (T.C s XS AC && (T.BY y && T.BY x)) (T.C s xs ac && (T.BY y && T.BY x))
    (tlP T xs ac (T.C s XS AC) (T.C s xs ac) (tlP T xs ac (T.C s XS AC) (T.C s xs ac) (tlP T xs ac (T.C s XS AC) (T.C s xs ac) (tlC T s xs ac y x XS AC (tlD T s xs ac y x de re XS AC))))))))
noncomputable def tlAll (de re : Bool) : Option V := bif T.LT xs then bif T.LT ac then tlX T s xs ac y x de re (List.take xs.length (List.drop 0 (xs ++ T.MB))) (List.take ac.length (List.drop 0 (ac ++ T.MI))) else none else none
noncomputable abbrev evTl (de re : Bool) : Option V := evalFn Tryz.prog (orcTl T de re) noLoops 100 4 Tryz.f4 [.agg (s.vs (.gs 0) (.gs 1)), .int .u8 y, .int .u8 x] (crsH false false xs ac) (fun v _ => some v)
end
end Go.Proofs.YtojlmpcbplepcaaGreat
