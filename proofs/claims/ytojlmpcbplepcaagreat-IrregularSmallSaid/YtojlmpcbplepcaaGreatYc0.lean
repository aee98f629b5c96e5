/- Texts merged: Yc0, Yl, Ym0, Ym. -/
import Derived.Test.YtojlmpcbplepcaaGreatYi
import Derived.Test.YtojlmpcbplepcaaGreatEng5
import Derived.Test.YtojlmpcbplepcaaGreatLe
/- Chapter 10: the law's same: what it is walked with. -/
namespace Go.Proofs.YtojlmpcbplepcaaGreat
open Go Go.Eng
structure NSm where
  MI : List Int → Bool
  EQ : List Int → List Int → Bool
def nSm : NSm := ⟨fun xs => decide (xs.length ≤ 1000000), eqI⟩
def g24 (S : NSm) : CH
  | [.gs 0, .gs 1], [.rs _ 1 (.ints .u8 xs), .rs _ 1 (.ints .u8 ys)] => some (S.MI xs, .bool (S.EQ xs ys), [])
  | _, _ => none
def g25 (S : NSm) : CH
  | [.gs 0, .gs 1], [.rs _ 1 (.ints .i64 xs), .rs _ 1 (.ints .i64 ys)] => some (S.MI xs, .bool (S.EQ xs ys), [])
  | _, _ => none
theorem g24_ok : cOk 26 (g24 nSm) := by
  intro args hp c v nb hq hc
  unfold g24 at hq
  split at hq
  · cases hq
    exact ⟨.of Tryz.func26 (by kernel_rfl), sb_fn _ _ (of_decide_eq_true hc)⟩
  · cases hq
theorem g25_ok : cOk 88 (g25 nSm) := by
  intro args hp c v nb hq hc
  unfold g25 at hq
  split at hq
  · cases hq
    exact ⟨.of Tryz.func88 (by kernel_rfl), si_fn _ _ (of_decide_eq_true hc)⟩
  · cases hq
def nrY : FuncId → Nat → Option Row := fun f i => match f with
  | 88 | 41 | 43 | 10 => some (.ints .i64 [])
  | 26 | 40 | 42 | 9 => some (.ints .u8 [])
  | _ => match i with
    | 1 => some (.ints .i64 [])
    | 3 => some (.ints .i64 [])
    | _ => some (.ints .u8 [])
def d92 : FuncId → Bool := fun f => Nat.beq f 26 || Nat.beq f 88
def h92 (S : NSm) : HTab := addH 26 (g24 S) (addH 88 (g25 S) emptyH)
theorem h92_ok : HTabOk Tryz.prog (h92 nSm) := addH_ok g24_ok (addH_ok g25_ok emptyH_ok)
noncomputable abbrev orcSm (S : NSm) : Oracle := inl Tryz.prog ftab emptyTab plainL 100 never d92 (hOrcX nrY (h92 S)) 20
theorem orcSm_ok : OracleOk Tryz.prog (orcSm nSm) := inl_ok (hOrcX_ok h92_ok) ftab_ok emptyTab_ok plainL_ok mixed 20
def smH (ys bc ys2 bc2 : List Int) : List Blk := [.rs false 1 (.ints .u8 ys), .rs false 1 (.ints .i64 bc), .rs false 1 (.ints .u8 ys2), .rs false 1 (.ints .i64 bc2)]
end Go.Proofs.YtojlmpcbplepcaaGreat

/- Chapter 10: LentBytes, LentInts: their contracts. -/
namespace Go.Proofs.YtojlmpcbplepcaaGreat
open Go Go.Eng
def ltT (ty : TypeId) (k : IntKind) : Tm := ⟨[some (.view 1 1)], [.rs false 1 (.ints k), .grow true ty 1 (.ints k)], []⟩
noncomputable def lentE (w : Nat) (MB : Int → Int → Int) : Nat → Int → List Int → (List Int → AN) → AN
  | 0, _, l, Z => Z l
  | n + 1, i, l, Z => bif decide ((l ++ [MB 1 i]).length * w ≤ 70368744177664) then lentE w MB n (wr .i64 (i + 1)) (l ++ [MB 1 i]) Z else none
noncomputable def lent78 (w : Nat) (MB : Int → Int → Int) (xs : List Int) : AN := bif decide (0 ≤ (0 : Int) ∧ 0 ≤ wr .i64 (Int.ofNat xs.length + 12) ∧ wr .i64 (Int.ofNat xs.length + 12) * w ≤ 140737488355328) then bif decide (xs.length * w ≤ 70368744177664) then
  lentE w MB 12 0 xs (fun ws => bif decide (0 ≤ (0 : Int) ∧ 0 ≤ Int.ofNat xs.length ∧ Int.ofNat xs.length ≤ Int.ofNat ws.length) then some ([.n 0, .n ((Int.ofNat xs.length).toNat - 0), .l xs, .l ws], []) else none) else none else none
theorem lent78_eval (MB : Int → Int → Int) (xs : List Int) : evalFn Tryz.prog (orcE (tabMb MB) plainL) noLoops 100 9 Tryz.f9 [.gs 0] [.rs false 1 (.ints .u8 xs)] (ansT (ltT 5 .u8) 1) = lent78 2 MB xs := by kernel_rfl
theorem lent79_eval (MB : Int → Int → Int) (xs : List Int) : evalFn Tryz.prog (orcE (tabMbJ MB) plainL) noLoops 100 10 Tryz.f10 [.gs 0] [.rs false 1 (.ints .i64 xs)] (ansT (ltT 3 .i64) 1) = lent78 9 MB xs := by kernel_rfl
def marksN (MB : Int → Int → Int) : Nat → Nat → List Int
  | 0, _ => []
  | n + 1, i => MB 1 (i : Int) :: marksN MB n (i + 1)
theorem lentE_is {w : Nat} (hw : w ≤ 9) {MB : Int → Int → Int} {Z : List Int → AN} : ∀ (n i : Nat) (l : List Int), l.length + n ≤ 1000000 → i + n ≤ 1000 → lentE w MB n (i : Int) l Z = Z (l ++ marksN MB n i)
  | 0, i, l, _, _ => by simp [lentE, marksN]
  | n + 1, i, l, h1, h2 => by
    unfold lentE
    have hl : (l ++ [MB 1 (i : Int)]).length = l.length + 1 := by simp
    have hm : (l.length + 1) * w ≤ (l.length + 1) * 9 := Nat.mul_le_mul_left _ hw
    rw [hl, decide_eq_true (show (l.length + 1) * w ≤ 70368744177664 by omega), cond_true, show wr .i64 ((i : Int) + 1) = ((i + 1 : Nat) : Int) by rw [wr64 (by omega) (by omega)]; omega,
      lentE_is hw n (i + 1) _ (by rw [hl]; omega) (by omega)]
    simp [marksN]
theorem lent78_is {w : Nat} (h0 : w = 2 ∨ w = 9) {MB : Int → Int → Int} {xs : List Int} (h : xs.length ≤ 900000) : lent78 w MB xs = some ([.n 0, .n xs.length, .l xs, .l (xs ++ marksN MB 12 0)], []) := by
  have hof : Int.ofNat xs.length = (xs.length : Int) := rfl
  unfold lent78
  have e := lentE_is (w := w) (by omega) (MB := MB) (Z := fun ws => bif decide (0 ≤ (0 : Int) ∧ 0 ≤ (xs.length : Int) ∧ (xs.length : Int) ≤ Int.ofNat ws.length) then some ([PV.n 0, .n (((xs.length : Int)).toNat - 0), .l xs, .l ws], ([] : List (Code × Code))) else none) 12 0 xs (by omega) (by omega)
  rw [hof, wr64 (by omega) (by omega), decide_eq_true (show 0 ≤ (0 : Int) ∧ 0 ≤ (xs.length : Int) + 12 ∧ ((xs.length : Int) + 12) * w ≤ 140737488355328 by rcases h0 with rfl | rfl <;> refine ⟨by omega, by omega, ?_⟩ <;> push_cast <;> omega),
    decide_eq_true (show xs.length * w ≤ 70368744177664 by rcases h0 with rfl | rfl <;> omega)]
  simp only [cond_true]
  refine Eq.trans e ?_
  rw [decide_eq_true (show 0 ≤ (0 : Int) ∧ 0 ≤ (xs.length : Int) ∧ (xs.length : Int) ≤ Int.ofNat (xs ++ marksN MB 12 0).length by refine ⟨by omega, by omega, ?_⟩; show (xs.length : Int) ≤ ((xs ++ marksN MB 12 0).length : Int); rw [List.length_append]; omega)]
  rfl
theorem f78 (nn : Bool) {xs : List Int} (h : xs.length ≤ 900000) : FnOK Tryz.prog 9 [.gs 0] [.rs nn 1 (.ints .u8 xs)] (.view 1 0 1 xs.length) ([.rs nn 1 (.ints .u8 xs)] ++ [.grow true 5 1 (.ints .u8 (xs ++ marks mbV))]) :=
  FnOK.hard (h0 := [.rs false 1 (.ints .u8 xs)]) rfl (fn_ans (T := ltT 5 .u8) (orcE_ok tabMb_ok plainL_ok) mixed Tryz.func9 noLoops_ok (by kernel_rfl) ((lent78_eval mbV xs).trans (lent78_is (.inl rfl) h)) codesNil rfl)
theorem f79 (nn : Bool) {xs : List Int} (h : xs.length ≤ 900000) : FnOK Tryz.prog 10 [.gs 0] [.rs nn 1 (.ints .i64 xs)] (.view 1 0 1 xs.length) ([.rs nn 1 (.ints .i64 xs)] ++ [.grow true 3 1 (.ints .i64 (xs ++ marksJ mbVJ))]) :=
  FnOK.hard (h0 := [.rs false 1 (.ints .i64 xs)]) rfl (fn_ans (T := ltT 3 .i64) (orcE_ok tabMb_okJ plainL_ok) mixed Tryz.func10 noLoops_ok (by kernel_rfl) ((lent79_eval mbVJ xs).trans (lent78_is (.inr rfl) h)) codesNil rfl)
noncomputable def all92 (S : NSm) (s t : CD) (ys bc ys2 bc2 : List Int) : Option V := bif decide (s.d = t.d) then bif S.MI ys then bif S.EQ ys ys2 then bif S.MI bc then bif S.EQ bc bc2 then bif decide (s.p.a = t.p.a) && (decide (s.p.b = t.p.b) && (decide (s.p.c = t.p.c) && (decide (s.p.d = t.p.d) && true))) then
  bif decide (s.a.a = t.a.a) && (decide (s.a.b = t.a.b) && (decide (s.a.c = t.a.c) && (decide (s.a.d = t.a.d) && true))) then bif decide (s.h = t.h) then some (V.bool (decide (s.f.a = t.f.a) && (decide (s.f.b = t.f.b) && (decide (s.f.c = t.f.c) && (decide (s.f.d = t.f.d) && true))))) else some (V.bool false) else some (V.bool false) else some (V.bool false) else some (V.bool false) else none else some (V.bool false) else none else some (V.bool false)
theorem e92 (S : NSm) (s t : CD) (ys bc ys2 bc2 : List Int) : evalFn Tryz.prog (orcSm S) noLoops 100 39 Tryz.f39 [.agg (s.vs (.gs 0) (.gs 1)), .agg (t.vs (.gs 2) (.gs 3))] (smH ys bc ys2 bc2) (fun v _ => some v) = all92 S s t ys bc ys2 bc2 := by kernel_rfl
theorem f92 (n1 n2 n3 n4 : Bool) {s : CD} {ys bc : List Int} (h1 : ys.length ≤ 1000000) (h2 : bc.length ≤ 1000000) : FnOK Tryz.prog 39 [.agg (s.vs (.gs 0) (.gs 1)), .agg (s.vs (.gs 2) (.gs 3))] [.rs n1 1 (.ints .u8 ys), .rs n2 1 (.ints .i64 bc), .rs n3 1 (.ints .u8 ys), .rs n4 1 (.ints .i64 bc)] (.bool true)
    ([.rs n1 1 (.ints .u8 ys), .rs n2 1 (.ints .i64 bc), .rs n3 1 (.ints .u8 ys), .rs n4 1 (.ints .i64 bc)] ++ []) := by
  have key := e92 nSm s s ys bc ys bc
  have hv : all92 nSm s s ys bc ys bc = some (.bool true) := by
    unfold all92
    rw [show nSm.MI ys = true from decide_eq_true h1, show nSm.MI bc = true from decide_eq_true h2, show nSm.EQ ys ys = true from eqI_iff.2 rfl, show nSm.EQ bc bc = true from eqI_iff.2 rfl]
    simp
  obtain ⟨v1, w1, hk, hok⟩ := evalFn_ok orcSm_ok mixed Tryz.func39 noLoops_ok (key.trans hv)
  cases hk
  refine FnOK.hard (h0 := smH ys bc ys bc) rfl (by
    rw [List.append_nil]
    refine hok.plain rfl ?_
    intro b blk hb
    match b, hb with
    | 0, hb => cases hb; rfl
    | 1, hb => cases hb; rfl
    | 2, hb => cases hb; rfl
    | 3, hb => cases hb; rfl
    | _ + 4, hb => simp [smH] at hb)
end Go.Proofs.YtojlmpcbplepcaaGreat

/- Chapter 10: the law tells: its contracts. -/
namespace Go.Proofs.YtojlmpcbplepcaaGreat
open Go Go.Eng
abbrev CA := Bool × V × List Blk
def gC0 (F : CD → List Int → List Int → CA) : CH
  | [.agg l], [.rs _ 1 (.ints .u8 xs), .rs _ 1 (.ints .i64 ac)] => match ofCrs l with
    | some (s, .gs 0, .gs 1) => some (F s xs ac)
    | _ => none
  | _, _ => none
def gC1 (F : CD → List Int → List Int → Int → CA) : CH
  | [.agg l, .int .u8 x], [.rs _ 1 (.ints .u8 xs), .rs _ 1 (.ints .i64 ac)] => match ofCrs l with
    | some (s, .gs 0, .gs 1) => some (F s xs ac x)
    | _ => none
  | _, _ => none
def gC2 (F : CD → List Int → List Int → Int → Int → CA) : CH
  | [.agg l, .int .u8 y, .int .u8 x], [.rs _ 1 (.ints .u8 xs), .rs _ 1 (.ints .i64 ac)] => match ofCrs l with
    | some (s, .gs 0, .gs 1) => some (F s xs ac y x)
    | _ => none
  | _, _ => none
theorem gC0_ok {f : FuncId} {F : CD → List Int → List Int → CA} (he : Enterable Tryz.prog f) (h : ∀ n1 n2 s xs ac, (F s xs ac).1 = true → FnOK Tryz.prog f [.agg (s.vs (.gs 0) (.gs 1))] (crsH n1 n2 xs ac) (F s xs ac).2.1 (crsH n1 n2 xs ac ++ (F s xs ac).2.2)) : cOk f (gC0 F) := by
  intro args hp c v nb hq hc
  unfold gC0 at hq
  split at hq
  · split at hq
    · rename_i s hs
      rw [ofCrs_ok hs]
      have hq := Option.some.inj hq
      have key : ∀ n1 n2 xs ac, F s xs ac = (c, v, nb) → FnOK Tryz.prog f [.agg (s.vs (.gs 0) (.gs 1))] (crsH n1 n2 xs ac) v (crsH n1 n2 xs ac ++ nb) := fun n1 n2 xs ac e => by
        have t := h n1 n2 s xs ac (by rw [e]; exact hc)
        rw [e] at t; exact t
      exact ⟨he, key _ _ _ _ hq⟩
    · cases hq
  · cases hq
theorem gC1_ok {f : FuncId} {F : CD → List Int → List Int → Int → CA} (he : Enterable Tryz.prog f) (h : ∀ n1 n2 s xs ac x, (F s xs ac x).1 = true → FnOK Tryz.prog f [.agg (s.vs (.gs 0) (.gs 1)), .int .u8 x] (crsH n1 n2 xs ac) (F s xs ac x).2.1 (crsH n1 n2 xs ac ++ (F s xs ac x).2.2)) : cOk f (gC1 F) := by
  intro args hp c v nb hq hc
  unfold gC1 at hq
  split at hq
  · split at hq
    · rename_i s hs
      rw [ofCrs_ok hs]
      have hq := Option.some.inj hq
      have key : ∀ n1 n2 xs ac x, F s xs ac x = (c, v, nb) → FnOK Tryz.prog f [.agg (s.vs (.gs 0) (.gs 1)), .int .u8 x] (crsH n1 n2 xs ac) v (crsH n1 n2 xs ac ++ nb) := fun n1 n2 xs ac x e => by
        have t := h n1 n2 s xs ac x (by rw [e]; exact hc)
        rw [e] at t; exact t
      exact ⟨he, key _ _ _ _ _ hq⟩
    · cases hq
  · cases hq
theorem gC2_ok {f : FuncId} {F : CD → List Int → List Int → Int → Int → CA} (he : Enterable Tryz.prog f) (h : ∀ n1 n2 s xs ac y x, (F s xs ac y x).1 = true → FnOK Tryz.prog f [.agg (s.vs (.gs 0) (.gs 1)), .int .u8 y, .int .u8 x] (crsH n1 n2 xs ac) (F s xs ac y x).2.1 (crsH n1 n2 xs ac ++ (F s xs ac y x).2.2)) : cOk f (gC2 F) := by
  intro args hp c v nb hq hc
  unfold gC2 at hq
  split at hq
  · split at hq
    · rename_i s hs
      rw [ofCrs_ok hs]
      have hq := Option.some.inj hq
      have key : ∀ n1 n2 xs ac y x, F s xs ac y x = (c, v, nb) → FnOK Tryz.prog f [.agg (s.vs (.gs 0) (.gs 1)), .int .u8 y, .int .u8 x] (crsH n1 n2 xs ac) v (crsH n1 n2 xs ac ++ nb) := fun n1 n2 xs ac y x e => by
        have t := h n1 n2 s xs ac y x (by rw [e]; exact hc)
        rw [e] at t; exact t
      exact ⟨he, key _ _ _ _ _ _ hq⟩
    · cases hq
  · cases hq
end Go.Proofs.YtojlmpcbplepcaaGreat

/- Chapter 10: the law tells: all contracts. -/
namespace Go.Proofs.YtojlmpcbplepcaaGreat
open Go Go.Eng
abbrev CF (α : Type) := CD → List Int → List Int → α
structure NTl where
  C : CF Bool
  BY : Int → Bool
  RG : CF Bool
  OB : CF Bool
  OE : CF Int
  TV : CF Int
  OP : CF Int
  LV : CF (List Int)
  KV : KF
  KE : KF
  CQ : CF Q4
  CE : CF Int
  VV : CF Int
  VE : CF Int
  DX : CF (Int → Int)
  DC : CF (Int → CD)
  DL : CF (Int → List Int)
  DK : CF (Int → List Int)
  AR : CF (Int → Int → AR)
  RX : KF
  RC : CF (Int → Int → CD)
  RL : CF (Int → Int → List Int)
  RK : CF (Int → Int → List Int)
  S : NSm
  SM : CD → CD → List Int → List Int → List Int → List Int → Bool
  MB : List Int
  MI : List Int
  KB : List Int → List Int → Bool
  KI : List Int → List Int → Bool
  LT : List Int → Bool
def cTl (s : CD) (xs ac : List Int) : Bool := (okL xs && decide (xs.length ≤ 99990)) && (lenOk ac && crB s)
noncomputable def smTl (s t : CD) (ys bc ys2 bc2 : List Int) : Bool := pB (t = s ∧ ys2 = ys ∧ bc2 = bc ∧ ys.length ≤ 1000000 ∧ bc.length ≤ 1000000)
noncomputable def nTl : NTl := ⟨cTl, byB, rgtI, ovrB, ovrE, tuV, opI, lgV, kdI, keI, conI, conE, leadV, leadE, doX, doC, doL, doK, acI, rfX, rfC, rfL, rfK, nSm, smTl, marks mbV, marksJ mbVJ, kpC, kpCJ, fun xs => decide (xs.length ≤ 900000)⟩
def nilV : V := .flat (.slice none 0 0)
section
variable (T : NTl)
def F16 : CF CA := fun s xs ac => (T.C s xs ac, .tuple [.bool (T.OB s xs ac), .int .i64 (T.OE s xs ac)], [])
def F14 : CF CA := fun s xs ac => (T.C s xs ac, .tuple [.int .u8 (T.TV s xs ac), .int .i64 (T.OP s xs ac)], [])
def F18 : CF CA := fun s xs ac => (T.C s xs ac, .tuple [.gs 2, .int .i64 (T.OP s xs ac)], [.grow false 5 1 (.ints .u8 (T.LV s xs ac))])
def F11 : CF (Int → Int → CA) := fun s xs ac y x => (T.C s xs ac && (T.BY y && T.BY x), .tuple [.int .u8 (T.KV s xs ac y x), .int .i64 (T.KE s xs ac y x)], [])
def F23 : CF CA := fun s xs ac => (T.C s xs ac, cnV (T.CQ s xs ac) (T.CE s xs ac), [])
def F26 : CF CA := fun s xs ac => (T.C s xs ac, .tuple [.int .u8 (T.VV s xs ac), .int .i64 (T.VE s xs ac)], [])
def F17 : CF CA := fun s xs ac => (T.C s xs ac, .bool (T.RG s xs ac), [])
def F15 : CF (Int → CA) := fun s xs ac x => (T.C s xs ac && T.BY x, .tuple [.agg ((T.DC s xs ac x).vs (.gs 2) (.gs 3)), .int .i64 (T.DX s xs ac x)], crsNb (T.DL s xs ac x) (T.DK s xs ac x))
def F12 : CF (Int → Int → CA) := fun s xs ac y x => (T.C s xs ac && (T.BY y && T.BY x), .tuple [.agg ((T.AR s xs ac y x).s.vs (.gs 2) (.gs 3)), .int .i64 (T.AR s xs ac y x).e], crsNb (T.AR s xs ac y x).ys (T.AR s xs ac y x).bc)
def F13 : CF (Int → Int → CA) := fun s xs ac y x => (T.C s xs ac && (T.BY y && T.BY x), .tuple [.agg ((T.RC s xs ac y x).vs (.gs 2) (.gs 3)), .int .i64 (T.RX s xs ac y x)], crsNb (T.RL s xs ac y x) (T.RK s xs ac y x))
def F75 : Bool → CF (Int → CA)
  | true => fun s xs ac x => (T.C s xs ac && (T.BY x && !decide (T.DX s xs ac x = 0)), .tuple [.agg (c0.vs nilV nilV), .int .i64 (T.DX s xs ac x)], [])
  | false => fun s xs ac x => (T.C s xs ac && (T.BY x && decide (T.DX s xs ac x = 0)), .tuple [.agg ((T.DC s xs ac x).vs (.gs 2) (.gs 1)), .int .i64 0], crsNk (T.DL s xs ac x))
def F77 : Bool → CF (Int → Int → CA)
  | true => fun s xs ac y x => (T.C s xs ac && ((T.BY y && T.BY x) && !decide (T.RX s xs ac y x = 0)), .tuple [.agg (c0.vs nilV nilV), .int .i64 (T.RX s xs ac y x)], [])
  | false => fun s xs ac y x => (T.C s xs ac && ((T.BY y && T.BY x) && decide (T.RX s xs ac y x = 0)), .tuple [.agg ((T.RC s xs ac y x).vs (.gs 0) (.gs 1)), .int .i64 0], [])
def g92 : CH
  | [.agg l, .agg l'], [.rs _ 1 (.ints .u8 ys), .rs _ 1 (.ints .i64 bc), .rs _ 1 (.ints .u8 ys2), .rs _ 1 (.ints .i64 bc2)] => match ofCrs l, ofCrs l' with
    | some (s, .gs 0, .gs 1), some (t, .gs 2, .gs 3) => some (T.SM s t ys bc ys2 bc2, .bool true, [])
    | _, _ => none
  | _, _ => none
def hTl (de re : Bool) : HTab := addH 12 (gC0 (F16 T)) (addH 14 (gC0 (F14 T)) (addH 16 (gC0 (F18 T)) (addH 18 (gC2 (F11 T)) (addH 20 (gC0 (F23 T)) (addH 22 (gC0 (F26 T)) (addH 24 (gC0 (F17 T)) (addH 28 (gC1 (F15 T)) (addH 32 (gC2 (F12 T)) (addH 36 (gC2 (F13 T))
  (addH 13 (gC0 (F16 T)) (addH 15 (gC0 (F14 T)) (addH 17 (gC0 (F18 T)) (addH 19 (gC2 (F11 T)) (addH 21 (gC0 (F23 T)) (addH 23 (gC0 (F26 T)) (addH 25 (gC0 (F17 T)) (addH 30 (gC1 (F75 T de)) (addH 34 (gC2 (F12 T)) (addH 38 (gC2 (F77 T re))
  (addH 39 (g92 T) (addH 26 (g24 T.S) emptyH)))))))))))))))))))))
def g78 (k : IntKind) (ty : TypeId) (M : List Int) : CH
  | [.gs 0], [.rs _ 1 (.ints k' xs)] => match decide (k' = k) with
    | true => some (T.LT xs, .view 1 0 1 xs.length, [.grow true ty 1 (.ints k (xs ++ M))])
    | false => none
  | _, _ => none
end
theorem cTl_ok {s : CD} {xs ac : List Int} (h : cTl s xs ac = true) : okL xs = true ∧ xs.length ≤ 99990 ∧ lenOk ac = true ∧ crB s = true := by
  unfold cTl at h
  simp only [Bool.and_eq_true, decide_eq_true_eq] at h
  exact ⟨h.1.1, h.1.2, h.2.1, h.2.2⟩
end Go.Proofs.YtojlmpcbplepcaaGreat
