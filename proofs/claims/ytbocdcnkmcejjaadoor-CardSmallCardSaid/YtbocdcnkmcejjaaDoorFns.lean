/- Chapter 4: the functions of one card, and the reference's. -/
import Derived.Test.YtbocdcnkmcejjaaDoorAwake
import Derived.Test.YtbocdcnkmcejjaaDoorEng4
namespace Go.Proofs.YtbocdcnkmcejjaaDoor
open Go Go.Eng
def sU : List UInt8 := [67, 68, 72, 83]
def rU : List UInt8 := [50, 51, 52, 53, 54, 55, 56, 57, 84, 74, 81, 75, 65]
def txt4 (c : Int) : ByteArray := bif decide (c < 52) then ⟨⟨[sU.getD (suitI c).toNat 0, rU.getD (rankI c).toNat 0]⟩⟩ else ⟨#[]⟩
def txE4 (c : Int) : Int := bif decide (c < 52) then 0 else 41
noncomputable abbrev runP (T : PTab) (f : FuncId) (fn : Func) (args : List V) (chk : V → Bool) : Bool := runB (evalFn Tryd.prog (orcS T plainL) noLoops 100 f fn args [] (fun v _ => some (chk v)))
def chkI (k : IntKind) (a : Int) : V → Bool
  | .int k' a' => decide (k = k') && eqI a' a
  | _ => false
theorem chkI_ok {k : IntKind} {a : Int} {v : V} (h : chkI k a v = true) : v = .int k a := by
  unfold chkI at h
  split at h
  · simp only [Bool.and_eq_true, decide_eq_true_eq] at h
    rw [h.1, eqI_ok h.2]
  · cases h
theorem all16 : allN 256 (fun c => runP tabP 16 Tryd.f16 [.int .u8 (Int.ofNat c)] (chkIS .i64 (txt4 (Int.ofNat c)) (txE4 (Int.ofNat c)))) = true := by kernel_rfl
theorem all30 : allN 256 (fun c => runP tabP 30 Tryd.f30 [.int .u8 (Int.ofNat c)] (chkIS .i64 (txt4 (Int.ofNat c)) (txE4 (Int.ofNat c)))) = true := by kernel_rfl
theorem all32 : allN 256 (fun c => runP tabP 32 Tryd.f32 [.int .u8 (Int.ofNat c)] (chkI .u8 (suitI (Int.ofNat c)))) = true := by kernel_rfl
theorem all33 : allN 256 (fun c => runP tabP 33 Tryd.f33 [.int .u8 (Int.ofNat c)] (chkI .u8 (rankI (Int.ofNat c)))) = true := by kernel_rfl
theorem to_nat {c : Int} (h : 0 ≤ c) (h2 : c < 256) : ∃ n : Nat, n < 256 ∧ c = Int.ofNat n := ⟨c.toNat, by omega, by simp; omega⟩
def inR (c : Int) : Bool := decide (0 ≤ c ∧ c < 256)
theorem text_p {c : Int} (h : 0 ≤ c) (h2 : c < 256) : FnPure Tryd.prog 16 [.int .u8 c] (.tuple [.str (txt4 c), .int .i64 (txE4 c)]) := by
  obtain ⟨n, hn, rfl⟩ := to_nat h h2
  exact pure_of_check (orcS_ok tabP_ok plainL_ok) mixed Tryd.func16 (by kernel_rfl) noLoops_ok (allN_ok all16 n hn) (fun _ h => chkIS_ok h) rfl rfl
theorem rtext_p {c : Int} (h : 0 ≤ c) (h2 : c < 256) : FnPure Tryd.prog 30 [.int .u8 c] (.tuple [.str (txt4 c), .int .i64 (txE4 c)]) := by
  obtain ⟨n, hn, rfl⟩ := to_nat h h2
  exact pure_of_check (orcS_ok tabP_ok plainL_ok) mixed Tryd.func30 (by kernel_rfl) noLoops_ok (allN_ok all30 n hn) (fun _ h => chkIS_ok h) rfl rfl
theorem rsuit_p {c : Int} (h : 0 ≤ c) (h2 : c < 256) : FnPure Tryd.prog 32 [.int .u8 c] (.int .u8 (suitI c)) := by
  obtain ⟨n, hn, rfl⟩ := to_nat h h2
  exact pure_of_check (orcS_ok tabP_ok plainL_ok) mixed Tryd.func32 (by kernel_rfl) noLoops_ok (allN_ok all32 n hn) (fun _ h => chkI_ok h) rfl rfl
theorem rrank_p {c : Int} (h : 0 ≤ c) (h2 : c < 256) : FnPure Tryd.prog 33 [.int .u8 c] (.int .u8 (rankI c)) := by
  obtain ⟨n, hn, rfl⟩ := to_nat h h2
  exact pure_of_check (orcS_ok tabP_ok plainL_ok) mixed Tryd.func33 (by kernel_rfl) noLoops_ok (allN_ok all33 n hn) (fun _ h => chkI_ok h) rfl rfl
/-! ### Read -/
def rdV (s : ByteArray) : Int := match s.data.toList with
  | [a, b] => bif decide (idxI ⟨⟨sU⟩⟩ a.toNat < 0) then 0 else bif decide (idxI ⟨⟨rU⟩⟩ b.toNat < 0) then 0 else wr .u8 (wr .i64 (wr .i64 (idxI ⟨⟨sU⟩⟩ a.toNat * 13) + idxI ⟨⟨rU⟩⟩ b.toNat))
  | _ => 0
def rdE (s : ByteArray) : Int := match s.data.toList with
  | [a, b] => bif decide (idxI ⟨⟨sU⟩⟩ a.toNat < 0) then 40 else bif decide (idxI ⟨⟨rU⟩⟩ b.toNat < 0) then 40 else 0
  | _ => 40
theorem read_eval (s : ByteArray) : evalP tabP 17 Tryd.f17 [.str s] = bif !decide (Int.ofNat s.data.toList.length = 2) then some (.tuple [.int .u8 0, .int .i64 40]) else
    match s.data.toList[0]? with
    | some a => match s.data.toList[1]? with
      | some b => bif decide (idxI ⟨⟨sU⟩⟩ a.toNat < 0) then some (.tuple [.int .u8 0, .int .i64 40]) else bif decide (idxI ⟨⟨rU⟩⟩ b.toNat < 0) then some (.tuple [.int .u8 0, .int .i64 40]) else
          some (.tuple [.int .u8 (wr .u8 (wr .i64 (wr .i64 (idxI ⟨⟨sU⟩⟩ a.toNat * 13) + idxI ⟨⟨rU⟩⟩ b.toNat))), .int .i64 0])
      | none => none
    | none => none := by kernel_rfl
theorem read_p (s : ByteArray) : FnPure Tryd.prog 17 [.str s] (.tuple [.int .u8 (rdV s), .int .i64 (rdE s)]) := by
  refine pure_at tabP_ok Tryd.func17 (by kernel_rfl) ?_ rfl rfl
  rw [read_eval]
  unfold rdV rdE
  match h : s.data.toList with
  | [] => rfl
  | [a] => rfl
  | [a, b] =>
    simp only [List.length_cons, List.length_nil, List.getElem?_cons_zero, List.getElem?_cons_succ]
    cases decide (idxI ⟨⟨sU⟩⟩ a.toNat < 0) <;> cases decide (idxI ⟨⟨rU⟩⟩ b.toNat < 0) <;> rfl
  | a :: b :: d :: q =>
    have : decide (Int.ofNat (a :: b :: d :: q).length = 2) = false := decide_eq_false (by simp; omega)
    rw [this]; rfl
def gText : List V → Option (Bool × V)
  | [.int .u8 c] => some (inR c, .tuple [.str (txt4 c), .int .i64 (txE4 c)])
  | _ => none
def gRSuit : List V → Option (Bool × V)
  | [.int .u8 c] => some (inR c, .int .u8 (suitI c))
  | _ => none
def gRRank : List V → Option (Bool × V)
  | [.int .u8 c] => some (inR c, .int .u8 (rankI c))
  | _ => none
def gRead : List V → Option (Bool × V)
  | [.str s] => some (true, .tuple [.int .u8 (rdV s), .int .i64 (rdE s)])
  | _ => none
def tabR : PTab := addTab 17 gRead (addTab 33 gRRank (addTab 32 gRSuit (addTab 30 gText (addTab 16 gText tabP))))
theorem tabR_ok : PTabOk Tryd.prog tabR := by
  refine addTab_ok ?_ (addTab_ok ?_ (addTab_ok ?_ (addTab_ok ?_ (addTab_ok ?_ tabP_ok))))
  · intro args c v h _
    unfold gRead at h
    split at h
    · cases h; exact read_p _
    · cases h
  · intro args c v h hc
    unfold gRRank at h
    split at h
    · cases h; simp only [inR, decide_eq_true_eq] at hc; exact rrank_p hc.1 hc.2
    · cases h
  · intro args c v h hc
    unfold gRSuit at h
    split at h
    · cases h; simp only [inR, decide_eq_true_eq] at hc; exact rsuit_p hc.1 hc.2
    · cases h
  · intro args c v h hc
    unfold gText at h
    split at h
    · cases h; simp only [inR, decide_eq_true_eq] at hc; exact rtext_p hc.1 hc.2
    · cases h
  · intro args c v h hc
    unfold gText at h
    split at h
    · cases h; simp only [inR, decide_eq_true_eq] at hc; exact text_p hc.1 hc.2
    · cases h
end Go.Proofs.YtbocdcnkmcejjaaDoor
