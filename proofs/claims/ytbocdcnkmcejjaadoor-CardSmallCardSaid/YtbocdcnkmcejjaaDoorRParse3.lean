/- Chapter 4, the reference: Parse: its contract, that of card's own. -/
import Derived.Test.YtbocdcnkmcejjaaDoorRParse2
namespace Go.Proofs.YtbocdcnkmcejjaaDoor
open Go Go.Eng
def pmO (s : ByteArray) : Bool := (pmR s.data.toList 0 3 13).isSome
def pmM (s : ByteArray) : Int := match pmR s.data.toList 0 3 13 with
  | some p => p.1
  | none => 0
def pmS (s : ByteArray) : Int := match pmR s.data.toList 0 3 13 with
  | some p => p.2
  | none => 0
def rpP (z e m su la i : Int) (s : ByteArray) : Prop := z = 0 ∧ e = 0 ∧ m = 0 ∧ su = 3 ∧ la = 13 ∧ i = 0 ∧ s.data.toList.length ≤ 1000000
noncomputable def rpTree1 : List PV → Fin
  | [.s s, .i z, .i e, .i m, .i su, .i la, .i i] => .br (pB (rpP z e m su la i s)) (.br (pmO s) (.leaf (.exit 0) (rpX1.at [.i 0, .i 0, .i (pmM s), .i (pmS s)])) (.leaf .ret (rpXr.at [.i 0, .i 40]))) .no
  | _ => .no
noncomputable def rpL1 : Loops := sums (fun n => match n with | 5 => some (lsumF 0 rpT1 rpLp1 rpTree1) | _ => none)
theorem rpL1_ok : loopsOk Tryd.prog rpL1 := by
  intro n g hg
  simp only [rpL1, sums] at hg
  split at hg
  · cases hg
    refine lsumF_ok (by kernel_rfl) (fun rd ps e1 st1 hq => ?_)
    unfold rpTree1 at hq
    split at hq
    · rename_i s z e m su la i
      simp only [Fin.pick] at hq
      cases hc : pB (rpP z e m su la i s) with
      | false => rw [hc] at hq; cases hq
      | true =>
        rw [hc, cond_true] at hq
        rw [pB_iff] at hc
        obtain ⟨rfl, rfl, rfl, rfl, rfl, rfl, h1⟩ := hc
        obtain ⟨n, this⟩ := rp_loop1 rd s.data.toList 0 0 h1 ⟨0, 0, 3, 13⟩ ⟨Nat.zero_le _, by decide, Nat.le_refl _, Nat.le_refl _, fun t _ => by simp⟩
        dsimp only at this
        rw [show s.data.toList.drop 0 = s.data.toList from rfl] at this
        unfold pmO pmM pmS at hq
        cases hz : pmR s.data.toList 0 3 13 with
        | some p =>
          rw [hz] at hq this
          cases hq
          exact this.loop
        | none =>
          rw [hz] at hq this
          cases hq
          exact this.loop
    · cases hq
  · cases hg
theorem rparse_eval (N : NR) (s : ByteArray) : evalFn Tryd.prog (orcNR N) rpL1 100 43 Tryd.f43 [.str s] [] (fun v _ => some v) =
    cond (codesB [(rpLp1, rpLp1)]) (bif pB (rpP 0 0 0 3 13 0 s) then bif pmO s then bif !decide (pmS s = 0) then some (.tuple [.int .u64 0, .int .i64 40]) else some (.tuple [.int .u64 (pmM s), .int .i64 0]) else some (.tuple [.int .u64 0, .int .i64 40]) else none) none := by kernel_rfl
theorem rparse_p {s : ByteArray} (h : s.data.toList.length ≤ 1000000) : FnPure Tryd.prog 43 [.str s] (.tuple [.int .u64 (prV s), .int .i64 (prE s)]) := by
  have cd : codesB [(rpLp1, rpLp1)] = true := by rw [codesB_iff]; intro x hx; simp at hx; rw [hx]
  have key : evalFn Tryd.prog (orcNR R0) rpL1 100 43 Tryd.f43 [.str s] [] (fun v _ => some v) = some (.tuple [.int .u64 (prV s), .int .i64 (prE s)]) := by
    rw [rparse_eval, cd, pB_iff.2 ⟨rfl, rfl, rfl, rfl, rfl, rfl, h⟩]
    unfold prV prE
    rw [← prR_is]
    unfold prR pmO pmM pmS
    cases hp : pmR s.data.toList 0 3 13 with
    | none => rfl
    | some p =>
      obtain ⟨m, q⟩ := p
      cases q with
      | zero => rfl
      | succ q =>
        simp only [Option.isSome_some, cond_true]
        rw [decide_eq_false (show ¬ ((q + 1 : Nat) : Int) = 0 by omega)]; rfl
  exact fnPure_of_eval (N := 100) orcNR_ok mixed Tryd.func43 (by kernel_rfl) rpL1_ok key rfl rfl
end Go.Proofs.YtbocdcnkmcejjaaDoor
