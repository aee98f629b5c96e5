/- Chapter 8: the frame of a law over the table, a slice of bytes and plain values. -/
import Derived.Test.YtpehklboickdpaaDoorFrameR
import Derived.Test.YtpehklboickdpaaDoorFrameC
namespace Go.Proofs.YtpehklboickdpaaDoor
open Go Go.Eng Go.ChangeShapes Go.WideShapes Go.ChangeAt Go.RowKit
def envX (s : Sl) : Env := { blk := fun b => if b = 0 then 0 else s.blk, delta := fun b => if b = 0 then 0 else s.delta, len := fun _ => s.len, cap := fun _ => s.cap, isnil := fun _ => s.nil, base := fun _ => s.base }
theorem gX_ro {n1 : Bool} {xs : List Int} : ∀ (b : Nat) blk, (gH ++ [.rs n1 1 (.ints .u8 xs)] : List Blk)[b]? = some blk → blk.mine = false := by
  intro b blk hb
  match b, hb with
  | 0, hb => cases hb; rfl
  | 1, hb => cases hb; rfl
  | b + 2, hb => simp [gH] at hb
theorem holdsX {W : World} (h : laidMetH Tryd.prog laidL W) {s : Sl} {xs : List Int} (hs : s.Ok W xs) : Holds (envX s) (gH ++ [.rs (!s.nil) 1 (.ints .u8 xs)]) W := by
  have h0 := (of_laid h).ok 0 (.glob 0 (.strs textsL)) rfl
  refine ⟨fun b blk hb => ?_, fun b b' x x' hb _ hm _ _ _ => by rw [gX_ro b x hb] at hm; cases hm⟩
  match b, hb with
  | 0, hb =>
    cases hb
    obtain ⟨_, _, _, h4⟩ := h0
    refine ⟨rfl, rfl, strs_in _ _, fun i v hv => ?_⟩
    have h5 := h4 i v hv
    simp only [Row.toVs, List.getElem?_map, Option.map_eq_some_iff] at hv
    obtain ⟨z, hz, rfl⟩ := hv
    simpa [envX, envG, conc] using h5
  | 1, hb =>
    cases hb
    obtain ⟨q1, q2, q3, q4⟩ := hs
    refine ⟨ints_in _ _ _, by omega, by simp [envX, Row.len, q1], q2, fun hn => ?_, fun hn i v hv => ?_⟩
    · have hn : s.nil = true := hn
      rw [q3 hn, hn]; exact ⟨rfl, rfl⟩
    · simp only [Row.toVs, List.getElem?_map, Option.map_eq_some_iff] at hv
      obtain ⟨z, hz, rfl⟩ := hv
      have := q4 hn i z hz
      simpa [envX, conc] using this
  | b + 2, hb => simp [gH] at hb
theorem walkX {C : Oracle} (hC : OracleOk Tryd.prog C) {L : Loops} (hL : loopsOk Tryd.prog L) {f : FuncId} {fn : Func} (hf : Tryd.prog.funcs[f]? = some fn) {W : World} (h : laidMetH Tryd.prog laidL W) {s : Sl} {xs : List Int} (hs : s.Ok W xs) {args : List V}
    (he : evalFn Tryd.prog C L 100 f fn args (gH ++ [.rs (!s.nil) 1 (.ints .u8 xs)]) (fun v _ => some v) = some (.bool true)) (ha : inSs 2 args = true) :
    Calls Tryd.prog f (concs (envX s) args).toArray W fun e w' => e = .returned (.bool true) ∧ RowKit.Below W.heap.size W w' := by
  obtain ⟨v1, h1, hk, hok⟩ := evalFn_ok hC mixed hf hL he
  cases hk
  refine (hok _ W (holdsX h hs) ha).mono ?_
  rintro e w' ⟨x, E', rfl, hx, _, ht⟩
  exact ⟨by rw [hx.bool], ht.below_ro gX_ro⟩
end Go.Proofs.YtpehklboickdpaaDoor
