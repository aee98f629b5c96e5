/- What a row asks behind a call that is handed a slice of whole numbers and leaves it as it was. -/
import Derived.Test.YtbocdcnkmcejjaaDoorEngFrame
import Derived.ChangeSlices
namespace Go.Eng
open Go Go.ChangeShapes Go.WideShapes Go.ChangeAt Go.RowKit

theorem cell_lt {W : World} {a : Addr} {v : Value} (h : W.cell? a = some v) : a.block < W.heap.size := by
  rcases Nat.lt_or_ge a.block W.heap.size with hl | hl
  · exact hl
  · simp [World.cell?, Array.getElem?_eq_none hl] at h

theorem slice_cells {ba ba' : Option Addr} {n c n' c' : Nat} (h : (Value.slice ba n c).cells.toList = [.slice ba' n' c']) : Value.slice ba n c = .slice ba' n' c' := by
  simpa [Value.cells] using h
theorem shut_nil {H : Type} {enc : TypeId × Value → H} {P : Program} {t e : TypeId} {W : World} {b : Nat} {sp : Nat → Bool} {hd : Bool} (ht : P.underlying t = some (.slice e)) : DataW.Trod enc P W b sp hd t (.slice none 0 0) .nil [] := by
  refine ⟨1, ?_⟩
  show DataW.trod enc P W b sp hd (0 + 1) t [.slice none 0 0] = _
  rw [DataW.trod_step]
  unfold DataW.trodStep
  simp [ht]
/-- A slice that came in, as a block. -/
def envS (b off len cap : Nat) : Env := { blk := fun _ => b, delta := fun _ => off, len := fun _ => len, cap := fun _ => cap, isnil := fun _ => false, base := fun _ => none }
theorem holdsS {W : World} {b off len cap : Nat} {k : IntKind} {xs : List Int} (hx : xs.length = len) (hc : len ≤ cap) (hcell : ∀ (i : Nat) x, xs[i]? = some x → W.cell? ⟨b, off + i, none⟩ = some (.int k x)) :
    Holds (envS b off len cap) [.rs true 1 (.ints k xs)] W := by
  refine ⟨fun i blk hb => ?_, fun i j x y hi _ hm => ?_⟩
  · cases i with
    | zero =>
      simp only [List.getElem?_cons_zero, Option.some.injEq] at hb
      subst hb
      refine ⟨?_, by omega, by simp [envS, Row.len, hx], hc, fun h => by simp [envS] at h, fun _ i v hv => ?_⟩
      · rw [inSs_eq, List.all_eq_true]; intro v hv; obtain ⟨z, _, rfl⟩ := List.mem_map.1 hv; rfl
      · simp only [Row.toVs, List.getElem?_map, Option.map_eq_some_iff] at hv
        obtain ⟨z, hz, rfl⟩ := hv
        exact hcell i z hz
    | succ i => simp at hb
  · cases i with
    | zero => simp only [List.getElem?_cons_zero, Option.some.injEq] at hi; subst hi; cases hm
    | succ i => simp at hi
theorem Trans.below_ro {E E' : Env} {h h' : List Blk} {W W' : World} (hm : ∀ (b : Nat) blk, h[b]? = some blk → blk.mine = false) (t : Trans E h W E' h' W') : RowKit.Below W.heap.size W W' :=
  ⟨t.os, t.tape, t.output, t.size, fun k hk => t.frame k hk (fun ⟨b, blk, hb, h1, _⟩ => by rw [hm b blk hb] at h1; cases h1)⟩

/-- The reading of a slice of whole numbers stays, where all that was there stays. -/
theorem keep_ints {H : Type} {enc : TypeId × Value → H} {P : Program} {t e : TypeId} {k : IntKind} {W W' : World} {a : Addr} {len cap : Nat} {zs : List Int} {sp : Nat → Bool} {hd : Bool} (ht : P.underlying t = some (.slice e)) (he : P.underlying e = some (.int k)) (hc : P.cellsOf e = 1)
    (hB : RowKit.Below W.heap.size W W') (hl : len ≤ cap) (hm : cap ≤ maxLen) (hz : zs.length = cap) (hcell : ∀ i, i < zs.length → W.cell? (a.add i) = some (.int k (zs.getD i 0))) (hw : ∀ n ∈ zs, (Lit.int k n).wf = true)
    (hsp : ∀ p ∈ MemPlace.row a zs.length, sp p.block = true) : DataW.Trod enc P W' 0 sp hd t (.slice (some a) len cap) (.slice (lits k (zs.take len)) (lits k (zs.drop len))) (MemPlace.row a zs.length) := by
  refine ⟨2, shut_ints 0 ht he hc (Nat.zero_le _) hl hm ?_ (fun i hi => ?_) hw⟩
  · rcases Nat.eq_zero_or_pos zs.length with h0 | h0
    · have : cap = 0 := by omega
      have : len = 0 := by omega
      split <;> omega
    · obtain ⟨b, off, rfl, _⟩ := ints_at hcell h0
      rw [if_pos]
      · exact hz
      · exact hsp (.cell b (off + 0)) (MemPlace.mem_row.2 ⟨0, h0, rfl⟩)
  · rw [hB.cell (cell_lt (hcell i hi))]
    exact hcell i hi
end Go.Eng
