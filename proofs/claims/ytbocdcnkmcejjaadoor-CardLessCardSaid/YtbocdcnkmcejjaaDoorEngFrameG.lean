/- What a row's listed tables give the engine. -/
import Derived.Test.YtbocdcnkmcejjaaDoorEngFrame
import Derived.ProofKit
import Derived.LaidMore
import Derived.OpenShut
import Derived.Stop.Joined
namespace Go.Eng
open Go Go.ChangeShapes Go.WideShapes Go.ChangeAt Go.RowKit

section
variable {H : Type} {enc : TypeId × Value → H} {P : Program} {w : World} {base : Nat} {spare : Nat → Bool} {held : Bool}
theorem laid_cells {t e : TypeId} {n fuel : Nat} {cs : List Value} {d : DataW H} {p : List MemPlace} {ls : List Lit} (ht : P.underlying t = some (.array n e)) (hc : P.cellsOf e = 1)
    (h : DataW.trod enc P w base spare held fuel t cs = some (d, p)) (hd : d = .agg (ls.map .lit)) :
    ∃ m, ∀ (i : Nat) (x : Lit), ls[i]? = some x → ∃ q, DataW.trod enc P w base spare held m e ((cs.drop i).take 1) = some (.lit x, q) := by
  obtain ⟨xs, m, rfl, hx, _, hn, hel⟩ := DataW.trod_array ht h
  simp only [Prod.mk.injEq, hd, DataW.agg.injEq] at hx
  refine ⟨m, fun i x hi => ?_⟩
  have hl : ls.length = xs.length := by have := congrArg List.length hx.1; simpa using this
  have hlt : i < n := by rw [← hn, ← hl]; exact getElem?_lt hi
  have := hel i hlt
  rw [hc, Nat.mul_one] at this
  rw [this]
  have h2 := congrArg (fun l => l[i]?) hx.1
  simp only [List.getElem?_map, hi, Option.map_some] at h2
  cases hxi : xs[i]? with
  | none => rw [hxi] at h2; cases h2
  | some y =>
    rw [hxi] at h2
    obtain ⟨y1, y2⟩ := y
    simp only [Option.map_some, Option.some.injEq] at h2
    exact ⟨y2, by rw [h2]⟩
theorem take_one {cs : List Value} {i : Nat} {v : Value} (h : (cs.drop i).take 1 = [v]) : cs[i]? = some v := by
  have := congrArg (fun l => l[0]?) h
  simpa [List.getElem?_take, List.getElem?_drop] using this
/-- A table of strings. -/
theorem laid_strs {t e : TypeId} {n fuel : Nat} {cs : List Value} {d : DataW H} {p : List MemPlace} {ls : List (List UInt8)} (ht : P.underlying t = some (.array n e)) (he : P.underlying e = some .string) (hc : P.cellsOf e = 1)
    (h : DataW.trod enc P w base spare held fuel t cs = some (d, p)) (hd : d = .agg (ls.map fun s => .lit (.string s))) (i : Nat) (x : List UInt8) (hi : ls[i]? = some x) : cs[i]? = some (.string ⟨x.toArray⟩) := by
  obtain ⟨m, H⟩ := laid_cells (ls := ls.map .string) ht hc h (by rw [hd, List.map_map]; rfl)
  obtain ⟨q, hq⟩ := H i (.string x) (by rw [List.getElem?_map, hi]; rfl)
  obtain ⟨s, h1, h2, _⟩ := DataW.trod_string he hq
  simp only [Prod.mk.injEq, DataW.lit.injEq, Lit.string.injEq] at h2
  rw [take_one h1, h2.1]
/-- A table of whole numbers. -/
theorem laid_ints {t e : TypeId} {k : IntKind} {n fuel : Nat} {cs : List Value} {d : DataW H} {p : List MemPlace} {ls : List Int} (ht : P.underlying t = some (.array n e)) (he : P.underlying e = some (.int k)) (hc : P.cellsOf e = 1)
    (h : DataW.trod enc P w base spare held fuel t cs = some (d, p)) (hd : d = .agg (ls.map fun s => .lit (.int k s))) (i : Nat) (x : Int) (hi : ls[i]? = some x) : cs[i]? = some (.int k x) := by
  obtain ⟨m, H⟩ := laid_cells (ls := ls.map (.int k)) ht hc h (by rw [hd, List.map_map]; rfl)
  obtain ⟨q, hq⟩ := H i (.int k x) (by rw [List.getElem?_map, hi]; rfl)
  obtain ⟨s, h1, h2, _⟩ := DataW.trod_int he hq
  simp only [Prod.mk.injEq, DataW.lit.injEq, Lit.int.injEq, true_and] at h2
  rw [take_one h1, h2.1]
end
/-- A table as a block. -/
def envG (g : Nat) : Env := { blk := fun _ => g, delta := fun _ => 0, len := fun _ => 0, cap := fun _ => 0, isnil := fun _ => false, base := fun _ => none }
theorem holdsG {W : World} {g : Nat} {ls : List ByteArray} (h : ∀ (i : Nat) x, ls[i]? = some x → W.cell? ⟨g, i, none⟩ = some (.string x)) : Holds (envG g) [.glob g (.strs ls)] W := by
  refine ⟨fun i blk hb => ?_, fun i j x y hi _ hm => ?_⟩
  · cases i with
    | zero =>
      simp only [List.getElem?_cons_zero, Option.some.injEq] at hb
      subst hb
      refine ⟨rfl, rfl, ?_, fun i v hv => ?_⟩
      · rw [inSs_eq, List.all_eq_true]; intro v hv; obtain ⟨z, _, rfl⟩ := List.mem_map.1 hv; rfl
      · simp only [Row.toVs, List.getElem?_map, Option.map_eq_some_iff] at hv
        obtain ⟨z, hz, rfl⟩ := hv
        have := h i z hz
        simpa [envG, conc] using this
    | succ i => simp at hb
  · cases i with
    | zero => simp only [List.getElem?_cons_zero, Option.some.injEq] at hi; subst hi; cases hm
    | succ i => simp at hi
theorem holdsGI {W : World} {g : Nat} {k : IntKind} {ls : List Int} (h : ∀ (i : Nat) x, ls[i]? = some x → W.cell? ⟨g, i, none⟩ = some (.int k x)) : Holds (envG g) [.glob g (.ints k ls)] W := by
  refine ⟨fun i blk hb => ?_, fun i j x y hi _ hm => ?_⟩
  · cases i with
    | zero =>
      simp only [List.getElem?_cons_zero, Option.some.injEq] at hb
      subst hb
      refine ⟨rfl, rfl, ?_, fun i v hv => ?_⟩
      · rw [inSs_eq, List.all_eq_true]; intro v hv; obtain ⟨z, _, rfl⟩ := List.mem_map.1 hv; rfl
      · simp only [Row.toVs, List.getElem?_map, Option.map_eq_some_iff] at hv
        obtain ⟨z, hz, rfl⟩ := hv
        have := h i z hz
        simpa [envG, conc] using this
    | succ i => simp at hb
  · cases i with
    | zero => simp only [List.getElem?_cons_zero, Option.some.injEq] at hi; subst hi; cases hm
    | succ i => simp at hi
end Go.Eng
