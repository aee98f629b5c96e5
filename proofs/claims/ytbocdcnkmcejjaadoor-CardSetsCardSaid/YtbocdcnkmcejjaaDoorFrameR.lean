/- Chapter 4: the frame of a law over a number, a slice of bytes, a string and the table. -/
import Derived.Test.YtbocdcnkmcejjaaDoorLSets3
import Derived.Test.YtbocdcnkmcejjaaDoorFrameC
import Derived.Test.YtbocdcnkmcejjaaDoorEng3
import Derived.Lay
import Derived.WideKeyArgs
namespace Go.Proofs.YtbocdcnkmcejjaaDoor
open Go Go.Eng Go.ChangeShapes Go.WideShapes Go.ChangeAt Go.RowKit
theorem table_of {W : World} (h : laidMetH Tryd.prog laidL W) : ∀ (i : Nat) x, bruijnL[i]? = some x → W.cell? ⟨0, i, none⟩ = some (.int .u8 x) := by
  rw [MakeChecks.laidMetH_plain _ _ _ (by kernel_rfl)] at h
  obtain ⟨ps, ⟨g0, t0, cs0, f0, p0, q0, hg0, ht0, hv0, hd0, _, _⟩, _, _⟩ := h
  obtain rfl := Option.some.inj (gTable.symm.trans hg0)
  obtain rfl := Option.some.inj (tTable.symm.trans ht0)
  intro i x hx
  rw [World.var?_cell hg0 hv0 i]
  simpa using laid_ints Tryd.underlying82 Tryd.underlying5 cells5 hd0 table_datum i x hx
/-- A slice of bytes that came in. -/
structure Sl where
  blk : Nat
  delta : Nat
  len : Nat
  cap : Nat
  nil : Bool
  base : Option Addr
def Sl.val (s : Sl) : Value := bif s.nil then .slice s.base 0 0 else .slice (some ⟨s.blk, s.delta, none⟩) s.len s.cap
def Sl.Ok (W : World) (s : Sl) (xs : List Int) : Prop := s.len = xs.length ∧ s.len ≤ s.cap ∧ (s.nil = true → xs = []) ∧ (s.nil = false → ∀ (i : Nat) x, xs[i]? = some x → W.cell? ⟨s.blk, s.delta + i, none⟩ = some (.int .u8 x))
def envR (s : Sl) : Env := { blk := fun b => if b = 0 then 0 else s.blk, delta := fun b => if b = 0 then 0 else s.delta, len := fun _ => s.len, cap := fun _ => s.cap, isnil := fun _ => s.nil, base := fun _ => s.base }
theorem ints_in (n : Nat) (k : IntKind) (l : List Int) : inSs n (Row.ints k l).toVs = true := by
  rw [inSs_eq, List.all_eq_true]; intro v hv; obtain ⟨z, _, rfl⟩ := List.mem_map.1 hv; rfl
theorem holdsR {W : World} (h : laidMetH Tryd.prog laidL W) {s : Sl} {xs : List Int} (hs : s.Ok W xs) : Holds (envR s) (gH ++ [.rs (!s.nil) 1 (.ints .u8 xs)]) W := by
  have h1 := table_of h
  refine ⟨fun b blk hb => ?_, fun b b' x x' hb hb' hm _ _ _ => ?_⟩
  · match b, hb with
    | 0, hb =>
      cases hb
      refine ⟨rfl, rfl, ints_in _ _ _, fun i v hv => ?_⟩
      simp only [Row.toVs, List.getElem?_map, Option.map_eq_some_iff] at hv
      obtain ⟨z, hz, rfl⟩ := hv
      have := h1 i z hz
      simpa [envR, conc] using this
    | 1, hb =>
      cases hb
      obtain ⟨q1, q2, q3, q4⟩ := hs
      refine ⟨ints_in _ _ _, by omega, by simp [envR, Row.len, q1], q2, fun hn => ?_, fun hn i v hv => ?_⟩
      · have hn : s.nil = true := hn
        rw [q3 hn, hn]; exact ⟨rfl, rfl⟩
      · simp only [Row.toVs, List.getElem?_map, Option.map_eq_some_iff] at hv
        obtain ⟨z, hz, rfl⟩ := hv
        have := q4 hn i z hz
        simpa [envR, conc] using this
    | b + 2, hb => simp [gH] at hb
  · match b, hb with
    | 0, hb => cases hb; cases hm
    | 1, hb => cases hb; cases hm
    | b + 2, hb => simp [gH] at hb
theorem walkR {W : World} (h : laidMetH Tryd.prog laidL W) {m : Int} (hm : 0 ≤ m) {s : Sl} {xs : List Int} (hs : s.Ok W xs) (hx : ∀ c ∈ xs, 0 ≤ c) (t : ByteArray) :
    Calls Tryd.prog 7 #[.int .u64 m, s.val, .string t] W fun e w' => e = .returned (.bool true) ∧ RowKit.Below W.heap.size W w' := by
  obtain ⟨v1, h1, hk, hok⟩ := evalFn_ok orcL7_ok mixed Tryd.func7 noLoops_ok (cardSets_true (!s.nil) hm hx t)
  cases hk
  have hc := hok _ W (holdsR h hs) rfl
  have e : (concs (envR s) [.int .u64 m, .gs 1, .str t]).toArray = #[.int .u64 m, s.val, .string t] := by simp [concs, conc, envR, Sl.val]
  rw [e] at hc
  refine hc.mono ?_
  rintro e w' ⟨x, E', rfl, hx, _, ht⟩
  exact ⟨by rw [hx.bool], ht.below_ro gHr_ro⟩
/-- A slice of bytes, as its reading tells it. -/
theorem slice_of {H : Type} {enc : TypeId × Value → H} {W : World} {ba : Option Addr} {n c : Nat} {d : DataW H} {p : List MemPlace} (h : DataW.Trod enc Tryd.prog W 0 (fun _ => true) true 37 (.slice ba n c) d p) :
    ∃ (s : Sl) (xs : List Int), s.val = .slice ba n c ∧ s.Ok W xs ∧ ∀ c ∈ xs, 0 ≤ c := by
  obtain ⟨fuel, hf⟩ := h
  rcases open_ints Tryd.underlying37 Tryd.underlying5 cells5 hf with ⟨hcs, _⟩ | ⟨a, len, cap, zs, hcs, _, hl, hm, hz, _, hcell, hwz⟩
  · have hv1 := slice_cells hcs
    cases hv1
    exact ⟨⟨0, 0, 0, 0, true, none⟩, [], rfl, ⟨rfl, Nat.le_refl _, fun _ => rfl, fun hn => by cases hn⟩, fun c hc => by cases hc⟩
  · have hv1 := slice_cells hcs
    obtain ⟨e1, e2, e3⟩ : some a = ba ∧ len = n ∧ cap = c := by simp only [Value.slice.injEq] at hv1; exact ⟨hv1.1.symm, hv1.2.1.symm, hv1.2.2.symm⟩
    subst e1; subst e2; subst e3
    have hz' : zs.length = cap := by simpa using hz
    rcases Nat.eq_zero_or_pos cap with hc0 | hc0
    · subst hc0
      obtain rfl : len = 0 := by omega
      exact ⟨⟨0, 0, 0, 0, true, some a⟩, [], rfl, ⟨rfl, Nat.le_refl _, fun _ => rfl, fun hn => by cases hn⟩, fun c hc => by cases hc⟩
    · obtain ⟨b, off, rfl, hat⟩ := ints_at hcell (by omega)
      refine ⟨⟨b, off, len, cap, false, none⟩, zs.take len, rfl, ⟨by show len = (zs.take len).length; rw [List.length_take]; omega, hl, (fun hn => by cases hn), fun _ i x hi => ?_⟩, fun n hn => u8_pos (hwz n (List.mem_of_mem_take hn))⟩
      rw [List.getElem?_take] at hi
      split at hi
      · have hlt := getElem?_lt hi
        have := hat i hlt
        rw [List.getD_eq_getElem?_getD, hi] at this
        exact this
      · cases hi
end Go.Proofs.YtbocdcnkmcejjaaDoor
