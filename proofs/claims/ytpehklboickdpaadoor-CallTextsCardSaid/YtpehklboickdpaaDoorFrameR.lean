/- Chapter 8: the frame of a law over two slices of bytes and two tables. -/
import Derived.Test.YtpehklboickdpaaDoorLReads2
import Derived.Test.YtpehklboickdpaaDoorFrameC
import Derived.Lay
import Derived.WideKeyArgs
namespace Go.Proofs.YtpehklboickdpaaDoor
open Go Go.Eng Go.ChangeShapes Go.WideShapes Go.ChangeAt Go.RowKit
def laidR : List (String × DataW Unit) := [("unicode/utf8.acceptRanges", Rows.laid_unicode_utf8_acceptRanges), ("unicode.White_Space", Rows.laid_unicode_White_Space), ("strings.asciiSpace", Rows.laid_strings_asciiSpace), ("finesse/call.texts", Rows.laid_finesse_call_texts), ("unicode/utf8.first", Rows.laid_unicode_utf8_first)]
theorem space_datum : (Rows.laid_strings_asciiSpace : DataW Unit) = .agg (spL.map fun s => .lit (.int .u8 s)) := by kernel_rfl
theorem gSpace : Tryd.prog.globalNamed "strings.asciiSpace" = some 1 := by kernel_rfl
theorem tSpace : (Tryd.prog.globals[1]?).map (·.type) = some 82 := by kernel_rfl
theorem cells5 : Tryd.prog.cellsOf 5 = 1 := by kernel_rfl
theorem tables_of {W : World} (h : laidMetH Tryd.prog laidR W) : (∀ (i : Nat) x, textsL[i]? = some x → W.cell? ⟨0, i, none⟩ = some (.string x)) ∧ (∀ (i : Nat) x, spL[i]? = some x → W.cell? ⟨1, i, none⟩ = some (.int .u8 x)) := by
  rw [MakeChecks.laidMetH_plain _ _ _ (by kernel_rfl)] at h
  obtain ⟨ps, ⟨_, _, _, _, _, _, _, _, _, _, ⟨_, _, _, _, _, _, _, _, _, _, ⟨g2, t2, cs2, f2, p2, q2, hg2, ht2, hv2, hd2, ⟨g3, t3, cs3, f3, p3, q3, hg3, ht3, hv3, hd3, _, _⟩, _⟩, _⟩, _⟩, _, _⟩ := h
  obtain rfl := Option.some.inj (gSpace.symm.trans hg2)
  obtain rfl := Option.some.inj (tSpace.symm.trans ht2)
  obtain rfl := Option.some.inj (gTexts.symm.trans hg3)
  obtain rfl := Option.some.inj (tTexts.symm.trans ht3)
  refine ⟨fun i x hx => ?_, fun i x hx => ?_⟩
  · rw [World.var?_cell hg3 hv3 i]
    have := laid_strs Tryd.underlying61 Tryd.underlying9 cells9 hd3 texts_datum i x.data.toList (by rw [textsB, List.getElem?_map, hx]; rfl)
    simpa using this
  · rw [World.var?_cell hg2 hv2 i]
    simpa using laid_ints Tryd.underlying82 Tryd.underlying5 cells5 hd2 space_datum i x hx
/-- A slice of bytes that came in. -/
structure Sl where
  blk : Nat
  delta : Nat
  len : Nat
  cap : Nat
  nil : Bool
  base : Option Addr
def Sl.val (s : Sl) : Value := bif s.nil then .slice s.base 0 0 else .slice (some ⟨s.blk, s.delta, none⟩) s.len s.cap
def Sl.Ok (W : World) (s : Sl) (xs : List Int) : Prop := s.len = xs.length ∧ s.len ≤ s.cap ∧ (s.nil = true → xs = []) ∧ (s.nil = false → ∀ (i : Nat) x, xs[i]? = some x → W.cell? ⟨s.blk, s.delta + i, none⟩ = some (.int .u8 x))
def envR (s t : Sl) : Env := { blk := fun b => if b = 0 then 0 else if b = 1 then 1 else if b = 2 then s.blk else t.blk, delta := fun b => if b = 2 then s.delta else if b = 3 then t.delta else 0, len := fun b => if b = 2 then s.len else t.len, cap := fun b => if b = 2 then s.cap else t.cap, isnil := fun b => if b = 2 then s.nil else t.nil, base := fun b => if b = 2 then s.base else t.base }
theorem ints_in (n : Nat) (k : IntKind) (l : List Int) : inSs n (Row.ints k l).toVs = true := by
  rw [inSs_eq, List.all_eq_true]; intro v hv; obtain ⟨z, _, rfl⟩ := List.mem_map.1 hv; rfl
theorem strs_in (n : Nat) (l : List ByteArray) : inSs n (Row.strs l).toVs = true := by
  rw [inSs_eq, List.all_eq_true]; intro v hv; obtain ⟨z, _, rfl⟩ := List.mem_map.1 hv; rfl
theorem holdsR {W : World} (h : laidMetH Tryd.prog laidR W) {s t : Sl} {xs ys : List Int} (hs : s.Ok W xs) (ht : t.Ok W ys) :
    Holds (envR s t) (gH2 ++ [.rs (!s.nil) 1 (.ints .u8 xs), .rs (!t.nil) 1 (.ints .u8 ys)]) W := by
  obtain ⟨h1, h2⟩ := tables_of h
  refine ⟨fun b blk hb => ?_, fun b b' x x' hb hb' hm _ _ _ => ?_⟩
  · match b, hb with
    | 0, hb =>
      cases hb
      refine ⟨rfl, rfl, strs_in _ _, fun i v hv => ?_⟩
      simp only [Row.toVs, List.getElem?_map, Option.map_eq_some_iff] at hv
      obtain ⟨z, hz, rfl⟩ := hv
      have := h1 i z hz
      simpa [envR, conc] using this
    | 1, hb =>
      cases hb
      refine ⟨rfl, rfl, ints_in _ _ _, fun i v hv => ?_⟩
      simp only [Row.toVs, List.getElem?_map, Option.map_eq_some_iff] at hv
      obtain ⟨z, hz, rfl⟩ := hv
      have := h2 i z hz
      simpa [envR, conc] using this
    | 2, hb =>
      cases hb
      obtain ⟨q1, q2, q3, q4⟩ := hs
      refine ⟨ints_in _ _ _, by omega, by simp [envR, Row.len, q1], q2, fun hn => ?_, fun hn i v hv => ?_⟩
      · have hn : s.nil = true := hn
        rw [q3 hn, hn]; exact ⟨rfl, rfl⟩
      · simp only [Row.toVs, List.getElem?_map, Option.map_eq_some_iff] at hv
        obtain ⟨z, hz, rfl⟩ := hv
        have := q4 hn i z hz
        simpa [envR, conc] using this
    | 3, hb =>
      cases hb
      obtain ⟨q1, q2, q3, q4⟩ := ht
      refine ⟨ints_in _ _ _, by omega, by simp [envR, Row.len, q1], q2, fun hn => ?_, fun hn i v hv => ?_⟩
      · have hn : t.nil = true := hn
        rw [q3 hn, hn]; exact ⟨rfl, rfl⟩
      · simp only [Row.toVs, List.getElem?_map, Option.map_eq_some_iff] at hv
        obtain ⟨z, hz, rfl⟩ := hv
        have := q4 hn i z hz
        simpa [envR, conc] using this
    | b + 4, hb => simp [gH2] at hb
  · match b, hb with
    | 0, hb => cases hb; cases hm
    | 1, hb => cases hb; cases hm
    | 2, hb => cases hb; cases hm
    | 3, hb => cases hb; cases hm
    | b + 4, hb => simp [gH2] at hb
theorem gH2_ro {n1 n2 : Bool} {xs ys : List Int} : ∀ (b : Nat) blk, (gH2 ++ [.rs n1 1 (.ints .u8 xs), .rs n2 1 (.ints .u8 ys)])[b]? = some blk → blk.mine = false := by
  intro b blk hb
  match b, hb with
  | 0, hb => cases hb; rfl
  | 1, hb => cases hb; rfl
  | 2, hb => cases hb; rfl
  | 3, hb => cases hb; rfl
  | b + 4, hb => simp [gH2] at hb
theorem walkR {W : World} (h : laidMetH Tryd.prog laidR W) {s t : Sl} {xs ys : List Int} (hs : s.Ok W xs) (ht : t.Ok W ys) (hx : allU xs = true) (hy : allU ys = true) :
    Calls Tryd.prog 9 #[s.val, t.val] W fun e w' => e = .returned (.bool true) ∧ RowKit.Below W.heap.size W w' := by
  obtain ⟨v1, h1, hk, hok⟩ := evalFn_ok orcN_ok mixed Tryd.func9 noLoops_ok (callReads_true (!s.nil) (!t.nil) hx hy)
  cases hk
  have hc := hok _ W (holdsR h hs ht) rfl
  have e : (concs (envR s t) [.gs 2, .gs 3]).toArray = #[s.val, t.val] := by simp [concs, conc, envR, Sl.val]
  rw [e] at hc
  refine hc.mono ?_
  rintro e w' ⟨x, E', rfl, hx, _, ht⟩
  exact ⟨by rw [hx.bool], ht.below_ro gH2_ro⟩
theorem allU_of : ∀ (xs : List Int), (∀ n ∈ xs, (Lit.int .u8 n).wf = true) → allU xs = true
  | [], _ => rfl
  | a :: r, h => by
    simp only [allU, Bool.and_eq_true, decide_eq_true_eq]
    exact ⟨u8_range (h a (by simp)), allU_of r fun n hn => h n (by simp [hn])⟩
/-- A slice of bytes, as its reading tells it. -/
theorem slice_of {H : Type} {enc : TypeId × Value → H} {W : World} {ba : Option Addr} {n c : Nat} {d : DataW H} {p : List MemPlace} (h : DataW.Trod enc Tryd.prog W 0 (fun _ => true) true 22 (.slice ba n c) d p) :
    ∃ (s : Sl) (xs : List Int), s.val = .slice ba n c ∧ s.Ok W xs ∧ allU xs = true := by
  obtain ⟨fuel, hf⟩ := h
  rcases open_ints Tryd.underlying22 Tryd.underlying5 cells5 hf with ⟨hcs, _⟩ | ⟨a, len, cap, zs, hcs, _, hl, hm, hz, _, hcell, hwz⟩
  · have hv1 := slice_cells hcs
    cases hv1
    exact ⟨⟨0, 0, 0, 0, true, none⟩, [], rfl, ⟨rfl, Nat.le_refl _, fun _ => rfl, fun hn => by cases hn⟩, rfl⟩
  · have hv1 := slice_cells hcs
    obtain ⟨e1, e2, e3⟩ : some a = ba ∧ len = n ∧ cap = c := by simp only [Value.slice.injEq] at hv1; exact ⟨hv1.1.symm, hv1.2.1.symm, hv1.2.2.symm⟩
    subst e1; subst e2; subst e3
    have hz' : zs.length = cap := by simpa using hz
    rcases Nat.eq_zero_or_pos cap with hc0 | hc0
    · subst hc0
      obtain rfl : len = 0 := by omega
      exact ⟨⟨0, 0, 0, 0, true, some a⟩, [], rfl, ⟨rfl, Nat.le_refl _, fun _ => rfl, fun hn => by cases hn⟩, rfl⟩
    · obtain ⟨b, off, rfl, hat⟩ := ints_at hcell (by omega)
      refine ⟨⟨b, off, len, cap, false, none⟩, zs.take len, rfl, ⟨by show len = (zs.take len).length; rw [List.length_take]; omega, hl, (fun hn => by cases hn), fun _ i x hi => ?_⟩, allU_of _ fun n hn => hwz n (List.mem_of_mem_take hn)⟩
      rw [List.getElem?_take] at hi
      split at hi
      · have hlt := getElem?_lt hi
        have := hat i hlt
        rw [List.getD_eq_getElem?_getD, hi] at this
        exact this
      · cases hi
end Go.Proofs.YtpehklboickdpaaDoor
