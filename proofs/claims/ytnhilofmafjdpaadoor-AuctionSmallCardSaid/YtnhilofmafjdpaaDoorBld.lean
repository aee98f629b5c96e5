/- Texts merged: Bld, Line. -/
import Derived.Test.YtnhilofmafjdpaaDoorShelf
import Derived.WalkKit
import Derived.BigCall
import Derived.LoopN
/- Chapter 9: strings.Builder's WriteString. -/
namespace Go.Proofs.YtnhilofmafjdpaaDoor
open Go Go.RowKit

theorem size109 : ∃ j, Tryd.prog.info? 109 = some j ∧ j.size = 2 := by
  have h : (Tryd.prog.info? 109).map (·.size) = some 2 := by kernel_rfl
  obtain ⟨j, h1, h2⟩ := Option.map_eq_some_iff.1 h
  exact ⟨j, h1, h2⟩
theorem lies109 : liesAt Tryd.prog Tryd.prog.depth 109 (2 / Tryd.prog.cellsOf 109) 0 109 1 = true := by kernel_rfl
set_option maxHeartbeats 1000000 in
set_option maxRecDepth 100000 in
/-- A builder that has been used passes the check. -/
theorem check_used (b : Nat) (w : World) (h0 : w.cell? ⟨b, 0, none⟩ = some (.pointer (some ⟨b, 0, none⟩))) :
    Calls Tryd.prog 81 #[.pointer (some ⟨b, 0, none⟩)] w fun e w' => e = .returned (.tuple #[]) ∧ w' = w := by
  obtain ⟨j, hj, _⟩ := size109
  go_enter Tryd.func81, Tryd.ntmps81
  go_wp2
  rw [Lib.run_neq_ptr_same w _ Tryd.underlying107 hj]
  go_wp2
  go_end0
  exact ⟨rfl, rfl⟩
set_option maxHeartbeats 1000000 in
set_option maxRecDepth 100000 in
/-- A fresh builder notes its own address. -/
theorem check_fresh (b : Nat) (w : World) (h0 : w.cell? ⟨b, 0, none⟩ = some (.pointer none)) (hsh : w.shape? b = some (109, 2)) (hfz : w.frozen? ⟨b, 0, none⟩ = false) :
    Calls Tryd.prog 81 #[.pointer (some ⟨b, 0, none⟩)] w fun e w' => e = .returned (.tuple #[]) ∧ w' = w.setCell ⟨b, 0, none⟩ (.pointer (some ⟨b, 0, none⟩)) := by
  obtain ⟨j, hj, hjs⟩ := size109
  go_enter Tryd.func81, Tryd.ntmps81
  go_wp2
  rw [Lib.run_to_unsafe w ⟨b, 0, none⟩ Tryd.underlying107 Tryd.underlying145 hj (by rw [hjs]; decide) hsh (Nat.zero_lt_succ 1)]
  simp only [Result.andThen]
  rw [Oper.upon_value]
  go_wp2
  rw [run_callFunc_extern Tryd.func92 (by kernel_rfl) (by kernel_rfl) (by kernel_rfl) (e := Extern.AbiNoEscape.same) (by kernel_rfl)]
  rw [Lib.run_noEscape]
  simp only [Result.andThen]
  rw [Oper.upon_value]
  go_wp2
  rw [Lib.run_from_unsafe w ⟨b, 0, none⟩ Tryd.underlying145 Tryd.underlying107 hj hsh lies109]
  simp only [Result.andThen]
  rw [Oper.upon_value]
  go_wp2
  go_end0
  exact ⟨rfl, rfl⟩
/-- Behind the check a builder has been used; it holds what it held. -/
theorem check_b (B b : Nat) (bs : List Value) (w : World) (h : Lib.IsBuilder 109 5 B b bs w) :
    Calls Tryd.prog 81 #[.pointer (some ⟨b, 0, none⟩)] w fun e w' => e = .returned (.tuple #[]) ∧ (Lib.BuilderAt 109 5 B b (.pointer (some ⟨b, 0, none⟩)) bs w' ∧ Below B w w') := by
  rcases h with h | h
  · refine (check_fresh b w h.cell0 h.shape h.frozen0).mono ?_
    rintro e w' ⟨rfl, rfl⟩
    exact ⟨rfl, h.used _, (Below.refl B w).setCell (p := ⟨b, 0, none⟩) h.1 _⟩
  · refine (check_used b w h.cell0).mono ?_
    rintro e w' ⟨rfl, rfl⟩
    exact ⟨rfl, h, Below.refl B _⟩
theorem infoU8 : ∃ i, Tryd.prog.info? 5 = some i ∧ i.zero = some (.int .u8 0) ∧ i.size = 1 ∧ i.bytes = 1 := by
  have h : (Tryd.prog.info? 5).map (fun i => (i.zero, i.size, i.bytes)) = some (some (.int .u8 0), 1, 1) := by kernel_rfl
  obtain ⟨i, h1, h2⟩ := Option.map_eq_some_iff.1 h
  simp only [Prod.mk.injEq] at h2
  exact ⟨i, h1, h2.1, h2.2.1, h2.2.2⟩
set_option maxHeartbeats 1000000 in
set_option maxRecDepth 100000 in
theorem writes (B b : Nat) (bs : List Value) (s : ByteArray) (w : World) (h : Lib.IsBuilder 109 5 B b bs w) (hlen : bs.length + s.size ≤ 140737488355328) (hBw : B ≤ w.heap.size) :
    Calls Tryd.prog 68 #[.pointer (some ⟨b, 0, none⟩), .string s] w fun e w' => e = .returned (.tuple #[.int .i64 s.size, .nilIface]) ∧ (Lib.BuilderAt 109 5 B b (.pointer (some ⟨b, 0, none⟩)) (bs ++ Lib.strCells s) w' ∧ Below B w w') := by
  obtain ⟨i0, hi, hz0, hz1, hz2⟩ := infoU8
  go_enter Tryd.func68, Tryd.ntmps68
  go_wp2_with (go_at_call 81; refine (check_b B b bs _ h).mono ?_)
  rintro e w1 ⟨rfl, h1, hb1⟩
  obtain ⟨hB, v, hbk, hown, hne⟩ := h1
  have c0 : w1.cell? ⟨b, 0, none⟩ = some (.pointer (some ⟨b, 0, none⟩)) := by rw [Lib.cell_of_heap hbk]; rfl
  have c1 : w1.cell? ⟨b, 1, none⟩ = some v := by rw [Lib.cell_of_heap hbk]; rfl
  go_wp2_with (at_builtin; refine Lib.wpList_append_own_string _ rfl _ _ 26 9 rfl B 5 i0 Tryd.underlying26 Tryd.underlying9 hi hz0 hz1 hz2 _ _ _ rfl hown s rfl ?c3 ?c4 ?c5 ?_)
  case c3 => unfold maxLen; omega
  case c4 => omega
  case c5 => have := hb1.size; omega
  intro v' w2 hown' hgrow _
  have hlt : b < w1.heap.size := by
    rcases Nat.lt_or_ge b w1.heap.size with h' | h'
    · exact h'
    · simp [Array.getElem?_eq_none h'] at hbk
  have hb2 : w2.heap[b]? = some (.cells #[.pointer (some ⟨b, 0, none⟩), v] 109 (0, 0)) := by
    rw [hgrow.block b hlt (fun e => hne e.symm)]
    exact hbk
  have d0 : w2.cell? ⟨b, 0, none⟩ = some (.pointer (some ⟨b, 0, none⟩)) := by rw [Lib.cell_of_heap hb2]; rfl
  have d1 : w2.cell? ⟨b, 1, none⟩ = some v := by rw [Lib.cell_of_heap hb2]; rfl
  have f1 : w2.frozen? ⟨b, 1, none⟩ = false := Lib.frozen_of_heap hb2 1
  obtain ⟨ao, n', cap, rfl⟩ : ∃ ao n' cap, v' = .slice ao n' cap := by
    rcases hown'.2 with ⟨hv, _⟩ | ⟨g, cap, cur, hv, _⟩
    · exact ⟨_, _, _, hv⟩
    · exact ⟨_, _, _, hv⟩
  go_wp2
  go_ret2
  refine ⟨rfl, ?_, ?_⟩
  · exact Lib.BuilderAt.put (T := 109) (e := 5) hB hb2 (bs' := bs ++ Lib.strCells s) (by simpa [Lib.strCells_length] using hown') (by decide)
  · exact (hb1.grown hgrow (by have := hb1.size; omega) (fun k hk => (hown.lt k hk).1)).setCell (p := ⟨b, 1, none⟩) hB _
end Go.Proofs.YtnhilofmafjdpaaDoor

/- Chapter 9: line. -/
namespace Go.Proofs.YtnhilofmafjdpaaDoor
open Go Go.RowKit
theorem idx0 (s0 s1 s2 s3 : ByteArray) (W : World) : (Instr.index 87 (.agg #[.string s0, .string s1, .string s2, .string s3]) (.int .i64 0)).run Tryd.prog W = .ok (.string s0) W := by
  simp [Instr.index, run_underlying Tryd.underlying87, asIntOf, part, Tryd.sizeOf9, Tryd.isAgg9]
theorem idx1 (s0 s1 s2 s3 : ByteArray) (W : World) : (Instr.index 87 (.agg #[.string s0, .string s1, .string s2, .string s3]) (.int .i64 1)).run Tryd.prog W = .ok (.string s1) W := by
  simp [Instr.index, run_underlying Tryd.underlying87, asIntOf, part, Tryd.sizeOf9, Tryd.isAgg9]
theorem idx2 (s0 s1 s2 s3 : ByteArray) (W : World) : (Instr.index 87 (.agg #[.string s0, .string s1, .string s2, .string s3]) (.int .i64 2)).run Tryd.prog W = .ok (.string s2) W := by
  simp [Instr.index, run_underlying Tryd.underlying87, asIntOf, part, Tryd.sizeOf9, Tryd.isAgg9]
theorem idx3 (s0 s1 s2 s3 : ByteArray) (W : World) : (Instr.index 87 (.agg #[.string s0, .string s1, .string s2, .string s3]) (.int .i64 3)).run Tryd.prog W = .ok (.string s3) W := by
  simp [Instr.index, run_underlying Tryd.underlying87, asIntOf, part, Tryd.sizeOf9, Tryd.isAgg9]
/-- A cell of a table's line. -/
def cellL (s : ByteArray) : List UInt8 := s.data.toList ++ List.replicate (5 - s.data.toList.length) 32
theorem repeat_blank : ∀ n, Lib.repeatL [32] n = List.replicate n 32
  | 0 => rfl
  | n + 1 => by simp only [Lib.repeatL, repeat_blank n]; rfl
theorem rep_call (s : ByteArray) (h : s.size ≤ 5) (w : World) : Calls Tryd.prog 69 #[.string ⟨#[32]⟩, .int .i64 (5 - (s.size : Int))] w fun e w' => e = .returned (.string ⟨(List.replicate (5 - s.size) (32 : UInt8)).toArray⟩) ∧ Below w.heap.size w w' := by
  have hs : (⟨#[32]⟩ : ByteArray).size = 1 := rfl
  have := Tryd.strings_Repeat ⟨#[32]⟩ (5 - s.size) w (by omega) (by rw [hs]; omega)
  rw [show (((5 - s.size : Nat)) : Int) = 5 - (s.size : Int) by omega] at this
  have e : Lib.repeatL (⟨#[32]⟩ : ByteArray).data.toList (5 - s.size) = List.replicate (5 - s.size) 32 := repeat_blank _
  rw [e] at this
  exact this
/-- One cell is written. -/
theorem wr_cell (B b : Nat) (l : List UInt8) (s : ByteArray) (w : World) (h : Lib.IsBuilder 109 5 B b (Lib.byteCells l) w) (hl : l.length ≤ 100) (hs : s.size ≤ 5) (hBw : B ≤ w.heap.size) :
    Calls Tryd.prog 68 #[.pointer (some ⟨b, 0, none⟩), .string s] w fun e w' => e = .returned (.tuple #[.int .i64 s.size, .nilIface]) ∧ (Lib.IsBuilder 109 5 B b (Lib.byteCells (l ++ s.data.toList)) w' ∧ Below B w w') := by
  refine (writes B b (Lib.byteCells l) s w h (by rw [Lib.byteCells_length]; omega) hBw).mono ?_
  rintro e w' ⟨rfl, h1, h2⟩
  rw [Lib.strCells_eq, ← Lib.byteCells_append] at h1
  exact ⟨rfl, .inr h1, h2⟩
theorem isB_below {B b : Nat} {l : List UInt8} {w w' : World} (h : Lib.IsBuilder 109 5 B b (Lib.byteCells l) w) (hb : Below w.heap.size w w') : Lib.IsBuilder 109 5 B b (Lib.byteCells l) w' := by
  have key : ∀ p, Lib.BuilderAt 109 5 B b p (Lib.byteCells l) w → Lib.BuilderAt 109 5 B b p (Lib.byteCells l) w' := fun p hp => by
    have hlt := hp.lt
    obtain ⟨h1, v, h2, h3, h4⟩ := hp
    refine ⟨h1, v, by rw [hb.block b hlt]; exact h2, h3.kept (row := none) ⟨hb.os, hb.tape, hb.output, hb.size, fun k hk _ => hb.block k hk⟩ ?_, h4⟩
    cases v.ownBlock with
    | none => exact .inl rfl
    | some g => exact .inr (by simp)
  rcases h with h | h
  · exact .inl (key _ h)
  · exact .inr (key _ h)
def LL (s : ByteArray) (l : List UInt8) : List UInt8 := (l ++ s.data.toList) ++ List.replicate (5 - s.size) 32
def L0 (_ _ _ _ : ByteArray) : List UInt8 := []
def L1 (s0 _ _ _ : ByteArray) : List UInt8 := [] ++ s0.data.toList
def L2 (s0 _ _ _ : ByteArray) : List UInt8 := LL s0 []
def L3 (s0 s1 _ _ : ByteArray) : List UInt8 := LL s0 [] ++ s1.data.toList
def L4 (s0 s1 _ _ : ByteArray) : List UInt8 := LL s1 (LL s0 [])
def L5 (s0 s1 s2 _ : ByteArray) : List UInt8 := LL s1 (LL s0 []) ++ s2.data.toList
def L6 (s0 s1 s2 _ : ByteArray) : List UInt8 := LL s2 (LL s1 (LL s0 []))
def L7 (s0 s1 s2 s3 : ByteArray) : List UInt8 := LL s2 (LL s1 (LL s0 [])) ++ s3.data.toList
def L8 (s0 s1 s2 s3 : ByteArray) : List UInt8 := LL s3 (LL s2 (LL s1 (LL s0 [])))
theorem LL_len {s : ByteArray} (h : s.size ≤ 5) (l : List UInt8) : (LL s l).length = l.length + 5 := by
  have : s.data.toList.length = s.size := rfl
  simp only [LL, List.length_append, List.length_replicate]; omega
theorem LL_cell {s : ByteArray} (l : List UInt8) : LL s l = l ++ cellL s := by
  unfold LL cellL; rw [List.append_assoc]; rfl
theorem L8_is (s0 s1 s2 s3 : ByteArray) : L8 s0 s1 s2 s3 = cellL s0 ++ cellL s1 ++ cellL s2 ++ cellL s3 := by
  unfold L8; rw [LL_cell, LL_cell, LL_cell, LL_cell]; rfl
theorem blank_size (s : ByteArray) : (⟨(List.replicate (5 - s.size) (32 : UInt8)).toArray⟩ : ByteArray).size ≤ 5 := by
  show (List.replicate (5 - s.size) (32 : UInt8)).toArray.size ≤ 5
  simp
theorem L_len0 {s0 s1 s2 s3 : ByteArray} : (L0 s0 s1 s2 s3).length ≤ 100 := by
  simp only [L0, List.length_nil]; omega
theorem L_len1 {s0 s1 s2 s3 : ByteArray} (h0 : s0.size ≤ 5) : (L1 s0 s1 s2 s3).length ≤ 100 := by
  have e : s0.data.toList.length = s0.size := rfl
  simp only [L1, List.length_append, List.length_nil]; omega
theorem L_len2 {s0 s1 s2 s3 : ByteArray} (h0 : s0.size ≤ 5) : (L2 s0 s1 s2 s3).length ≤ 100 := by
  simp only [L2, LL_len h0, List.length_nil]; omega
theorem L_len3 {s0 s1 s2 s3 : ByteArray} (h0 : s0.size ≤ 5) (h1 : s1.size ≤ 5) : (L3 s0 s1 s2 s3).length ≤ 100 := by
  have e : s1.data.toList.length = s1.size := rfl
  simp only [L3, List.length_append, LL_len h0, List.length_nil]; omega
theorem L_len4 {s0 s1 s2 s3 : ByteArray} (h0 : s0.size ≤ 5) (h1 : s1.size ≤ 5) : (L4 s0 s1 s2 s3).length ≤ 100 := by
  simp only [L4, LL_len h0, LL_len h1, List.length_nil]; omega
theorem L_len5 {s0 s1 s2 s3 : ByteArray} (h0 : s0.size ≤ 5) (h1 : s1.size ≤ 5) (h2 : s2.size ≤ 5) : (L5 s0 s1 s2 s3).length ≤ 100 := by
  have e : s2.data.toList.length = s2.size := rfl
  simp only [L5, List.length_append, LL_len h0, LL_len h1, List.length_nil]; omega
theorem L_len6 {s0 s1 s2 s3 : ByteArray} (h0 : s0.size ≤ 5) (h1 : s1.size ≤ 5) (h2 : s2.size ≤ 5) : (L6 s0 s1 s2 s3).length ≤ 100 := by
  simp only [L6, LL_len h0, LL_len h1, LL_len h2, List.length_nil]; omega
theorem L_len7 {s0 s1 s2 s3 : ByteArray} (h0 : s0.size ≤ 5) (h1 : s1.size ≤ 5) (h2 : s2.size ≤ 5) (h3 : s3.size ≤ 5) : (L7 s0 s1 s2 s3).length ≤ 100 := by
  have e : s3.data.toList.length = s3.size := rfl
  simp only [L7, List.length_append, LL_len h0, LL_len h1, LL_len h2, List.length_nil]; omega
set_option maxHeartbeats 4000000 in
set_option maxRecDepth 100000 in
theorem line_p (s0 s1 s2 s3 : ByteArray) (w : World) (h0 : s0.size ≤ 5) (h1 : s1.size ≤ 5) (h2 : s2.size ≤ 5) (h3 : s3.size ≤ 5) :
    Calls Tryd.prog 48 #[.agg #[.string s0, .string s1, .string s2, .string s3]] w fun e w' => e = .returned (.string ⟨(cellL s0 ++ cellL s1 ++ cellL s2 ++ cellL s3).toArray⟩) ∧ Below w.heap.size w w' := by
  have i0 := idx0 s0 s1 s2 s3
  have i1 := idx1 s0 s1 s2 s3
  have i2 := idx2 s0 s1 s2 s3
  have i3 := idx3 s0 s1 s2 s3
  have hB0 : Lib.IsBuilder 109 5 w.heap.size (w.heap.size + 1) (Lib.byteCells []) ((w.alloc (.cells #[.string s0, .string s1, .string s2, .string s3] 87)).alloc (.cells #[.pointer none, .slice none 0 0] 109)) := by
    refine .inl ⟨by omega, .slice none 0 0, ?_, World.ownsRow_nil _ _ _ _, by simp [Value.ownBlock]⟩
    have := heap_alloc_new (w.alloc (.cells #[.string s0, .string s1, .string s2, .string s3] 87)) (.cells #[.pointer none, .slice none 0 0] 109)
    simpa using this
  have b0 : Below w.heap.size w ((w.alloc (.cells #[.string s0, .string s1, .string s2, .string s3] 87)).alloc (.cells #[.pointer none, .slice none 0 0] 109)) := ((Below.refl _ w).alloc (Nat.le_refl _) _).alloc (by simp) _
  go_enter Tryd.func48, Tryd.ntmps48
  go_wp2
  refine wp_loop_rounds 5 ?_
  rw [rounds_succ]
  go_wp2_with (go_at_call 68; refine (wr_cell w.heap.size (w.heap.size + 1) (L0 s0 s1 s2 s3) s0 _ hB0 (L_len0) h0 b0.size).mono ?_)
  first
    | rintro e W1 rfl hB1 c1
    | rintro e W1 ⟨rfl, hB1, c1⟩
  have b1 := b0.trans c1
  go_wp2_with (go_at_call 69; refine (rep_call s0 h0 _).mono ?_)
  first
    | rintro e V1 rfl d1
    | rintro e V1 ⟨rfl, d1⟩
  have e1 := b1.trans (d1.mono b1.size)
  have f1 := isB_below hB1 d1
  go_wp2_with (go_at_call 68; refine (wr_cell w.heap.size (w.heap.size + 1) (L1 s0 s1 s2 s3) ⟨(List.replicate (5 - s0.size) (32 : UInt8)).toArray⟩ _ f1 (L_len1 h0) (blank_size s0) e1.size).mono ?_)
  first
    | rintro e W2 rfl hB2 c2
    | rintro e W2 ⟨rfl, hB2, c2⟩
  have b2 := e1.trans c2
  go_wp2
  rw [rounds_succ]
  go_wp2_with (go_at_call 68; refine (wr_cell w.heap.size (w.heap.size + 1) (L2 s0 s1 s2 s3) s1 _ hB2 (L_len2 h0) h1 b2.size).mono ?_)
  first
    | rintro e W3 rfl hB3 c3
    | rintro e W3 ⟨rfl, hB3, c3⟩
  have b3 := b2.trans c3
  go_wp2_with (go_at_call 69; refine (rep_call s1 h1 _).mono ?_)
  first
    | rintro e V3 rfl d3
    | rintro e V3 ⟨rfl, d3⟩
  have e3 := b3.trans (d3.mono b3.size)
  have f3 := isB_below hB3 d3
  go_wp2_with (go_at_call 68; refine (wr_cell w.heap.size (w.heap.size + 1) (L3 s0 s1 s2 s3) ⟨(List.replicate (5 - s1.size) (32 : UInt8)).toArray⟩ _ f3 (L_len3 h0 h1) (blank_size s1) e3.size).mono ?_)
  first
    | rintro e W4 rfl hB4 c4
    | rintro e W4 ⟨rfl, hB4, c4⟩
  have b4 := e3.trans c4
  go_wp2
  rw [rounds_succ]
  go_wp2_with (go_at_call 68; refine (wr_cell w.heap.size (w.heap.size + 1) (L4 s0 s1 s2 s3) s2 _ hB4 (L_len4 h0 h1) h2 b4.size).mono ?_)
  first
    | rintro e W5 rfl hB5 c5
    | rintro e W5 ⟨rfl, hB5, c5⟩
  have b5 := b4.trans c5
  go_wp2_with (go_at_call 69; refine (rep_call s2 h2 _).mono ?_)
  first
    | rintro e V5 rfl d5
    | rintro e V5 ⟨rfl, d5⟩
  have e5 := b5.trans (d5.mono b5.size)
  have f5 := isB_below hB5 d5
  go_wp2_with (go_at_call 68; refine (wr_cell w.heap.size (w.heap.size + 1) (L5 s0 s1 s2 s3) ⟨(List.replicate (5 - s2.size) (32 : UInt8)).toArray⟩ _ f5 (L_len5 h0 h1 h2) (blank_size s2) e5.size).mono ?_)
  first
    | rintro e W6 rfl hB6 c6
    | rintro e W6 ⟨rfl, hB6, c6⟩
  have b6 := e5.trans c6
  go_wp2
  rw [rounds_succ]
  go_wp2_with (go_at_call 68; refine (wr_cell w.heap.size (w.heap.size + 1) (L6 s0 s1 s2 s3) s3 _ hB6 (L_len6 h0 h1 h2) h3 b6.size).mono ?_)
  first
    | rintro e W7 rfl hB7 c7
    | rintro e W7 ⟨rfl, hB7, c7⟩
  have b7 := b6.trans c7
  go_wp2_with (go_at_call 69; refine (rep_call s3 h3 _).mono ?_)
  first
    | rintro e V7 rfl d7
    | rintro e V7 ⟨rfl, d7⟩
  have e7 := b7.trans (d7.mono b7.size)
  have f7 := isB_below hB7 d7
  go_wp2_with (go_at_call 68; refine (wr_cell w.heap.size (w.heap.size + 1) (L7 s0 s1 s2 s3) ⟨(List.replicate (5 - s3.size) (32 : UInt8)).toArray⟩ _ f7 (L_len7 h0 h1 h2 h3) (blank_size s3) e7.size).mono ?_)
  first
    | rintro e W8 rfl hB8 c8
    | rintro e W8 ⟨rfl, hB8, c8⟩
  have b8 := e7.trans c8
  go_wp2
  rw [rounds_succ]
  go_wp2_with (go_at_call 70; refine (Tryd.Builder_String_any w.heap.size (w.heap.size + 1) (L8 s0 s1 s2 s3) _ hB8 b8.size).mono ?_)
  rintro e W9 ⟨rfl, c9⟩
  go_wp2
  go_ret
  exact ⟨by rw [L8_is]; rfl, b8.trans c9⟩
end Go.Proofs.YtnhilofmafjdpaaDoor
