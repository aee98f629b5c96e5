/- ENGINE, PART 12b: a state read through other names; what a template finds there. -/
import Derived.Test.YtbocdcnkmcejjaaDoorEngWeak
namespace Go.Eng
open Go

/-- The second block says no more than the first one; the names are the same. -/
inductive BlkI (n : Nat) : Blk → Blk → Prop
  | dead (b : Blk) : BlkI n b .dead
  | same (b : Blk) : blkIn n b = true → BlkI n b b
  | nil (ty : TypeId) (sz : Nat) (row : Row) : rowIn n row = true → BlkI n (.grow true ty sz row) (.grow false ty sz row)
structure SubI (s s2 : AS) : Prop where
  tlen : s2.tmps.length = s.tmps.length
  tmps : ∀ (i : Nat) v, s2.tmps[i]? = some v → v = .top ∨ (s.tmps[i]? = some v ∧ inS s2.heap.length v = true)
  hlen : s2.heap.length ≤ s.heap.length
  heap : ∀ (b : Nat) blk2, s2.heap[b]? = some blk2 → ∃ blk, s.heap[b]? = some blk ∧ BlkI s2.heap.length blk blk2
  marks : s2.marks = s.marks
  scope : ∀ b ∈ s2.marks, b < s2.heap.length

def renB (σ : Nat → Nat) : Blk → Blk
  | .dead => .dead
  | .defs => .defs
  | .ro r => .ro (renR σ r)
  | .glob g r => .glob g (renR σ r)
  | .rs nn sz r => .rs nn sz (renR σ r)
  | .own ty r => .own ty (renR σ r)
  | .grow nn ty sz r => .grow nn ty sz (renR σ r)
  | .loopB st me tmps ps assign body d => .loopB st me (renVs σ tmps) ps assign body (σ d)
section
variable {σ ρ : Nat → Nat} {n : Nat}
mutual
theorem ren_back (hσ : ∀ b, σ b < n → ρ (σ b) = b) : ∀ v, inS n (renV σ v) = true → renV ρ (renV σ v) = v
  | .bool _, _ | .int _ _, _ | .str _, _ | .flat _, _ | .glob _ _, _ => rfl
  | .top, h => by simp [renV, inS] at h
  | .ptr b off, h => by simp only [renV, inS, Nat.blt_eq] at h ⊢; rw [hσ b h]
  | .view b l sz len, h => by simp only [renV, inS, Nat.blt_eq] at h ⊢; rw [hσ b h]
  | .aslice b off len cap, h => by simp only [renV, inS, Nat.blt_eq] at h ⊢; rw [hσ b h]
  | .gs b, h => by simp only [renV, inS, Nat.blt_eq] at h ⊢; rw [hσ b h]
  | .yield b, h => by simp only [renV, inS, Nat.blt_eq] at h ⊢; rw [hσ b h]
  | .func f l, h => by simp only [renV, inS] at h ⊢; rw [rens_back hσ l h]
  | .agg l, h => by simp only [renV, inS] at h ⊢; rw [rens_back hσ l h]
  | .tuple l, h => by simp only [renV, inS] at h ⊢; rw [rens_back hσ l h]
theorem rens_back (hσ : ∀ b, σ b < n → ρ (σ b) = b) : ∀ l, inSs n (renVs σ l) = true → renVs ρ (renVs σ l) = l
  | [], _ => rfl
  | v :: r, h => by
    simp only [renVs, inSs, Bool.and_eq_true] at h
    simp only [renVs]
    rw [ren_back hσ v h.1, rens_back hσ r h.2]
end
variable (hσ : ∀ b, σ b < n → ρ (σ b) = b)
include hσ
theorem slots_back : ∀ l, slotsIn n (renVs σ l) = true → renVs ρ (renVs σ l) = l
  | [], _ => rfl
  | v :: r, h => by
    simp only [renVs, slotsIn, Bool.and_eq_true] at h
    simp only [renVs]
    rw [slots_back r h.2]
    congr 1
    by_cases ht : v = .top
    · subst ht; rfl
    · refine ren_back hσ v ?_
      have := h.1
      cases v <;> first | exact this | exact absurd rfl ht
theorem row_back {r : Row} (h : rowIn n (renR σ r) = true) : renR ρ (renR σ r) = r := by
  cases r with
  | vs l => simp only [renR, rowIn] at h ⊢; rw [rens_back hσ l h]
  | ints k l => rfl
  | strs l => rfl
theorem BlkI.back {blk blk2 : Blk} (h : BlkI n (renB σ blk) blk2) : BlkW ρ n blk blk2 := by
  generalize hb : renB σ blk = b1 at h
  cases h with
  | dead => exact .dead _
  | same b hin =>
    subst hb
    cases blk with
    | dead => exact .dead _
    | defs => exact .defs
    | ro r => have := BlkW.ro (ρ := ρ) (renR σ r) hin; rw [row_back hσ hin] at this; exact this
    | glob g r => have := BlkW.glob (ρ := ρ) g (renR σ r) hin; rw [row_back hσ hin] at this; exact this
    | rs nn sz r => have := BlkW.rs (ρ := ρ) nn sz (renR σ r) hin; rw [row_back hσ hin] at this; exact this
    | own ty r => have := BlkW.own (ρ := ρ) ty (renR σ r) hin; rw [row_back hσ hin] at this; exact this
    | grow nn ty sz r => have := BlkW.grow (ρ := ρ) nn nn ty sz (renR σ r) hin id; rw [row_back hσ hin] at this; exact this
    | loopB st me tmps ps assign body d =>
      simp only [renB, blkIn, Bool.and_eq_true, Nat.blt_eq] at hin
      have := BlkW.loopB (ρ := ρ) st me (renVs σ tmps) ps assign body (σ d) hin.1 hin.2
      rw [slots_back hσ tmps hin.1, hσ d hin.2] at this
      exact this
  | nil ty sz row hin =>
    cases blk <;> simp only [renB] at hb <;> try cases hb
    rename_i r
    have := BlkW.grow (ρ := ρ) true false ty sz (renR σ r) hin (fun h => by cases h)
    rw [row_back hσ hin] at this
    exact this
end

/-- The renaming, as the list of the images of 0, 1, .. -/
def nthN : List Nat → Nat → Nat
  | [], b => b
  | a :: _, 0 => a
  | _ :: r, n + 1 => nthN r n
/-- Where a name stands in the list; behind its end if nowhere. -/
def idxN : List Nat → Nat → Nat
  | [], b => b
  | a :: r, b => bif Nat.beq a b then 0 else idxN r b + 1
theorem idxN_nth : ∀ {l : List Nat} {b : Nat}, idxN l b < l.length → nthN l (idxN l b) = b
  | [], b, h => by simp at h
  | a :: r, b, h => by
    unfold idxN at h ⊢
    cases hb : Nat.beq a b with
    | true => rw [cond_true]; simp only [nthN]; exact Nat.eq_of_beq_eq_true hb
    | false =>
      rw [hb, cond_false, List.length_cons] at h
      rw [cond_false]
      simp only [nthN]
      exact idxN_nth (by omega)
def mapN (f : Nat → Nat) : List Nat → List Nat
  | [] => []
  | a :: r => f a :: mapN f r
def readH (σ : Nat → Nat) (h : List Blk) : List Nat → List Blk
  | [] => []
  | a :: r => renB σ (getB h a) :: readH σ h r
/-- A state, its blocks under the names of the list's places. -/
def readS (l : List Nat) (s : AS) : AS := ⟨renVs (idxN l) s.tmps, readH (idxN l) s.heap l, mapN (idxN l) s.marks⟩
def idB : Nat → Nat → List Nat → Bool
  | 0, _, _ => true
  | _ + 1, _, [] => false
  | n + 1, i, a :: r => Nat.beq a i && idB n (i + 1) r
def notIn (b : Nat) : List Nat → Bool
  | [] => true
  | a :: r => !(Nat.beq a b) && notIn b r
def distinct : List Nat → Bool
  | [] => true
  | a :: r => notIn a r && distinct r
def allLt (n : Nat) : List Nat → Bool
  | [] => true
  | a :: r => Nat.blt a n && allLt n r
/-- The list may serve as a renaming behind the first n0 blocks. -/
def fitsB (n0 : Nat) (l : List Nat) (s : AS) : Bool := idB n0 0 l && (distinct l && (allLt s.heap.length l && allLt l.length (mapN (idxN l) s.marks)))
theorem idB_ok : ∀ {n i : Nat} {l : List Nat}, idB n i l = true → n ≤ l.length ∧ ∀ b, b < n → nthN l b = i + b
  | 0, i, l, _ => ⟨Nat.zero_le _, fun b hb => by omega⟩
  | n + 1, i, [], h => by simp [idB] at h
  | n + 1, i, a :: r, h => by
    simp only [idB, Bool.and_eq_true] at h
    have h1 := Nat.eq_of_beq_eq_true h.1
    obtain ⟨h2, h3⟩ := idB_ok h.2
    refine ⟨by simp only [List.length_cons]; omega, fun b hb => ?_⟩
    cases b with
    | zero => simp [nthN, h1]
    | succ b => simp only [nthN]; rw [h3 b (by omega)]; omega
theorem notIn_ok : ∀ {l : List Nat} {b : Nat}, notIn b l = true → ∀ j, j < l.length → nthN l j ≠ b
  | [], b, _, j, hj => by simp at hj
  | a :: r, b, h, 0, _ => by
    simp only [notIn, Bool.and_eq_true] at h
    intro e; simp only [nthN] at e; subst e; simp at h
  | a :: r, b, h, j + 1, hj => by
    simp only [notIn, Bool.and_eq_true] at h
    simp only [nthN]
    exact notIn_ok h.2 j (by simpa using hj)
theorem distinct_ok : ∀ {l : List Nat}, distinct l = true → ∀ b b', b < l.length → b' < l.length → nthN l b = nthN l b' → b = b'
  | [], _, b, _, hb, _, _ => by simp at hb
  | a :: r, h, b, b', hb, hb', he => by
    simp only [distinct, Bool.and_eq_true] at h
    cases b with
    | zero =>
      cases b' with
      | zero => rfl
      | succ b' => exact absurd he.symm (notIn_ok h.1 b' (by simpa using hb'))
    | succ b =>
      cases b' with
      | zero => exact absurd he (notIn_ok h.1 b (by simpa using hb))
      | succ b' => rw [distinct_ok h.2 b b' (by simpa using hb) (by simpa using hb') he]
theorem allLt_ok {n : Nat} : ∀ {l : List Nat}, allLt n l = true → (∀ j, j < l.length → nthN l j < n) ∧ ∀ x ∈ l, x < n
  | [], _ => ⟨fun j hj => by simp at hj, fun x hx => by cases hx⟩
  | a :: r, h => by
    simp only [allLt, Bool.and_eq_true, Nat.blt_eq] at h
    obtain ⟨h1, h2⟩ := allLt_ok h.2
    refine ⟨fun j hj => ?_, fun x hx => ?_⟩
    · cases j with
      | zero => exact h.1
      | succ j => exact h1 j (by simpa using hj)
    · rcases List.mem_cons.1 hx with rfl | hx
      · exact h.1
      · exact h2 x hx
theorem readH_get {σ : Nat → Nat} {h : List Blk} : ∀ {l : List Nat} {b : Nat} {blk : Blk}, (readH σ h l)[b]? = some blk → b < l.length ∧ blk = renB σ (getB h (nthN l b))
  | [], b, blk, hb => by simp [readH] at hb
  | a :: r, 0, blk, hb => by simp [readH] at hb; exact ⟨by simp, by simp [nthN, hb]⟩
  | a :: r, b + 1, blk, hb => by
    simp only [readH, List.getElem?_cons_succ] at hb
    obtain ⟨h1, h2⟩ := readH_get hb
    exact ⟨by simpa using h1, by simpa [nthN] using h2⟩
theorem readH_len {σ : Nat → Nat} {h : List Blk} : ∀ {l : List Nat}, (readH σ h l).length = l.length
  | [] => rfl
  | a :: r => by simp only [readH, List.length_cons, readH_len (l := r)]
theorem mapN_eq (f : Nat → Nat) (l : List Nat) : mapN f l = l.map f := by
  induction l with
  | nil => rfl
  | cons a r ih => simp [mapN, ih]

theorem Sub.of {n0 : Nat} {l : List Nat} {s s2 : AS} (hf : fitsB n0 l s = true) (hlen : s2.heap.length = l.length) (h : SubI (readS l s) s2) : Sub n0 (nthN l) s s2 := by
  simp only [fitsB, Bool.and_eq_true] at hf
  obtain ⟨f1, f2, f3, f4⟩ := hf
  obtain ⟨g1, g2⟩ := idB_ok f1
  have hσ : ∀ b, idxN l b < s2.heap.length → nthN l (idxN l b) = b := fun b hb => idxN_nth (by rw [← hlen]; exact hb)
  refine ⟨fun b hb => by rw [g2 b hb]; omega, fun b b' hb hb' he => distinct_ok f2 b b' (by rw [← hlen]; exact hb) (by rw [← hlen]; exact hb') he, ?_, fun i v hi => ?_, fun b blk2 hb => ?_, ?_, ?_, by rw [hlen]; exact g1⟩
  · rw [h.tlen]; simp [readS, renVs_eq]
  · rcases h.tmps i v hi with h1 | ⟨h1, h2⟩
    · exact .inl h1
    · refine .inr ⟨?_, h2⟩
      simp only [readS, renVs_eq, List.getElem?_map] at h1
      cases hs : s.tmps[i]? with
      | none => rw [hs] at h1; cases h1
      | some u =>
        rw [hs] at h1
        simp only [Option.map_some, Option.some.injEq] at h1
        subst h1
        rw [ren_back hσ u h2]
  · obtain ⟨blk, h1, h2⟩ := h.heap b blk2 hb
    obtain ⟨k1, rfl⟩ := readH_get h1
    have hlt := (allLt_ok f3).1 b k1
    refine ⟨getB s.heap (nthN l b), ?_, BlkI.back hσ h2⟩
    rw [getB_eq]
    rw [List.getElem?_eq_getElem hlt]
    rfl
  · rw [h.marks]
    simp only [readS, mapN_eq, List.map_map]
    have : ∀ x ∈ s.marks, nthN l (idxN l x) = x := fun x hx => idxN_nth ((allLt_ok f4).2 _ (by rw [mapN_eq]; exact List.mem_map.2 ⟨x, hx, rfl⟩))
    conv => rhs; rw [← List.map_id s.marks]
    exact List.map_congr_left this
  · exact h.scope
end Go.Eng
