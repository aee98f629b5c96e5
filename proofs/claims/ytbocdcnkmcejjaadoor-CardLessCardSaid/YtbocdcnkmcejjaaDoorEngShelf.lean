/- ENGINE, PART 18: contracts of the library's functions, as the engine takes them. -/
import Derived.Test.YtbocdcnkmcejjaaDoorEngFrame
import Derived.Test.YtbocdcnkmcejjaaDoorEngLocal3
import Derived.Shelf.Strings.OnBuilder
namespace Go.Eng
open Go

theorem pure_of_drew {P : Program} {f : FuncId} {args : List V} {v : V} (he : Enterable P f) (ha : plainVs args = true) (hv : plainV v = true)
    (h : ∀ w, Calls P f (concs env0 args).toArray w fun e w' => e = .returned (conc env0 v) ∧ ∃ n, w' = w.drewN n) : FnPure P f args v := by
  refine ⟨he, fun hp E W hh _ => ?_⟩
  have h1 := h W
  rw [(plainVs_conc (E := env0) (E' := E) (n := 0) args ha).1] at h1
  refine h1.mono ?_
  rintro e w' ⟨rfl, n, rfl⟩
  obtain ⟨q1, q2⟩ := plainV_conc (E := env0) (E' := E) (n := hp.length) v hv
  refine ⟨_, E, rfl, .inr ⟨q2, q1⟩, ?_⟩
  have key : ∀ (n : Nat) (W : World), Holds E hp W → Holds E hp (W.drewN n) ∧ Trans E hp W E hp (W.drewN n) := by
    intro n
    induction n with
    | zero => intro W hh; exact ⟨hh, Trans.refl _ _ _⟩
    | succ n ih =>
      intro W hh
      obtain ⟨a, b⟩ := ih W hh
      exact ⟨a.drew, b.trans Trans.drew⟩
  exact key n W hh
theorem pure_of_same {P : Program} {f : FuncId} {args : List V} {v : V} (he : Enterable P f) (ha : plainVs args = true) (hv : plainV v = true)
    (h : ∀ w, Calls P f (concs env0 args).toArray w fun e w' => e = .returned (conc env0 v) ∧ w' = w) : FnPure P f args v :=
  pure_of_drew he ha hv fun w => (h w).mono (by rintro e w' ⟨h1, rfl⟩; exact ⟨h1, 0, rfl⟩)

/-- What was there stays: the abstract heap too. -/
theorem Holds.below {E : Env} {h : List Blk} {W W' : World} (hh : Holds E h W) (hB : RowKit.Below W.heap.size W W') : Holds E h W' ∧ Trans E h W E h W' :=
  ⟨hh.keep (Agree.refl _ _) hB.block, ⟨Agree.refl _ _, Nat.le_refl _, fun _ hk => .inl hk, fun k hk _ => hB.block k hk, hB.size, hB.os, hB.tape, hB.output⟩⟩

/-! ### what a call has made may be forgotten -/
def blkPl : Blk → Bool
  | .glob _ r | .ro r | .rs _ _ r => rowPlain r
  | .dead => true
  | _ => false
theorem blkPl_ok {blk : Blk} (hp : blkPl blk = true) {E : Env} {n m b : Nat} {W : World} (hk : BlkOk E n W b blk) : BlkOk E m W b blk ∧ blk.mine = false := by
  cases blk <;> simp only [blkPl] at hp <;> try cases hp
  · exact ⟨hk, rfl⟩
  · exact ⟨⟨(rowPlain_ok hp E E m).1, hk.2⟩, rfl⟩
  · exact ⟨⟨hk.1, hk.2.1, (rowPlain_ok hp E E m).1, hk.2.2.2⟩, rfl⟩
  · exact ⟨⟨(rowPlain_ok hp E E m).1, hk.2⟩, rfl⟩
theorem FnOK.cut {P : Program} {f : FuncId} {args : List V} {h nb : List Blk} {v : V} (hk : FnOK P f args h v (h ++ nb)) (hp : h.all blkPl = true) (hv : plainV v = true) : FnOK P f args h v h := by
  intro E W hh hin
  refine (hk E W hh hin).mono ?_
  rintro e w' ⟨x, E', rfl, hx, hh', ht⟩
  have hat : ∀ (b : Nat) blk, h[b]? = some blk → (h ++ nb)[b]? = some blk ∧ blkPl blk = true := fun b blk hb =>
    ⟨by rw [List.getElem?_append_left (getElem?_lt hb)]; exact hb, List.all_eq_true.1 hp blk (List.mem_of_getElem? hb)⟩
  have hro : ∀ (b : Nat) blk, h[b]? = some blk → blk.mine = false := fun b blk hb => (blkPl_ok (m := 0) (hat b blk hb).2 (hh'.ok b blk (hat b blk hb).1)).2
  obtain ⟨q1, q2⟩ := plainV_conc (E := E') (E' := E') (n := h.length) v hv
  have hxx : VR E' h.length v x := by
    rcases hx with rfl | ⟨_, h2⟩
    · exact .inl rfl
    · exact .inr ⟨q2, h2⟩
  refine ⟨x, E', rfl, hxx, ⟨fun b blk hb => (blkPl_ok (hat b blk hb).2 (hh'.ok b blk (hat b blk hb).1)).1, fun b b' blk blk' hb _ hm => by rw [hro b blk hb] at hm; cases hm⟩, ?_⟩
  exact ⟨ht.agree, Nat.le_refl _, fun k hk => (by obtain ⟨b, blk, hb, hm, _⟩ := hk; rw [hro b blk hb] at hm; cases hm), ht.frame, ht.size, ht.os, ht.tape, ht.output⟩

def joinS (xs : List ByteArray) (sep : ByteArray) : ByteArray := { data := (Lib.join (xs.map fun x => x.data.toList) sep.data.toList).toArray }
def joinLen (xs : List ByteArray) (sep : ByteArray) : Nat := (Lib.join (xs.map fun x => x.data.toList) sep.data.toList).length
theorem join_fn {P : Program} {f : FuncId} {nn : Bool} {xs : List ByteArray} {sep : ByteArray}
    (H : ∀ (bk o c : Nat) (xs : List ByteArray) (sep : ByteArray) (w : World), (∀ (j : Nat) (x : ByteArray), xs[j]? = some x → w.cell? { block := bk, off := o + j } = some (Value.string x)) → bk < w.heap.size →
      xs.length ≤ 140737488355328 → xs.length ≤ c → (Lib.join (List.map (fun x => x.data.toList) xs) sep.data.toList).length ≤ 140737488355328 →
      Calls P f #[Value.slice (some { block := bk, off := o }) xs.length c, Value.string sep] w fun e w' =>
        e = Ending.returned (Value.string { data := (Lib.join (List.map (fun x => x.data.toList) xs) sep.data.toList).toArray }) ∧ RowKit.Below w.heap.size w w')
    (H0 : ∀ (a : Option Addr) (c : Nat) (sep : ByteArray) (w : World), Calls P f #[Value.slice a 0 c, Value.string sep] w fun e w' => e = Ending.returned (Value.string { data := #[] }) ∧ w' = w)
    (h1 : xs.length ≤ 140737488355328) (h2 : joinLen xs sep ≤ 140737488355328) :
    FnOK P f [.gs 0, .str sep] [.rs nn 1 (.strs xs)] (.str (joinS xs sep)) [.rs nn 1 (.strs xs)] := by
  intro E W hh _
  obtain ⟨_, _, k1, k2, k3, k4⟩ := hh.ok 0 _ rfl
  cases xs with
  | nil =>
    have hl : E.len 0 = 0 := by simp [Row.len] at k1; exact k1
    have hz : ∃ a c, concs E [V.gs 0, V.str sep] = [Value.slice a 0 c, Value.string sep] := by
      cases hn : E.isnil 0 with
      | true => exact ⟨E.base 0, 0, by simp [concs, conc, hn]⟩
      | false => exact ⟨_, E.cap 0, by simp [concs, conc, hn, hl]; rfl⟩
    obtain ⟨a, c, hz⟩ := hz
    rw [hz]
    refine (H0 a c sep W).mono ?_
    rintro e w' ⟨rfl, rfl⟩
    exact ⟨_, E, rfl, VR.mkStr, hh, Trans.refl _ _ _⟩
  | cons x r =>
    have hn : E.isnil 0 = false := by
      cases hn : E.isnil 0 with
      | false => rfl
      | true => have := (k3 hn).1; simp [Row.len] at this
    have hl : E.len 0 = (x :: r).length := by simpa [Row.len] using k1
    have hcell : ∀ (j : Nat) (y : ByteArray), (x :: r)[j]? = some y → W.cell? { block := E.blk 0, off := E.delta 0 + j } = some (Value.string y) := fun j y hj => by
      have := k4 hn j (.str y) (by simp only [Row.toVs, List.getElem?_map, hj]; rfl)
      exact this
    have hb : E.blk 0 < W.heap.size := World.block_lt_of_cell? _ _ (hcell 0 x rfl)
    have hc := H (E.blk 0) (E.delta 0) (E.cap 0) (x :: r) sep W hcell hb h1 (by omega) h2
    have hz : (concs E [V.gs 0, V.str sep]).toArray = #[Value.slice (some { block := E.blk 0, off := E.delta 0 }) (x :: r).length (E.cap 0), Value.string sep] := by
      simp only [concs, conc, hn, cond_false, hl]
    rw [hz]
    refine hc.mono ?_
    rintro e w' ⟨rfl, hB⟩
    obtain ⟨q1, q2⟩ := hh.below hB
    exact ⟨_, E, rfl, VR.mkStr, q1, q2⟩
end Go.Eng
