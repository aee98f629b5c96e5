/- ENGINE, PART 5h: copy into an array of ours. -/
import Derived.Test.YtbocdcnkmcejjaaDoorEngOpsNil
namespace Go.Eng
open Go
section
variable {R : Type} {P : Program} {o : Oper} {ev : Operand → V} {h : List Blk} {K : KOp R}
/-- All cells of what is copied go into the array: it is long enough. -/
def aCopy (P : Program) (t : TypeId) (d x : V) (h : List Blk) (K : KOp R) : Option R := match P.underlying t with
  | some (.slice e) => match szT P e with
    | some 1 => match d with
      | .aslice b off len _ => match getB h b with
        | .own ty row => srcK x 1 h (fun row2 => match row2.toVs with
          | [] => none
          | v :: q => match rowOne row2 with
            | true => cond (decide (row2.len ≤ len)) (rowSet row off (v :: q) (fun row' => K (.int .i64 (Int.ofNat row2.len)) [] (.all (setB h b (.own ty row'))))) none
            | false => none)
        | _ => none
      | _ => none
    | _ => none
  | _ => none
theorem ok_copy {c : Call} {t : TypeId} {so xo : Operand} (ho : o.op = .call c) (hc : c.callee = .builtin .copy) (hargs : c.args = #[so, xo]) (ht : c.argTypes[0]? = some t) :
    AopOk P o ev h (aCopy P t (ev so) (ev xo) h K) K := by
  intro r hr
  generalize hsv : ev so = sv at hr
  unfold aCopy at hr
  split at hr
  · rename_i e hte
    split at hr
    · rename_i hsz
      split at hr
      · rename_i b off len cap
        split at hr
        · rename_i ty row hblk
          obtain ⟨row2, hr2, Hsrc⟩ := srcK_ok (P := P) (by omega) hr
          split at hr2
          · cases hr2
          · rename_i v q hvq
            split at hr2
            · rename_i hone
              cases hcd : decide (row2.len ≤ len) with
              | false => rw [hcd] at hr2; cases hr2
              | true =>
                rw [hcd, cond_true] at hr2
                simp only [decide_eq_true_eq] at hcd
                obtain ⟨row', hk, hfit, hrow⟩ := rowSet_ok hr2
                refine ⟨_, _, _, hk, rfl, fun hx hsame => ?_⟩
                have hsame : hx = h := hsame
                subst hsame
                intro E a W hh hv next Q hnext
                have hops : ∀ y, y = so ∨ y = xo → VR E hx.length (ev y) (a.eval y) := fun y hy => hv y (by
                  rw [ho]; simp only [Op.operands, Call.operands, hc, hargs]; rcases hy with rfl | rfl <;> simp)
                obtain ⟨hin2, n, hn, hlen2, hfirst2⟩ := Hsrc E W hh _ (hops xo (.inr rfl))
                have hso := hops so (.inl rfl)
                rw [hsv] at hso
                have hs := (hso.val (by simp)).1
                have hb := getB_some hblk (by simp)
                rw [hvq] at hin2 hn hfirst2
                have honeV : ∀ u ∈ v :: q, oneV u = true := fun u hu => by
                  rw [← hvq] at hu
                  cases row2 with
                  | vs l => exact allOne_mem hone u hu
                  | ints k l => obtain ⟨z, _, rfl⟩ := List.mem_map.1 hu; rfl
                  | strs l => obtain ⟨z, _, rfl⟩ := List.mem_map.1 hu; rfl
                obtain ⟨W', hst, h1, h3⟩ := hh.store (P := P) hb (blk' := .own ty row') (.inl ⟨ty, row, rfl, rfl⟩) (by simp) hfit hrow hin2 honeV
                have hrl : row2.len = n := by rw [Row.len_eq, hvq]; omega
                have hmin : Nat.min n len = n := Nat.min_eq_left (by omega)
                have hrun : (Builtin.copy_ c.argTypes o.type #[a.eval so, a.eval xo]).run P W = .ok (.int .i64 n) W' := by
                  unfold Builtin.copy_
                  rw [hs, conc]
                  obtain ⟨i, hi, hi1⟩ : ∃ i, P.info? e = some i ∧ i.size = 1 := by
                    unfold szT at hsz
                    cases hi : P.info? e with
                    | none => rw [hi] at hsz; simp at hsz
                    | some i => rw [hi] at hsz; exact ⟨i, rfl, by simpa using hsz⟩
                  simp only [ht, List.getElem?_toArray, List.getElem?_cons_zero, List.getElem?_cons_succ, Sem.run_bind, run_underlying hte, Result.andThen_ok, hlen2, hmin, run_szT hsz, hfirst2 W hh, hst, Sem.run_pure, goInt]
                have hargs' : c.args.map a.eval = #[a.eval so, a.eval xo] := by rw [hargs]; simp
                have hrun' : (execOp a.eval o).run P W = .ok (.value (.int .i64 n)) W' := by
                  simp only [execOp, ho, resolve, hc, Sem.run_bind, Sem.run_pure, Result.andThen_ok, invoke, builtin, hargs', hrun]
                refine Oper.wpE_value hrun' ?_
                exact hnext _ _ _ (.inr ⟨rfl, by rw [hrl]; rfl⟩) h1 h3
            · cases hr2
        · cases hr
      · cases hr
    · cases hr
  · cases hr
end
end Go.Eng
