/- Chapter 6: the reference's Read: its loop. -/
import Derived.Test.YtpalajfcffdhoaaGreatDoorSp4
namespace Go.Proofs.YtpalajfcffdhoaaGreatDoor
open Go Go.Eng Go.Deal
def putQ : Nat → Int → DQ → DQ
  | 0, v, q => ⟨v, q.b, q.c, q.d⟩
  | 1, v, q => ⟨q.a, v, q.c, q.d⟩
  | 2, v, q => ⟨q.a, q.b, v, q.d⟩
  | _, v, q => ⟨q.a, q.b, q.c, v⟩
def putR (s : ByteArray) (k : Nat) (i v : Int) (q : DQ) : RT := if 3 < k then rrX61 (k : Int) q else some (.normal, rrPs s ((k + 1 : Nat) : Int) (wr .i64 (i + 1)) (wr .i64 (i + 1)) (putQ k v q), [])
theorem rr_all (E : ES) (rd : Option Nat) (s : ByteArray) {k : Nat} (hk : k ≤ 4) (fr i : Int) (q : DQ) : roundT Tryz.prog (orcRr E) noLoops 100 0 rd 39 rrLp rrT rrX (rrPs s (k : Int) fr i q) = rrR E s (k : Int) fr i q fun v => putR s k i v q := by
  have hc : k = 0 ∨ k = 1 ∨ k = 2 ∨ k = 3 ∨ k = 4 := by omega
  rcases hc with rfl | rfl | rfl | rfl | rfl
  · exact rr_0 E rd s fr i q
  · exact rr_1 E rd s fr i q
  · exact rr_2 E rd s fr i q
  · exact rr_3 E rd s fr i q
  · exact rr_4 E rd s fr i q
def rrE (k : Nat) (q : DQ) (w : List UInt8) (K : Nat → Bool × Nat × DQ) : Bool × Nat × DQ := match N4.parseN w with
  | none => (false, k, q)
  | some m => if 3 < k then (false, k, q) else K m
def rrG : List UInt8 → Nat → DQ → List UInt8 → Bool × Nat × DQ
  | [], k, q, w => rrE k q w fun m => (true, k + 1, putQ k (m : Nat) q)
  | b :: r, k, q, w => if b == 32 then rrE k q w fun m => rrG r (k + 1) (putQ k (m : Nat) q) [] else rrG r k q (w ++ [b])
noncomputable def ES1 : ES := { ES0 with pk := fun s => decide (s.data.toList.length ≤ 1000000) }
theorem ES1_pk (s : ByteArray) : ES1.pk s = decide (s.data.toList.length ≤ 1000000) := rfl
theorem ES1_pv : ES1.pv = N4.prV := rfl
theorem ES1_pe : ES1.pe = N4.prE := rfl
theorem ES1_u4 : ES1.u4 = in4 := rfl
theorem ES1_pb : ES1.pb = parB := rfl
theorem tabRr_ok : PTabOk Tryz.prog (tabRr ES1) := by
  refine addTab_ok ?_ (addTab_ok ?_ N4.tabI_ok)
  · intro args c v h hc
    unfold sPa at h
    split at h
    · rename_i s
      cases h
      rw [ES1_pk] at hc
      rw [ES1_pv, ES1_pe]
      exact N4.rparse_p (of_decide_eq_true hc)
    · cases h
  · intro args c v h hc
    unfold sPb at h
    split at h
    · cases h; exact rpar_p hc
    · cases h
theorem orcRr_ok : OracleOk Tryz.prog (orcRr ES1) := N4.orcS_ok tabRr_ok plainL_ok
inductive RS where
  | run (k : Nat) (q : DQ) (pre w rest : List UInt8)
  | fin (k : Nat) (q : DQ)
def RS.enc (s : ByteArray) : RS → List PV
  | .run k q pre w _ => rrPs s (k : Int) (pre.length : Int) ((pre.length + w.length : Nat) : Int) q
  | .fin k q => rrPs s (k : Int) ((s.data.toList.length + 1 : Nat) : Int) ((s.data.toList.length + 1 : Nat) : Int) q
def RS.inv (s : ByteArray) : RS → Prop
  | .run k _ pre w rest => k ≤ 4 ∧ s.data.toList = pre ++ (w ++ rest)
  | .fin k _ => k ≤ 4
def RS.mu : RS → Nat
  | .run _ _ _ _ rest => rest.length + 2
  | .fin _ _ => 1
def RS.out : RS → Bool × Nat × DQ
  | .run k q _ w rest => rrG rest k q w
  | .fin k q => (true, k, q)
def outP : Bool × Nat × DQ → XE × List PV
  | (true, k, q) => (.exit 0, [.i 0, .i (k : Int), .i q.a, .i q.b, .i q.c, .i q.d])
  | (false, k, q) => (.ret, [.i 61, .i (k : Int), .i q.a, .i q.b, .i q.c, .i q.d])
theorem rrP_is {s : ByteArray} {k : Nat} {q : DQ} {pre w rest : List UInt8} (hl : s.data.toList.length ≤ 1000) (hs : s.data.toList = pre ++ (w ++ rest)) (K : Int → RT) :
    rrP ES1 s (k : Int) (pre.length : Int) ((pre.length + w.length : Nat) : Int) q K = match N4.parseN w with
      | none => rrX61 (k : Int) q
      | some m => K (m : Nat) := by
  have hlen : s.data.toList.length = pre.length + (w.length + rest.length) := by rw [hs, List.length_append, List.length_append]
  have he : extS s ((pre.length : Int)).toNat (((pre.length + w.length : Nat) : Int)).toNat = N4.bA w := by
    unfold extS N4.bA
    rw [Int.toNat_natCast, Int.toNat_natCast, hs, List.drop_append, List.drop_length, Nat.sub_self, List.drop_zero, List.nil_append, show pre.length + w.length - pre.length = w.length by omega, List.take_append, List.take_length, Nat.sub_self, List.take_zero, List.append_nil]
  unfold rrP
  rw [he, decide_eq_true (show 0 ≤ (pre.length : Int) ∧ (pre.length : Int) ≤ ((pre.length + w.length : Nat) : Int) ∧ ((pre.length + w.length : Nat) : Int) ≤ Int.ofNat s.data.toList.length by
      refine ⟨by omega, by omega, ?_⟩; show _ ≤ ((s.data.toList.length : Nat) : Int); omega), cond_true, ES1_pk, ES1_pv, ES1_pe, show (N4.bA w).data.toList = w from rfl, decide_eq_true (show w.length ≤ 1000000 by omega), cond_true]
  unfold N4.prE N4.prV
  rw [show (N4.bA w).data.toList = w from rfl]
  cases N4.parseN w with
  | none => rfl
  | some m => rfl
theorem rr_loop (rd : Option Nat) (s : ByteArray) (hl : s.data.toList.length ≤ 1000) : ∀ x : RS, x.inv s →
    SimC Tryz.prog 0 rd (.loop rrLp) (rrT.at (x.enc s)) (outP x.out).1 (rrX.at (outP x.out).2) := by
  refine loop_of_rounds (C := orcRr ES1) (L := noLoops) (N := 100) (me := 39) (T := rrT) (T' := rrX) orcRr_ok mixed noLoops_ok (by kernel_rfl) (by kernel_rfl) (X := RS) (RS.enc s) (RS.inv s) RS.mu (fun x => outP x.out) ?_
  intro x hx
  cases x with
  | fin k q =>
    have h := rr_all ES1 rd s (k := k) hx ((s.data.toList.length + 1 : Nat) : Int) ((s.data.toList.length + 1 : Nat) : Int) q
    unfold rrR at h
    rw [decide_eq_false (show ¬ ((s.data.toList.length + 1 : Nat) : Int) ≤ Int.ofNat s.data.toList.length by show ¬ _ ≤ ((s.data.toList.length : Nat) : Int); omega), cond_false] at h
    exact ⟨_, _, _, h, N4.codes0, .inr ⟨by simp, rfl⟩⟩
  | run k q pre w rest =>
    obtain ⟨hk, hs⟩ := hx
    have hlen : s.data.toList.length = pre.length + (w.length + rest.length) := by rw [hs, List.length_append, List.length_append]
    have h := rr_all ES1 rd s (k := k) hk (pre.length : Int) ((pre.length + w.length : Nat) : Int) q
    unfold rrR at h
    rw [decide_eq_true (show ((pre.length + w.length : Nat) : Int) ≤ Int.ofNat s.data.toList.length by show _ ≤ ((s.data.toList.length : Nat) : Int); omega), cond_true] at h
    cases rest with
    | nil =>
      rw [List.length_nil] at hlen
      rw [decide_eq_false (show ¬ ((pre.length + w.length : Nat) : Int) < Int.ofNat s.data.toList.length by show ¬ _ < ((s.data.toList.length : Nat) : Int); omega), cond_false, rrP_is hl hs] at h
      have eo : RS.out (.run k q pre w []) = rrE k q w fun m => (true, k + 1, putQ k (m : Nat) q) := rfl
      unfold rrE at eo
      cases hp : N4.parseN w with
      | none =>
        rw [hp] at h eo
        exact ⟨_, _, _, h, N4.codes0, .inr ⟨by simp, by rw [eo]; rfl⟩⟩
      | some m =>
        rw [hp] at h eo
        unfold putR at h
        dsimp only at h eo
        by_cases h3 : 3 < k
        · rw [if_pos h3] at h eo
          exact ⟨_, _, _, h, N4.codes0, .inr ⟨by simp, by rw [eo]; rfl⟩⟩
        · rw [if_neg h3, N4.wr64 (by omega) (by omega)] at h
          rw [if_neg h3] at eo
          refine ⟨_, _, _, h, N4.codes0, .inl ⟨rfl, .fin (k + 1) (putQ k (m : Nat) q), ?_, (show k + 1 ≤ 4 by omega), (show 1 < 0 + 2 by omega), by rw [eo]; rfl⟩⟩
          show _ = rrPs s _ _ _ _
          rw [show ((pre.length + w.length : Nat) : Int) + 1 = ((s.data.toList.length + 1 : Nat) : Int) by omega]
    | cons b r =>
      have hb : (s.data.toList)[pre.length + w.length]? = some b := by
        rw [hs, List.getElem?_append_right (by omega), List.getElem?_append_right (by omega), show pre.length + w.length - pre.length - w.length = 0 by omega]; rfl
      rw [List.length_cons] at hlen
      rw [decide_eq_true (show ((pre.length + w.length : Nat) : Int) < Int.ofNat s.data.toList.length by show _ < ((s.data.toList.length : Nat) : Int); omega), cond_true] at h
      unfold N4.chAt at h
      rw [decide_eq_true (show 0 ≤ ((pre.length + w.length : Nat) : Int) by omega), cond_true, Int.toNat_natCast, hb] at h
      dsimp only at h
      have hb32 : decide ((b.toNat : Int) = 32) = (b == 32) := by
        rw [Bool.eq_iff_iff, decide_eq_true_iff, beq_iff_eq, ← UInt8.toNat_inj]
        show (b.toNat : Int) = 32 ↔ b.toNat = 32
        omega
      rw [hb32, rrP_is hl hs] at h
      have eo : RS.out (.run k q pre w (b :: r)) = if b == 32 then rrE k q w fun m => rrG r (k + 1) (putQ k (m : Nat) q) [] else rrG r k q (w ++ [b]) := rfl
      cases h32 : (b == 32) with
      | false =>
        rw [h32, Bool.not_false, cond_true, N4.wr64 (by omega) (by omega)] at h
        rw [h32] at eo
        refine ⟨_, _, _, h, N4.codes0, .inl ⟨rfl, .run k q pre (w ++ [b]) r, ?_, ⟨hk, by rw [hs]; simp⟩, (show r.length + 2 < (b :: r).length + 2 by simp), by rw [eo]; rfl⟩⟩
        show _ = rrPs s _ _ _ _
        rw [List.length_append, show ((pre.length + w.length : Nat) : Int) + 1 = ((pre.length + (w.length + [b].length) : Nat) : Int) by simp; omega]
      | true =>
        rw [h32, Bool.not_true, cond_false] at h
        rw [h32, if_pos rfl] at eo
        unfold rrE at eo
        cases hp : N4.parseN w with
        | none =>
          rw [hp] at h eo
          exact ⟨_, _, _, h, N4.codes0, .inr ⟨by simp, by rw [eo]; rfl⟩⟩
        | some m =>
          rw [hp] at h eo
          unfold putR at h
          dsimp only at h eo
          by_cases h3 : 3 < k
          · rw [if_pos h3] at h eo
            exact ⟨_, _, _, h, N4.codes0, .inr ⟨by simp, by rw [eo]; rfl⟩⟩
          · rw [if_neg h3, N4.wr64 (by omega) (by omega)] at h
            rw [if_neg h3] at eo
            refine ⟨_, _, _, h, N4.codes0, .inl ⟨rfl, .run (k + 1) (putQ k (m : Nat) q) (pre ++ (w ++ [b])) [] r, ?_, ⟨by omega, by rw [hs]; simp⟩, (show r.length + 2 < (b :: r).length + 2 by simp), by rw [eo]; rfl⟩⟩
            show _ = rrPs s _ _ _ _
            rw [show ((pre.length + w.length : Nat) : Int) + 1 = (((pre ++ (w ++ [b])).length : Nat) : Int) by simp; omega]
            rfl
end Go.Proofs.YtpalajfcffdhoaaGreatDoor
