/- Chapter 2: texts of numbers: reading them back, and their order. -/
import Derived.Test.YthpdeiolhahobaaDoorLWrong2
namespace Go.Proofs.YthpdeiolhahobaaDoor
open Go Go.Eng
def tb (m : Nat) : List UInt8 := (tx m).map fun n => UInt8.ofNat n.toNat
def dgB (m : Nat) : UInt8 := UInt8.ofNat (48 + m % 10)
theorem dgB_nat (m : Nat) : (dgB m).toNat = 48 + m % 10 := by
  unfold dgB
  rw [UInt8.toNat_ofNat']; omega
theorem dgB_of (m : Nat) : UInt8.ofNat (48 + ((m % 10 : Nat) : Int)).toNat = dgB m := by
  unfold dgB
  rw [show (48 + ((m % 10 : Nat) : Int)).toNat = 48 + m % 10 by omega]
theorem tb_one {m : Nat} (h : m / 10 = 0) : tb m = [dgB m] := by
  unfold tb
  rw [tx_one h, List.map_singleton, dgB_of]
theorem tb_more {m : Nat} (h : m / 10 ≠ 0) : tb m = tb (m / 10) ++ [dgB m] := by
  unfold tb
  rw [tx_more h, List.map_append, List.map_singleton, dgB_of]
theorem txB_list (z : Int) : (txB z).data.toList = tb z.toNat := by unfold txB bytesOf tb; simp
theorem tb_ind {p : Nat → Prop} (h1 : ∀ m, m / 10 = 0 → p m) (h2 : ∀ m, m / 10 ≠ 0 → p (m / 10) → p m) : ∀ m, p m := fun m => by
  induction m using Nat.strongRecOn with
  | _ m ih =>
    by_cases h : m / 10 = 0
    · exact h1 m h
    · exact h2 m h (ih (m / 10) (by omega))
theorem tb_pos : ∀ m : Nat, 0 < (tb m).length := tb_ind (fun m h => by rw [tb_one h]; simp) (fun m h _ => by rw [tb_more h]; simp)
theorem tb_dig : ∀ m : Nat, (tb m).all isDig = true := by
  have hd : ∀ m, isDig (dgB m) = true := fun m => by unfold isDig; rw [dgB_nat, decide_eq_true (by omega)]
  exact tb_ind (fun m h => by rw [tb_one h]; simp [hd]) (fun m h ih => by rw [tb_more h, List.all_append, ih]; simp [hd])
/-- The first digit is none but of 0 alone. -/
theorem tb_head : ∀ m : Nat, 0 < m → ∃ b r, tb m = b :: r ∧ b.toNat ≠ 48 :=
  tb_ind (fun m h => fun hp => ⟨_, _, tb_one h, by rw [dgB_nat]; omega⟩) (fun m h ih => fun _ => by
    obtain ⟨b, r, hb, hn⟩ := ih (by omega)
    exact ⟨b, r ++ [dgB m], by rw [tb_more h, hb]; rfl, hn⟩)
theorem tb_run : ∀ m : Nat, m < 340282366920938463463374607431768211456 → ∀ W, rdRun (tb m ++ W) 0 = rdRun W m :=
  tb_ind (fun m h => fun hm W => by
    rw [tb_one h]
    simp only [List.singleton_append, rdRun, dgB_nat]
    rw [show 10 * 0 + (48 + m % 10 - 48) = m by omega, fits_true hm]; rfl) (fun m h ih => fun hm W => by
    rw [tb_more h, List.append_assoc, ih (by omega)]
    simp only [List.singleton_append, rdRun, dgB_nat]
    rw [show 10 * (m / 10) + (48 + m % 10 - 48) = m by omega, fits_true hm]; rfl)
theorem tb_ok (m : Nat) : rdOk (tb m) = true := by
  have hd := tb_dig m
  rcases Nat.eq_zero_or_pos m with rfl | hp
  · rfl
  · obtain ⟨b, r, hb, hn⟩ := tb_head m hp
    rw [hb] at hd ⊢
    rw [List.all_cons, Bool.and_eq_true] at hd
    cases r with
    | nil => exact hd.1
    | cons b2 r => simp only [rdOk, hd.1, hd.2, decide_eq_false hn]; rfl
theorem read_txB {z : Int} (h : 0 ≤ z ∧ z < 340282366920938463463374607431768211456) : rdV (txB z) = z ∧ rdE (txB z) = 0 := by
  have hr := tb_run z.toNat (by omega) []
  rw [List.append_nil] at hr
  unfold rdV rdE
  rw [txB_list, tb_ok, hr]
  simp only [rdRun, cond_true, and_true]
  omega
theorem tb_inj {m n : Nat} (hm : m < 340282366920938463463374607431768211456) (hn : n < 340282366920938463463374607431768211456) (h : tb m = tb n) : m = n := by
  have h1 := tb_run m hm []
  have h2 := tb_run n hn []
  rw [h, h2] at h1
  exact (congrArg Prod.snd h1).symm
/-! ### longer texts are greater -/
theorem tb_mono : ∀ m n : Nat, m ≤ n → (tb m).length ≤ (tb n).length := by
  refine tb_ind (fun m h => fun n _ => ?_) (fun m h ih => fun n hle => ?_)
  · rw [tb_one h]; exact tb_pos n
  · have h2 : n / 10 ≠ 0 := by omega
    have := ih (n / 10) (Nat.div_le_div_right hle)
    rw [tb_more h, tb_more h2, List.length_append, List.length_append]
    simp only [List.length_singleton]; omega
/-! ### texts of one length -/
theorem ltBs_snoc {a b : UInt8} : ∀ {x y : List UInt8}, x.length = y.length → ltBs (x ++ [a]) (y ++ [b]) = (ltBs x y || (beqBs x y && decide (a.toNat < b.toNat)))
  | [], [], _ => by simp [ltBs, beqBs]
  | [], _ :: _, h => by simp at h
  | _ :: _, [], h => by simp at h
  | c :: x, d :: y, h => by
    simp only [List.cons_append, ltBs, beqBs]
    rw [ltBs_snoc (by simpa using h)]
    cases h1 : decide (c.toNat < d.toNat) with
    | true =>
      have : decide (c.toNat = d.toNat) = false := decide_eq_false (by have := of_decide_eq_true h1; omega)
      rw [this]; simp
    | false => cases decide (c.toNat = d.toNat) <;> simp
theorem beqBs_iff {x y : List UInt8} : beqBs x y = true ↔ x = y := by rw [beqBs_eq]; simp
theorem tb_lt : ∀ m n : Nat, n < 340282366920938463463374607431768211456 → m < 340282366920938463463374607431768211456 → (tb m).length = (tb n).length → ltBs (tb m) (tb n) = decide (m < n) := by
  refine tb_ind (fun m h => fun n hn hm hl => ?_) (fun m h ih => fun n hn hm hl => ?_)
  · by_cases h2 : n / 10 = 0
    · rw [tb_one h, tb_one h2]
      simp only [ltBs, dgB_nat, Bool.and_false, Bool.or_false]
      rw [show m % 10 = m by omega, show n % 10 = n by omega]
      rw [Bool.eq_iff_iff, decide_eq_true_eq, decide_eq_true_eq]; omega
    · exfalso
      rw [tb_one h, tb_more h2, List.length_append] at hl
      have := tb_pos (n / 10)
      simp only [List.length_singleton] at hl; omega
  · by_cases h2 : n / 10 = 0
    · exfalso
      rw [tb_one h2, tb_more h, List.length_append] at hl
      have := tb_pos (m / 10)
      simp only [List.length_singleton] at hl; omega
    · rw [tb_more h, tb_more h2, List.length_append, List.length_append] at hl
      simp only [List.length_singleton] at hl
      have hl' : (tb (m / 10)).length = (tb (n / 10)).length := by omega
      rw [tb_more h, tb_more h2, ltBs_snoc hl', ih (n / 10) (by omega) (by omega) hl', dgB_nat, dgB_nat]
      have hb : beqBs (tb (m / 10)) (tb (n / 10)) = decide (m / 10 = n / 10) := by
        rw [Bool.eq_iff_iff, beqBs_iff, decide_eq_true_eq]
        exact ⟨fun e => tb_inj (by omega) (by omega) e, fun e => by rw [e]⟩
      rw [hb, Bool.eq_iff_iff]
      simp only [Bool.or_eq_true, Bool.and_eq_true, decide_eq_true_eq]
      omega
end Go.Proofs.YthpdeiolhahobaaDoor
