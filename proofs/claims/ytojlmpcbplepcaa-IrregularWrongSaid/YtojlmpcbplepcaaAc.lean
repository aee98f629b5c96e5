/- Texts merged: Ac, Ac2, Ac3. -/
import Derived.Test.YtojlmpcbplepcaaRf
/- Chapter 10: Accept: its formula. -/
namespace Go.Proofs.Ytojlmpcbplepcaa
open Go Go.Eng
noncomputable def acM (s : CD) (j : Nat) (X : CD → AN) : AN := bif decide (0 < s.p.at j) then X ((s.setP (wr .i64 (s.p.at j - 1)) j).setA 0 j) else X (s.setA 0 j)
noncomputable def acT (xs ac : List Int) (x : Int) (ys bc : List Int) (s : CD) (j : Nat) : AN := bif decide (400 ≤ Int.ofNat ys.length) then badA 5 xs ac else bif decide ((ys ++ [x]).length * 2 ≤ 70368744177664) then acM s j (fun s' => some (ansP (s'.setH 0) 0 xs ac (ys ++ [x]) bc, [])) else none
noncomputable def acF (N : NC) (xs ac : List Int) (x : Int) (ys : List Int) (s : CD) (j : Nat) : AN := bif N.J.OK ys && N.J.BY x then bif !N.J.FR s.d ys x then badA 104 xs ac else acT xs ac x ys ac s j else none
noncomputable def acR (N : NC) (xs ac : List Int) (x : Int) : Nat → List Int → CD → Nat → AN
  | 0, ys, s, j => acF N xs ac x ys s j
  | r + 1, ys, s, j => bif N.J.OK ys then bif N.J.OV s.d ys then badA 104 xs ac else bif decide ((ys ++ [0]).length * 2 ≤ 70368744177664) then acM s j (fun s' => acR N xs ac x r (ys ++ [0]) s' ((j + 1) % 4)) else none else none
noncomputable def acK1 (xs ac : List Int) (x : Int) (s : CD) (j : Nat) : AN := bif decide ((ac ++ [Int.ofNat xs.length]).length * 9 ≤ 70368744177664) then acT xs ac x xs (ac ++ [Int.ofNat xs.length]) s j else none
noncomputable def acW (N : NC) (xs ac : List Int) (s : CD) (t : Nat) (X : AN) : AN := rfW N xs ac (bif N.J.OK xs && decide (N.TR s xs = (t : Int)) then X else none)
section
variable (N : NC) (xs ac : List Int) (s : CD) (x : Int)
theorem ac_e100 (y : Int) : rfV N 0 0 100 12 Try.f12 xs ac s y x = bif rfCd N xs ac s y x 0 100 then badA 100 xs ac else none := by kernel_rfl
theorem ac_e2 (y : Int) : rfV N 0 0 2 12 Try.f12 xs ac s y x = bif rfCd N xs ac s y x 0 2 then badA 2 xs ac else none := by kernel_rfl
theorem ac_e80 (y : Int) : rfV N 0 0 80 12 Try.f12 xs ac s y x = bif rfCd N xs ac s y x 0 80 then badA 80 xs ac else none := by kernel_rfl
theorem ac_k0 (y : Int) : rfV N 0 0 0 12 Try.f12 xs ac s y x = bif rfCd N xs ac s y x 0 0 then badA 6 xs ac else none := by kernel_rfl
theorem ac_k2 (y : Int) : rfV N 0 2 0 12 Try.f12 xs ac s y x = bif rfCd N xs ac s y x 2 0 then badA 104 xs ac else none := by kernel_rfl
theorem ac_k6 (y : Int) : rfV N 0 6 0 12 Try.f12 xs ac s y x = bif rfCd N xs ac s y x 6 0 then badA 104 xs ac else none := by kernel_rfl
theorem ac_k7 (y : Int) : rfV N 0 7 0 12 Try.f12 xs ac s y x = bif rfCd N xs ac s y x 7 0 then badA 104 xs ac else none := by kernel_rfl
theorem ac_k1 : ∀ t : Nat, t < 4 → rfV N t 1 0 12 Try.f12 xs ac s (t : Int) x = bif rfCd N xs ac s (t : Int) x 1 0 then acW N xs ac s t (acK1 xs ac x s t) else none
  | 0, _ => by kernel_rfl
  | 1, _ => by kernel_rfl
  | 2, _ => by kernel_rfl
  | 3, _ => by kernel_rfl
  | n + 4, h => absurd h (by omega)
theorem ac_k3 : ∀ t : Nat, t < 4 → rfV N t 3 0 12 Try.f12 xs ac s (((t + 1) % 4 : Nat) : Int) x = bif rfCd N xs ac s (((t + 1) % 4 : Nat) : Int) x 3 0 then acW N xs ac s t (acR N xs ac x 1 xs s t) else none
  | 0, _ => by kernel_rfl
  | 1, _ => by kernel_rfl
  | 2, _ => by kernel_rfl
  | 3, _ => by kernel_rfl
  | n + 4, h => absurd h (by omega)
end
end Go.Proofs.Ytojlmpcbplepcaa

/- Chapter 10: Accept: its formula, for the partner's call. -/
namespace Go.Proofs.Ytojlmpcbplepcaa
open Go Go.Eng
theorem ac_k4 (N : NC) (xs ac : List Int) (s : CD) (x : Int) : ∀ t : Nat, t < 4 → rfV N t 4 0 12 Try.f12 xs ac s (((t + 2) % 4 : Nat) : Int) x = bif rfCd N xs ac s (((t + 2) % 4 : Nat) : Int) x 4 0 then acW N xs ac s t (acR N xs ac x 2 xs s t) else none
  | 0, _ => by kernel_rfl
  | 1, _ => by kernel_rfl
  | 2, _ => by kernel_rfl
  | 3, _ => by kernel_rfl
  | n + 4, h => absurd h (by omega)
end Go.Proofs.Ytojlmpcbplepcaa

/- Chapter 10: Accept: its formula, for the call of the seat on the right. -/
namespace Go.Proofs.Ytojlmpcbplepcaa
open Go Go.Eng
theorem ac_k5 (N : NC) (xs ac : List Int) (s : CD) (x : Int) : ∀ t : Nat, t < 4 → rfV N t 5 0 12 Try.f12 xs ac s (((t + 3) % 4 : Nat) : Int) x = bif rfCd N xs ac s (((t + 3) % 4 : Nat) : Int) x 5 0 then acW N xs ac s t (acR N xs ac x 3 xs s t) else none
  | 0, _ => by kernel_rfl
  | 1, _ => by kernel_rfl
  | 2, _ => by kernel_rfl
  | 3, _ => by kernel_rfl
  | n + 4, h => absurd h (by omega)
end Go.Proofs.Ytojlmpcbplepcaa
