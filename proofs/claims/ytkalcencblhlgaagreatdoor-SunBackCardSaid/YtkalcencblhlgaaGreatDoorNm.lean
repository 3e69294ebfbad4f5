/- Numbers with a sign: the program's integer of a text, the reference's Digits, Signed and Text. Conditions: none. (The walks are turned from salt's.) -/
import Derived.Test.YtkalcencblhlgaaGreatDoorSpl
namespace Go.Proofs
open Go.RowKit Go.Ev
def intD (s : ByteArray) : Int × Bool := match (Nat.ble s.size 9 && allDig s s.size) && canonB s with
 | true => (valN s s.size, true)
 | false => (0, false)
theorem intD_good {s : ByteArray} (h1 : s.size ≤ 9) (h2 : ∀ j, j < s.size → digB (byt s j) = true) (h3 : 0 < s.size) (h4 : byt s 0 = 48 → s.size = 1) : intD s = (valN s s.size, true) := by
 unfold intD
 rw [Nat.ble_eq_true_of_le h1, allDig_of h2, canonB_iff.2 ⟨h3, h4⟩]; rfl
theorem intD_bad {s : ByteArray} (h : s.size ≤ 9 → (∀ j, j < s.size → digB (byt s j) = true) → 0 < s.size → (byt s 0 = 48 → s.size = 1) → False) : intD s = (0, false) := by
 have : ((Nat.ble s.size 9 && allDig s s.size) && canonB s) = false := by
  cases hc : ((Nat.ble s.size 9 && allDig s s.size) && canonB s) with
  | false => rfl
  | true =>
   rw [Bool.and_eq_true, Bool.and_eq_true] at hc
   obtain ⟨⟨h1, h2⟩, h3⟩ := hc
   obtain ⟨a, b⟩ := canonB_iff.1 h3
   exact (h (Nat.le_of_ble_eq_true h1) (allDig_at h2) a b).elim
 unfold intD
 rw [this]
theorem valN_pos {s : ByteArray} : ∀ {k : Nat}, 0 < k → (∀ j, j < k → digB (byt s j) = true) → byt s 0 ≠ 48 → 0 < valN s k
 | k + 1, _, hd, h0 => by
  have hk := digB_iff.1 (hd k (by omega))
  show 0 < 10 * valN s k + ((byt s k : Int) - 48)
  rcases Nat.eq_zero_or_pos k with rfl | hp
  ·show 0 < 10 * (0 : Int) + ((byt s 0 : Int) - 48)
   omega
  ·have := valN_pos hp (fun j hj => hd j (by omega)) h0
   omega
end Go.Proofs
