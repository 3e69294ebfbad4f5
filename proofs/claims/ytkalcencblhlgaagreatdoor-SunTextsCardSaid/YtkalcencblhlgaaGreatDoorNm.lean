/- Numbers with a sign: the program's integer of a text, the reference's Digits, Signed and Text. Conditions: none. (The walks are turned from salt's.) -/
import Derived.Test.YtkalcencblhlgaaGreatDoorSpl
namespace Go.Proofs
open Go.RowKit Go.Ev
def intD (s : ByteArray) : Int × Bool := match (Nat.ble s.size 9 && allDig s s.size) && canonB s with
 | true => (valN s s.size, true)
 | false => (0, false)
theorem intD_good {s : ByteArray} (h1 : s.size ≤ 9) (h2 : ∀ j, j < s.size → digB (byt s j) = true) (h3 : 0 < s.size) (h4 : byt s 0 = 48 → s.size = 1) : intD s = (valN s s.size, true) := by
 unfold intD
 rw [Nat.ble_eq_true_of_le h1, allDig_of h2, canonB_iff.2 ⟨h3, h4⟩]; rfl
theorem intD_bad {s : ByteArray} (h : s.size ≤ 9 → (∀ j, j < s.size → digB (byt s j) = true) → 0 < s.size → (byt s 0 = 48 → s.size = 1) → False) : intD s = (0, false) := by
 have : ((Nat.ble s.size 9 && allDig s s.size) && canonB s) = false := by
  cases hc : ((Nat.ble s.size 9 && allDig s s.size) && canonB s) with
  | false => rfl
  | true =>
   rw [Bool.and_eq_true, Bool.and_eq_true] at hc
   obtain ⟨⟨h1, h2⟩, h3⟩ := hc
   obtain ⟨a, b⟩ := canonB_iff.1 h3
   exact (h (Nat.le_of_ble_eq_true h1) (allDig_at h2) a b).elim
 unfold intD
 rw [this]
theorem valN_pos {s : ByteArray} : ∀ {k : Nat}, 0 < k → (∀ j, j < k → digB (byt s j) = true) → byt s 0 ≠ 48 → 0 < valN s k
 | k + 1, _, hd, h0 => by
  have hk := digB_iff.1 (hd k (by omega))
  show 0 < 10 * valN s k + ((byt s k : Int) - 48)
  rcases Nat.eq_zero_or_pos k with rfl | hp
  ·show 0 < 10 * (0 : Int) + ((byt s 0 : Int) - 48)
   omega
  ·have := valN_pos hp (fun j hj => hd j (by omega)) h0
   omega
set_option maxRecDepth 1000000 in
set_option maxHeartbeats 1000000 in
theorem Tryz.digits_walk (s : ByteArray) (hsz : s.size < 9223372036854775807) (w : World) :
  Calls Tryz.prog 126 #[.string s] w fun e w' => e = .returned (.tuple #[.int .i64 (intD s).1, .bool (intD s).2]) ∧ Below w.heap.size w w' := by
 rcases Nat.eq_zero_or_pos s.size with hz | hp
 ·have : s = ⟨#[]⟩ := ByteArray.ext (Array.eq_empty_of_size_eq_zero hz)
  subst this
  go_enter Tryz.func126, Tryz.ntmps126
  have hQ : intD ⟨#[]⟩ = (0, false) := by kernel_rfl
  go_wp2
  go_ret2
  try rw [hQ]
  exact ⟨rfl, Below.refl _ _⟩
 have hne := toList_ne hp
 have hb0 := byt_at s 0 hp
 by_cases h9 : 9 < s.size
 ·have hQ := intD_bad (s := s) fun h _ _ _ => by omega
  have h9' : (s.size : Int) > 9 := by omega
  go_enter Tryz.func126, Tryz.ntmps126
  go_wp2
  go_ret2
  try rw [hQ]
  exact ⟨rfl, Below.refl _ _⟩
 have hs : s.size ≤ 9 := by omega
 clear h9 hsz
 by_cases hbad : byt s 0 = 48 ∧ 1 < s.size
 ·have hQ := intD_bad (s := s) fun _ _ _ h => by have := h hbad.1; omega
  obtain ⟨h1, h2⟩ := hbad
  rw [h1] at hb0
  have hb1 : ((s[0]'hp).toNat : Int) = 48 := by omega
  go_enter Tryz.func126, Tryz.ntmps126
  go_wp2
  go_ret2
  try rw [hQ]
  exact ⟨rfl, Below.refl _ _⟩
 have hgood : byt s 0 = 48 → s.size = 1 := fun h => by
  by_cases h2 : 1 < s.size
  ·exact absurd ⟨h, h2⟩ hbad
  ·omega
 clear hbad
 go_enter Tryz.func126, Tryz.ntmps126
 go_wp2
 all_goals first
  | (exfalso; simp_all; done)
  | (exfalso; simp_all; omega)
  | skip
 all_goals (
  go_loop [4, 5] (fun n i => ∃ k : Nat, k ≤ s.size ∧ i = .int .i64 k ∧ n = .int .i64 (valN s k) ∧ ∀ j, j < k → digB (byt s j) = true) (fun _ i => s.size - (intOf i).toNat)
  case atStart => exact ⟨0, Nat.zero_le _, rfl, rfl, fun j hj => absurd hj (Nat.not_lt_zero _)⟩
  case round =>
   obtain ⟨k, hk, rfl, rfl, hdig⟩ := hrel
   by_cases hlt : k < s.size
   ·have hb := byt_at s k hlt
    have hv := valN_lt hdig
    have hp10 : (10 : Int) ^ k ≤ 10 ^ 9 := by
     have : (10 : Nat) ^ k ≤ 10 ^ 9 := Nat.pow_le_pow_right (by decide) (by omega)
     exact_mod_cast this
    have e9 : (10 : Int) ^ 9 = 1000000000 := by decide
    rw [e9] at hp10
    have hn : valN s (k + 1) = 10 * valN s k + ((byt s k : Int) - 48) := rfl
    rw [hb] at hn
    have hvl : valN s k < 1000000000 := by omega
    have hv0 := hv.1
    clear hv hp10 e9
    cases hd : digB (byt s k) with
    | true =>
     have h1 := digB_iff.1 hd
     rw [hb] at h1
     have h3 : ((s[k]'hlt).toNat : Int) - 48 = (((s[k]'hlt).toNat - 48 : Nat) : Int) := by omega
     generalize hvv : valN s k = v at *
     go_wp2
     refine ⟨⟨_, _, _, _, ⟨k + 1, hlt, rfl, rfl, fun j hj => ?_⟩, rfl, rfl, ?_, by rw [Int.natCast_add]; rfl⟩, by simp [intOf]; omega⟩
     ·by_cases e : j = k
      ·subst e; exact hd
      ·exact hdig j (by omega)
     ·rw [hn, h3]
    | false =>
     have hQ := intD_bad (s := s) fun _ h2 _ _ => by rw [h2 k hlt] at hd; cases hd
     have h1 : ¬ (48 ≤ (s[k]'hlt).toNat ∧ (s[k]'hlt).toNat ≤ 57) := fun h => by rw [← hb] at h; rw [digB_iff.2 h] at hd; cases hd
     go_wp2
     all_goals go_ret2
     all_goals try rw [hQ]
     all_goals exact ⟨rfl, Below.refl _ _⟩
   ·have hke : k = s.size := by omega
    subst hke
    have hQ := intD_good (s := s) (by omega) hdig hp hgood
    go_wp2
    go_ret2
    try rw [hQ]
    exact ⟨rfl, Below.refl _ _⟩)
end Go.Proofs
