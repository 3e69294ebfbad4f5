/- The program's integer of a text, walked. Conditions: none. -/
import Derived.Test.YtkalcencblhlgaaGreatDoorNm2
namespace Go.Proofs
open Go.RowKit Go.Ev
theorem inTx_bad {t : ByteArray} {neg : Bool} (h : t.size ≤ 9 → (∀ j, j < t.size → digB (byt t j) = true) → 0 < t.size → (byt t 0 = 48 → t.size = 1 ∧ neg = false) → False) : inTx t neg = (0, false) := by
 cases neg with
 | false => exact intD_bad fun h1 h2 h3 h4 => h h1 h2 h3 fun h5 => ⟨h4 h5, rfl⟩
 | true =>
  unfold inTx
  cases hg : gD t && !(vD t == 0) with
  | false => rfl
  | true =>
   exfalso
   rw [Bool.and_eq_true] at hg
   obtain ⟨hg, hv⟩ := hg
   unfold gD intD at hg
   split at hg
   ·rename_i hc
    rw [Bool.and_eq_true, Bool.and_eq_true] at hc
    obtain ⟨⟨h1, h2⟩, h3⟩ := hc
    obtain ⟨a, b⟩ := canonB_iff.1 h3
    have h1 := Nat.le_of_ble_eq_true h1
    have h2 := allDig_at h2
    refine h h1 h2 a fun h48 => ?_
    exfalso
    have hz := b h48
    have hD := intD_good h1 h2 a b
    unfold vD at hv
    rw [hD, hz] at hv
    have : valN t 1 = 0 := by
     show 10 * (0 : Int) + ((byt t 0 : Int) - 48) = 0
     omega
    rw [this] at hv
    cases hv
   ·cases hg
theorem inTx_good {t : ByteArray} {neg : Bool} (h1 : t.size ≤ 9) (h2 : ∀ j, j < t.size → digB (byt t j) = true) (h3 : 0 < t.size) (h4 : byt t 0 = 48 → t.size = 1 ∧ neg = false) : inTx t neg = (if neg then -(valN t t.size) else valN t t.size, true) := by
 have hD := intD_good h1 h2 h3 fun h => (h4 h).1
 cases neg with
 | false => exact hD
 | true =>
  have hp := valN_pos h3 h2 fun h => by cases (h4 h).2
  unfold inTx gD vD
  rw [hD]
  have : (valN t t.size == 0) = false := beq_eq_false_iff_ne.2 (by omega)
  simp only []
  rw [this]
  rfl
set_option maxRecDepth 1000000 in
set_option maxHeartbeats 2000000 in
theorem Tryz.integer_walk (s : ByteArray) (w : World) (hs : s.size < 9223372036854775807) :
  Calls Tryz.prog 140 #[.string s] w fun e w' => e = .returned (.tuple #[.int .i64 (intS s).1, .bool (intS s).2]) ∧ Below w.heap.size w w' := by
 have hC := Tryz.cut_walk s w
 have hsz : (restB s).size < 9223372036854775807 := by
  unfold restB
  split
  ·rw [ByteArray.size_extract]; omega
  ·exact hs
 show Calls Tryz.prog 140 #[.string s] w fun e w' => e = .returned (.tuple #[.int .i64 (inTx (restB s) (negB s)).1, .bool (inTx (restB s) (negB s)).2]) ∧ Below w.heap.size w w'
 have hm : minB = ⟨#[45]⟩ := rfl
 rw [hm] at hC
 clear hm
 generalize restB s = t at *
 generalize negB s = neg at *
 go_enter Tryz.func140, Tryz.ntmps140
 go_wp2_with (go_at_call 149; refine hC.mono ?_; rintro e w1 ⟨rfl, hb1⟩)
 go_loopw [6] (fun n w' => ∃ pos : Nat, w' = w1.iter t pos ∧ pos ≤ t.size ∧ n = .int .i64 (valN t pos) ∧ (∀ j, j < pos → digB (byt t j) = true) ∧ (0 < pos → t.size ≤ 9)) (fun _ w' => t.size - w'.iterPos w1.heap.size)
 case atStart => exact ⟨0, rfl, Nat.zero_le _, rfl, fun j hj => absurd hj (Nat.not_lt_zero _), fun h => absurd h (Nat.lt_irrefl _)⟩
 case round =>
  obtain ⟨pos, rfl, hle, rfl, hdig, hsz9⟩ := hrel
  have hbl : ∀ p, Below w.heap.size w (w1.iter t p) := fun p => hb1.trans ⟨(iter_below w1 t p).os, (iter_below w1 t p).tape, (iter_below w1 t p).output, (iter_below w1 t p).size, fun k hk => (iter_below w1 t p).block k (Nat.lt_of_lt_of_le hk hb1.size)⟩
  by_cases hp : pos < t.size
  ·by_cases ha : (t[pos]'hp).toNat < 128
   ·have hnx : ∀ ty, (Instr.next (.pointer (some ⟨w1.heap.size, 0, none⟩)) true ty).run Tryz.prog (w1.iter t pos) = _ := fun ty => run_next_ascii w1 t pos ty hp ha
    have hb := byt_at t pos hp
    generalize (t[pos]'hp).toNat = c at *
    by_cases h1 : c < 48
    ·have hI := inTx_bad (t := t) (neg := neg) fun _ h _ _ => by have := digB_iff.1 (h pos hp); omega
     go_wp2
     go_ret2
     try rw [hI]
     exact ⟨rfl, hbl _⟩
    ·by_cases h2 : 57 < c
     ·have hI := inTx_bad (t := t) (neg := neg) fun _ h _ _ => by have := digB_iff.1 (h pos hp); omega
      go_wp2
      go_ret2
      try rw [hI]
      exact ⟨rfl, hbl _⟩
     ·by_cases h3 : 9 < t.size
      ·have hI := inTx_bad (t := t) (neg := neg) fun h _ _ _ => by omega
       go_wp2
       go_ret2
       try rw [hI]
       exact ⟨rfl, hbl _⟩
      ·have hv := valN_lt hdig
       have hp10 : (10 : Int) ^ pos ≤ 10 ^ 9 := by
        have : (10 : Nat) ^ pos ≤ 10 ^ 9 := Nat.pow_le_pow_right (by decide) (by omega)
        exact_mod_cast this
       have e9 : (10 : Int) ^ 9 = 1000000000 := by decide
       rw [e9] at hp10
       have hn : valN t (pos + 1) = 10 * valN t pos + ((c : Int) - 48) := by
        show 10 * valN t pos + ((byt t pos : Int) - 48) = _
        rw [hb]
       have hd : digB (byt t pos) = true := by rw [hb]; exact digB_iff.2 (by omega)
       have hvl : valN t pos < 1000000000 := by omega
       have hv0 := hv.1
       clear hv hp10 e9
       generalize hvv : valN t pos = v at *
       go_wp2
       refine ⟨⟨pos + 1, rfl, hp, by rw [hn], fun j hj => ?_, fun _ => by omega⟩, ?_⟩
       ·by_cases e : j = pos
        ·subst e; exact hd
        ·exact hdig j (by omega)
       ·simp
        omega
   ·obtain ⟨h1, h2⟩ := decode_high t pos hp (by omega)
    have hnx : ∀ ty, (Instr.next (.pointer (some ⟨w1.heap.size, 0, none⟩)) true ty).run Tryz.prog (w1.iter t pos) = _ := fun ty => run_next_any w1 t pos ty hp
    have hb := byt_at t pos hp
    have hI := inTx_bad (t := t) (neg := neg) fun _ h _ _ => by have := digB_iff.1 (h pos hp); omega
    generalize Utf8.decode t pos = d at *
    obtain ⟨c, wd⟩ := d
    simp only at h1 h2
    have h3 : ¬ c < 48 := by omega
    have h4 : 57 < c := by omega
    go_wp2
    go_ret2
    try rw [hI]
    exact ⟨rfl, hbl _⟩
  ·obtain rfl : pos = t.size := by omega
   have hnx : ∀ ty, (Instr.next (.pointer (some ⟨w1.heap.size, 0, none⟩)) true ty).run Tryz.prog (w1.iter t t.size) = _ := fun ty => run_next_end w1 t t.size ty hp
   rcases Nat.eq_zero_or_pos t.size with hz | hpos
   ·have he : t = ⟨#[]⟩ := ByteArray.ext (Array.eq_empty_of_size_eq_zero hz)
    have hI := inTx_bad (t := t) (neg := neg) fun _ _ h _ => by omega
    generalize valN t t.size = v at *
    subst he
    clear hnx
    have hnx : ∀ ty, (Instr.next (.pointer (some ⟨w1.heap.size, 0, none⟩)) true ty).run Tryz.prog (w1.iter ⟨#[]⟩ 0) = _ := fun ty => run_next_end w1 ⟨#[]⟩ 0 ty (by decide)
    go_wp2
    all_goals first
     | (exfalso; simp_all; done)
     | (exfalso; simp_all; omega)
     | (go_ret2; (try rw [hI]); exact ⟨rfl, hbl _⟩)
   have hne := toList_ne hpos
   have hb0 := byt_at t 0 hpos
   have h9 := hsz9 hpos
   have hv := valN_lt hdig
   have hp10 : (10 : Int) ^ t.size ≤ 10 ^ 9 := by
    have : (10 : Nat) ^ t.size ≤ 10 ^ 9 := Nat.pow_le_pow_right (by decide) h9
    exact_mod_cast this
   have e9 : (10 : Int) ^ 9 = 1000000000 := by decide
   rw [e9] at hp10
   have hv1 : valN t t.size < 1000000000 := by omega
   have hv0 := hv.1
   clear hv hp10 e9
   by_cases h48 : byt t 0 = 48
   ·have hb1' : ((t[0]'hpos).toNat : Int) = 48 := by omega
    by_cases hbig : 1 < t.size
    ·have hI := inTx_bad (t := t) (neg := neg) fun _ _ _ h => by have := (h h48).1; omega
     have hbig' : (t.size : Int) > 1 := by omega
     generalize valN t t.size = v at *
     go_wp2
     all_goals first
      | (exfalso; simp_all; done)
      | (exfalso; simp_all; omega)
      | (go_ret2; (try rw [hI]); exact ⟨rfl, hbl _⟩)
    ·have hone : ¬ (t.size : Int) > 1 := by omega
     cases neg with
     | true =>
      have hI := inTx_bad (t := t) (neg := true) fun _ _ _ h => by cases (h h48).2
      generalize valN t t.size = v at *
      go_wp2
      all_goals first
       | (exfalso; simp_all; done)
       | (exfalso; simp_all; omega)
       | (go_ret2; (try rw [hI]); exact ⟨rfl, hbl _⟩)
     | false =>
      have hI := inTx_good (t := t) (neg := false) h9 hdig hpos fun _ => ⟨by omega, rfl⟩
      generalize valN t t.size = v at *
      go_wp2
      all_goals first
       | (exfalso; simp_all; done)
       | (exfalso; simp_all; omega)
       | (go_ret2; (try rw [hI]); exact ⟨rfl, hbl _⟩)
   ·have hb1' : ¬ ((t[0]'hpos).toNat : Int) = 48 := by omega
    cases neg with
    | true =>
     have hI := inTx_good (t := t) (neg := true) h9 hdig hpos fun h => absurd h h48
     generalize valN t t.size = v at *
     go_wp2
     all_goals first
      | (exfalso; simp_all; done)
      | (exfalso; simp_all; omega)
      | (go_ret2; (try rw [hI]); exact ⟨rfl, hbl _⟩)
    | false =>
     have hI := inTx_good (t := t) (neg := false) h9 hdig hpos fun h => absurd h h48
     generalize valN t t.size = v at *
     go_wp2
     all_goals first
      | (exfalso; simp_all; done)
      | (exfalso; simp_all; omega)
      | (go_ret2; (try rw [hI]); exact ⟨rfl, hbl _⟩)
end Go.Proofs
namespace Go.Proofs
open Go.RowKit Go.Ev
end Go.Proofs
namespace Go.Ev
open Go Go.RowKit Go.Proofs
theorem intS_spec : SpecOk Proofs.Tryz.prog 140 (txiSp (fun s => (intS s).1) fun s => (intS s).2) := txi_ok fun s w hs => Proofs.Tryz.integer_walk s w hs
def vS (s : ByteArray) : Int := (intS s).1
def gS (s : ByteArray) : Bool := (intS s).2
theorem int_ok : SpecOk Proofs.Tryz.prog 140 (txiSp vS gS) := intS_spec
end Go.Ev
