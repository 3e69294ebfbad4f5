/- The reference's text of a number, walked: any sign. Conditions: none. (Turned from salt's.) -/
import Derived.Test.YtkalcencblhlgaaGreatDoorNm3
namespace Go.Proofs
open Go.RowKit Go.Ev
theorem enc_digit (q : Nat) : Utf8.encode (48 + (q : Int) % 10) = ⟨#[UInt8.ofNat (48 + q % 10)]⟩ := by
 have hd : q % 10 < 10 := Nat.mod_lt _ (by decide)
 have hc : 48 + (q : Int) % 10 = ((48 + q % 10 : Nat) : Int) := by omega
 have hv : Utf8.valid ((48 + q % 10 : Nat) : Int) = true := by
  unfold Utf8.valid
  simp
  omega
 rw [hc]
 unfold Utf8.encode
 rw [if_pos hv, Int.toNat_natCast, if_pos (by omega)]
set_option maxRecDepth 1000000 in
set_option maxHeartbeats 1000000 in
theorem Tryz.text_walk (u : Nat) (hu : u < 9223372036854775808) (w : World) :
  Calls Tryz.prog 76 #[.int .i64 u] w fun e w' => e = .returned (.string ⟨(Lib.decDigits u).toArray⟩) ∧ Below w.heap.size w w' := by
 have hz0 : Lib.decDigits 0 = [48] := Lib.decDigits_one (by decide)
 rcases Nat.eq_zero_or_pos u with h0 | h0
 ·subst h0
  go_enter Tryz.func76, Tryz.ntmps76
  go_wp2
  go_ret
  try rw [hz0]
  exact ⟨rfl, Below.refl _ _⟩
 clear hz0
 go_enter Tryz.func76, Tryz.ntmps76
 go_wp2
 go_loop [3, 4, 5] (fun t q _ => ∃ (q' : Nat) (l : List UInt8), q = .int .i64 q' ∧ t = .string ⟨l.toArray⟩ ∧ q' ≤ u ∧ (q' ≠ 0 → Lib.decDigits q' ++ l = Lib.decDigits u) ∧ (q' = 0 → l = Lib.decDigits u) ∧ l.length + q' ≤ u) (fun _ q _ => (intOf q).toNat)
 case atStart => exact ⟨u, [], rfl, rfl, Nat.le_refl _, fun _ => List.append_nil _, fun h => by omega, by simp⟩
 case round =>
  obtain ⟨q, l, rfl, rfl, hq, h1, h2, hlen⟩ := hrel
  rcases Nat.eq_zero_or_pos q with h3 | h3
  ·subst h3
   have := h2 rfl
   have hu0 : ¬ (u : Int) < 0 := by omega
   go_wp2
   all_goals first
    | (go_ret; exact ⟨rfl, Below.refl _ _⟩)
    | (exfalso; omega)
    | skip
  ·have hlz : (⟨l.toArray⟩ : ByteArray).size = l.length := by simp [ByteArray.size]
   have hd : q % 10 < 10 := Nat.mod_lt _ (by decide)
   have hdm : (q : Int).tmod 10 = ((q % 10 : Nat) : Int) := by rw [Int.tmod_eq_emod_of_nonneg (by omega)]; rfl
   have hdv : (q : Int).tdiv 10 = ((q / 10 : Nat) : Int) := by rw [Int.tdiv_eq_ediv_of_nonneg (by omega)]; rfl
   go_wp2
   rotate_left
   ·rw [enc_digit q]
    have hq10 : q / 10 + 1 ≤ q := by omega
    refine ⟨⟨q / 10, by omega, UInt8.ofNat (48 + q % 10) :: l, ?_, by omega, fun h => ?_, fun h => ?_, ?_⟩, ?_⟩
    ·rw [List.toArray_cons]; rfl
    ·have e := h1 (by omega)
     rw [Lib.decDigits, dif_neg (by omega), List.append_assoc] at e
     exact e
    ·have e := h1 (by omega)
     rw [Lib.decDigits_one (by omega)] at e
     have : q % 10 = q := by omega
     rw [this]
     exact e
    ·rw [List.length_cons]; omega
    ·simp only [intOf]; omega
   ·exfalso
    rename_i hbig _
    rw [enc_digit q] at hbig
    have : (⟨#[UInt8.ofNat (48 + q % 10)]⟩ : ByteArray).size = 1 := rfl
    rw [this] at hbig
    omega
set_option maxRecDepth 1000000 in
set_option maxHeartbeats 1000000 in
theorem Tryz.text_neg (u : Nat) (h0 : 0 < u) (hu : u ≤ 1000000000000) (w : World) :
  Calls Tryz.prog 76 #[.int .i64 (-(u : Int))] w fun e w' => e = .returned (.string (⟨#[45]⟩ ++ ⟨(Lib.decDigits u).toArray⟩)) ∧ Below w.heap.size w w' := by
 have hn0 : ¬ (-(u : Int)) = 0 := by omega
 have hneg : (-(u : Int)) < 0 := by omega
 go_enter Tryz.func76, Tryz.ntmps76
 go_wp2
 go_loop [3, 4, 5] (fun t q _ => ∃ (q' : Nat) (l : List UInt8), q = .int .i64 (-(q' : Int)) ∧ t = .string ⟨l.toArray⟩ ∧ q' ≤ u ∧ (q' ≠ 0 → Lib.decDigits q' ++ l = Lib.decDigits u) ∧ (q' = 0 → l = Lib.decDigits u) ∧ l.length + q' ≤ u) (fun _ q _ => (-(intOf q)).toNat)
 case atStart => exact ⟨u, [], rfl, rfl, Nat.le_refl _, fun _ => List.append_nil _, fun h => by omega, by simp⟩
 case round =>
  obtain ⟨q, l, rfl, rfl, hq, h1, h2, hlen⟩ := hrel
  rcases Nat.eq_zero_or_pos q with h3 | h3
  ·subst h3
   have := h2 rfl
   have hlz : (⟨l.toArray⟩ : ByteArray).size = l.length := by simp [ByteArray.size]
   have hl2 : (Lib.decDigits u).length ≤ u := by rw [← this]; omega
   go_wp2
   all_goals first
    | (exfalso; omega)
    | (go_ret; exact ⟨rfl, Below.refl _ _⟩)
  ·have hlz : (⟨l.toArray⟩ : ByteArray).size = l.length := by simp [ByteArray.size]
   have hd : q % 10 < 10 := Nat.mod_lt _ (by decide)
   have hqn : ¬ (-(q : Int)) = 0 := by omega
   have hdm : (-(q : Int)).tmod 10 = -((q % 10 : Nat) : Int) := by rw [Int.neg_tmod, Int.tmod_eq_emod_of_nonneg (by omega)]; rfl
   have hdv : (-(q : Int)).tdiv 10 = -((q / 10 : Nat) : Int) := by rw [Int.neg_tdiv, Int.tdiv_eq_ediv_of_nonneg (by omega)]; rfl
   have hlow : l.length ≤ u := by omega
   have hq10 : q / 10 + 1 ≤ q := by omega
   have hend : q / 10 ≠ 0 → Lib.decDigits (q / 10) ++ UInt8.ofNat (48 + q % 10) :: l = Lib.decDigits u := fun h => by
    have e := h1 (by omega)
    rw [Lib.decDigits, dif_neg (by omega), List.append_assoc] at e
    exact e
   have hend2 : q / 10 = 0 → UInt8.ofNat (48 + q % 10) :: l = Lib.decDigits u := fun h => by
    have e := h1 (by omega)
    rw [Lib.decDigits_one (by omega)] at e
    have : q % 10 = q := by omega
    rw [this]
    exact e
   have hsz : ∀ (x : Int), x = (q : Int) % 10 → Utf8.encode (48 + x) = ⟨#[UInt8.ofNat (48 + q % 10)]⟩ := fun x hx => by rw [hx]; exact enc_digit q
   rcases Nat.eq_zero_or_pos (q % 10) with hz | hz
   ·have hdm0 : (-(q : Int)).tmod 10 = 0 := by rw [hdm, hz]; rfl
    clear hdm
    have he48 : Utf8.encode 48 = ⟨#[UInt8.ofNat (48 + q % 10)]⟩ := hsz 0 (by omega)
    have he1 : (Utf8.encode 48).size = 1 := by rw [he48]; rfl
    go_wp2
    all_goals (
     refine ⟨⟨q / 10, UInt8.ofNat (48 + q % 10) :: l, rfl, ?_, by omega, hend, hend2, by rw [List.length_cons]; omega⟩, by simp only [intOf]; omega⟩
     rw [hz, List.toArray_cons]; rfl)
   ·have hneg5 : -((q % 10 : Nat) : Int) < 0 := by omega
    clear hsz
    go_wp2
    rotate_left
    ·rw [enc_digit q]
     refine ⟨⟨q / 10, by omega, UInt8.ofNat (48 + q % 10) :: l, ?_, by omega, hend, hend2, by rw [List.length_cons]; omega⟩, ?_⟩
     ·rw [List.toArray_cons]; rfl
     ·simp only [intOf]; omega
    ·exfalso
     rename_i hbig _
     rw [enc_digit q] at hbig
     have : (⟨#[UInt8.ofNat (48 + q % 10)]⟩ : ByteArray).size = 1 := rfl
     rw [this] at hbig
     omega
theorem neg_list (u : Nat) : (⟨#[45]⟩ ++ ⟨(Lib.decDigits u).toArray⟩ : ByteArray) = ⟨(45 :: Lib.decDigits u).toArray⟩ := by
 rw [List.toArray_cons]; rfl
theorem Tryz.text_is (n : Int) (h0 : -1000000000000 ≤ n) (h1 : n ≤ 1000000000000) (w : World) :
  Calls Tryz.prog 76 #[.int .i64 n] w fun e w' => e = .returned (.string ⟨(itoaW n).toArray⟩) ∧ Below w.heap.size w w' := by
 rw [itoaW_eq _ (by omega) (by omega)]
 unfold Lib.itoa
 rcases Int.lt_or_le n 0 with h | h
 ·rw [if_pos h, ← neg_list]
  obtain ⟨u, hu, rfl⟩ : ∃ u : Nat, 0 < u ∧ n = -(u : Int) := ⟨n.natAbs, by omega, by omega⟩
  rw [show (-(u : Int)).natAbs = u by omega]
  exact Tryz.text_neg u hu (by omega) w
 ·rw [if_neg (by omega)]
  obtain ⟨u, rfl⟩ : ∃ u : Nat, n = u := ⟨n.toNat, by omega⟩
  rw [Int.toNat_natCast]
  exact Tryz.text_walk u (by omega) w
end Go.Proofs
namespace Go.Ev
open Go Go.RowKit Go.Proofs
def smI (n : Int) : Bool := decide (-1000000000000 ≤ n) && decide (n ≤ 1000000000000)
def txtSp : Spec := fun args h => match args with
 | [.one (.lit (.int .i64 n))] => .need (smI n) (.leaf (.one (.lit (.string ⟨(itoaW n).toArray⟩)), h))
 | _ => .fail 501
theorem txt_ok : SpecOk Proofs.Tryz.prog 76 txtSp := by
 intro args h v h' hr E w vals rh hargs
 unfold txtSp at hr
 split at hr
 ·rename_i n
  obtain ⟨hn, hr⟩ := Tree.need_some hr
  simp only [smI, Bool.and_eq_true, decide_eq_true_eq] at hn
  simp only [Tree.run, Option.some.injEq, Prod.mk.injEq] at hr
  obtain ⟨rfl, rfl⟩ := hr
  match vals, hargs with
  | [y], ⟨⟨hy, _⟩, _⟩ =>
   subst hy
   exact pure_calls rh ⟨rfl, rfl⟩ (Proofs.Tryz.text_is n hn.1 hn.2 w)
 ·cases hr
theorem intS_spec : SpecOk Proofs.Tryz.prog 140 (txiSp (fun s => (intS s).1) fun s => (intS s).2) := txi_ok fun s w hs => Proofs.Tryz.integer_walk s w hs
theorem Tryz.sg_walk (s : ByteArray) (w : World) (hs : s.size < 9223372036854775807) : Calls Tryz.prog 77 #[.string s] w fun e w' => e = .returned (.tuple #[.int .i64 (intS s).1, .bool (intS s).2]) ∧ Below w.heap.size w w' := by
 refine (sg_call s hs (fun _ => none) w [.string s] (rh_none w) ⟨⟨rfl, rfl⟩, trivial⟩).mono ?_
 rintro e w' ⟨v, E', rfl, hv, hst⟩
 obtain ⟨l, rfl, hv⟩ := hv
 match l, hv with
 | [x, y], ⟨⟨c1, e1, h1⟩, ⟨c2, e2, h2⟩, _⟩ =>
  injection e1 with e1 _; subst e1
  injection e2 with e2 _; subst e2
  obtain ⟨rfl, _⟩ := h1
  obtain ⟨rfl, _⟩ := h2
  exact ⟨rfl, ⟨hst.fr.os, hst.fr.tape, hst.fr.output, hst.fr.size, fun k hk => hst.fr.keep k hk fun id p hp => by cases hp⟩⟩
def vS (s : ByteArray) : Int := (intS s).1
def gS (s : ByteArray) : Bool := (intS s).2
theorem sgn_ok : SpecOk Proofs.Tryz.prog 77 (txiSp vS gS) := txi_ok fun s w hs => Tryz.sg_walk s w hs
theorem int_ok : SpecOk Proofs.Tryz.prog 140 (txiSp vS gS) := intS_spec
end Go.Ev
