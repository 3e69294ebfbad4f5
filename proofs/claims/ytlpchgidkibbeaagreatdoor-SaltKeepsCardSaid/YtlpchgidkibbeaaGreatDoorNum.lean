/- The program's integer of a text, walked. Conditions: none. The reference's integer of a text, walked. Conditions: none. The reference's text of an integer, walked. Conditions: none. strings.Split at a separator of one byte: no variable is asked for. Conditions: none. (The last step is turned from the kit's proof of strings.Split.) Entries: a number's text, a text's number, strings.Split at one byte. Conditions: none. -/
import Derived.Test.YtlpchgidkibbeaaGreatDoorLoops
import Derived.Test.YtlpchgidkibbeaaGreatDoorBas
import Derived.Laws.RangeAny
import Derived.WalkKit
import Derived.BigCall
import Derived.Test.YtlpchgidkibbeaaGreatDoorShelf
import Derived.Shelf.Strings.SplitCore
import Derived.Shelf.Strings.Split
import Derived.Lib.SplitLaws
namespace Go.Proofs
open Go.RowKit Go.Ev
def byt (s : ByteArray) (k : Nat) : Nat := (s.get! k).toNat
def digB (n : Nat) : Bool := Nat.ble 48 n && Nat.ble n 57
def valN (s : ByteArray) : Nat → Int
 | 0 => 0
 | k + 1 => 10 * valN s k + ((byt s k : Int) - 48)
def allDig (s : ByteArray) : Nat → Bool
 | 0 => true
 | k + 1 => allDig s k && digB (byt s k)
theorem allDig_of {s : ByteArray} : ∀ {n : Nat}, (∀ j, j < n → digB (byt s j) = true) → allDig s n = true
 | 0, _ => rfl
 | n + 1, h => by
  show (allDig s n && digB (byt s n)) = true
  rw [allDig_of fun j hj => h j (by omega), h n (by omega)]; rfl
theorem allDig_at {s : ByteArray} : ∀ {n : Nat}, allDig s n = true → ∀ j, j < n → digB (byt s j) = true
 | n + 1, h, j, hj => by
  have h : (allDig s n && digB (byt s n)) = true := h
  rw [Bool.and_eq_true] at h
  by_cases e : j = n
  ·subst e; exact h.2
  ·exact allDig_at h.1 j (by omega)
theorem byt_at (s : ByteArray) (k : Nat) (h : k < s.size) : byt s k = (s[k]'h).toNat := by
 unfold byt
 have := get_at s k h
 rw [Nat.add_zero] at this
 rw [this]
theorem digB_iff {n : Nat} : digB n = true ↔ 48 ≤ n ∧ n ≤ 57 := by
 unfold digB
 rw [Bool.and_eq_true]
 simp [Nat.ble_eq]
theorem valN_lt {s : ByteArray} : ∀ {k : Nat}, (∀ j, j < k → digB (byt s j) = true) → 0 ≤ valN s k ∧ valN s k < 10 ^ k
 | 0, _ => ⟨Int.le_refl _, by show (0 : Int) < 10 ^ 0; decide⟩
 | k + 1, h => by
  have hd := digB_iff.1 (h k (by omega))
  have ih := valN_lt (s := s) (k := k) fun j hj => h j (by omega)
  show 0 ≤ 10 * valN s k + ((byt s k : Int) - 48) ∧ 10 * valN s k + ((byt s k : Int) - 48) < 10 ^ (k + 1)
  rw [Int.pow_succ]
  omega
def sZero : ByteArray := ⟨#[48]⟩
def sNil : ByteArray := ⟨#[]⟩
def canonB (s : ByteArray) : Bool := match s.toList == sZero.toList with
 | true => true
 | false => match !(s.toList == sNil.toList) with
  | true => !(((s.get! (Int.toNat 0)).toNat : Int) == 48)
  | false => false
def intP (s : ByteArray) : Int × Bool := match Nat.ble s.size 10 && allDig s s.size with
 | true => (valN s s.size, canonB s)
 | false => (0, false)
theorem intP_bad {s : ByteArray} {p : Nat} (hp : p < s.size) (h : digB (byt s p) = false) : intP s = (0, false) := by
 have : (Nat.ble s.size 10 && allDig s s.size) = false := by
  cases h2 : allDig s s.size with
  | false => simp
  | true => rw [allDig_at h2 p hp] at h; cases h
 unfold intP
 rw [this]
theorem intP_long {s : ByteArray} (h : 10 < s.size) : intP s = (0, false) := by
 have : Nat.ble s.size 10 = false := by
  cases h2 : Nat.ble s.size 10 with
  | false => rfl
  | true => have := Nat.le_of_ble_eq_true h2; omega
 unfold intP
 rw [this]; rfl
theorem intP_good {s : ByteArray} (h : s.size ≤ 10) (hd : ∀ j, j < s.size → digB (byt s j) = true) : intP s = (valN s s.size, canonB s) := by
 have : (Nat.ble s.size 10 && allDig s s.size) = true := by rw [allDig_of hd, Nat.ble_eq_true_of_le h]; rfl
 unfold intP
 rw [this]
theorem iter_below (w : World) (s : ByteArray) (p : Nat) : Below w.heap.size w (w.iter s p) := (Below.refl _ w).alloc (Nat.le_refl _) _
def findR (n : Nat) : Code → Option Code
 | .region k ops d => match Nat.beq k n with | true => some (.region k ops d) | false => none
 | .seq a b => match findR n a with | some c => some c | none => findR n b
 | .cond _ a b => match findR n a with | some c => some c | none => findR n b
 | .block _ c => findR n c
 | .loop c => findR n c
 | .scope c => findR n c
 | _ => none
noncomputable def int8C : Code := (findR 8 (Tryz.f163.body.getD .skip)).getD .skip
def int8S (s : ByteArray) (v : Int) : St := { size := 41, env := (Tr.nil.set D 0 (some (.one (.lit (.string s))))).set D 4 (some (.one (.lit (.int .i64 v)))), hp := hp0 }
noncomputable def int8R : Code → St → Tree (X × St) := evCode Tryz.prog (fun _ => none) modes 1000
abbrev Int8O : Type := X × Option A × Option A
noncomputable def int8T (s : ByteArray) (v : Int) : Tree Int8O := (int8R int8C (int8S s v)).bind fun p => .leaf (p.1, p.2.env.get D 2, p.2.env.get D 3)
def int8L (v : Int) (b : Bool) : Int8O := (.normal, some (.one (.lit (.int .i64 v))), some (.one (.lit (.bool b))))
def int8K (s : ByteArray) (v : Int) : Sk Int8O := .node (s.toList == sZero.toList) (.leaf (int8L v true)) (.node (!(s.toList == sNil.toList)) (.need (decide (0 ≤ (0 : Int)) && decide ((0 : Int) < s.size)) (.leaf (int8L v (!(((s.get! (Int.toNat 0)).toNat : Int) == 48))))) (.leaf (int8L v false)))
theorem int8_into (s : ByteArray) (v : Int) : int8T s v = into (int8T s v) (int8K s v) := by kernel_rfl
theorem int8_fits (s : ByteArray) (v : Int) : fits (int8T s v) (int8K s v) = true := by kernel_rfl
theorem size_pos_of {s : ByteArray} (h : (s.toList == sNil.toList) = false) : 0 < s.size := by
 rcases Nat.eq_zero_or_pos s.size with h0 | h0
 ·have : s = sNil := ByteArray.ext (Array.eq_empty_of_size_eq_zero h0)
  rw [this] at h
  simp at h
 ·exact h0
theorem int8_all (s : ByteArray) (v : Int) : (int8T s v).All fun q => q = int8L v (canonB s) := by
 refine all_into (int8_into s v) (int8_fits s v) (SkLeads.all ?_)
 refine sk_either (fun h => sk_leaf ?_) fun h => sk_either (fun h2 => sk_need ?_ (sk_leaf ?_)) fun h2 => sk_leaf ?_
 ·unfold canonB; rw [h]
 ·rw [Bool.not_eq_true'] at h2
  have := size_pos_of h2
  simp only [Bool.and_eq_true, decide_eq_true_eq]
  omega
 ·unfold canonB; rw [h, h2]
 ·unfold canonB; rw [h, h2]
set_option maxRecDepth 1000000 in
set_option maxHeartbeats 1000000 in
theorem Tryz.integer_walk (s : ByteArray) (w : World) (hs : s.size < 9223372036854775807) :
  Calls Tryz.prog 163 #[.string s] w fun e w' => e = .returned (.tuple #[.int .i64 (intP s).1, .bool (intP s).2]) ∧ Below w.heap.size w w' := by
 go_enter Tryz.func163, Tryz.ntmps163
 go_wp2
 go_loopw [4] (fun n w' => ∃ pos : Nat, w' = w.iter s pos ∧ pos ≤ s.size ∧ n = .int .i64 (valN s pos) ∧ (∀ j, j < pos → digB (byt s j) = true) ∧ (0 < pos → s.size ≤ 10)) (fun _ w' => s.size - w'.iterPos w.heap.size)
 case atStart => exact ⟨0, rfl, Nat.zero_le _, rfl, fun j hj => absurd hj (Nat.not_lt_zero _), fun h => absurd h (Nat.lt_irrefl _)⟩
 case round =>
  obtain ⟨pos, rfl, hle, rfl, hdig, hsz⟩ := hrel
  by_cases hp : pos < s.size
  ·by_cases ha : (s[pos]'hp).toNat < 128
   ·have hnx : ∀ ty, (Instr.next (.pointer (some ⟨w.heap.size, 0, none⟩)) true ty).run Tryz.prog (w.iter s pos) = _ := fun ty => run_next_ascii w s pos ty hp ha
    have hb := byt_at s pos hp
    generalize (s[pos]'hp).toNat = c at *
    by_cases h1 : c < 48
    ·have hI := intP_bad hp (by rw [hb]; cases h : digB c with | false => rfl | true => have := digB_iff.1 h; omega)
     go_wp2
     go_ret2
     try rw [hI]
     exact ⟨rfl, iter_below _ _ _⟩
    ·by_cases h2 : 57 < c
     ·have hI := intP_bad hp (by rw [hb]; cases h : digB c with | false => rfl | true => have := digB_iff.1 h; omega)
      go_wp2
      go_ret2
      try rw [hI]
      exact ⟨rfl, iter_below _ _ _⟩
     ·by_cases h3 : 10 < s.size
      ·have hI := intP_long h3
       go_wp2
       go_ret2
       try rw [hI]
       exact ⟨rfl, iter_below _ _ _⟩
      ·have hv := valN_lt hdig
       have hp10 : (10 : Int) ^ pos ≤ 10 ^ 9 := by
        have : (10 : Nat) ^ pos ≤ 10 ^ 9 := Nat.pow_le_pow_right (by decide) (by omega)
        exact_mod_cast this
       have e9 : (10 : Int) ^ 9 = 1000000000 := by decide
       rw [e9] at hp10
       have hn : valN s (pos + 1) = 10 * valN s pos + ((c : Int) - 48) := by
        show 10 * valN s pos + ((byt s pos : Int) - 48) = _
        rw [hb]
       have hd : digB (byt s pos) = true := by rw [hb]; exact digB_iff.2 (by omega)
       have hvl : valN s pos < 1000000000 := by omega
       have hv0 := hv.1
       clear hv hp10 e9
       generalize hvv : valN s pos = v at *
       go_wp2
       refine ⟨⟨pos + 1, rfl, hp, by rw [hn], fun j hj => ?_, fun _ => by omega⟩, ?_⟩
       ·by_cases e : j = pos
        ·subst e; exact hd
        ·exact hdig j (by omega)
       ·simp
        omega
   ·obtain ⟨h1, h2⟩ := decode_high s pos hp (by omega)
    have hnx : ∀ ty, (Instr.next (.pointer (some ⟨w.heap.size, 0, none⟩)) true ty).run Tryz.prog (w.iter s pos) = _ := fun ty => run_next_any w s pos ty hp
    have hb := byt_at s pos hp
    have hI := intP_bad hp (by rw [hb]; cases h : digB (s[pos]'hp).toNat with | false => rfl | true => have := digB_iff.1 h; omega)
    generalize Utf8.decode s pos = d at *
    obtain ⟨c, wd⟩ := d
    simp only at h1 h2
    have h3 : ¬ c < 48 := by omega
    have h4 : 57 < c := by omega
    go_wp2
    go_ret2
    try rw [hI]
    exact ⟨rfl, iter_below _ _ _⟩
  ·obtain rfl : pos = s.size := by omega
   have hnx : ∀ ty, (Instr.next (.pointer (some ⟨w.heap.size, 0, none⟩)) true ty).run Tryz.prog (w.iter s s.size) = _ := fun ty => run_next_end w s s.size ty hp
   have hI := intP_good (s := s) (by rcases Nat.eq_zero_or_pos s.size with h | h; omega; exact hsz h) hdig
   generalize valN s s.size = v at *
   go_wp2
   rename_i hK
   suffices hsuf : ∀ ops, Code.region 8 ops true = int8C → ∀ Q a w, a.tmps.getD 0 undef = .string s → a.tmps.getD 4 undef = .int .i64 v → a.tmps.size = 41 → a.defers = [] →
     (∀ a' w', a'.tmps.getD 2 undef = .int .i64 v → a'.tmps.getD 3 undef = .bool (canonB s) → a'.defers = [] → Below w.heap.size w w' → Q .normal a' w') → (Code.region 8 ops true).wp Tryz.prog Q a w by
    refine hsuf _ (by kernel_rfl) _ _ _ rfl rfl rfl rfl fun a' w' h2 h3 hd hbl => hK _ _ ?_
    refine wp_ret ?_
    (try simp only [Exit.inBlock, Exit.then])
    refine bodyPost_ret (results_tmp2 rfl _ _ _) hd ?_
    rw [h2, h3, hI]
    refine ⟨rfl, (iter_below w s s.size).trans ⟨hbl.os, hbl.tape, hbl.output, hbl.size, fun k hk => hbl.block k ?_⟩⟩
    have := (iter_below w s s.size).size
    omega
   intro ops hops Q a w h0 h4 hsz41 hds hq
   have hconv : int8R (Code.region 8 ops true) (int8S s v) = (evOpen Tryz.prog (evFun Tryz.prog (fun _ => none) modes 999) ops.toList (int8S s v)).bind fun st' => .leaf (.normal, st') := rfl
   have hall := int8_all s v
   unfold int8T at hall
   rw [← hops, hconv] at hall
   refine wpIn_wide.1 (open_ok (ro := none) (ds := []) (E := fun _ => none) (st := int8S s v) (fun_ok (T := fun _ => none) (W := modes) (fun _ _ h => by cases h) noOwn mixed 999) noOwn mixed ⟨rh_none w, hds, hsz41, fun t x hx => ?_⟩ ?_)
   ·have hx : ((Tr.nil.set D 0 (some (.one (.lit (.string s))))).set D 4 (some (.one (.lit (.int .i64 v))))).get D t = some x := hx
    rw [Tr.get_set_D _ _ _ _ (by decide)] at hx
    split at hx
    ·rename_i e
     injection hx with hx; subst hx; subst e
     rw [h4]; exact ⟨rfl, rfl⟩
    ·rw [Tr.get_set_D _ _ _ _ (by decide)] at hx
     split at hx
     ·rename_i e
      injection hx with hx; subst hx; subst e
      rw [h0]; exact ⟨rfl, rfl⟩
     ·rw [Tr.get_nil] at hx; cases hx
   ·refine Tree.All_mono ?_ (Tree.All_bind (Tree.All_bind hall))
    intro st' hp E' a' w' r' s' hz'
    have hp : ((X.normal, st'.env.get D 2, st'.env.get D 3) : Int8O) = int8L v (canonB s) := hp
    injection hp with _ e2
    injection e2 with e2 e3
    exact hq a' w' (r'.env 2 _ e2).1 (r'.env 3 _ e3).1 r'.defers ⟨s'.fr.os, s'.fr.tape, s'.fr.output, s'.fr.size, fun k hk => s'.fr.keep k hk fun id p hp => by cases hp⟩
end Go.Proofs
namespace Go.Proofs
open Go.RowKit Go.Ev
theorem canonB_iff {s : ByteArray} : canonB s = true ↔ 0 < s.size ∧ (byt s 0 = 48 → s.size = 1) := by
 have e0 : (s.get! (Int.toNat 0)).toNat = byt s 0 := rfl
 unfold canonB
 rw [e0]
 cases h1 : s.toList == sZero.toList with
 | true =>
  have : s = sZero := by
   have := eq_of_beq h1
   rw [ByteArray.toList_eq, ByteArray.toList_eq] at this
   exact ByteArray.ext (Array.toList_inj.1 this)
  subst this
  exact ⟨fun _ => ⟨by decide, fun _ => rfl⟩, fun _ => rfl⟩
 | false =>
  cases h2 : s.toList == sNil.toList with
  | true =>
   have : s = sNil := by
    have := eq_of_beq h2
    rw [ByteArray.toList_eq, ByteArray.toList_eq] at this
    exact ByteArray.ext (Array.toList_inj.1 this)
   subst this
   exact ⟨fun h => (by cases h), fun h => absurd h.1 (by decide)⟩
  | false =>
   have hp := size_pos_of h2
   show (!((byt s 0 : Int) == 48)) = true ↔ _
   constructor
   ·intro h
    refine ⟨hp, fun h48 => ?_⟩
    rw [h48] at h
    exact absurd h (by decide)
   ·rintro ⟨_, h⟩
    rw [Bool.not_eq_true', beq_eq_false_iff_ne]
    intro h48
    have h48 : byt s 0 = 48 := by omega
    have hz := h h48
    have : s = sZero := by
     refine ByteArray.ext (Array.ext (by show s.data.size = 1; exact hz) fun i hi1 hi2 => ?_)
     have hi : i = 0 := by
      have : s.data.size = 1 := hz
      omega
     subst hi
     have h3 := byt_at s 0 hp
     rw [h48] at h3
     have h4 : (s.data[0]'hi1).toNat = 48 := h3.symm
     exact UInt8.toNat_inj.1 h4
    rw [this, beq_self_eq_true] at h1
    cases h1
end Go.Proofs
namespace Go.Proofs
open Go.RowKit Go.Ev
theorem enc_digit (q : Nat) : Utf8.encode (48 + (q : Int) % 10) = ⟨#[UInt8.ofNat (48 + q % 10)]⟩ := by
 have hd : q % 10 < 10 := Nat.mod_lt _ (by decide)
 have hc : 48 + (q : Int) % 10 = ((48 + q % 10 : Nat) : Int) := by omega
 have hv : Utf8.valid ((48 + q % 10 : Nat) : Int) = true := by
  unfold Utf8.valid
  simp
  omega
 rw [hc]
 unfold Utf8.encode
 rw [if_pos hv, Int.toNat_natCast, if_pos (by omega)]
set_option maxRecDepth 1000000 in
set_option maxHeartbeats 1000000 in
theorem Tryz.text_walk (u : Nat) (hu : u < 9223372036854775808) (w : World) :
  Calls Tryz.prog 127 #[.int .i64 u] w fun e w' => e = .returned (.string ⟨(Lib.decDigits u).toArray⟩) ∧ Below w.heap.size w w' := by
 have hz0 : Lib.decDigits 0 = [48] := Lib.decDigits_one (by decide)
 rcases Nat.eq_zero_or_pos u with h0 | h0
 ·subst h0
  go_enter Tryz.func127, Tryz.ntmps127
  go_wp2
  go_ret
  try rw [hz0]
  exact ⟨rfl, Below.refl _ _⟩
 clear hz0
 go_enter Tryz.func127, Tryz.ntmps127
 go_wp2
 go_loop [3, 4, 5] (fun t q _ => ∃ (q' : Nat) (l : List UInt8), q = .int .i64 q' ∧ t = .string ⟨l.toArray⟩ ∧ q' ≤ u ∧ (q' ≠ 0 → Lib.decDigits q' ++ l = Lib.decDigits u) ∧ (q' = 0 → l = Lib.decDigits u) ∧ l.length + q' ≤ u) (fun _ q _ => (intOf q).toNat)
 case atStart => exact ⟨u, [], rfl, rfl, Nat.le_refl _, fun _ => List.append_nil _, fun h => by omega, by simp⟩
 case round =>
  obtain ⟨q, l, rfl, rfl, hq, h1, h2, hlen⟩ := hrel
  rcases Nat.eq_zero_or_pos q with h3 | h3
  ·subst h3
   have := h2 rfl
   have hu0 : ¬ (u : Int) < 0 := by omega
   go_wp2
   all_goals first
    | (go_ret; exact ⟨rfl, Below.refl _ _⟩)
    | (exfalso; omega)
    | skip
  ·have hlz : (⟨l.toArray⟩ : ByteArray).size = l.length := by simp [ByteArray.size]
   have hd : q % 10 < 10 := Nat.mod_lt _ (by decide)
   have hdm : (q : Int).tmod 10 = ((q % 10 : Nat) : Int) := by rw [Int.tmod_eq_emod_of_nonneg (by omega)]; rfl
   have hdv : (q : Int).tdiv 10 = ((q / 10 : Nat) : Int) := by rw [Int.tdiv_eq_ediv_of_nonneg (by omega)]; rfl
   go_wp2
   rotate_left
   ·rw [enc_digit q]
    have hq10 : q / 10 + 1 ≤ q := by omega
    refine ⟨⟨q / 10, by omega, UInt8.ofNat (48 + q % 10) :: l, ?_, by omega, fun h => ?_, fun h => ?_, ?_⟩, ?_⟩
    ·rw [List.toArray_cons]; rfl
    ·have e := h1 (by omega)
     rw [Lib.decDigits, dif_neg (by omega), List.append_assoc] at e
     exact e
    ·have e := h1 (by omega)
     rw [Lib.decDigits_one (by omega)] at e
     have : q % 10 = q := by omega
     rw [this]
     exact e
    ·rw [List.length_cons]; omega
    ·simp only [intOf]; omega
   ·exfalso
    rename_i hbig _
    rw [enc_digit q] at hbig
    have : (⟨#[UInt8.ofNat (48 + q % 10)]⟩ : ByteArray).size = 1 := rfl
    rw [this] at hbig
    omega
theorem Tryz.text_is (n : Int) (h0 : 0 ≤ n) (h1 : n ≤ 9223372036854775807) (w : World) :
  Calls Tryz.prog 127 #[.int .i64 n] w fun e w' => e = .returned (.string ⟨(itoaW n).toArray⟩) ∧ Below w.heap.size w w' := by
 obtain ⟨u, rfl⟩ : ∃ u : Nat, n = u := ⟨n.toNat, by omega⟩
 have hi : itoaW u = Lib.decDigits u := by
  rw [itoaW_eq _ (by omega) (by omega)]
  unfold Lib.itoa
  rw [if_neg (by omega)]; rfl
 rw [hi]
 exact Tryz.text_walk u (by omega) w
end Go.Proofs
namespace Go.Proofs
open Go.RowKit Go.Shelf Go.Lib
set_option maxRecDepth 1000000 in
set_option maxHeartbeats 1000000 in
theorem Tryz.split_one (s : ByteArray) (c : UInt8) (w : World) (hs : s.size < 4294967281) :
  Calls Tryz.prog 150 #[.string s, .string ⟨#[c]⟩] w fun e w' =>
   e = .returned (.slice (some ⟨w.heap.size, 0, none⟩) (Lib.countB s ⟨#[c]⟩ + 1) (Lib.countB s ⟨#[c]⟩ + 1)) ∧ w' = w.alloc (.cells ((Lib.splitB ⟨#[c]⟩ 0 (Lib.countB s ⟨#[c]⟩) s).map Value.string).toArray 9) := by
 have h1 : 1 ≤ (⟨#[c]⟩ : ByteArray).size := Nat.le_refl _
 have hle := Lib.countB_le ⟨#[c]⟩ h1 s.size s (Nat.le_refl _)
 have hlen := Lib.splitB_all ⟨#[c]⟩ h1 0 _ s rfl
 have hI : ∀ (x : ByteArray) (w : World), Calls Tryz.prog 171 #[.string x, .string ⟨#[c]⟩] w fun e w' => e = .returned (.int .i64 (Lib.indexB x ⟨#[c]⟩)) ∧ w' = w := fun x w =>
  (Tryz.strings_Index_one x c w).mono fun e w' ⟨he, hw⟩ => ⟨by rw [he]; refine congrArg (fun z => Ending.returned (Value.int .i64 z)) ?_; exact (Lib.index_one _ _).symm, hw⟩
 have hC : Calls Tryz.prog 170 #[.string s, .string ⟨#[c]⟩] w fun e w' => e = .returned (.int .i64 (Lib.countB s ⟨#[c]⟩)) ∧ w' = w :=
  (Tryz.strings_Count_one s c w).mono fun e w' ⟨he, hw⟩ => ⟨by rw [he]; refine congrArg (fun z : Nat => Ending.returned (Value.int .i64 (z : Int))) ?_; exact (Lib.count_one _ _).symm, hw⟩
 have c0 := Any.strings_genSplit_core Tryz.lays221 (by kernel_rfl) s ⟨#[c]⟩ 0 (-1) (Lib.countB s ⟨#[c]⟩ + 1) w hs h1 (Nat.zero_le _) (fun x d _ => hI x _) hC (by decide) (by decide) (by rw [if_pos (by decide)]; omega)
 rw [Nat.add_sub_cancel, hlen] at c0
 have e2 : Lib.cellsOf (Lib.splitB ⟨#[c]⟩ 0 (Lib.countB s ⟨#[c]⟩) s) (Lib.countB s ⟨#[c]⟩ + 1) = ((Lib.splitB ⟨#[c]⟩ 0 (Lib.countB s ⟨#[c]⟩) s).map Value.string).toArray := by rw [← hlen]; exact Lib.cellsOf_full _
 rw [e2] at c0
 go_enter Tryz.func150, Tryz.ntmps150
 go_wp2_with (go_at_call 162; refine Calls.mono c0 ?_; rintro e w' ⟨rfl, hw⟩; rw [hw])
 go_ret
 exact ⟨rfl, rfl⟩
end Go.Proofs
namespace Go.Ev
open Go Go.RowKit
def txtSp : Spec := fun args h => match args with
 | [.one (.lit (.int .i64 n))] => .need (decide (0 ≤ n) && decide (n ≤ 9223372036854775807)) (.leaf (.one (.lit (.string ⟨(itoaW n).toArray⟩)), h))
 | _ => .fail 501
theorem txt_ok : SpecOk Proofs.Tryz.prog 127 txtSp := by
 intro args h v h' hr E w vals rh hargs
 unfold txtSp at hr
 split at hr
 ·rename_i n
  obtain ⟨hn, hr⟩ := Tree.need_some hr
  simp only [Bool.and_eq_true, decide_eq_true_eq] at hn
  simp only [Tree.run, Option.some.injEq, Prod.mk.injEq] at hr
  obtain ⟨rfl, rfl⟩ := hr
  match vals, hargs with
  | [y], ⟨⟨hy, _⟩, _⟩ =>
   subst hy
   exact pure_calls rh ⟨rfl, rfl⟩ (Proofs.Tryz.text_is n hn.1 hn.2 w)
 ·cases hr
def txiSp (f : ByteArray → Int) (g : ByteArray → Bool) : Spec := fun args h => match args with
 | [.one (.lit (.string s))] => .need (decide (s.size < 9223372036854775807)) (.leaf (.tup [(false, [.lit (.int .i64 (f s))]), (false, [.lit (.bool (g s))])], h))
 | _ => .fail 502
theorem txi_ok {f : FuncId} {r : ByteArray → Int × Bool} (hc : ∀ s w, s.size < 9223372036854775807 → Calls Proofs.Tryz.prog f #[.string s] w fun e w' => e = .returned (.tuple #[.int .i64 (r s).1, .bool (r s).2]) ∧ Below w.heap.size w w') :
  SpecOk Proofs.Tryz.prog f (txiSp (fun s => (r s).1) fun s => (r s).2) := by
 intro args h v h' hr E w vals rh hargs
 unfold txiSp at hr
 split at hr
 ·rename_i s
  obtain ⟨hn, hr⟩ := Tree.need_some hr
  simp only [Tree.run, Option.some.injEq, Prod.mk.injEq] at hr
  obtain ⟨rfl, rfl⟩ := hr
  match vals, hargs with
  | [y], ⟨⟨hy, _⟩, _⟩ =>
   subst hy
   exact pure_calls rh ⟨[.int .i64 (r s).1, .bool (r s).2], rfl, ⟨_, rfl, rfl, rfl⟩, ⟨_, rfl, rfl, rfl⟩, trivial⟩ (hc s w (of_decide_eq_true hn))
 ·cases hr
theorem intP_spec : SpecOk Proofs.Tryz.prog 163 (txiSp (fun s => (Proofs.intP s).1) fun s => (Proofs.intP s).2) := txi_ok fun s w hs => Proofs.Tryz.integer_walk s w hs
def wrdN (s : ByteArray) (c : UInt8) : Nat := Lib.countB s ⟨#[c]⟩ + 1
def wrdF (s : ByteArray) (c : UInt8) (i : Nat) : ByteArray := (Lib.splitB ⟨#[c]⟩ 0 (Lib.countB s ⟨#[c]⟩) s).getD i Proofs.sNil
def splSp (nS : ByteArray → UInt8 → Nat) (fS : ByteArray → UInt8 → Nat → ByteArray) : Spec := fun args h => match args with
 | [.one (.lit (.string s)), .one (.lit (.string sep))] => match sep.data.toList with
  | [c] => .need (decide (s.size < 4294967281)) ((h.alloc ⟨false, 9, .rows (nS s c) [.str (fS s c)]⟩).bind fun p => .leaf (.one (.sl true p.1 0 1 0 (nS s c)), p.2))
  | _ => .fail 503
 | _ => .fail 503
theorem spl_ok : SpecOk Proofs.Tryz.prog 150 (splSp wrdN wrdF) := by
 intro args h v h' hr E w vals rh hargs
 unfold splSp at hr
 split at hr
 ·rename_i s sep
  split at hr
  ·rename_i c hsep
   obtain ⟨hn, hr⟩ := Tree.need_some hr
   have hn := of_decide_eq_true hn
   obtain ⟨p, hp, hr⟩ := Tree.bind_some hr
   simp only [Tree.run, Option.some.injEq, Prod.mk.injEq] at hr
   obtain ⟨rfl, rfl⟩ := hr
   have hsp : sep = ⟨#[c]⟩ := ByteArray.ext (Array.toList_inj.1 hsep)
   subst hsp
   match vals, hargs with
   | [y, z], ⟨⟨hy, _⟩, ⟨hz, _⟩, _⟩ =>
    subst hy; subst hz
    refine (Proofs.Tryz.split_one s c w hn).mono ?_
    rintro e w' ⟨rfl, rfl⟩
    have h1 : 1 ≤ (⟨#[c]⟩ : ByteArray).size := Nat.le_refl _
    have hle := Lib.countB_le ⟨#[c]⟩ h1 s.size s (Nat.le_refl _)
    have hlen := Lib.splitB_all ⟨#[c]⟩ h1 0 _ s rfl
    have hbody : (Body.rows (wrdN s c) [.str (wrdF s c)]).Is E ((Lib.splitB ⟨#[c]⟩ 0 (Lib.countB s ⟨#[c]⟩) s).map Value.string).toArray := fun k j cl hk hj => by
     have hk : k < Lib.countB s ⟨#[c]⟩ + 1 := hk
     match j, hj with
     | 0, hj =>
      injection hj with hj
      subst hj
      have hk2 : k < (Lib.splitB ⟨#[c]⟩ 0 (Lib.countB s ⟨#[c]⟩) s).length := by omega
      refine ⟨.string (wrdF s c k), ?_, rfl, rfl⟩
      show ((Lib.splitB ⟨#[c]⟩ 0 (Lib.countB s ⟨#[c]⟩) s).map Value.string).toArray[k * 1 + 0]? = _
      rw [Nat.mul_one, Nat.add_zero, List.getElem?_toArray, List.getElem?_map, List.getElem?_eq_getElem hk2]
      unfold wrdF
      rw [List.getD_eq_getElem?_getD, List.getElem?_eq_getElem hk2]
      rfl
     | j + 1, hj => cases hj
    obtain ⟨hst, hE⟩ := alloc_stp rh hbody hp
    refine ⟨_, _, rfl, .inl ⟨w.heap.size, _, 0, Lib.countB s ⟨#[c]⟩ + 1, hE, rfl, Nat.le_refl _, ?_, fun _ => rfl, fun _ => ⟨rfl, rfl, rfl, ?_⟩⟩, hst⟩
    ·unfold maxLen; omega
    ·simp [hlen]
  ·cases hr
 ·cases hr
end Go.Ev
