/- What light.IsName says of a string. Conditions: none. -/
import Derived.Test.YtjckcdpjibfacaaGreatEvRun
import Derived.Test.YtjckcdpjibfacaaGreatChecked
import Derived.Lib.OthersKept
import Derived.WalkKit
import Derived.BigCall
namespace Go.Proofs
open Go.RowKit
def Tryz.nameByte (b : Nat) (first : Bool) : Bool :=
 (Nat.ble 97 b && Nat.ble b 122) || (Nat.ble 65 b && Nat.ble b 90) || (!first && (Nat.beq b 95 || (Nat.ble 48 b && Nat.ble b 57)))
def Tryz.nameOk : List UInt8 → Bool → Bool
 | [], _ => true
 | b :: l, first => Tryz.nameByte b.toNat first && Tryz.nameOk l false
def Tryz.isNameW (s : ByteArray) : Bool := Tryz.nameOk s.data.toList true && !(Nat.beq s.size 0) && Nat.ble s.size 24
theorem Tryz.nameByte_iff (b pos : Nat) : Tryz.nameByte b (Nat.beq pos 0) = true ↔ (97 ≤ b ∧ b ≤ 122) ∨ (65 ≤ b ∧ b ≤ 90) ∨ (pos ≠ 0 ∧ (b = 95 ∨ (48 ≤ b ∧ b ≤ 57))) := by
 have hb : ∀ m n : Nat, (Nat.beq m n = true ↔ m = n) := fun m n => ⟨Nat.eq_of_beq_eq_true, fun h => by subst h; simp⟩
 have hf : (Nat.beq pos 0 = false ↔ pos ≠ 0) := by rw [← Bool.not_eq_true, hb]
 simp [Tryz.nameByte, Bool.or_eq_true, Bool.and_eq_true, Nat.ble_eq, hb, hf, or_assoc]
theorem Tryz.nameNil (s : ByteArray) : s.toList = [] ↔ s.size = 0 := by
 rw [ByteArray.toList_eq, show s.size = s.data.toList.length from by simp, List.length_eq_zero_iff]
theorem Tryz.nameSizes (s : ByteArray) : (!Nat.beq s.size 0 && Nat.ble s.size 24) = (!s.toList.isEmpty && decide ((s.size : Int) ≤ 24)) := by
 have h1 : Nat.beq s.size 0 = s.toList.isEmpty := by
  rw [Bool.eq_iff_iff, List.isEmpty_iff, Tryz.nameNil]
  exact ⟨Nat.eq_of_beq_eq_true, fun h => by rw [h]; rfl⟩
 have h2 : Nat.ble s.size 24 = decide ((s.size : Int) ≤ 24) := by
  rw [Bool.eq_iff_iff, Nat.ble_eq, decide_eq_true_eq]
  omega
 rw [h1, h2]
theorem Tryz.nameOk_drop (s : ByteArray) (pos : Nat) (f : Bool) (h : pos < s.size) : Tryz.nameOk (s.data.toList.drop pos) f = (Tryz.nameByte (s[pos]'h).toNat f && Tryz.nameOk (s.data.toList.drop (pos + 1)) false) := by
 have hlen : pos < s.data.toList.length := by simpa using h
 rw [List.drop_eq_getElem_cons hlen]
 rfl
set_option maxHeartbeats 4000000 in
set_option maxRecDepth 1000000 in
theorem Tryz.isName_walk (s : ByteArray) (w : World) :
    Calls Tryz.prog 69 #[.string s] w fun e w' => e = .returned (.bool (Tryz.isNameW s)) ∧ Below w.heap.size w w' := by
  go_enter Tryz.func69, Tryz.ntmps69
  go_wp2
  go_loopw [] (fun wr => ∃ pos, wr.heap[w.heap.size]? = some (.stringIter s pos) ∧ Below w.heap.size w wr ∧ pos ≤ s.size ∧ Tryz.nameOk s.data.toList true = Tryz.nameOk (s.data.toList.drop pos) (Nat.beq pos 0)) (fun wr => s.size - wr.iterPos w.heap.size)
  case atStart =>
    refine ⟨0, by simpa using World.iter_heap w s 0, ?_, Nat.zero_le _, rfl⟩
    exact (Below.refl _ w).alloc (Nat.le_refl _) _
  case round =>
    obtain ⟨pos, hit, hbw, hpos, hok⟩ := hrel
    have hsz : w.heap.size < wr.heap.size := (Array.getElem?_eq_some_iff.1 hit).1
    by_cases hp : pos < s.size
    · by_cases ha : (s[pos]'hp).toNat < 128
      · have hnx : ∀ ty, (Instr.next (.pointer (some ⟨w.heap.size, 0, none⟩)) true ty).run Tryz.prog wr = _ := fun ty => Lib.run_next_ascii_at wr w.heap.size s pos ty hit hp ha
        have hit2 := Lib.iterAt_heap wr w.heap.size s pos (pos + 1) hit
        have hbw2 := Lib.below_iterAt hbw (k := w.heap.size) (Nat.le_refl _) s (pos + 1)
        rw [Tryz.nameOk_drop s pos _ hp] at hok
        generalize (s[pos]'hp).toNat = b at *
        have hyes := Tryz.nameByte_iff b pos
        go_wp2
        all_goals first
          | (have hx : Tryz.nameByte b (Nat.beq pos 0) = false := by
               rw [← Bool.not_eq_true, hyes]
               simp_all
               omega
             rw [hx, Bool.false_and] at hok
             go_ret
             refine ⟨by rw [Tryz.isNameW, hok]; rfl, ?_⟩
             first | exact hbw2 | (simp_all; done))
          | (have hx : Tryz.nameByte b (Nat.beq pos 0) = true := by
               rw [hyes]
               simp_all
               omega
             rw [hx, Bool.true_and] at hok
             have hm : s.size - (wr.iterAt w.heap.size s (pos + 1)).iterPos w.heap.size < s.size - wr.iterPos w.heap.size := by
               simp only [World.iterPos, hit, hit2]; omega
             first
               | exact ⟨⟨pos + 1, hit2, hbw2, hp, hok⟩, hm⟩
               | (have h0 : pos = 0 := by assumption
                  subst h0
                  exact ⟨⟨1, hit2, hbw2, hp, hok⟩, hm⟩))
      · have ha' : 128 ≤ (s[pos]'hp).toNat := by omega
        have hd := (decode_high s pos hp ha').1
        have hnx : ∀ ty, (Instr.next (.pointer (some ⟨w.heap.size, 0, none⟩)) true ty).run Tryz.prog wr = _ := fun ty => Lib.run_next_any_at wr w.heap.size s pos ty hit hp
        have hbw2 := Lib.below_iterAt hbw (k := w.heap.size) (Nat.le_refl _) s (pos + (Utf8.decode s pos).2)
        have hd2 := decode_le s pos
        have hx : Tryz.nameByte (s[pos]'hp).toNat (Nat.beq pos 0) = false := by
          rw [← Bool.not_eq_true, Tryz.nameByte_iff]
          omega
        rw [Tryz.nameOk_drop s pos _ hp, hx, Bool.false_and] at hok
        generalize Utf8.decode s pos = dd at hd hd2 hbw2 hnx
        go_wp2
        all_goals first
          | (go_ret
             refine ⟨by rw [Tryz.isNameW, hok]; rfl, ?_⟩
             first | exact hbw2 | (simp_all; done))
          | (exfalso; simp_all; omega)
          | (exfalso; omega)
    · have hnx : ∀ ty, (Instr.next (.pointer (some ⟨w.heap.size, 0, none⟩)) true ty).run Tryz.prog wr = _ := fun ty => Lib.run_next_end_at wr w.heap.size s pos ty hit hp
      have hpe : pos = s.size := by omega
      have hnil : s.data.toList.drop pos = [] := List.drop_eq_nil_of_le (by rw [hpe]; simp)
      rw [hnil] at hok
      have hok' : Tryz.nameOk s.data.toList true = true := hok
      go_wp2
      all_goals
        go_ret
        refine ⟨?_, hbw⟩
        rw [Tryz.isNameW, hok', Bool.true_and]
      · rename_i h0
        rw [(Tryz.nameNil s).1 h0]
        rfl
      · rw [Tryz.nameSizes s]
        rfl
end Go.Proofs
