/- SaltTanks: the law where the tank has an error. Conditions: as each says. (Printed by gen_ltank.py.) -/
import Derived.Test.YtlpchgidkibbeaaGreatDoorTank7
namespace Go.Ev
open Go Go.Proofs
set_option maxRecDepth 100000

def ttN : Nat → SkL → SkL
  | 0, S => S
  | k + 1, S => .tt (ttN k S)
def ffN : Nat → SkL → SkL
  | 0, S => S
  | k + 1, S => .ff (ffN k S)
theorem ttN_ok {p} {S : SkL} (h : SkLeads p S) : ∀ k, SkLeads p (ttN k S)
  | 0 => h
  | k + 1 => sk_tt (ttN_ok h k)
theorem ffN_ok {p} {S : SkL} (h : SkLeads p S) : ∀ k, SkLeads p (ffN k S)
  | 0 => h
  | k + 1 => sk_ff (ffN_ok h k)
def ltA (n : Nat) (room index x0 x1 : Int) : List A := [tankA room n, int index, .agg [ci x0, ci x1]]
abbrev LtO := (Bool × A × Hp) ⊕ (List Bool × St)
noncomputable def ltT (e : Int) (g : (Nat → Int) → (Nat → Int) → Nat → T3) (n : Nat) (room index x0 x1 : Int) (z1 z2 : Nat → Int) : Tree LtO := preA Tryz.prog (tabOf (tbE e g)) Tryz.f5 (ltA n room index x0 x1) (hpL1 n (tkC z1 z2)) (false, true)
section
variable (e : Int) (k : Nat) (room index : Int) (z1 z2 : Nat → Int)
def ltL (n : Nat) (z1 z2 : Nat → Int) : SkL := lfT (hpL1 n (tkC z1 z2)) true
/-- a check of the tank -/
def ltN0 (S : SkL) : SkL := .nn (.nn (.need (tankE 0 room z1 z2 == e) S))
def ltN1 (S : SkL) : SkL := .need (okN (k + 1)) (.need (Nat.ble (k + 1) 17) (.need (tankE (k + 1) room z1 z2 == e) S))
def ltG1 (S : SkL) : SkL := .need (okN (k + 1)) (.need (Nat.ble (k + 1) 1000000) (.ff S))
def ltS0 : SkL := .ff (.tt (ltN0 e room z1 z2 (.tt (.tt (ltN0 e room z1 z2 (.tt (.tt (ltN0 e room z1 z2 (.tt (ltN0 e room z1 z2 (.tt (.tt (ltN0 e room z1 z2 (.tt (ltN0 e room z1 z2 (.node (decide (index < 0)) (ttN 4 (ffN 3 (.tt (ltN0 e room z1 z2 (ttN 16 (ltL 0 z1 z2)))))) (ffN 7 (.tt (ltN0 e room z1 z2 (ttN 16 (ltL 0 z1 z2)))))))))))))))))))))
def ltS1 : SkL := .node (decide (((k + 1 : Nat) : Int) > 17)) (ltL (k + 1) z1 z2) (ltG1 k (ltN1 e k room z1 z2 (.tt (ltG1 k (ltN1 e k room z1 z2 (.tt (ltG1 k (ltN1 e k room z1 z2 (ltG1 k (ltN1 e k room z1 z2 (.tt (.nn (.nn (ltG1 k (ltN1 e k room z1 z2 (.tt (ltN1 e k room z1 z2 (.node (decide (index < 0)) (ttN 4 (ffN 3 (ltG1 k (ltN1 e k room z1 z2 (ttN 16 (ltL (k + 1) z1 z2)))))) (ffN 7 (ltG1 k (ltN1 e k room z1 z2 (ttN 16 (ltL (k + 1) z1 z2)))))))))))))))))))))))
theorem ltN0_ok {p} {S : SkL} (h : tankE 0 room z1 z2 = e) (hs : SkLeads p S) : SkLeads p (ltN0 e room z1 z2 S) := sk_nn (sk_nn (sk_need (by rw [h]; exact beq_self_eq_true e) hs))
theorem ltN1_ok {p} {S : SkL} (hk : k + 1 ≤ 17) (h : tankE (k + 1) room z1 z2 = e) (hs : SkLeads p S) : SkLeads p (ltN1 e k room z1 z2 S) := sk_need (okN_ok _) (sk_need (ble_lit hk) (sk_need (by rw [h]; exact beq_self_eq_true e) hs))
theorem ltG1_ok {p} {S : SkL} (hk : k + 1 ≤ 17) (hs : SkLeads p S) : SkLeads p (ltG1 k S) := sk_need (okN_ok _) (sk_need (ble_lit (by omega)) (sk_ff hs))
theorem ltS0_ok (h : tankE 0 room z1 z2 = e) : SkLeads (isTrueL (hpL1 0 (tkC z1 z2))) (ltS0 e room index z1 z2) := by
  have n0 {S : SkL} (hs : SkLeads (isTrueL (hpL1 0 (tkC z1 z2))) S) := ltN0_ok e room z1 z2 h hs
  have l0 : SkLeads (isTrueL (hpL1 0 (tkC z1 z2))) (ltL 0 z1 z2) := sk_leaf rfl
  exact sk_ff (sk_tt (n0 (sk_tt (sk_tt (n0 (sk_tt (sk_tt (n0 (sk_tt (n0 (sk_tt (sk_tt (n0 (sk_tt (n0 (sk_either (fun _ => ttN_ok (ffN_ok (sk_tt (n0 (ttN_ok l0 16))) 3) 4) fun _ => ffN_ok (sk_tt (n0 (ttN_ok l0 16))) 7))))))))))))))))
theorem ltS1_ok (h : tankE (k + 1) room z1 z2 = e) : SkLeads (isTrueL (hpL1 (k + 1) (tkC z1 z2))) (ltS1 e k room index z1 z2) := by
  have l0 : SkLeads (isTrueL (hpL1 (k + 1) (tkC z1 z2))) (ltL (k + 1) z1 z2) := sk_leaf rfl
  refine sk_either (fun _ => l0) fun hk => ?_
  have hk : k + 1 ≤ 17 := by simp only [decide_eq_false_iff_not] at hk; omega
  have n0 {S : SkL} (hs : SkLeads (isTrueL (hpL1 (k + 1) (tkC z1 z2))) S) := ltN1_ok e k room z1 z2 hk h hs
  have g0 {S : SkL} (hs : SkLeads (isTrueL (hpL1 (k + 1) (tkC z1 z2))) S) := ltG1_ok k hk hs
  exact g0 (n0 (sk_tt (g0 (n0 (sk_tt (g0 (n0 (g0 (n0 (sk_tt (sk_nn (sk_nn (g0 (n0 (sk_tt (n0 (sk_either (fun _ => ttN_ok (ffN_ok (g0 (n0 (ttN_ok l0 16))) 3) 4) fun _ => ffN_ok (g0 (n0 (ttN_ok l0 16))) 7)))))))))))))))))
end
/-- the errors of a tank -/
theorem tankE_cases (n : Nat) (room : Int) (z1 z2 : Nat → Int) : tankE n room z1 z2 = 0 ∨ tankE n room z1 z2 = 3 ∨ tankE n room z1 z2 = 4 ∨ tankE n room z1 z2 = 5 ∨ tankE n room z1 z2 = 11 ∨ tankE n room z1 z2 = 23 := by
  have hw : ∀ a lo hi, wW a lo hi = 0 ∨ wW a lo hi = 3 := fun a lo hi => by unfold wW errIf; split <;> simp
  have hi : ∀ (b : Bool) (e : Int), errIf b e = 0 ∨ errIf b e = e := fun b e => by cases b <;> simp [errIf]
  have hf : ∀ (a b : Int), firstZ [a, b] = a ∨ firstZ [a, b] = b := fun a b => by
    unfold firstZ firstZ firstZ
    cases ha : a != 0 with
    | true => exact .inl rfl
    | false =>
      cases hb : b != 0 with
      | true => exact .inr rfl
      | false => exact .inr (ne0 hb).symm
  have hrow : ∀ k, layE z1 z2 k = 0 ∨ layE z1 z2 k = 3 ∨ layE z1 z2 k = 11 := fun k => by
    unfold layE
    split
    · unfold rowE
      rcases hf (wW (z1 k) 1 1000000) (wW (z2 k) 0 1000000000) with h | h <;> rw [h]
      · rcases hw (z1 k) 1 1000000 with h | h <;> simp [h]
      · rcases hw (z2 k) 0 1000000000 with h | h <;> simp [h]
    · split
      · split <;> simp
      · simp
  have hz : ∀ (m k : Nat) (e : Int), fnz (layE z1 z2) m k = some e → e = 0 ∨ e = 3 ∨ e = 11 := fun m => by
    induction m with
    | zero => intro k e h; cases h
    | succ m ih =>
      intro k e h
      unfold fnz at h
      split at h
      · injection h with h; subst h; exact hrow k
      · exact ih _ _ h
  unfold tankE
  split
  · unfold headE
    rcases hf (wW room 1 1000000) (errIf (decide ((n : Int) > 16)) 5) with h | h <;> rw [h]
    · rcases hw room 1 1000000 with h | h <;> simp [h]
    · rcases hi (decide ((n : Int) > 16)) 5 with h | h <;> simp [h]
  · split
    · rename_i e he
      rcases hz _ _ _ he with h | h | h <;> simp [h]
    · unfold endE
      rcases hf (errIf (decide (sumA z1 n > room)) 4) (errIf (decide (sumA z2 n > 1000000000)) 23) with h | h <;> rw [h]
      · rcases hi (decide (sumA z1 n > room)) 4 with h | h <;> simp [h]
      · rcases hi (decide (sumA z2 n > 1000000000)) 23 with h | h <;> simp [h]
section
variable (n k : Nat) (room index x0 x1 : Int) (z1 z2 : Nat → Int) (g : (Nat → Int) → (Nat → Int) → Nat → T3)
theorem lt_whole (e : Int) {S : SkL} (h1 : ltT e togS n room index x0 x1 z1 z2 = into (ltT e togS n room index x0 x1 z1 z2) S) (h2 : fits (ltT e togS n room index x0 x1 z1 z2) S = true) (h3 : SkLeads (isTrueL (hpL1 n (tkC z1 z2))) S) : CallAt Tryz.prog 5 (ltA n room index x0 x1) (hpL1 n (tkC z1 z2)) (boo true) (hpL1 n (tkC z1 z2)) :=
  call_sk (tbE_ok e) Tryz.func5 (by kernel_rfl) (false, true) (by kernel_rfl) h1 h2 h3.all
theorem lt_into0_3 : ltT 3 g 0 room index x0 x1 z1 z2 = into (ltT 3 g 0 room index x0 x1 z1 z2) (ltS0 3 room index z1 z2) := by kernel_rfl
theorem lt_fits0_3 : fits (ltT 3 g 0 room index x0 x1 z1 z2) (ltS0 3 room index z1 z2) = true := by kernel_rfl
theorem lt_into1_3 : ltT 3 g (k + 1) room index x0 x1 z1 z2 = into (ltT 3 g (k + 1) room index x0 x1 z1 z2) (ltS1 3 k room index z1 z2) := by kernel_rfl
theorem lt_fits1_3 : fits (ltT 3 g (k + 1) room index x0 x1 z1 z2) (ltS1 3 k room index z1 z2) = true := by kernel_rfl
theorem lt_into0_4 : ltT 4 g 0 room index x0 x1 z1 z2 = into (ltT 4 g 0 room index x0 x1 z1 z2) (ltS0 4 room index z1 z2) := by kernel_rfl
theorem lt_fits0_4 : fits (ltT 4 g 0 room index x0 x1 z1 z2) (ltS0 4 room index z1 z2) = true := by kernel_rfl
theorem lt_into1_4 : ltT 4 g (k + 1) room index x0 x1 z1 z2 = into (ltT 4 g (k + 1) room index x0 x1 z1 z2) (ltS1 4 k room index z1 z2) := by kernel_rfl
theorem lt_fits1_4 : fits (ltT 4 g (k + 1) room index x0 x1 z1 z2) (ltS1 4 k room index z1 z2) = true := by kernel_rfl
theorem lt_into0_5 : ltT 5 g 0 room index x0 x1 z1 z2 = into (ltT 5 g 0 room index x0 x1 z1 z2) (ltS0 5 room index z1 z2) := by kernel_rfl
theorem lt_fits0_5 : fits (ltT 5 g 0 room index x0 x1 z1 z2) (ltS0 5 room index z1 z2) = true := by kernel_rfl
theorem lt_into1_5 : ltT 5 g (k + 1) room index x0 x1 z1 z2 = into (ltT 5 g (k + 1) room index x0 x1 z1 z2) (ltS1 5 k room index z1 z2) := by kernel_rfl
theorem lt_fits1_5 : fits (ltT 5 g (k + 1) room index x0 x1 z1 z2) (ltS1 5 k room index z1 z2) = true := by kernel_rfl
theorem lt_into0_11 : ltT 11 g 0 room index x0 x1 z1 z2 = into (ltT 11 g 0 room index x0 x1 z1 z2) (ltS0 11 room index z1 z2) := by kernel_rfl
theorem lt_fits0_11 : fits (ltT 11 g 0 room index x0 x1 z1 z2) (ltS0 11 room index z1 z2) = true := by kernel_rfl
theorem lt_into1_11 : ltT 11 g (k + 1) room index x0 x1 z1 z2 = into (ltT 11 g (k + 1) room index x0 x1 z1 z2) (ltS1 11 k room index z1 z2) := by kernel_rfl
theorem lt_fits1_11 : fits (ltT 11 g (k + 1) room index x0 x1 z1 z2) (ltS1 11 k room index z1 z2) = true := by kernel_rfl
theorem lt_into0_23 : ltT 23 g 0 room index x0 x1 z1 z2 = into (ltT 23 g 0 room index x0 x1 z1 z2) (ltS0 23 room index z1 z2) := by kernel_rfl
theorem lt_fits0_23 : fits (ltT 23 g 0 room index x0 x1 z1 z2) (ltS0 23 room index z1 z2) = true := by kernel_rfl
theorem lt_into1_23 : ltT 23 g (k + 1) room index x0 x1 z1 z2 = into (ltT 23 g (k + 1) room index x0 x1 z1 z2) (ltS1 23 k room index z1 z2) := by kernel_rfl
theorem lt_fits1_23 : fits (ltT 23 g (k + 1) room index x0 x1 z1 z2) (ltS1 23 k room index z1 z2) = true := by kernel_rfl
/-- where the tank has an error the law says true -/
theorem lt_bad (h : tankE n room z1 z2 ≠ 0) : CallAt Tryz.prog 5 (ltA n room index x0 x1) (hpL1 n (tkC z1 z2)) (boo true) (hpL1 n (tkC z1 z2)) := by
  rcases tankE_cases n room z1 z2 with h0 | h0 | h0 | h0 | h0 | h0
  · exact absurd h0 h
  · cases n with
    | zero => exact lt_whole 0 room index x0 x1 z1 z2 3 (lt_into0_3 room index x0 x1 z1 z2 togS) (lt_fits0_3 room index x0 x1 z1 z2 togS) (ltS0_ok 3 room index z1 z2 h0)
    | succ k => exact lt_whole (k + 1) room index x0 x1 z1 z2 3 (lt_into1_3 k room index x0 x1 z1 z2 togS) (lt_fits1_3 k room index x0 x1 z1 z2 togS) (ltS1_ok 3 k room index z1 z2 h0)
  · cases n with
    | zero => exact lt_whole 0 room index x0 x1 z1 z2 4 (lt_into0_4 room index x0 x1 z1 z2 togS) (lt_fits0_4 room index x0 x1 z1 z2 togS) (ltS0_ok 4 room index z1 z2 h0)
    | succ k => exact lt_whole (k + 1) room index x0 x1 z1 z2 4 (lt_into1_4 k room index x0 x1 z1 z2 togS) (lt_fits1_4 k room index x0 x1 z1 z2 togS) (ltS1_ok 4 k room index z1 z2 h0)
  · cases n with
    | zero => exact lt_whole 0 room index x0 x1 z1 z2 5 (lt_into0_5 room index x0 x1 z1 z2 togS) (lt_fits0_5 room index x0 x1 z1 z2 togS) (ltS0_ok 5 room index z1 z2 h0)
    | succ k => exact lt_whole (k + 1) room index x0 x1 z1 z2 5 (lt_into1_5 k room index x0 x1 z1 z2 togS) (lt_fits1_5 k room index x0 x1 z1 z2 togS) (ltS1_ok 5 k room index z1 z2 h0)
  · cases n with
    | zero => exact lt_whole 0 room index x0 x1 z1 z2 11 (lt_into0_11 room index x0 x1 z1 z2 togS) (lt_fits0_11 room index x0 x1 z1 z2 togS) (ltS0_ok 11 room index z1 z2 h0)
    | succ k => exact lt_whole (k + 1) room index x0 x1 z1 z2 11 (lt_into1_11 k room index x0 x1 z1 z2 togS) (lt_fits1_11 k room index x0 x1 z1 z2 togS) (ltS1_ok 11 k room index z1 z2 h0)
  · cases n with
    | zero => exact lt_whole 0 room index x0 x1 z1 z2 23 (lt_into0_23 room index x0 x1 z1 z2 togS) (lt_fits0_23 room index x0 x1 z1 z2 togS) (ltS0_ok 23 room index z1 z2 h0)
    | succ k => exact lt_whole (k + 1) room index x0 x1 z1 z2 23 (lt_into1_23 k room index x0 x1 z1 z2 togS) (lt_fits1_23 k room index x0 x1 z1 z2 togS) (ltS1_ok 23 k room index z1 z2 h0)
end
end Go.Ev
