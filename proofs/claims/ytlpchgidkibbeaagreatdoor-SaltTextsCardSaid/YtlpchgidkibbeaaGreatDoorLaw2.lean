/- Plain laws: what the program's checks, steps and holds come to is what the reference's do. Conditions: none, or the checks. -/
import Derived.Test.YtlpchgidkibbeaaGreatDoorLwd
namespace Go.Ev
open Go

theorem eqS_iff {a b : ByteArray} : eqS a b = true ↔ a = b := by
  unfold eqS
  constructor
  · intro h
    have h : a.toList = b.toList := by simpa using h
    rw [ByteArray.toList_eq, ByteArray.toList_eq] at h
    cases a; cases b
    simp at h
    rw [h]
  · rintro rfl; simp
theorem beq_data (a b : ByteArray) : (a == b) = (a.data == b.data) := by cases a; cases b; rfl
theorem beq_eqS (a b : ByteArray) : (a == b) = eqS a b := by
  rw [beq_data, Bool.eq_iff_iff, eqS_iff]
  constructor
  · intro h
    have h : a.data = b.data := by simpa using h
    cases a; cases b
    simp at h
    rw [h]
  · rintro rfl; simp
theorem firstZ_append : ∀ (l l' : List Int), firstZ (l ++ l') = match firstZ l != 0 with | true => firstZ l | false => firstZ l'
  | [], _ => rfl
  | a :: l, l' => by
    simp only [List.cons_append, firstZ]
    cases h : a != 0 with
    | true => simp only [h]
    | false => exact firstZ_append l l'
theorem rules_q (c l f r h k : Int) : rulesErr c l f r h k = qrulesErr c l f r h k := by
  unfold rulesErr qrulesErr rangesW ordersW
  exact (firstZ_append [wW c 1 1000, wW l 0 100000, wW f 0 1000, wW r 0 1000, wW h 0 1000, wW k 0 1000] [errIf (decide (r ≤ f) || decide (h ≤ r)) 11, errIf (decide (k < f) || decide (h < k)) 34]).symm
theorem recv_q (s : ByteArray) (n : Int) : recvErr s n = qrecvErr s n := by
  unfold recvErr qrecvErr known
  rw [beq_eqS, beq_eqS, beq_eqS]
  cases eqS s sEmpty <;> cases eqS s sFilled <;> cases eqS s sRunning <;> rfl
theorem isAct_q (s : ByteArray) : isAct s = qisAct s := by
  unfold isAct qisAct
  rw [eqS_comm s sWait, eqS_comm s sFill, eqS_comm s sDrain, eqS_comm s sStart, eqS_comm s sStop]
  rfl
theorem step_q (c light flow : Int) (s : ByteArray) : stepErr c light flow s = qstepErr c light flow s := by
  unfold stepErr qstepErr
  rw [isAct_q]
theorem one_q (c l f r h k heat : Int) (s : ByteArray) : tE c l f r h k heat s = lwOne c l f r h k heat s := by
  unfold tE lwOne
  rw [rules_q, recv_q]
theorem first3 (a b d : Int) : firstZ [a, b, d] = firstZ [firstZ [a, b], d] := by
  have h := firstZ_append [a, b] [d]
  simp only [List.cons_append, List.nil_append] at h
  rw [h]
  rfl
theorem two_q (c l f r h k heat light flow : Int) (s act : ByteArray) : pE0 c l f r h k heat light flow s act = lwTwo c l f r h k heat light flow s act := by
  unfold pE0 lwTwo lwOne
  rw [first3, rules_q, recv_q, step_q]
theorem recv0 {s : ByteArray} {n : Int} (h : recvErr s n = 0) : known s = true ∧ 0 ≤ n ∧ n ≤ 1000000000 := by
  unfold recvErr at h
  obtain ⟨h1, h2⟩ := first0 h
  obtain ⟨h3, _⟩ := first0 h2
  have := errIf0 (by decide) h1
  have := wW0 h3
  exact ⟨by simp_all, by omega, by omega⟩
theorem step0 {c light flow : Int} {s : ByteArray} (h : stepErr c light flow s = 0) : isAct s = true ∧ (0 ≤ light ∧ light ≤ 1000000) ∧ 0 ≤ flow ∧ flow ≤ c := by
  unfold stepErr at h
  obtain ⟨h1, h2⟩ := first0 h
  obtain ⟨h3, h4⟩ := first0 h2
  obtain ⟨h5, _⟩ := first0 h4
  have := errIf0 (by decide) h1
  exact ⟨by simp_all, wW0 h3, wW0 h5⟩
theorem w64_id {n : Int} (h0 : -9223372036854775808 ≤ n) (h1 : n ≤ 9223372036854775807) : w64 n = n := wrap_id h0 h1
theorem tdiv_bd {a b : Int} (ha : 0 ≤ a) (hb : 1 ≤ b) : 0 ≤ a.tdiv b ∧ a.tdiv b ≤ a ∧ a.tdiv b * b ≤ a ∧ a < (a.tdiv b + 1) * b := by
  rw [Int.tdiv_eq_ediv_of_nonneg ha]
  have h1 := Int.ediv_nonneg ha (by omega : 0 ≤ b)
  have h2 := Int.ediv_mul_le a (by omega : b ≠ 0)
  have h3 := Int.lt_ediv_add_one_mul_self a (by omega : 0 < b)
  have h4 : a / b ≤ a / b * b := by
    have := Int.mul_le_mul_of_nonneg_left hb h1
    omega
  exact ⟨h1, by omega, h2, h3⟩
theorem floor_q {a b : Int} (ha : 0 ≤ a) (hb : 1 ≤ b) (hm : a ≤ 9223372036854775807) : floorW a b = w64 (a.tdiv b) := by
  obtain ⟨h1, h2, h3, _⟩ := tdiv_bd ha hb
  unfold floorW
  have e1 : w64 (a.tdiv b) = a.tdiv b := w64_id (by omega) (by omega)
  have e2 : w64 (w64 (a.tdiv b) * b) = a.tdiv b * b := by
    rw [e1]
    have : 0 ≤ a.tdiv b * b := Int.mul_nonneg h1 (by omega)
    exact w64_id (by omega) (by omega)
  rw [e2]
  have : decide (a < a.tdiv b * b) = false := by simp; omega
  rw [this]

/-! ### Acts -/
theorem known_cases {s : ByteArray} (h : known s = true) : s = sEmpty ∨ s = sFilled ∨ s = sRunning := by
  unfold known at h
  simp only [beq_eqS, Bool.or_eq_true, eqS_iff] at h
  exact h
theorem act_cases {s : ByteArray} (h : isAct s = true) : s = sWait ∨ s = sFill ∨ s = sDrain ∨ s = sStart ∨ s = sStop := by
  rw [isAct_q] at h
  unfold qisAct at h
  simp only [Bool.or_eq_true, eqS_iff] at h
  exact h
/-- either the same error 22, or the same state and permissions -/
theorem acts_q {s act : ByteArray} (hs : known s = true) (ha : isAct act = true) (c r heat : Int) :
    (actB1 s act = false ∧ afIs s act = false) ∨ (actB1 s act = true ∧ afIs s act = true ∧ actNs s act = afNs s act ∧ (!actB2 act c r heat) = (match eqS act sFill with | true => decide (degW c heat < r) | false => false)) := by
  have hd : (!decide (r ≤ degW c heat)) = decide (degW c heat < r) := by
    rw [Bool.eq_iff_iff]; simp
  rcases known_cases hs with rfl | rfl | rfl
  · rcases act_cases ha with rfl | rfl | rfl | rfl | rfl
    · exact .inr ⟨by kernel_rfl, by kernel_rfl, by kernel_rfl, by kernel_rfl⟩
    · exact .inr ⟨by kernel_rfl, by kernel_rfl, by kernel_rfl, (show (!actB2 sFill c r heat) = !decide (r ≤ degW c heat) by kernel_rfl).trans (hd.trans (by kernel_rfl))⟩
    · exact .inl ⟨by kernel_rfl, by kernel_rfl⟩
    · exact .inl ⟨by kernel_rfl, by kernel_rfl⟩
    · exact .inl ⟨by kernel_rfl, by kernel_rfl⟩
  · rcases act_cases ha with rfl | rfl | rfl | rfl | rfl
    · exact .inr ⟨by kernel_rfl, by kernel_rfl, by kernel_rfl, by kernel_rfl⟩
    · exact .inl ⟨by kernel_rfl, by kernel_rfl⟩
    · exact .inr ⟨by kernel_rfl, by kernel_rfl, by kernel_rfl, by kernel_rfl⟩
    · exact .inr ⟨by kernel_rfl, by kernel_rfl, by kernel_rfl, by kernel_rfl⟩
    · exact .inl ⟨by kernel_rfl, by kernel_rfl⟩
  · rcases act_cases ha with rfl | rfl | rfl | rfl | rfl
    · exact .inr ⟨by kernel_rfl, by kernel_rfl, by kernel_rfl, by kernel_rfl⟩
    · exact .inl ⟨by kernel_rfl, by kernel_rfl⟩
    · exact .inl ⟨by kernel_rfl, by kernel_rfl⟩
    · exact .inl ⟨by kernel_rfl, by kernel_rfl⟩
    · exact .inr ⟨by kernel_rfl, by kernel_rfl, by kernel_rfl, by kernel_rfl⟩
theorem nr_eq (s : ByteArray) : nrW s = !(eqS s sRunning) := rfl
/-- the errors and the results of a step -/
theorem stepped_q {c l f r h k heat light flow : Int} {s act : ByteArray} (h1 : rulesErr c l f r h k = 0) (h2 : recvErr s heat = 0) (h3 : stepErr c light flow act = 0) :
    pE1 c l f r h k heat light flow s act = qErr c l f r h k heat light flow s act ∧
    (qErr c l f r h k heat light flow s act = 0 → actNs s act = afNs s act ∧ takenW c k heat flow = qT c k heat flow s act) := by
  obtain ⟨⟨hc1, hc2⟩, hl, hf, hr, hh, hk, _⟩ := rules0 h1
  obtain ⟨hs, hh1, hh2⟩ := recv0 h2
  obtain ⟨ha, _, hw1, hw2⟩ := step0 h3
  have hfh : 0 ≤ flow * heat := Int.mul_nonneg hw1 hh1
  have hfh2 : flow * heat ≤ 1000 * 1000000000 := by
    have a1 : flow * heat ≤ flow * 1000000000 := Int.mul_le_mul_of_nonneg_left hh2 hw1
    omega
  have ew : w64 (flow * heat) = flow * heat := w64_id (by omega) (by omega)
  have hrun : ∀ b, (b = true ∨ flow = 0) → qTaken c k heat flow b = takenW c k heat flow := fun b hb => by
    cases b with
    | true =>
      unfold qTaken takenW
      simp only [ew]
      rw [floor_q hfh hc1 (by omega)]
    | false =>
      have h0 : flow = 0 := hb.resolve_left (by decide)
      subst h0
      unfold qTaken takenW
      have w0 : w64 0 = 0 := by decide
      simp only [Int.zero_mul, w0, Int.zero_tdiv]
      rfl
  unfold pE1 eW qErr
  rcases acts_q hs ha c r heat with ⟨e1, e2⟩ | ⟨e1, e2, e3, e4⟩
  · have a1 : e1W (actNs s act) (actB1 s act) (actB2 act c r heat) flow = 22 := by unfold e1W err1W; rw [e1]; rfl
    have a2 : qErr1 c r heat flow s act = 22 := by unfold qErr1 qE1; rw [e2]; rfl
    rw [a1, a2]
    exact ⟨rfl, fun h => by cases h⟩
  · have a1 : e1W (actNs s act) (actB1 s act) (actB2 act c r heat) flow = qErr1 c r heat flow s act := by
      unfold e1W err1W qErr1 qE1
      rw [e1, e2, e4, e3]
      rfl
    rw [a1]
    cases hz : qErr1 c r heat flow s act != 0 with
    | true =>
      refine ⟨rfl, fun h => ?_⟩
      have : qErr1 c r heat flow s act ≠ 0 := by simpa using hz
      exact absurd h this
    | false =>
      have hz := ne0 hz
      have hfl : eqS (afNs s act) sRunning = true ∨ flow = 0 := by
        unfold qErr1 qE1 at hz
        obtain ⟨_, hz⟩ := first0 hz
        obtain ⟨_, hz⟩ := first0 hz
        obtain ⟨hz, _⟩ := first0 hz
        have hz := errIf0 (by decide) hz
        cases hp : decide (0 < flow) with
        | true =>
          rw [hp] at hz
          have hz : nrW (afNs s act) = false := hz
          rw [nr_eq] at hz
          exact .inl (by simpa using hz)
        | false =>
          have : ¬ 0 < flow := by simpa using hp
          exact .inr (by omega)
      have ht : qT c k heat flow s act = takenW c k heat flow := hrun _ hfl
      refine ⟨?_, fun _ => ⟨e3, ht.symm⟩⟩
      show e2W (actNs s act) c l f h k heat light flow = qErr2 c l f h k heat light flow s act
      unfold qErr2 qH
      rw [ht, e3]
      rfl
end Go.Ev
