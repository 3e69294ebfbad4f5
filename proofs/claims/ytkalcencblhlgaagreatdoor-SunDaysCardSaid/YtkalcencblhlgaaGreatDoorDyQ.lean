/- Spans of ticks, one tick after the other, plain. Conditions: as each says. -/
import Derived.Test.YtkalcencblhlgaaGreatDoorDyP
namespace Go.Ev
open Go

/-- spans so far: how many, where they begin, where they end -/
structure Spans where
  m : Nat
  F : Nat → Int
  T : Nat → Int
/-- a tick at which the sun has risen -/
def Spans.add (s : Spans) (t : Int) : Spans := match s.m with
  | 0 => ⟨1, fun _ => t, fun _ => t + 1⟩
  | m + 1 => match s.T m == t with
    | true => ⟨m + 1, s.F, putF s.T m (t + 1)⟩
    | false => ⟨m + 2, putF s.F (m + 1) t, putF s.T (m + 1) (t + 1)⟩
def spansK (up : Int → Bool) (a : Int) : Nat → Spans
  | 0 => ⟨0, fun _ => 0, fun _ => 0⟩
  | k + 1 => match up (a + k) with
    | true => (spansK up a k).add (a + k)
    | false => spansK up a k
/-- lies a tick in a span -/
def Spans.Has (s : Spans) (t : Int) : Prop := ∃ j, j < s.m ∧ s.F j ≤ t ∧ t < s.T j
theorem putF_at {α : Type} (f : Nat → α) (i : Nat) (x : α) (j : Nat) : putF f i x j = if j = i then x else f j := by
  unfold putF
  by_cases h : j = i
  · subst h; simp
  · rw [if_neg h]
    have : Nat.beq j i = false := by
      cases e : Nat.beq j i with
      | false => rfl
      | true => exact absurd (Nat.eq_of_beq_eq_true e) h
    rw [this]
theorem add_has {s : Spans} {t : Int} (hb : ∀ j, j < s.m → s.F j < s.T j ∧ s.T j ≤ t) : (∀ j, j < (s.add t).m → (s.add t).F j < (s.add t).T j ∧ (s.add t).T j ≤ t + 1) ∧ ∀ τ, (s.add t).Has τ ↔ (s.Has τ ∨ τ = t) := by
  obtain ⟨m, F, T⟩ := s
  unfold Spans.add Spans.Has
  cases m with
  | zero =>
    simp only []
    refine ⟨fun j _ => by omega, fun τ => ⟨fun ⟨j, h1, h2, h3⟩ => .inr (by omega), fun h => ?_⟩⟩
    rcases h with ⟨j, h1, _⟩ | h
    · omega
    · exact ⟨0, by omega, by omega, by omega⟩
  | succ m =>
    simp only [] at hb ⊢
    have hm := hb m (by omega)
    by_cases e : T m = t
    · rw [show (T m == t) = true by simpa using e]
      simp only [putF_at]
      refine ⟨fun j hj => ?_, fun τ => ⟨fun ⟨j, h1, h2, h3⟩ => ?_, fun h => ?_⟩⟩
      · split
        · rename_i ej; subst ej; omega
        · have := hb j hj; omega
      · split at h3
        · rename_i ej
          subst ej
          by_cases ht : τ = t
          · exact .inr ht
          · exact .inl ⟨j, h1, h2, by omega⟩
        · exact .inl ⟨j, h1, h2, h3⟩
      · rcases h with ⟨j, h1, h2, h3⟩ | h
        · refine ⟨j, h1, h2, ?_⟩
          split
          · rename_i ej; subst ej; omega
          · exact h3
        · refine ⟨m, by omega, by omega, ?_⟩
          rw [if_pos rfl]; omega
    · rw [show (T m == t) = false by simpa using e]
      simp only [putF_at]
      refine ⟨fun j hj => ?_, fun τ => ⟨fun ⟨j, h1, h2, h3⟩ => ?_, fun h => ?_⟩⟩
      · split
        · omega
        · have := hb j (by omega); omega
      · split at h2
        · rename_i ej; rw [if_pos ej] at h3; exact .inr (by omega)
        · rename_i ej; rw [if_neg ej] at h3; exact .inl ⟨j, by omega, h2, h3⟩
      · rcases h with ⟨j, h1, h2, h3⟩ | h
        · have ej : j ≠ m + 1 := by omega
          exact ⟨j, by omega, by rw [if_neg ej]; exact h2, by rw [if_neg ej]; exact h3⟩
        · exact ⟨m + 1, by omega, by rw [if_pos rfl]; omega, by rw [if_pos rfl]; omega⟩
theorem spansK_has (up : Int → Bool) (a : Int) : ∀ k : Nat, (∀ j, j < (spansK up a k).m → (spansK up a k).F j < (spansK up a k).T j ∧ (spansK up a k).T j ≤ a + k) ∧ ∀ τ, (spansK up a k).Has τ ↔ (a ≤ τ ∧ τ < a + k ∧ up τ = true)
  | 0 => ⟨fun j h => by have h : j < 0 := h; omega, fun τ => ⟨fun ⟨j, h, _⟩ => by have h : j < 0 := h; omega, fun h => by have h1 := h.1; have h2 := h.2.1; omega⟩⟩
  | k + 1 => by
    obtain ⟨h1, h2⟩ := spansK_has up a k
    unfold spansK
    cases hu : up (a + k) with
    | false =>
      simp only []
      refine ⟨fun j hj => ?_, fun τ => ?_⟩
      · have := h1 j hj; omega
      · rw [h2]
        constructor
        · rintro ⟨b1, b2, b3⟩; exact ⟨b1, by omega, b3⟩
        · rintro ⟨b1, b2, b3⟩
          refine ⟨b1, ?_, b3⟩
          by_cases e : τ = a + k
          · subst e; rw [hu] at b3; cases b3
          · omega
    | true =>
      simp only []
      obtain ⟨a1, a2⟩ := add_has h1
      refine ⟨fun j hj => ?_, fun τ => ?_⟩
      · have := a1 j hj; omega
      · rw [a2, h2]
        constructor
        · rintro (⟨b1, b2, b3⟩ | rfl)
          · exact ⟨b1, by omega, b3⟩
          · exact ⟨by omega, by omega, hu⟩
        · rintro ⟨b1, b2, b3⟩
          by_cases e : τ = a + k
          · exact .inr e
          · exact .inl ⟨b1, by omega, b3⟩
theorem spansK_m (up : Int → Bool) (a : Int) : ∀ k : Nat, (spansK up a k).m ≤ k
  | 0 => Nat.le_refl _
  | k + 1 => by
    have h := spansK_m up a k
    unfold spansK
    cases up (a + k) with
    | false => simp only []; omega
    | true =>
      simp only []
      generalize spansK up a k = s at h ⊢
      obtain ⟨m, F, T⟩ := s
      unfold Spans.add
      cases m with
      | zero => show 1 ≤ _; omega
      | succ m =>
        simp only [] at h ⊢
        split
        · show m + 1 ≤ _; omega
        · show m + 2 ≤ _; omega
end Go.Ev
