/- Quotients in lowest terms, by the reference. Conditions: a denominator above 0. -/
import Derived.Test.YtkalcencblhlgaaGreatDoorDl
namespace Go.Ev
open Go Go.Proofs
set_option maxRecDepth 100000

def lowK (num den : Int) : Bool := decide (0 < den) && (in63 num && in63 den)
def lowV : List Int → List Bool → A
  | [num, den], [] => .agg [ci (loW num den num), ci (loW num den den)]
  | _, _ => int 0
def lowO : List Int → List Bool → Bool
  | [num, den], [] => lowK num den
  | _, _ => false
def lowL (num den : Int) : Tree (A × Hp) := .need (in63 num && in63 den) (.need (!(gcd1 num den == 0)) (.need (!(gcd1 num den == 0)) (.leaf (.agg [ci (loW num den num), ci (loW num den den)], hp0))))
theorem low_run (num den : Int) (hok : lowK num den = true) : (evFun Tryz.prog (tabOf tb_tiny) modes 100 20 (encA [.i, .i] [num, den] []) hp0).run = some (.agg [ci (loW num den num), ci (loW num den den)], hp0) := by
  have h : (evFun Tryz.prog (tabOf tb_tiny) modes 100 20 (encA [.i, .i] [num, den] []) hp0).run = (Tree.node (decide (den < 0)) (lowL (w64 (0 - num)) (w64 (0 - den))) (lowL num den)).run := by kernel_rfl
  rw [h]
  unfold lowK at hok
  simp only [Bool.and_eq_true, decide_eq_true_eq] at hok
  obtain ⟨hd, h1, h2⟩ := hok
  rw [decide_eq_false (show ¬ den < 0 by omega)]
  unfold lowL
  simp only [Tree.run, h1, h2, gcd1_ne, Bool.and_self]
theorem low_ok : SpecOk Tryz.prog 20 (specI [.i, .i] lowO lowV) := specI_ok (fun l m => by unfold lowV; split <;> rfl) fun l m hl hm hok => match l, m, hl, hm, hok with
  | [num, den], [], _, _, hok => call_ev tb_tiny_ok (low_run num den hok)
end Go.Ev
