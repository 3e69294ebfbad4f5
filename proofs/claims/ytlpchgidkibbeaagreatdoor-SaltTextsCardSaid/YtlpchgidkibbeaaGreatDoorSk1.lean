/- Helps for laws with lists: a function's whole code by a sketch, the memory at which such a law begins, what a step leaves. Conditions: as each says. -/
import Derived.Test.YtlpchgidkibbeaaGreatDoorScan
import Derived.Test.YtlpchgidkibbeaaGreatDoorLaw0
import Derived.Test.YtlpchgidkibbeaaGreatDoorLaw2
namespace Go.Ev
open Go Go.Proofs
set_option maxRecDepth 100000

/-- a function's whole code, by a sketch -/
theorem call_sk {T : FuncId → Option Spec} (hT : TabOk Tryz.prog T) {f : FuncId} {fn : Func} (hfn : Tryz.prog.funcs[f]? = some fn) (hc : fn.body = some (bodyOf fn)) {args : List A} {h : Hp} (m : Bool × Bool) {v : A} {h' : Hp}
    (hsz : (Nat.ble args.length fn.ntmps && Nat.ble args.length lim) = true) {S : Sk ((Bool × A × Hp) ⊕ (List Bool × St))} (h1 : preA Tryz.prog T fn args h m = into (preA Tryz.prog T fn args h m) S) (h2 : fits (preA Tryz.prog T fn args h m) S = true)
    (h3 : S.All fun o => match o with | .inl r => r.2 = (v, h') | .inr _ => False) : CallAt Tryz.prog f args h v h' := by
  refine call_all (recT_ok hT) hfn hc hsz m (Tree.All_mono (fun o ho => ?_) (all_into h1 h2 h3))
  cases o with
  | inl r => exact ho
  | inr x => exact ho.elim
def glS : List (Nat × List C) := [(0, actsL), (2, Lib.pow10Tab.map fun n => .lit (.int .u64 n))]
/-- the memory of a law with one table -/
def hpL1 (n : Nat) (cols : List Col) : Hp := hpT [⟨some 0, n, cols⟩] glS []
abbrev SkL := Sk ((Bool × A × Hp) ⊕ (List Bool × St))
def lfT (H : Hp) (b : Bool) : SkL := .leaf (.inl (true, boo b, H))
def okN (n : Nat) : Bool := (Nat.ble n n && true) && true
def one2 (r0 r1 r2 r3 r4 r5 : Int) (s : ByteArray) (heat : Int) : Int := firstZ [qrulesErr r0 r1 r2 r3 r4 r5, qrecvErr s heat]
def isTrueL (H : Hp) (o : (Bool × A × Hp) ⊕ (List Bool × St)) : Prop := match o with | .inl r => r.2 = (boo true, H) | .inr _ => False
theorem okN_ok (n : Nat) : okN n = true := by unfold okN; rw [ble_self]; rfl
theorem bne_eq {a : Int} {b : Bool} (h : (a == 0) = b) : (a != 0) = !b := by rw [bne, h]
theorem eW0 {ns : ByteArray} {b1 b2 : Bool} {c l f h k heat light flow : Int} (h0 : eW ns b1 b2 c l f h k heat light flow = 0) : outW c l k heat light flow ≤ 1000000000 := by
  unfold eW at h0
  cases h1 : e1W ns b1 b2 flow != 0 with
  | true =>
    rw [h1] at h0
    have : e1W ns b1 b2 flow ≠ 0 := by simpa using h1
    exact absurd h0 this
  | false =>
    rw [h1] at h0
    have h0 : err2W (neW ns) c l f h k heat light flow = 0 := h0
    unfold err2W at h0
    obtain ⟨h2, _⟩ := first0 h0
    have := errIf0 (by decide) h2
    simp only [decide_eq_false_iff_not] at this
    omega
theorem out_nonneg {c l f r h k heat light flow : Int} {s act : ByteArray} (h1 : rulesErr c l f r h k = 0) (h2 : recvErr s heat = 0) (h3 : stepErr c light flow act = 0) : 0 ≤ outW c l k heat light flow := by
  obtain ⟨⟨hc1, hc2⟩, ⟨hl1, hl2⟩, hf, hr, hh, ⟨hk1, hk2⟩, _⟩ := rules0 h1
  obtain ⟨hs, hh1, hh2⟩ := recv0 h2
  obtain ⟨ha, ⟨hi1, hi2⟩, hw1, hw2⟩ := step0 h3
  have a1 : 0 ≤ flow * heat := Int.mul_nonneg hw1 hh1
  have a2 : flow * heat ≤ 1000 * 1000000000 := by
    have b1 : flow * heat ≤ flow * 1000000000 := Int.mul_le_mul_of_nonneg_left hh2 hw1
    omega
  have b1 : 0 ≤ flow * k := Int.mul_nonneg hw1 hk1
  have b2 : flow * k ≤ 1000 * 1000 := by
    have b1 : flow * k ≤ flow * 1000 := Int.mul_le_mul_of_nonneg_left hk2 hw1
    omega
  obtain ⟨d1, d2, _, _⟩ := tdiv_bd a1 hc1
  have e1 : w64 (flow * heat) = flow * heat := w64_id (by omega) (by omega)
  have e2 : w64 ((flow * heat).tdiv c) = (flow * heat).tdiv c := w64_id (by omega) (by omega)
  have e3 : w64 (flow * k) = flow * k := w64_id (by omega) (by omega)
  have et : takenW c k heat flow = (flow * heat).tdiv c - flow * k := by
    unfold takenW
    rw [e1, e2, e3]
    exact w64_id (by omega) (by omega)
  have eh : heat1W c k heat light flow = heat - ((flow * heat).tdiv c - flow * k) + light := by
    unfold heat1W
    rw [et, w64_id (n := heat - ((flow * heat).tdiv c - flow * k)) (by omega) (by omega)]
    exact w64_id (by omega) (by omega)
  unfold outW lostW
  rw [eh]
  split
  · rw [w64_id (by omega) (by omega)]; omega
  · rw [w64_id (by omega) (by omega)]; omega
theorem actNs_known {s act : ByteArray} (hs : known s = true) (ha : isAct act = true) : known (actNs s act) = true := by
  rcases known_cases hs with rfl | rfl | rfl <;> rcases act_cases ha with rfl | rfl | rfl | rfl | rfl <;> kernel_rfl
theorem recv_of {s : ByteArray} {n : Int} (h1 : known s = true) (h2 : 0 ≤ n) (h3 : n ≤ 1000000000) : recvErr s n = 0 := by
  unfold recvErr wW
  have a : decide (n < 0) = false := by simp only [decide_eq_false_iff_not]; omega
  have b : decide (1000000000 < n) = false := by simp only [decide_eq_false_iff_not]; omega
  rw [h1, a, b]
  rfl

end Go.Ev
