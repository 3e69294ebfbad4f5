/- SaltStrain: the entries of the law, where it is known which errors its arguments have. Conditions: as the entries ask. SaltStrain: the law's table, its entries with one need each. Conditions: as the entries ask. SaltStrain: the sketch of the law. Conditions: none. -/
import Derived.Test.YtlpchgidkibbeaaGreatDoorStrD
import Derived.Test.YtlpchgidkibbeaaGreatDoorSk1
import Derived.Test.YtlpchgidkibbeaaGreatDoorCmt
namespace Go.Ev
open Go Go.Proofs
set_option maxRecDepth 100000

abbrev ckI : Bool × List CK := (false, [.t [.int .i64 fun _ => 0]])
abbrev ckII : Bool × List CK := (false, [.t [.int .i64 fun _ => 0, .int .i64 fun _ => 0]])
/-! the three errors -/
def hisC (e : Int) : FT
  | [], [], [], [⟨_, n, [.int .i64 z]⟩] => .need (Nat.ble n 9223372036854775807) (.need (hisE n z == e) (.leaf (int e, [])))
  | _, _, _, _ => .fail 401
def cycC (e : Int) : FT
  | [], [], [], [⟨_, n, [.int .i64 z1, .int .i64 z2]⟩] => .need (Nat.ble n 9223372036854775807) (.need (cycE n z1 z2 == e) (.leaf (int e, [])))
  | _, _, _, _ => .fail 402
def clsC (e : Int) : FT
  | [], [], [], [⟨_, n, [.int .i64 z1, .int .i64 z2]⟩] => .need (clsE n z1 z2 == e) (.leaf (int e, []))
  | _, _, _, _ => .fail 403
theorem hisC_sub (e : Int) : ∀ l m n ts r, (hisC e l m n ts).run = some r → (hisF l m n ts).run = some r := fun l m n ts r hr => by
  unfold hisC at hr
  split at hr
  · rename_i id n z
    obtain ⟨h1, hr⟩ := Tree.need_some hr
    obtain ⟨h2, hr⟩ := Tree.need_some hr
    rw [← hr, ← eq_of_beq h2]
    simp only [hisF, Tree.run, h1]
  · cases hr
theorem cycC_sub (e : Int) : ∀ l m n ts r, (cycC e l m n ts).run = some r → (cycF l m n ts).run = some r := fun l m n ts r hr => by
  unfold cycC at hr
  split at hr
  · rename_i id n z1 z2
    obtain ⟨h1, hr⟩ := Tree.need_some hr
    obtain ⟨h2, hr⟩ := Tree.need_some hr
    rw [← hr, ← eq_of_beq h2]
    simp only [cycF, Tree.run, h1]
  · cases hr
theorem clsC_sub (e : Int) : ∀ l m n ts r, (clsC e l m n ts).run = some r → (clsF l m n ts).run = some r := fun l m n ts r hr => by
  unfold clsC at hr
  split at hr
  · rename_i id n z1 z2
    obtain ⟨h2, hr⟩ := Tree.need_some hr
    rw [← hr, ← eq_of_beq h2]
    rfl
  · cases hr
/-! lists that are the same -/
def smiC : FT
  | [], [], [], [⟨_, n, [.int .i64 p]⟩, ⟨_, m, [.int .i64 r]⟩] => .need (Nat.ble n 1000000) (.need (smiV n m p r) (.leaf (boo true, [])))
  | _, _, _, _ => .fail 404
def smyC : FT
  | [], [], [], [⟨_, n, [.int .i64 p, .int .i64 p2]⟩, ⟨_, m, [.int .i64 r, .int .i64 r2]⟩] => .need (Nat.ble n 1000000) (.need (smyV n m p p2 r r2) (.leaf (boo true, [])))
  | _, _, _, _ => .fail 405
theorem smiC_sub : ∀ l m n ts r, (smiC l m n ts).run = some r → (smiF l m n ts).run = some r := fun l m n ts r hr => by
  unfold smiC at hr
  split at hr
  · rename_i id n p id' m r
    obtain ⟨h1, hr⟩ := Tree.need_some hr
    obtain ⟨h2, hr⟩ := Tree.need_some hr
    rw [← hr]
    simp only [smiF, Tree.run, h1, h2]
  · cases hr
theorem smyC_sub : ∀ l m n ts r, (smyC l m n ts).run = some r → (smyF l m n ts).run = some r := fun l m n ts r hr => by
  unfold smyC at hr
  split at hr
  · rename_i id n p p2 id' m r r2
    obtain ⟨h1, hr⟩ := Tree.need_some hr
    obtain ⟨h2, hr⟩ := Tree.need_some hr
    rw [← hr]
    simp only [smyF, Tree.run, h1, h2]
  · cases hr
/-! Counted -/
abbrev Gc := (Nat → Int) → (Nat → Int) → (Nat → Int) → Nat → Nat → Nat → Int
def cnF (ec ek : Int) (gc : Gc) : FT
  | [], [], [], [⟨some _, n, [.int .i64 z1, .int .i64 z2]⟩, ⟨some _, c, [.int .i64 w1, .int .i64 w2]⟩] => .need (Nat.ble n 9223372036854775807) (.need (cycE n z1 z2 == ec) (.need (clsE c w1 w2 == ek) (match firstZ [ec, ek] != 0 with
    | true => .leaf (.tup [(false, [nilZ]), (false, [ci (firstZ [ec, ek])])], [])
    | false => .leaf (.tup [(false, [slZ true 2 1 c]), (false, [ci 0])], [⟨false, 3, .rows c [.int .i64 (gc z1 z2 w1 c n)]⟩]))))
  | _, _, _, _ => .fail 406
theorem cnF_ok (ec ek : Int) : SpecOk Tryz.prog 26 fun args h => specT [ckII, ckII] [] (cnF ec ek cntV) args h := by
  refine specT_ok rfl (by decide) fun l m n ts v news hl hm hn ht hnil hF => ?_
  unfold cnF at hF
  split at hF
  · rename_i i n z1 z2 j c w1 w2
    obtain ⟨h0, hF⟩ := Tree.need_some hF
    obtain ⟨h1, hF⟩ := Tree.need_some hF
    obtain ⟨h2, hF⟩ := Tree.need_some hF
    have h1 := eq_of_beq h1
    have h2 := eq_of_beq h2
    have e : cnErr n c z1 z2 w1 w2 = firstZ [ec, ek] := by unfold cnErr; rw [h1, h2]
    split at hF
    · rename_i g
      simp only [Tree.run, Option.some.injEq, Prod.mk.injEq] at hF
      obtain ⟨rfl, rfl⟩ := hF
      rw [← e] at g ⊢
      exact cn_call_bad n c z1 z2 w1 w2 (Nat.le_of_ble_eq_true h0) (by simpa using g)
    · rename_i g
      simp only [Tree.run, Option.some.injEq, Prod.mk.injEq] at hF
      obtain ⟨rfl, rfl⟩ := hF
      rw [← e] at g
      exact cn_call n c z1 z2 w1 w2 (by simpa using g)
  · cases hF
def cqF (gc : Gc) : FT
  | [], [], [], [⟨some _, n, [.int .i64 z1, .int .i64 z2]⟩, ⟨some _, c, [.int .i64 w1, .int .i64 w2]⟩] => .need (cycE n z1 z2 == 0) (.need (clsE c w1 w2 == 0) (.leaf (slO 2 1 c, [⟨false, 3, .rows c [.int .i64 (gc z1 z2 w1 c n)]⟩])))
  | _, _, _, _ => .fail 407
theorem cqF_ok : SpecOk Tryz.prog 35 fun args h => specT [ckII, ckII] [] (cqF cntV) args h := by
  refine specT_ok rfl (by decide) fun l m n ts v news hl hm hn ht hnil hF => ?_
  unfold cqF at hF
  split at hF
  · rename_i i n z1 z2 j c w1 w2
    obtain ⟨h1, hF⟩ := Tree.need_some hF
    obtain ⟨h2, hF⟩ := Tree.need_some hF
    have h1 := eq_of_beq h1
    have h2 := eq_of_beq h2
    simp only [Tree.run, Option.some.injEq, Prod.mk.injEq] at hF
    obtain ⟨rfl, rfl⟩ := hF
    exact cq_call n c z1 z2 w1 w2 (by unfold cnErr; rw [h1, h2]; rfl)
  · cases hF
/-! Damage -/
abbrev Gd := Nat → Nat → Nat → (Nat → Int) → (Nat → Int) → (Nat → Int) → (Nat → Int) → (Nat → Int) → Int
def daF (eh ec ek : Int) (gd : Gd) : FT
  | [], [], [], [⟨some _, n, [.int .i64 z1, .int .i64 z2]⟩, ⟨some _, m, [.int .i64 r]⟩, ⟨some _, c, [.int .i64 w1, .int .i64 w2]⟩] => .need (Nat.ble n 9223372036854775807) (.need (Nat.ble m 9223372036854775807) (.need (cycE n z1 z2 == ec) (.need (hisE m r == eh) (.need (clsE c w1 w2 == ek) (match firstZ [ec, eh, ek] != 0 with
    | true => .leaf (.tup [(false, [ci 0]), (false, [ci (firstZ [ec, eh, ek])])], [])
    | false => .leaf (.tup [(false, [ci (gd n m c z1 z2 r w1 w2)]), (false, [ci 0])], []))))))
  | _, _, _, _ => .fail 408
theorem daF_ok (eh ec ek : Int) : SpecOk Tryz.prog 29 fun args h => specT [ckII, ckI, ckII] [] (daF eh ec ek daV) args h := by
  refine specT_ok rfl (by decide) fun l m n ts v news hl hm hn ht hnil hF => ?_
  unfold daF at hF
  split at hF
  · rename_i i n z1 z2 i' m r j c w1 w2
    obtain ⟨h0, hF⟩ := Tree.need_some hF
    obtain ⟨h0', hF⟩ := Tree.need_some hF
    obtain ⟨h1, hF⟩ := Tree.need_some hF
    obtain ⟨h2, hF⟩ := Tree.need_some hF
    obtain ⟨h3, hF⟩ := Tree.need_some hF
    have h1 := eq_of_beq h1
    have h2 := eq_of_beq h2
    have h3 := eq_of_beq h3
    have e : daErr n m c z1 z2 r w1 w2 = firstZ [ec, eh, ek] := by unfold daErr; rw [h1, h2, h3]
    have hc := da_call n m c z1 z2 r w1 w2 (Nat.le_of_ble_eq_true h0) (Nat.le_of_ble_eq_true h0')
    unfold daU at hc
    rw [e] at hc
    split at hF
    · rename_i g
      rw [g] at hc
      simp only [Tree.run, Option.some.injEq, Prod.mk.injEq] at hF
      obtain ⟨rfl, rfl⟩ := hF
      exact hc
    · rename_i g
      rw [g] at hc
      simp only [Tree.run, Option.some.injEq, Prod.mk.injEq] at hF
      obtain ⟨rfl, rfl⟩ := hF
      exact hc
  · cases hF
def dqF (gd : Gd) : FT
  | [], [], [], [⟨some _, n, [.int .i64 z1, .int .i64 z2]⟩, ⟨some _, m, [.int .i64 r]⟩, ⟨some _, c, [.int .i64 w1, .int .i64 w2]⟩] => .need (Nat.ble n 1000000) (.need (Nat.ble m 1000000) (.need (Nat.ble c 1000000) (.leaf (int (gd n m c z1 z2 r w1 w2), []))))
  | _, _, _, _ => .fail 409
theorem dqF_ok : SpecOk Tryz.prog 36 fun args h => specT [ckII, ckI, ckII] [] (dqF daV) args h := by
  refine specT_ok rfl (by decide) fun l m n ts v news hl hm hn ht hnil hF => ?_
  unfold dqF at hF
  split at hF
  · rename_i i n z1 z2 i' m r j c w1 w2
    obtain ⟨h0, hF⟩ := Tree.need_some hF
    obtain ⟨h1, hF⟩ := Tree.need_some hF
    obtain ⟨h2, hF⟩ := Tree.need_some hF
    simp only [Tree.run, Option.some.injEq, Prod.mk.injEq] at hF
    obtain ⟨rfl, rfl⟩ := hF
    exact dq_call n m c z1 z2 r w1 w2 (Nat.le_of_ble_eq_true h0) (Nat.le_of_ble_eq_true h1) (Nat.le_of_ble_eq_true h2)
  · cases hF
/-! Rainflow -/
abbrev Gr := Nat → (Nat → Int) → L2 × C2
def rainV (k : Nat) (rest : Nat) (e : List (Bool × List C)) : A := match k with
  | 0 => .tup ((false, [nilZ]) :: (false, [slZ true 1 1 rest]) :: e)
  | p + 1 => .tup ((false, [slZ true 1 2 (p + 1)]) :: (false, [slZ true 2 1 rest]) :: e)
def rainB (ty : TypeId) (k : Nat) (x : L2 × C2) : List Blk := match k with
  | 0 => [⟨false, 3, .rows x.1.1 [.int .i64 x.1.2]⟩]
  | p + 1 => [⟨false, ty, .rows (p + 1) [.int .i64 x.2.2.1, .int .i64 x.2.2.2]⟩, ⟨false, 3, .rows x.1.1 [.int .i64 x.1.2]⟩]
def rpF (k : Nat) (gr : Gr) : FT
  | [], [], [], [⟨some _, n, [.int .i64 z]⟩] => .need (hisE n z == 0) (.need (Nat.blt 0 n) (.need (Nat.beq (gr n z).2.1 k) (.leaf (rainV k (gr n z).1.1 [(false, [ci 0])], rainB 112 k (gr n z)))))
  | _, _, _, _ => .fail 410
theorem rpF_ok (k : Nat) : SpecOk Tryz.prog 25 fun args h => specT [ckI] [] (rpF k rfX) args h := by
  refine specT_ok rfl (by decide) fun l m n ts v news hl hm hn ht hnil hF => ?_
  unfold rpF at hF
  split at hF
  · rename_i i n z
    obtain ⟨h0, hF⟩ := Tree.need_some hF
    obtain ⟨h1, hF⟩ := Tree.need_some hF
    obtain ⟨h2, hF⟩ := Tree.need_some hF
    rw [Nat.blt_eq] at h1
    have h2 := Nat.eq_of_beq_eq_true h2
    simp only [Tree.run, Option.some.injEq, Prod.mk.injEq] at hF
    obtain ⟨rfl, rfl⟩ := hF
    have hc := rp_call n z h1 (eq_of_beq h0)
    have hp := rfX_pos n z h1
    unfold rpMem at hc
    revert hc hp h2
    generalize rfX n z = x
    intro h2 hc hp
    obtain ⟨⟨m', f⟩, ⟨k', c1, c2⟩⟩ := x
    obtain ⟨m, rfl⟩ : ∃ m, m' = m + 1 := ⟨m' - 1, by simp only at hp; omega⟩
    obtain rfl : k' = k := h2
    cases k' with
    | zero => exact hc
    | succ k' => exact hc
  · cases hF
def rqF (k : Nat) (gr : Gr) : FT
  | [], [], [], [⟨some _, n, [.int .i64 z]⟩] => .need (Nat.ble n 100000) (.need (Nat.blt 0 n) (.need (Nat.beq (gr n z).2.1 k) (.leaf (rainV k (gr n z).1.1 [], rainB 164 k (gr n z)))))
  | _, _, _, _ => .fail 411
theorem rqF_ok (k : Nat) : SpecOk Tryz.prog 34 fun args h => specT [ckI] [] (rqF k rqY) args h := by
  refine specT_ok rfl (by decide) fun l m n ts v news hl hm hn ht hnil hF => ?_
  unfold rqF at hF
  split at hF
  · rename_i i n z
    obtain ⟨h0, hF⟩ := Tree.need_some hF
    obtain ⟨h1, hF⟩ := Tree.need_some hF
    obtain ⟨h2, hF⟩ := Tree.need_some hF
    rw [Nat.blt_eq] at h1
    have h2 := Nat.eq_of_beq_eq_true h2
    simp only [Tree.run, Option.some.injEq, Prod.mk.injEq] at hF
    obtain ⟨rfl, rfl⟩ := hF
    have hc := rq_call n z h1 (Nat.le_of_ble_eq_true h0)
    unfold rqMem at hc
    revert hc h2
    generalize rqY n z = x
    intro h2 hc
    obtain ⟨⟨m', f⟩, ⟨k', c1, c2⟩⟩ := x
    obtain rfl : k' = k := h2
    cases k' with
    | zero => exact hc
    | succ k' => exact hc
  · cases hF
/-! ### the law's table -/
structure Gs where
  gt : Nat → (Nat → Int) → L2
  gp : Gr
  gq : Gr
  gc : Gc
  gd : Gd
def gsT : Gs := ⟨turQ, rfX, rqY, cntV, daV⟩
def tbSA (eh ec ek : Int) (g : Gs) : List (FuncId × Spec) := (13, specAwake) ::
  (93, fun args h => specT [ckI] [] (hisC eh) args h) :: (30, fun args h => specT [ckI] [] (hisC eh) args h) ::
  (31, fun args h => specT [ckII] [] (cycC ec) args h) ::
  (37, fun args h => specT [ckII] [] (clsC ek) args h) :: (32, fun args h => specT [ckII] [] (clsC ek) args h) ::
  (26, fun args h => specT [ckII, ckII] [] (cnF ec ek g.gc) (fixAs [(1, 2), (2, 2)] args) h) :: (35, fun args h => specT [ckII, ckII] [] (cqF g.gc) args h) ::
  (29, fun args h => specT [ckII, ckI, ckII] [] (daF eh ec ek g.gd) (fixAs [(1, 2), (0, 1), (2, 2)] args) h) :: (36, fun args h => specT [ckII, ckI, ckII] [] (dqF g.gd) args h) ::
  (38, fun args h => specT [ckI, ckI] [] smiC args h) :: (39, fun args h => specT [ckII, ckII] [] smyC args h) ::
  (33, fun args h => specT [ckI] [] (turF g.gt) args h) :: tbH3
theorem tbSA_ok (eh ec ek : Int) : TabOk Tryz.prog (tabOf (tbSA eh ec ek gsT)) := by
  refine tab_cons (tab_cons (tab_cons (tab_cons (tab_cons (tab_cons (tab_cons (tab_cons (tab_cons (tab_cons (tab_cons (tab_cons (tab_cons tbH3_ok turq_ok) ?_) ?_) dqF_ok) ?_) cqF_ok) ?_) ?_) ?_) ?_) ?_) ?_) specAwake_ok
  · exact specT_subN smy_ok smyC_sub
  · exact specT_subN smi_ok smiC_sub
  · exact fix_ok (S := fun args h => specT [ckII, ckI, ckII] [] (daF eh ec ek daV) args h) (daF_ok eh ec ek) [(1, 2), (0, 1), (2, 2)]
  · exact fix_ok (S := fun args h => specT [ckII, ckII] [] (cnF ec ek cntV) args h) (cnF_ok ec ek) [(1, 2), (2, 2)]
  · exact specT_subN clsq_ok (clsC_sub ek)
  · exact specT_subN clsp_ok (clsC_sub ek)
  · exact specT_subN cycq_ok (cycC_sub ec)
  · exact specT_subN hisq_ok (hisC_sub eh)
  · exact specT_subN hisp_ok (hisC_sub eh)
def tbSB (eh ec ek : Int) (k : Nat) (g : Gs) : List (FuncId × Spec) := (94, fun args h => specT [ckI] [] (turpF g.gt) args h) ::
  (25, fun args h => specT [ckI] [] (rpF k g.gp) args h) :: (34, fun args h => specT [ckI] [] (rqF k g.gq) args h) :: tbSA eh ec ek g
/-! ### the law's tree -/
def cols1 (z : Nat → Int) : List Col := [.int .i64 z]
def cols2 (z1 z2 : Nat → Int) : List Col := [.int .i64 z1, .int .i64 z2]
def hpLS (n m c : Nat) (z z1 z2 w1 w2 : Nat → Int) : Hp := hpT [⟨some 0, n, [.int .i64 z]⟩, ⟨some 1, m, [.int .i64 z1, .int .i64 z2]⟩, ⟨some 2, c, [.int .i64 w1, .int .i64 w2]⟩] glS []
def lsA (n m c : Nat) : List A := [slT 0 1 n, slT 1 2 m, slT 2 2 c]
noncomputable def lsT (T : List (FuncId × Spec)) (n m c : Nat) (z z1 z2 w1 w2 : Nat → Int) : Tree ((Bool × A × Hp) ⊕ (List Bool × St)) := preA Tryz.prog (tabOf T) Tryz.f4 (lsA n m c) (hpLS n m c z z1 z2 w1 w2) (false, true)
end Go.Ev

namespace Go.Ev
open Go Go.Proofs
set_option maxRecDepth 100000

/-! ### short lists -/
def shN (n : Nat) : Bool := match decide ((n : Int) ≤ 24) with
  | true => true
  | false => (n : Int) == 257
section
variable (n : Nat) (z z1 z2 : Nat → Int)
theorem shh_call : CallAt Tryz.prog 21 [slT 0 1 n] (hisHp n z) (boo (shN n)) (hisHp n z) := by
  refine call_sk noTab_ok Tryz.func21 (by kernel_rfl) (false, true) (by kernel_rfl) (S := .node (decide ((n : Int) ≤ 24)) (lfT (hisHp n z) true) (lfT (hisHp n z) ((n : Int) == 257))) (by kernel_rfl) (by kernel_rfl) (SkLeads.all ?_)
  unfold shN
  refine sk_either (fun g => ?_) fun g => ?_
  · rw [g]; exact sk_leaf rfl
  · rw [g]; exact sk_leaf rfl
theorem shc_call : CallAt Tryz.prog 22 [slT 0 2 n] (cycHp n z1 z2) (boo (shN n)) (cycHp n z1 z2) := by
  refine call_sk noTab_ok Tryz.func22 (by kernel_rfl) (false, true) (by kernel_rfl) (S := .node (decide ((n : Int) ≤ 24)) (lfT (cycHp n z1 z2) true) (lfT (cycHp n z1 z2) ((n : Int) == 257))) (by kernel_rfl) (by kernel_rfl) (SkLeads.all ?_)
  unfold shN
  refine sk_either (fun g => ?_) fun g => ?_
  · rw [g]; exact sk_leaf rfl
  · rw [g]; exact sk_leaf rfl
end
def shhF (B : Bool) : FT
  | [], [], [], [⟨some _, n, [.int .i64 _]⟩] => .need (shN n == B) (.leaf (boo B, []))
  | _, _, _, _ => .fail 412
def shcF (B : Bool) : FT
  | [], [], [], [⟨some _, n, [.int .i64 _, .int .i64 _]⟩] => .need (shN n == B) (.leaf (boo B, []))
  | _, _, _, _ => .fail 413
theorem shhF_ok (B : Bool) : SpecOk Tryz.prog 21 fun args h => specT [ckI] [] (shhF B) args h := by
  refine specT_ok rfl (by decide) fun l m n ts v news hl hm hn ht hnil hF => ?_
  unfold shhF at hF
  split at hF
  · rename_i id n z
    obtain ⟨h1, hF⟩ := Tree.need_some hF
    simp only [Tree.run, Option.some.injEq, Prod.mk.injEq] at hF
    obtain ⟨rfl, rfl⟩ := hF
    rw [← eq_of_beq h1]
    exact shh_call n z
  · cases hF
theorem shcF_ok (B : Bool) : SpecOk Tryz.prog 22 fun args h => specT [ckII] [] (shcF B) args h := by
  refine specT_ok rfl (by decide) fun l m n ts v news hl hm hn ht hnil hF => ?_
  unfold shcF at hF
  split at hF
  · rename_i id n z1 z2
    obtain ⟨h1, hF⟩ := Tree.need_some hF
    simp only [Tree.run, Option.some.injEq, Prod.mk.injEq] at hF
    obtain ⟨rfl, rfl⟩ := hF
    rw [← eq_of_beq h1]
    exact shc_call n z1 z2
  · cases hF
/-! ### copies of lists of which it is known whether they are empty -/
def cydC (nz : Bool) : FT
  | [], [], [], [⟨_, n, [.int .i64 z0, .int .i64 z1]⟩] => .need (Nat.ble n 1000000) (.need (Nat.beq n 0 == !nz) (match nz with
    | false => .leaf (nilA, [])
    | true => .leaf (slO 1 2 n, [⟨false, 112, .rows n [.int .i64 z0, .int .i64 z1]⟩])))
  | _, _, _, _ => .fail 414
theorem cydC_sub (nz : Bool) : ∀ l m n ts r, (cydC nz l m n ts).run = some r → (cydF l m n ts).run = some r := fun l m n ts r hr => by
  unfold cydC at hr
  split at hr
  · rename_i id n z0 z1
    obtain ⟨h1, hr⟩ := Tree.need_some hr
    obtain ⟨h2, hr⟩ := Tree.need_some hr
    have h2 := eq_of_beq h2
    rw [← hr]
    simp only [cydF, Tree.run, h1, h2]
    cases nz <;> rfl
  · cases hr
def cldC (nz : Bool) : FT
  | [], [], [], [⟨_, n, [.int .i64 z0, .int .i64 z1]⟩] => .need (Nat.ble n 1000000) (.need (Nat.beq n 0 == !nz) (match nz with
    | false => .leaf (nilA, [])
    | true => .leaf (slO 1 2 n, [⟨false, 188, .rows n [.int .i64 z0, .int .i64 z1]⟩])))
  | _, _, _, _ => .fail 415
theorem cldC_sub (nz : Bool) : ∀ l m n ts r, (cldC nz l m n ts).run = some r → (cldF l m n ts).run = some r := fun l m n ts r hr => by
  unfold cldC at hr
  split at hr
  · rename_i id n z0 z1
    obtain ⟨h1, hr⟩ := Tree.need_some hr
    obtain ⟨h2, hr⟩ := Tree.need_some hr
    have h2 := eq_of_beq h2
    rw [← hr]
    simp only [cldF, Tree.run, h1, h2]
    cases nz <;> rfl
  · cases hr
def turC (g : Nat → (Nat → Int) → L2) : FT
  | [], [], [], [⟨_, n, [.int .i64 z]⟩] => .need (Nat.ble n 100000) (.need (Nat.beq n 0 == false) (.leaf (slO 1 1 (g n z).1, [⟨false, 3, .rows (g n z).1 [.int .i64 (g n z).2]⟩])))
  | _, _, _, _ => .fail 416
theorem turC_sub (g : Nat → (Nat → Int) → L2) : ∀ l m n ts r, (turC g l m n ts).run = some r → (turF g l m n ts).run = some r := fun l m n ts r hr => by
  unfold turC at hr
  split at hr
  · rename_i id n z
    obtain ⟨h1, hr⟩ := Tree.need_some hr
    obtain ⟨h2, hr⟩ := Tree.need_some hr
    have h2 := eq_of_beq h2
    rw [← hr]
    simp only [turF, Tree.run, h1, h2]
  · cases hr
/-! ### the table: what is known of the history, of the cycles, of the classes -/
inductive KL where | z | ok (k : Nat) | bad (x : Nat)
inductive KM where | z | ok | bad (y : Nat)
inductive KC where | z (v : Nat) | ok | bad (v : Nat)
def KL.e : KL → Int | .z => 0 | .ok _ => 0 | .bad x => ((x + 1 : Nat) : Int)
def KM.e : KM → Int | .z => 0 | .ok => 0 | .bad x => ((x + 1 : Nat) : Int)
def KC.e : KC → Int | .z x => ((x + 1 : Nat) : Int) | .ok => 0 | .bad x => ((x + 1 : Nat) : Int)
def KM.nz : KM → Bool | .z => false | _ => true
def KC.nz : KC → Bool | .z _ => false | _ => true
def tbMid (a : KL) (b : KM) (c : KC) (g : Gs) : List (FuncId × Spec) := (21, fun args h => specT [ckI] [] (shhF true) args h) :: (22, fun args h => specT [ckII] [] (shcF true) args h) ::
  (27, fun args h => specT [ckII] [] (cydC b.nz) args h) :: (28, fun args h => specT [ckII] [] (cldC c.nz) args h) :: tbSA a.e b.e c.e g
theorem tbMid_ok (a : KL) (b : KM) (c : KC) : TabOk Tryz.prog (tabOf (tbMid a b c gsT)) :=
  tab_cons (tab_cons (tab_cons (tab_cons (tbSA_ok a.e b.e c.e) (specT_subN cld_ok (cldC_sub c.nz))) (specT_subN cyd_ok (cydC_sub b.nz))) (shcF_ok true)) (shhF_ok true)
def tbS (a : KL) (b : KM) (c : KC) (g : Gs) : List (FuncId × Spec) := match a with
  | .z => tbMid .z b c g
  | .bad x => tbMid (.bad x) b c g
  | .ok k => (94, fun args h => specT [ckI] [] (turpF g.gt) args h) :: (25, fun args h => specT [ckI] [] (rpF k g.gp) args h) :: (34, fun args h => specT [ckI] [] (rqF k g.gq) args h) ::
    (33, fun args h => specT [ckI] [] (turC g.gt) args h) :: tbMid (.ok k) b c g
theorem tbS_ok (a : KL) (b : KM) (c : KC) : TabOk Tryz.prog (tabOf (tbS a b c gsT)) := by
  cases a with
  | z => exact tbMid_ok _ b c
  | bad x => exact tbMid_ok _ b c
  | ok k => exact tab_cons (tab_cons (tab_cons (tab_cons (tbMid_ok _ b c) (specT_subN turq_ok (turC_sub turQ))) (rqF_ok k)) (rpF_ok k)) turp_ok
noncomputable def lsK (a : KL) (b : KM) (c : KC) (g : Gs) (n m q : Nat) (z z1 z2 w1 w2 : Nat → Int) : Tree ((Bool × A × Hp) ⊕ (List Bool × St)) := lsT (stpL (tbS a b c g)) n m q z z1 z2 w1 w2
/-! where the lists are too long -/
def tbLong (b1 b2 : Bool) : List (FuncId × Spec) := (13, specAwake) :: (21, fun args h => specT [ckI] [] (shhF b1) args h) :: (22, fun args h => specT [ckII] [] (shcF b2) args h) :: tbH3
end Go.Ev

namespace Go.Ev
open Go Go.Proofs
set_option maxRecDepth 100000

def okM2 (a b : Nat) : Bool := (Nat.ble a a && true) && ((Nat.ble b b && true) && true)
def okM3 (a b c : Nat) : Bool := (Nat.ble a a && true) && ((Nat.ble b b && true) && ((Nat.ble c c && true) && true))
def KL.m (a : KL) (n : Nat) : Nat := match a with | .z => 0 | _ => n
def KM.m (b : KM) (m : Nat) : Nat := match b with | .z => 0 | _ => m
def KC.m (c : KC) (q : Nat) : Nat := match c with | .z _ => 0 | _ => q
section
variable (g : Gs) (a : KL) (b : KM) (c : KC) (n m q : Nat) (z z1 z2 w1 w2 : Nat → Int)
def xSh (n : Nat) : Bool := okN n && (shN n == true)
def xAp (n : Nat) : Bool := Nat.ble (0 + n) n && Nat.ble ((n + 0) * 8) 140737488355328 && Nat.ble (n + 0) 9223372036854775807
def xHi (n : Nat) (e : Int) : Bool := okN n && (Nat.ble n 9223372036854775807 && (hisE n z == e))
def xTu (n : Nat) : Bool := okN n && (Nat.ble n 100000 && Nat.blt 0 n)
def xRp (n k : Nat) : Bool := okN n && ((hisE n z == 0) && (Nat.blt 0 n && Nat.beq (g.gp n z).2.1 k))
def xCy (m : Nat) (nz : Bool) : Bool := okN m && (Nat.ble m 1000000 && (Nat.beq m 0 == !nz))
def xCn (m q : Nat) (ec ek : Int) : Bool := okM2 m q && (Nat.ble m 9223372036854775807 && ((cycE m z1 z2 == ec) && (clsE q w1 w2 == ek)))
def xDa (m n q : Nat) (ec eh ek : Int) : Bool := okM3 m n q && (Nat.ble m 9223372036854775807 && (Nat.ble n 9223372036854775807 && ((cycE m z1 z2 == ec) && ((hisE n z == eh) && (clsE q w1 w2 == ek)))))
def xQc (m : Nat) (e : Int) : Bool := okN m && (Nat.ble m 9223372036854775807 && (cycE m z1 z2 == e))
def xQk (q : Nat) (e : Int) : Bool := okN q && (clsE q w1 w2 == e)
def xQt (n : Nat) : Bool := okN n && (Nat.ble n 100000 && (Nat.beq n 0 == false))
def xQr (n k : Nat) : Bool := okN n && (Nat.ble n 100000 && (Nat.blt 0 n && Nat.beq (g.gq n z).2.1 k))
def xQn (m q : Nat) : Bool := okM2 m q && ((cycE m z1 z2 == 0) && (clsE q w1 w2 == 0))
def xQd (m n q : Nat) : Bool := okM3 m n q && (Nat.ble m 1000000 && (Nat.ble n 1000000 && Nat.ble q 1000000))
def xS (i j : Nat) (f h : Nat → Int) : Bool := okM2 i j && (Nat.ble i 1000000 && smiV i j f h)
def xSy (i j : Nat) (f f' h h' : Nat → Int) : Bool := okM2 i j && (Nat.ble i 1000000 && smyV i j f f' h h')
def xCs (k : Nat) : Bool := okN k && Nat.ble k 1000000
def lfL (r : Bool) : SkL := lfT (hpLS n m q z z1 z2 w1 w2) r
def ffs : Nat → SkL → SkL
  | 0, S => S
  | r + 1, S => .ff (ffs r S)
/-! the parts of the law -/
def p3 (S : SkL) : SkL := match a with
  | .z => .ff (.ff (.tt (.ff S)))
  | .ok _ => .need (xAp n) (.need (xHi z n 0) (.ff (.need (xTu n) S)))
  | .bad x => .need (xAp n) (.need (xHi z n ((x + 1 : Nat) : Int)) (.tt S))
def p4 (S : SkL) : SkL := match a with
  | .z => .ff (.ff (.tt (.ff (.ff S))))
  | .ok k => .need (xAp n) (.need (xRp g z n k) S)
  | .bad x => .need (xAp n) (.need (xHi z n ((x + 1 : Nat) : Int)) (.tt S))
def p5 (S : SkL) : SkL := .need (xCy m b.nz) (.need (xCy q c.nz) (.need (xCn z1 z2 w1 w2 (b.m m) (c.m q) b.e c.e) S))
def nnA (S : SkL) (c : Bool) : SkL := match a with | .z => .nn S | _ => .need c S
def p6 (S : SkL) : SkL := .need (xCy m b.nz) (nnA a (.need (xCy q c.nz) (.need (xDa z z1 z2 w1 w2 (b.m m) (a.m n) (c.m q) b.e a.e c.e) S)) (xAp n))
def p7 (S : SkL) : SkL := nnA a (.need (xQc z1 z2 m b.e) (.need (xQk w1 w2 q c.e) (.need (xQc z1 z2 m b.e) (nnA a (.need (xQk w1 w2 q c.e) S) (xHi z n a.e))))) (xHi z n a.e)
def p12 (S : SkL) : SkL := match a with
  | .z => .tt (.tt (.tt (.tt (.ff (.ff (.ff S))))))
  | .ok k => .tt (.need (xQt n) (.need (xQr g z n k) S))
  | .bad _ => .ff S
def isOk2 : Bool := match b with
  | .bad _ => false
  | _ => match c with | .ok => true | _ => false
def isOk3 : Bool := match a with
  | .bad _ => false
  | _ => isOk2 b c
def p15 (S : SkL) : SkL := match isOk2 b c with
  | true => .tt (.need (xQn z1 z2 w1 w2 m q) S)
  | false => .ff S
def p17 (S : SkL) : SkL := match isOk3 a b c with
  | true => .tt (.need (xQd m (a.m n) q) S)
  | false => .ff S
def xKp : Bool := match c with
  | .z v => okN 0 && (clsE 0 (fun _ => 0) (fun _ => 0) == ((v + 1 : Nat) : Int))
  | c => xQk w1 w2 q c.e
def p18 (S : SkL) : SkL := .need (xCy q c.nz) (match c with
  | .z _ => .need (clsE 0 (fun _ => 0) (fun _ => 0) == c.e) (.need (xQk w1 w2 q c.e) S)
  | _ => .need (xQk w1 w2 q c.e) (.need (xQk w1 w2 q c.e) S))
def gt (e : Int) (o : Bool) (r : Nat) (S : SkL) : SkL := match o with
  | true => .tt S
  | false => .node (e == e) S (ffs r (lfL n m q z z1 z2 w1 w2 false))
def okA : Bool := match a with | .bad _ => false | _ => true
def okC : Bool := match c with | .ok => true | _ => false
def s1 (S : SkL) : SkL := match a with
  | .ok _ => .need (xS (g.gt n z).1 (g.gt n z).1 (g.gt n z).2 (g.gt n z).2) S
  | _ => S
def cyc (S : SkL) : SkL := match a with
  | .ok (p + 1) => .need (xCs (p + 1)) (.ff (.need (xSy (p + 1) (p + 1) (g.gp n z).2.2.1 (g.gp n z).2.2.2 (g.gq n z).2.2.1 (g.gq n z).2.2.2) S))
  | _ => .tt S
def s2 (S : SkL) : SkL := match a with
  | .ok _ => .need (xS (g.gp n z).1.1 (g.gq n z).1.1 (g.gp n z).1.2 (g.gq n z).1.2) S
  | _ => S
def s3 (S : SkL) : SkL := match isOk2 b c with
  | true => .need (xS q q (g.gc z1 z2 w1 q (b.m m)) (g.gc z1 z2 w1 q m)) S
  | false => S
def g47 (S : SkL) : SkL := match isOk3 a b c with
  | true => .node (g.gd (b.m m) (a.m n) q z1 z2 z w1 w2 == g.gd m (a.m n) q z1 z2 z w1 w2) S (.ff (lfL n m q z z1 z2 w1 w2 false))
  | false => .tt S
def end18 : SkL := gt n m q z z1 z2 w1 w2 c.e (okC c) 9 (s1 g a n z (.tt (gt n m q z z1 z2 w1 w2 a.e (okA a) 7 (cyc g a n z (.tt (s2 g a n z (.tt (gt n m q z z1 z2 w1 w2 a.e (okA a) 4 (s3 g b c m q z1 z2 w1 (.tt (gt n m q z z1 z2 w1 w2 (firstZ [b.e, c.e]) (isOk2 b c) 2 (g47 g a b c n m q z z1 z2 w1 w2 (gt n m q z z1 z2 w1 w2 (firstZ [b.e, a.e, c.e]) (isOk3 a b c) 0 (lfL n m q z z1 z2 w1 w2 true))))))))))))))
def p0 (S : SkL) : SkL := match a with | .z => S | _ => .need (xSh n) S
def lsS : SkL := p0 a n (.ff (.need (xSh m) (.ff (.node (decide ((q : Int) > 17)) (lfL n m q z z1 z2 w1 w2 true)
  (p3 a n z (p4 g a n z (p5 b c m q z1 z2 w1 w2 (p6 a b c n m q z z1 z2 w1 w2 (p7 a b c n m q z z1 z2 w1 w2 (p12 g a n z (p15 b c m q z1 z2 w1 w2 (p17 a b c n m q (p18 c q w1 w2 (end18 g a b c n m q z z1 z2 w1 w2))))))))))))))
end
end Go.Ev
