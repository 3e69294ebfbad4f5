/- Vectors in lists; bending: states. Conditions: none. -/
import Derived.Test.YtkalcencblhlgaaGreatDoorAir2
namespace Go.Ev
open Go Go.RowKit Go.Proofs
set_option maxRecDepth 100000
def vcC (f0 f1 f2 : Nat → Int) : List Col := [.int .i64 f0, .int .i64 f1, .int .i64 f2]
def veqB (f0 f1 f2 : Nat → Int) (x y z : Int) (k : Nat) : Bool := x == f0 k && (y == f1 k && (z == f2 k && true))
def fiV (p : Nat → Bool) : Nat → Nat → Int
 | 0, _ => -1
 | m + 1, k => match p k with
  | true => (k : Int)
  | false => fiV p m (k + 1)
section
variable (n : Nat) (f0 f1 f2 : Nat → Int) (x y z : Int)
def vxH : Hp := hpT [⟨some 0, n, vcC f0 f1 f2⟩] [] []
def vxN (env : List (Nat × A)) (news : List Blk) : St := stN 19 (envL env) (bsS [⟨some 0, n, vcC f0 f1 f2⟩] []) [] news
def vxB : St := baseB 19 [slT 0 3 n, vec x y z] (vxH n f0 f1 f2)
def vxHd (i : Int) : St := vxN n f0 f1 f2 [(0, slT 0 3 n), (3, pt 1), (4, int 0), (7, int n), (8, int i)] [vec3 29 x y z]
def vxX (e : Int) : St := vxN n f0 f1 f2 [(4, int e)] []
noncomputable def vxT (k : Nat) : Tree (X × St) := (reK (loopF Tryz.f127) (vxHd n f0 f1 f2 x y z (k : Int))).bind (canonT [0, 3, 4, 7, 8] [4] (vxB n f0 f1 f2 x y z))
noncomputable def vxO : Tree ((X × St) ⊕ (List Bool × St)) := evO reK (bodyOf Tryz.f127) [0, 3, 4, 7, 8] [4] (vxB n f0 f1 f2 x y z)
noncomputable def vxP (q : X × St) : Tree ((X × St) ⊕ (List Bool × St)) := evO2 reK true (bodyOf Tryz.f127) (pathF Tryz.f127) [] [4] (vxB n f0 f1 f2 x y z) q
end
abbrev FI := Nat → (Nat → Int) → (Nat → Int) → (Nat → Int) → Int → Int → Int → Int
def vD3 : List Col := [.int .i64 fun _ => 0, .int .i64 fun _ => 0, .int .i64 fun _ => 0]
def vxF (I : FI) : FT
 | [x, y, z], [], [], [⟨_, n, [.int .i64 f0, .int .i64 f1, .int .i64 f2]⟩] => .need (Nat.ble n 1000000) (.leaf (int (I n f0 f1 f2 x y z), []))
 | _, _, _, _ => .fail 754
def vxSp (I : FI) : Spec := fun args h => specT [(false, [.t vD3]), (true, [.i, .i, .i])] [] (vxF I) args h
section
variable (E : FA) (a b c : FO) (n : Nat) (f l : Nat → Int) (x y z : Int)
def tbB : List (FuncId × Spec) := (78, caSp E) :: (81, ofSp a b c) :: tbF
noncomputable def btT (m : Bool × Bool) : Tree ((Bool × A × Hp) ⊕ (List Bool × St)) := preA Tryz.prog (tabOf (tbB E a b c)) Tryz.f29 [slT 0 2 n, vec x y z] (arH n f l) m
noncomputable def btT0 (m : Bool × Bool) : Tree ((Bool × A × Hp) ⊕ (List Bool × St)) := preA Tryz.prog (tabOf (tbB E a b c)) Tryz.f29 [.one nilC, vec x y z] (hpT [⟨none, 0, stC f l⟩] [] []) m
end
end Go.Ev
namespace Go.Ev
open Go Go.RowKit Go.Proofs
set_option maxRecDepth 100000
section
variable (n : Nat) (f0 f1 f2 : Nat → Int) (x y z : Int)
def vxS (k : Nat) : SkX := .node (decide ((k : Int) < (n : Int))) (.need (kB n k) (need3 (Nat.blt (ixN k) n) (.node (veqB f0 f1 f2 x y z (ixN k)) (.leaf (.ret, vxX n f0 f1 f2 (k : Int))) (.leaf (.normal, vxHd n f0 f1 f2 x y z (IntKind.i64.wrap ((k : Int) + 1))))))) (.leaf (.exit 0, vxX n f0 f1 f2 0))
theorem vx_into (k : Nat) : vxT n f0 f1 f2 x y z k = into (vxT n f0 f1 f2 x y z k) (vxS n f0 f1 f2 x y z k) := by kernel_rfl
theorem vx_fits (k : Nat) : fits (vxT n f0 f1 f2 x y z k) (vxS n f0 f1 f2 x y z k) = true := by kernel_rfl
theorem vxO_is : vxO n f0 f1 f2 x y z = .leaf (.inr (pathF Tryz.f127, vxHd n f0 f1 f2 x y z ((0 : Nat) : Int))) := by kernel_rfl
theorem vxP_end : vxP n f0 f1 f2 x y z (.exit 0, vxX n f0 f1 f2 0) = .leaf (.inl (.ret, vxX n f0 f1 f2 (-1))) := by kernel_rfl
theorem vxP_ret (e : Int) : vxP n f0 f1 f2 x y z (.ret, vxX n f0 f1 f2 e) = .leaf (.inl (.ret, vxX n f0 f1 f2 e)) := by kernel_rfl
theorem vx_left (e : Int) : Left2 Tryz.prog Tryz.f127 (vxH n f0 f1 f2) (int e) (vxH n f0 f1 f2) (.ret, vxX n f0 f1 f2 e) := left_of (b := true) (by kernel_rfl)
def vxE (k : Nat) : X × St := match fiV (veqB f0 f1 f2 x y z) (n - k) k == -1 with
 | true => (.exit 0, vxX n f0 f1 f2 0)
 | false => (.ret, vxX n f0 f1 f2 (fiV (veqB f0 f1 f2 x y z) (n - k) k))
theorem vxE_no {k : Nat} (hk : k < n) (h : veqB f0 f1 f2 x y z k = false) : vxE n f0 f1 f2 x y z (k + 1) = vxE n f0 f1 f2 x y z k := by
 unfold vxE
 have e : fiV (veqB f0 f1 f2 x y z) (n - k) k = fiV (veqB f0 f1 f2 x y z) (n - (k + 1)) (k + 1) := by
  obtain ⟨m, hm⟩ : ∃ m, n - k = m + 1 := ⟨n - k - 1, by omega⟩
  rw [hm, show n - (k + 1) = m by omega]
  show (match veqB f0 f1 f2 x y z k with | true => (k : Int) | false => fiV (veqB f0 f1 f2 x y z) m (k + 1)) = _
  rw [h]
 rw [e]
theorem vxE_yes {k : Nat} (hk : k < n) (h : veqB f0 f1 f2 x y z k = true) : vxE n f0 f1 f2 x y z k = (.ret, vxX n f0 f1 f2 (k : Int)) := by
 unfold vxE
 have e : fiV (veqB f0 f1 f2 x y z) (n - k) k = (k : Int) := by
  obtain ⟨m, hm⟩ : ∃ m, n - k = m + 1 := ⟨n - k - 1, by omega⟩
  rw [hm]
  show (match veqB f0 f1 f2 x y z k with | true => (k : Int) | false => fiV (veqB f0 f1 f2 x y z) m (k + 1)) = _
  rw [h]
 have hz : ((k : Int) == -1) = false := by rw [beq_eq_false_iff_ne]; omega
 rw [e, hz]
theorem vxE_end : vxE n f0 f1 f2 x y z n = (.exit 0, vxX n f0 f1 f2 0) := by
 unfold vxE
 rw [Nat.sub_self]
 rfl
theorem vx_step (hn : n ≤ 1000000) (k : Nat) (hk : k < n) : SkLeads (Rnd (fun k : Nat => vxHd n f0 f1 f2 x y z (k : Int)) (vxE n f0 f1 f2 x y z) k) (vxS n f0 f1 f2 x y z k) := by
 obtain ⟨e1, e2, e3⟩ := rnd_lt hk
 have hi : Nat.blt (ixN k) n = true := e3
 unfold vxS
 refine sk_yes e1 (sk_need e2 (need3_ok hi ?_))
 rw [show ixN k = k from idx_nat k]
 refine sk_either (fun h => sk_leaf (rnd_ret (vxE_yes n f0 f1 f2 x y z hk h).symm)) fun h => sk_leaf (rnd_next ?_ (vxE_no n f0 f1 f2 x y z hk h))
 rw [wrap_succ (by omega)]
 exact St.Le.refl _
theorem vx_last : SkLeads (RndEnd (vxE n f0 f1 f2 x y z n)) (vxS n f0 f1 f2 x y z n) := by
 refine sk_no (rnd_end n) (sk_leaf ?_)
 show _ = vxE n f0 f1 f2 x y z n
 rw [vxE_end]
theorem vx_call (hn : n ≤ 1000000) : CallAt Tryz.prog 127 [slT 0 3 n, vec x y z] (vxH n f0 f1 f2) (int (fiV (veqB f0 f1 f2 x y z) n 0)) (vxH n f0 f1 f2) := by
 refine call_base reK_ok (c := bodyOf Tryz.f127) (fn := Tryz.f127) Tryz.func127 (by kernel_rfl) (by kernel_rfl) (false, false) 1 [0, 3, 4, 7, 8] [4] (sB := vxB n f0 f1 f2 x y z) (by kernel_rfl) (vxO_is n f0 f1 f2 x y z) ?_
 refine (sk_stop _ true [] [4] (loop_count reK_ok rfl [0, 3, 4, 7, 8] [4] (fun k => vxHd n f0 f1 f2 x y z (k : Int)) (vxE n f0 f1 f2 x y z) n (vxT n f0 f1 f2 x y z) (vxS n f0 f1 f2 x y z) (fun k => by delta vxT; rfl) (vx_into n f0 f1 f2 x y z) (vx_fits n f0 f1 f2 x y z) (vx_step n f0 f1 f2 x y z hn) (vx_last n f0 f1 f2 x y z)) fun q hq => ?_).all
 subst hq
 unfold vxE
 rw [Nat.sub_zero]
 cases h : fiV (veqB f0 f1 f2 x y z) n 0 == -1 with
 | true =>
  rw [beq_iff_eq] at h
  rw [h]
  exact leads_leaf (show _ = vxP n f0 f1 f2 x y z (.exit 0, vxX n f0 f1 f2 0) by delta vxP; rfl) (vxP_end n f0 f1 f2 x y z) (cutF_dn (vx_left n f0 f1 f2 (-1)))
 | false => exact leads_leaf (show _ = vxP n f0 f1 f2 x y z (.ret, vxX n f0 f1 f2 _) by delta vxP; rfl) (vxP_ret n f0 f1 f2 x y z _) (cutF_dn (vx_left n f0 f1 f2 _))
end
def iV : FI := fun n f0 f1 f2 x y z => fiV (veqB f0 f1 f2 x y z) n 0
theorem vx_ok : SpecOk Tryz.prog 127 (vxSp iV) := by
 refine specT_ok rfl (by decide) fun l' m n' ts v news hl hm hn ht hnil hF => ?_
 unfold vxF at hF
 split at hF
 ·rename_i x y z id n f0 f1 f2
  obtain ⟨hok, hF⟩ := Tree.need_some hF
  simp only [Tree.run, Option.some.injEq, Prod.mk.injEq] at hF
  obtain ⟨rfl, rfl⟩ := hF
  cases id with
  | none =>
   have h0 : n = 0 := hnil _ (List.mem_singleton.2 rfl) rfl
   subst h0
   exact call_ev tbK_ok (by kernel_rfl)
  | some id => exact vx_call n f0 f1 f2 x y z (Nat.le_of_ble_eq_true hok)
 ·cases hF
theorem tbB_ok : TabOk Tryz.prog (tabOf (tbB airE oA oB oC)) := tab_cons (tab_cons tbF_ok of_ok) ca_ok
section
variable (L : FO)
def bnZ : FO := fun n f l x y z => w64 (w64 (64 * z) + w64 (L n f l x y z * flW x y))
def bnV (p : Int → Int → Int → Int) : FO := fun n f l x y z => match flW x y == 0 with
 | true => redA x y z (p x y z)
 | false => redA (w64 (64 * x)) (w64 (64 * y)) (bnZ L n f l x y z) (p (w64 (64 * x)) (w64 (64 * y)) (bnZ L n f l x y z))
end
def bnO (E : FA) (L : FO) (n : Nat) (f l : Nat → Int) (x y z : Int) : Bool := Nat.ble n 1000000 && ((firstZ [E n f l, rayErr x y z] == 0) && (in3 x y z && in3 (w64 (64 * x)) (w64 (64 * y)) (bnZ L n f l x y z)))
def okV (n : Nat) : Bool := (Nat.ble n n && true) && ((true && (true && (true && true))) && true)
theorem okV_ok (n : Nat) : okV n = true := by unfold okV; rw [ble_self]; rfl
def bnR (x y z : Int) (e : Int) : A := .tup [(true, [ci x, ci y, ci z]), (false, [ci e])]
section
variable (E : FA) (a b c : FO) (n : Nat) (f l : Nat → Int) (x y z : Int)
def btL (H : Hp) (p q r e : Int) : SkL := .leaf (.inl (true, bnR p q r e, H))
def btD (H : Hp) (S : SkL) : SkL := .node (firstZ [E n f l, rayErr x y z] != 0) (btL H 0 0 0 (firstZ [E n f l, rayErr x y z])) (.node (flW x y == 0) (.need (redK [x, y, z] []) (btL H (redA x y z x) (redA x y z y) (redA x y z z) 0)) S)
def btE (H : Hp) : SkL := .need (redK [w64 (64 * x), w64 (64 * y), bnZ b n f l x y z] []) (btL H (redA (w64 (64 * x)) (w64 (64 * y)) (bnZ b n f l x y z) (w64 (64 * x))) (redA (w64 (64 * x)) (w64 (64 * y)) (bnZ b n f l x y z) (w64 (64 * y))) (redA (w64 (64 * x)) (w64 (64 * y)) (bnZ b n f l x y z) (bnZ b n f l x y z)) 0)
def btS : SkL := .need (okN n) (btD E n f l x y z (arH n f l) (.need (okV n) (.need (Nat.ble n 1000000) (.nn (btE b n f l x y z (arH n f l))))))
def btS0 : SkL := btD E 0 (fun _ => 0) (fun _ => 0) x y z (hpT [⟨none, 0, stC f l⟩] [] []) (.nn (.nn (.nn (btE b 0 (fun _ => 0) (fun _ => 0) x y z (hpT [⟨none, 0, stC f l⟩] [] [])))))
theorem bt_into : btT E a b c n f l x y z (false, true) = into (btT E a b c n f l x y z (false, true)) (btS E b n f l x y z) := by kernel_rfl
theorem bt_fits : fits (btT E a b c n f l x y z (false, true)) (btS E b n f l x y z) = true := by kernel_rfl
theorem bt0_into : btT0 E a b c f l x y z (false, true) = into (btT0 E a b c f l x y z (false, true)) (btS0 E b f l x y z) := by kernel_rfl
theorem bt0_fits : fits (btT0 E a b c f l x y z (false, true)) (btS0 E b f l x y z) = true := by kernel_rfl
end
end Go.Ev
namespace Go.Ev
open Go Go.RowKit Go.Proofs
set_option maxRecDepth 100000
def p1 (a _ _ : Int) : Int := a
def p2 (_ b _ : Int) : Int := b
def p3 (_ _ c : Int) : Int := c
def btF (E : FA) (L : FO) : FT
 | [x, y, z], [], [], [⟨_, n, [.int .i64 f, .int .i64 l]⟩] => .need (bnO E L n f l x y z) (.leaf (bnR (bnV L p1 n f l x y z) (bnV L p2 n f l x y z) (bnV L p3 n f l x y z) 0, []))
 | _, _, _, _ => .fail 755
def btSp (E : FA) (L : FO) : Spec := fun args h => specT [(false, [.t stD]), (true, [.i, .i, .i])] [] (btF E L) args h
theorem btD_ok {E : FA} {L : FO} {n : Nat} {f l : Nat → Int} {x y z : Int} {H : Hp} {S : SkL} {ψ : (Bool × A × Hp) ⊕ (List Bool × St) → Prop} (h : bnO E L n f l x y z = true) (hl : ψ (.inl (true, bnR (bnV L p1 n f l x y z) (bnV L p2 n f l x y z) (bnV L p3 n f l x y z) 0, H)))
  (hS : (flW x y == 0) = false → SkLeads ψ S) : SkLeads ψ (btD E n f l x y z H S) := by
 unfold bnO at h
 rw [Bool.and_eq_true, Bool.and_eq_true, Bool.and_eq_true] at h
 obtain ⟨h1, h2, h3, h4⟩ := h
 refine sk_no (by rw [bne, h2]; rfl) (sk_either (fun hf => sk_need h3 (sk_leaf ?_)) hS)
 have e : ∀ p, bnV L p n f l x y z = redA x y z (p x y z) := fun p => by unfold bnV; rw [hf]
 rw [e, e, e] at hl
 exact hl
theorem btE_ok {E : FA} {L : FO} {n : Nat} {f l : Nat → Int} {x y z : Int} {H : Hp} {ψ : (Bool × A × Hp) ⊕ (List Bool × St) → Prop} (h : bnO E L n f l x y z = true) (hf : (flW x y == 0) = false) (hl : ψ (.inl (true, bnR (bnV L p1 n f l x y z) (bnV L p2 n f l x y z) (bnV L p3 n f l x y z) 0, H))) : SkLeads ψ (btE L n f l x y z H) := by
 unfold bnO at h
 rw [Bool.and_eq_true, Bool.and_eq_true, Bool.and_eq_true] at h
 obtain ⟨h1, h2, h3, h4⟩ := h
 refine sk_need h4 (sk_leaf ?_)
 have e : ∀ p, bnV L p n f l x y z = redA (w64 (64 * x)) (w64 (64 * y)) (bnZ L n f l x y z) (p (w64 (64 * x)) (w64 (64 * y)) (bnZ L n f l x y z)) := fun p => by unfold bnV; rw [hf]
 rw [e, e, e] at hl
 exact hl
def isV (v : A) (H : Hp) (o : (Bool × A × Hp) ⊕ (List Bool × St)) : Prop := match o with | .inl r => r.2 = (v, H) | .inr _ => False
theorem bt_call {n : Nat} {f l : Nat → Int} {x y z : Int} (h : bnO airE oB n f l x y z = true) : CallAt Tryz.prog 29 [slT 0 2 n, vec x y z] (arH n f l) (bnR (bnV oB p1 n f l x y z) (bnV oB p2 n f l x y z) (bnV oB p3 n f l x y z) 0) (arH n f l) := by
 have h1 : Nat.ble n 1000000 = true := by
  unfold bnO at h
  rw [Bool.and_eq_true] at h
  exact h.1
 refine call_sk tbB_ok Tryz.func29 (by kernel_rfl) (false, true) (by kernel_rfl) (S := btS airE oB n f l x y z) (bt_into airE oA oB oC n f l x y z) (bt_fits airE oA oB oC n f l x y z) (SkLeads.all (p := isV (bnR (bnV oB p1 n f l x y z) (bnV oB p2 n f l x y z) (bnV oB p3 n f l x y z) 0) (arH n f l)) ?_)
 exact sk_need (okN_ok n) (btD_ok h rfl fun hf => sk_need (okV_ok n) (sk_need h1 (sk_nn (btE_ok h hf rfl))))
theorem bt_none {f l : Nat → Int} {x y z : Int} (h : bnO airE oB 0 f l x y z = true) : CallAt Tryz.prog 29 [.one nilC, vec x y z] (hpT [⟨none, 0, stC f l⟩] [] []) (bnR (bnV oB p1 0 f l x y z) (bnV oB p2 0 f l x y z) (bnV oB p3 0 f l x y z) 0) (hpT [⟨none, 0, stC f l⟩] [] []) := by
 have h' : bnO airE oB 0 (fun _ => 0) (fun _ => 0) x y z = true := h
 refine call_sk tbB_ok Tryz.func29 (by kernel_rfl) (false, true) (by kernel_rfl) (S := btS0 airE oB f l x y z) (bt0_into airE oA oB oC f l x y z) (bt0_fits airE oA oB oC f l x y z) (SkLeads.all (p := isV (bnR (bnV oB p1 0 f l x y z) (bnV oB p2 0 f l x y z) (bnV oB p3 0 f l x y z) 0) (hpT [⟨none, 0, stC f l⟩] [] [])) ?_)
 exact btD_ok (L := oB) h' rfl fun hf => sk_nn (sk_nn (sk_nn (btE_ok h' hf rfl)))
theorem bt_ok : SpecOk Tryz.prog 29 (btSp airE oB) := by
 refine specT_ok rfl (by decide) fun l' m n' ts v news hl hm hn ht hnil hF => ?_
 unfold btF at hF
 split at hF
 ·rename_i x y z id n f l
  obtain ⟨hok, hF⟩ := Tree.need_some hF
  simp only [Tree.run, Option.some.injEq, Prod.mk.injEq] at hF
  obtain ⟨rfl, rfl⟩ := hF
  cases id with
  | none =>
   have h0 : n = 0 := hnil _ (List.mem_singleton.2 rfl) rfl
   subst h0
   exact bt_none hok
  | some id => exact bt_call hok
 ·cases hF
section
variable (E : FA) (a b c : FO) (I : FI) (n : Nat) (f l : Nat → Int) (x y z : Int)
def tbU : List (FuncId × Spec) := (78, caSp E) :: (81, ofSp a b c) :: (82, zgSp) :: (127, vxSp I) :: tbF
noncomputable def reU : Code → St → Tree (X × St) := recT Tryz.prog (tabOf (tbU E a b c I))
def unB : St := baseM 68 [slT 0 2 n, vec x y z] (arH n f l)
def unN (env : List (Nat × A)) (news : List Blk) : St := arM 68 n f l env news
def unA (j : Nat) : Nat → A
 | 0 => .one nilC
 | q + 1 => .one (.sl true j 0 3 0 (q + 1))
def unW (u0 u1 u2 : Nat → Int) : Nat → List Blk
 | 0 => []
 | q + 1 => [⟨false, 29, .rows (q + 1) (vcC u0 u1 u2)⟩]
def unJ : Nat → Nat
 | 0 => 2
 | _ + 1 => 3
def unH (u0 u1 u2 : Nat → Int) (m : Nat) (i : Int) : St := unN n f l [(0, slT 0 2 n), (3, pt 1), (7, unA 2 m), (27, .one (.sl true (unJ m) 0 3 0 (n + 1))), (28, int ((n + 1 : Nat) : Int)), (29, int i)] (vec3 29 x y z :: (unW u0 u1 u2 m ++ [zgT f l n]))
def unX (u0 u1 u2 : Nat → Int) (m : Nat) : St := unN n f l [(7, unA 1 m)] (unW u0 u1 u2 m)
noncomputable def unT (u0 u1 u2 : Nat → Int) (m : Nat) (k : Nat) : Tree (X × St) := (reU E a b c I (loopF Tryz.f32) (unH n f l x y z u0 u1 u2 m (k : Int))).bind (canonT [0, 3, 7, 27, 28, 29] [7] (unB n f l x y z))
noncomputable def unO : Tree ((X × St) ⊕ (List Bool × St)) := evO (reU E a b c I) (bodyOf Tryz.f32) [0, 3, 7, 27, 28, 29] [4, 5] (unB n f l x y z)
noncomputable def unP (q : X × St) : Tree ((X × St) ⊕ (List Bool × St)) := evO2 (reU E a b c I) true (bodyOf Tryz.f32) (pathF Tryz.f32) [] [4, 5] (unB n f l x y z) q
end
end Go.Ev
