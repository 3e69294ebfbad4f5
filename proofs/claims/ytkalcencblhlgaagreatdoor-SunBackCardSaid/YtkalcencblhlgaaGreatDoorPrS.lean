/- strings.Join of a table; a sky's text, by the program. Conditions: none. -/
import Derived.Test.YtkalcencblhlgaaGreatDoorLn
import Derived.Test.YtkalcencblhlgaaGreatDoorCkx
namespace Go.Ev
open Go Go.RowKit Go.Proofs
set_option maxRecDepth 100000
def listF (F : Nat → ByteArray) : Nat → List ByteArray
 | 0 => []
 | k + 1 => listF F k ++ [F k]
theorem listF_len (F : Nat → ByteArray) : ∀ n, (listF F n).length = n
 | 0 => rfl
 | n + 1 => by
  show (listF F n ++ [F n]).length = _
  rw [List.length_append, listF_len F n]; rfl
theorem listF_get (F : Nat → ByteArray) : ∀ (n i : Nat), i < n → (listF F n)[i]? = some (F i)
 | n + 1, i, h => by
  show (listF F n ++ [F n])[i]? = _
  by_cases e : i = n
  ·subst e
   rw [List.getElem?_append_right (by rw [listF_len]; exact Nat.le_refl _), listF_len]; simp
  ·rw [List.getElem?_append_left (by rw [listF_len]; omega)]
   exact listF_get F n i (by omega)
def specJoinT : Spec := fun args h => match args with
 | [.one (.sl true id 0 1 0 n), .one (.lit (.string sep))] => match h.blk id with
  | some ⟨false, _, .rows n' [.str F]⟩ => .need (Nat.beq n n' && (Nat.ble (joinL sep.data.toList (listF F n)).length 140737488355328 && Nat.ble n 140737488355328)) (.leaf (.one (.lit (.string ⟨(joinL sep.data.toList (listF F n)).toArray⟩)), h))
  | _ => .fail 722
 | _ => .fail 723
theorem specJoinT_ok : SpecOk Tryz.prog 67 specJoinT := by
 intro args h v h' hr E w vals rh hargs
 unfold specJoinT at hr
 split at hr
 ·rename_i id n sep
  split at hr
  ·rename_i e n' F hb
   obtain ⟨hn, hr2⟩ := Tree.need_some hr
   clear hr
   simp only [Bool.and_eq_true] at hn
   have hnn := Nat.eq_of_beq_eq_true hn.1
   subst hnn
   have hn1 := Nat.le_of_ble_eq_true hn.2.1
   have hn2 := Nat.le_of_ble_eq_true hn.2.2
   simp only [Tree.run, Option.some.injEq, Prod.mk.injEq] at hr2
   obtain ⟨rfl, rfl⟩ := hr2
   match vals, hargs with
   | [y, z], ⟨.inr ⟨hx, _, _⟩, _⟩ => cases hx
   | [y, z], ⟨.inl ⟨bn, sz, o, cap, hE, hy, hnc, hcm, ho, hown⟩, ⟨hz, _⟩, _⟩ =>
    subst hz
    subst hy
    obtain ⟨p, hp, arr, fz, ⟨ty, h1, _⟩, h2, h3, _⟩ := rh.cells hb rfl
    obtain rfl : p = (bn, sz) := Option.some.inj (hp.symm.trans hE)
    have hlen : (listF F n).length = n := listF_len F n
    rw [joinL_eq] at hn1 ⊢
    have key := Tryz.join_walk bn o cap (listF F n) sep w (fun i x hi => ?_) (rh.lt _ _ hE) (by omega) (by omega) hn1
    ·rw [hlen] at key
     exact pure_calls rh ⟨rfl, rfl⟩ key
    ·have hi' : i < n := by rw [← hlen]; exact (List.getElem?_eq_some_iff.1 hi).1
     rw [listF_get F n i hi'] at hi
     injection hi with hi
     subst hi
     obtain ⟨x, hx, hc⟩ := h3.2 i 0 (.str F) hi' rfl
     have hx : (vw sz.2 arr)[i * 1 + 0]? = some x := hx
     rw [vw_get] at hx
     have hc : x = .string (F i) := hc.1
     subst hc
     have ho' := ho (by omega)
     rw [show o + i = sz.2 + (i * 1 + 0) by omega, cell_of_row w bn _ arr ty fz h1]
     exact hx
  ·cases hr
 ·cases hr
section
variable (E : FE) (L : FL) (nm : ByteArray) (n : Nat) (g0 g1 g2 g3 : Nat → Int)
def tbPr : List (FuncId × Spec) := (54, ckSp E) :: (68, msSp L) :: (67, specJoinT) :: tbBase
noncomputable def prT : Tree ((Bool × A × Hp) ⊕ (List Bool × St)) := preA Tryz.prog (tabOf (tbPr E L)) Tryz.f21 [skyA nm n] (slH n g0 g1 g2 g3) (true, false)
def sSky : ByteArray := ⟨#[115, 107, 121, 32]⟩
def szN (a b : ByteArray) : Bool := Nat.ble (a.size + b.size) 9223372036854775807
def prV (s : ByteArray) (e : Int) : A := .tup [(false, [.lit (.string s)]), (false, [ci e])]
def jnB (F : Nat → ByteArray) (n : Nat) : ByteArray := ⟨(joinL (⟨#[]⟩ : ByteArray).data.toList (listF F n)).toArray⟩
def txP (F : Nat → ByteArray) (nm : ByteArray) (n : Nat) : ByteArray := ((sSky ++ nm) ++ nlB) ++ jnB F n
def jnO (F : Nat → ByteArray) (n : Nat) : Bool := Nat.beq n n && (Nat.ble (joinL (⟨#[]⟩ : ByteArray).data.toList (listF F n)).length 140737488355328 && Nat.ble n 140737488355328)
def prS (m : Nat) : SkL := .need (okN (m + 2)) (.node (E nm (m + 2) g0 g1 g2 g3 != 0) (.leaf (.inl (true, prV ⟨#[]⟩ (E nm (m + 2) g0 g1 g2 g3), slH (m + 2) g0 g1 g2 g3)))
 (.need (szN sSky nm) (.need (szN (sSky ++ nm) nlB) (.need (okN (m + 2)) (.need (Nat.ble (m + 2) 1000000 && allK (lnI g0 g1 g2 g3) (m + 2)) (.need (jnO (LF L g0 g1 g2 g3) (m + 2)) (.need (szN ((sSky ++ nm) ++ nlB) (jnB (LF L g0 g1 g2 g3) (m + 2)))
  (.leaf (.inl (true, prV (txP (LF L g0 g1 g2 g3) nm (m + 2)) 0, slH (m + 2) g0 g1 g2 g3))))))))))
theorem pr_into (m : Nat) : prT E L nm (m + 2) g0 g1 g2 g3 = into (prT E L nm (m + 2) g0 g1 g2 g3) (prS E L nm g0 g1 g2 g3 m) := by kernel_rfl
theorem pr_fits (m : Nat) : fits (prT E L nm (m + 2) g0 g1 g2 g3) (prS E L nm g0 g1 g2 g3 m) = true := by kernel_rfl
end
section
variable (E : FE) (x : Nat) (nm : ByteArray) (n : Nat) (g0 g1 g2 g3 : Nat → Int)
end
theorem sky_zero (nm : ByteArray) (g0 g1 g2 g3 f0 f1 f2 f3 : Nat → Int) : skyE nm 0 g0 g1 g2 g3 = skyE nm 0 f0 f1 f2 f3 := by rw [(sky_none nm g0 g1 g2 g3).1, (sky_none nm f0 f1 f2 f3).1]
def smB (x : Int) : Prop := -1000000000 ≤ x ∧ x ≤ 1000000000
theorem inI_sm {x : Int} (h : smB x) : inI x = true := by
 unfold inI smB at *
 simp only [Bool.and_eq_true, decide_eq_true_eq]
 omega
theorem sky_sm {n : Nat} {g0 g1 g2 g3 : Nat → Int} (h : SkyOk n g0 g1 g2 g3) {k : Nat} (hk : k < n) : smB (g0 k) ∧ smB (g1 k) ∧ smB (g2 k) ∧ smB (g3 k) := by
 have h0 := h.tick k hk
 have h1 := h.ray k hk
 obtain ⟨⟨a, b, c⟩, _⟩ := h1
 unfold smB
 omega
theorem joinL_nil : ∀ l : List ByteArray, joinL (⟨#[]⟩ : ByteArray).data.toList l = (l.map (·.data.toList)).flatten
 | [] => rfl
 | [x] => by simp [joinL]
 | x :: y :: l => by
  have ih := joinL_nil (y :: l)
  show x.data.toList ++ ([] ++ joinL (⟨#[]⟩ : ByteArray).data.toList (y :: l)) = _
  rw [ih]
  simp
def jnA (F : Nat → ByteArray) : Nat → ByteArray
 | 0 => ⟨#[]⟩
 | k + 1 => jnA F k ++ F k
theorem ba_ext {a b : ByteArray} (h : a.data.toList = b.data.toList) : a = b := ByteArray.ext (Array.toList_inj.1 h)
theorem app_list (a b : ByteArray) : (a ++ b).data.toList = a.data.toList ++ b.data.toList := by
 rw [ByteArray.data_append, Array.toList_append]
theorem jn_list (F : Nat → ByteArray) : ∀ n, joinL (⟨#[]⟩ : ByteArray).data.toList (listF F n) = (jnA F n).data.toList
 | 0 => rfl
 | n + 1 => by
  have ih := jn_list F n
  rw [joinL_nil] at ih ⊢
  show ((listF F n ++ [F n]).map (·.data.toList)).flatten = _
  rw [List.map_append, List.flatten_append, ih]
  show _ = (jnA F n ++ F n).data.toList
  rw [app_list]
  simp
theorem jn_is (F : Nat → ByteArray) (n : Nat) : jnB F n = jnA F n := by
 refine ba_ext ?_
 show (joinL (⟨#[]⟩ : ByteArray).data.toList (listF F n)).toArray.toList = _
 rw [List.toList_toArray]
 exact jn_list F n
theorem jn_size {F : Nat → ByteArray} {b : Nat} (h : ∀ k, (F k).size ≤ b) : ∀ n, (jnA F n).size ≤ b * n
 | 0 => Nat.zero_le _
 | n + 1 => by
  have ih := jn_size h n
  have h1 := h n
  show (jnA F n ++ F n).size ≤ _
  rw [ByteArray.size_append, Nat.mul_succ]
  omega
theorem LF_size (g0 g1 g2 g3 : Nat → Int) (k : Nat) : (LF lnB g0 g1 g2 g3 k).size ≤ 92 := linB_size _ (by simp)
theorem szN_ok {a b : ByteArray} (ha : a.size ≤ 1000000000) (hb : b.size ≤ 1000000000) : szN a b = true := by
 unfold szN
 exact Nat.ble_eq_true_of_le (by omega)
theorem tbPr_ok : TabOk Tryz.prog (tabOf (tbPr skyE lnB)) := tab_cons (tab_cons (tab_cons tbBase_ok specJoinT_ok) ms_ok) pk_ok
theorem pr_call {nm : ByteArray} {m : Nat} {g0 g1 g2 g3 : Nat → Int} (h : skyE nm (m + 2) g0 g1 g2 g3 = 0) (hnm : nm.size ≤ 1000) : CallAt Tryz.prog 21 [skyA nm (m + 2)] (slH (m + 2) g0 g1 g2 g3) (prV (txP (LF lnB g0 g1 g2 g3) nm (m + 2)) 0) (slH (m + 2) g0 g1 g2 g3) := by
 have hs := (sky_ok h).1
 have hn := hs.few
 refine call_sk tbPr_ok Tryz.func21 (by kernel_rfl) (true, false) (by kernel_rfl) (S := prS skyE lnB nm g0 g1 g2 g3 m) (pr_into skyE lnB nm g0 g1 g2 g3 m) (pr_fits skyE lnB nm g0 g1 g2 g3 m) (SkLeads.all ?_)
 have hI : allK (lnI g0 g1 g2 g3) (m + 2) = true := allK_of fun k hk => by
  obtain ⟨a, b, c, d⟩ := sky_sm hs hk
  unfold lnI
  rw [inI_sm a, inI_sm b, inI_sm c, inI_sm d]; rfl
 have hj := jn_size (LF_size g0 g1 g2 g3) (m + 2)
 have hsk : sSky.size = 4 := rfl
 have hnl : nlB.size = 1 := rfl
 have hz : (skyE nm (m + 2) g0 g1 g2 g3 != 0) = false := by rw [h]; rfl
 refine sk_need (okN_ok _) (sk_no hz (sk_need (szN_ok (by omega) (by omega)) (sk_need (szN_ok (by rw [ByteArray.size_append]; omega) (by omega)) (sk_need (okN_ok _) (sk_need ?_ (sk_need ?_ (sk_need (szN_ok ?_ ?_) (sk_leaf rfl))))))))
 ·rw [hI, Nat.ble_eq_true_of_le (by omega)]; rfl
 ·unfold jnO
  rw [jn_list, Array.length_toList, Nat.beq_refl, Nat.ble_eq_true_of_le (show m + 2 ≤ 140737488355328 by omega)]
  have : (jnA (LF lnB g0 g1 g2 g3) (m + 2)).data.size ≤ 140737488355328 := Nat.le_trans hj (by omega)
  rw [Nat.ble_eq_true_of_le this]; rfl
 ·rw [ByteArray.size_append, ByteArray.size_append]; omega
 ·rw [jn_is]; omega
abbrev FTx := ByteArray → Nat → (Nat → Int) → (Nat → Int) → (Nat → Int) → (Nat → Int) → ByteArray
def txS : FTx := fun nm n g0 g1 g2 g3 => txP (LF lnB g0 g1 g2 g3) nm n
def okE (E : FE) (nm : ByteArray) (n : Nat) (g0 g1 g2 g3 : Nat → Int) : Bool := E nm n g0 g1 g2 g3 == 0 && Nat.ble nm.size 1000
def prF (E : FE) (T : FTx) : FT
 | [], [], [nm], [⟨_, n, [.int .i64 g0, .int .i64 g1, .int .i64 g2, .int .i64 g3]⟩] => .need (okE E nm n g0 g1 g2 g3) (.leaf (prV (T nm n g0 g1 g2 g3) 0, []))
 | _, _, _, _ => .fail 724
def prSp (E : FE) (T : FTx) : Spec := fun args h => specT [(true, [.s, .t skyD])] glW (prF E T) args h
theorem pr_ok : SpecOk Tryz.prog 21 (prSp skyE txS) := by
 refine specT_ok (by decide) (by decide) fun l m n ts v news hl hm hn ht hnil hF => ?_
 unfold prF at hF
 split at hF
 ·rename_i nm id n g0 g1 g2 g3
  obtain ⟨hok, hF2⟩ := Tree.need_some hF
  clear hF
  unfold okE at hok
  rw [Bool.and_eq_true, beq_iff_eq] at hok
  simp only [Tree.run, Option.some.injEq, Prod.mk.injEq] at hF2
  obtain ⟨rfl, rfl⟩ := hF2
  have h2 := (sky_ok hok.1).1.two
  obtain ⟨m, rfl⟩ : ∃ m, n = m + 2 := ⟨n - 2, by omega⟩
  cases id with
  | none => have := hnil _ (List.mem_singleton.2 rfl) rfl; cases this
  | some id => exact pr_call hok.1 (Nat.le_of_ble_eq_true hok.2)
 ·cases hF
end Go.Ev
