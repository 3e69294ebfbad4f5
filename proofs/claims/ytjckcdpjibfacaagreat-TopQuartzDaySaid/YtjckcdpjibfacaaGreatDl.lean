/- States for Daylight. Conditions: none. Daylight: the spans of ticks at which the sun has risen. Conditions: a valid sky. -/
import Derived.Test.YtjckcdpjibfacaaGreatRis
import Derived.Test.YtjckcdpjibfacaaGreatTick
namespace Go.Ev
open Go Go.Proofs
set_option maxRecDepth 100000
def tbL (E : FE) (vx vy vz : FV) : List (FuncId × Spec) := (34, atSp E vx vy vz) :: (32, ckSp E) :: tbK
theorem tbL_ok : TabOk Tryz.prog (tabOf (tbL skyE vX vY vZ)) := tab_cons (tab_cons tbK_ok pk_ok) at_ok
def spC (F T : Nat → Int) : List Col := [.int .i64 F, .int .i64 T]
def dlC : Nat → C
 | 0 => nilC
 | m + 1 => slC true 4 2 (m + 1)
def dlT (m : Nat) (F T : Nat → Int) : List Blk := match m with
 | 0 => []
 | m + 1 => [⟨false, 69, .rows (m + 1) (spC F T)⟩]
section
variable (E : FE) (vx vy vz : FV) (nm : ByteArray) (n : Nat) (g0 g1 g2 g3 : Nat → Int)
noncomputable def reL : Code → St → Tree (X × St) := recT Tryz.prog (tabOf (tbL E vx vy vz))
def dlB : St := baseB 52 [skyA nm n] (skH n g0 g1 g2 g3)
def dlW (c : C) (tb : List Blk) : List Blk := [skyB 38 nm n, skyB 38 nm n, ⟨false, 41, .flat [c]⟩] ++ tb
def dlE : List (Nat × A) := [(14, .one (.fn 71 [(1, 0, 1, 0)])), (1, pt 2), (5, pt 3)]
def dlH (m : Nat) (F T : Nat → Int) : St := skN 52 n g0 g1 g2 g3 dlE (dlW nm n (dlC m) (dlT m F T))
noncomputable def dlO : Tree ((X × St) ⊕ (List Bool × St)) := evOr (reL E vx vy vz) (bodyOf Tryz.f10) [14, 1, 5] [2, 3] (dlB nm n g0 g1 g2 g3)
noncomputable def dlPath : List Bool := pathR (bodyOf Tryz.f10) 0
noncomputable def dlCo : Code := nthRng (bodyOf Tryz.f10) dlPath
end
section
variable (E : FE) (vx vy vz : FV) (nm : ByteArray) (n : Nat) (g0 g1 g2 g3 : Nat → Int)
noncomputable def dlR (m : Nat) (F T : Nat → Int) (t : Int) : Tree (X × St) := linT (reL E vx vy vz) (rngA dlCo) (rngB dlCo) [14, 1, 5] (dlB nm n g0 g1 g2 g3) (midK (dlH nm n g0 g1 g2 g3 m F T) 15 t)
noncomputable def dlP (q : X × St) : Tree ((X × St) ⊕ (List Bool × St)) := evOr2 (reL E vx vy vz) true (bodyOf Tryz.f10) dlPath [] [2, 3] (dlB nm n g0 g1 g2 g3) q
end
end Go.Ev
namespace Go.Ev
open Go Go.Proofs
set_option maxRecDepth 100000
def enR (a b : Int) : A := .tup [(false, [ci a]), (false, [ci b])]
def enF : FT
 | [], [], [_], [⟨some _, n, [.int .i64 g0, .int .i64 _, .int .i64 _, .int .i64 _]⟩] => .need (Nat.blt 0 n && Nat.ble n 1000000) (.leaf (enR (g0 0) (g0 (n - 1)), []))
 | _, _, _, _ => .fail 708
def enSp : Spec := fun args h => specT [(true, [.s, .t skyD])] [] enF args h
noncomputable def enT (nm : ByteArray) (n : Nat) (g0 g1 g2 g3 : Nat → Int) : Tree ((Bool × A × Hp) ⊕ (List Bool × St)) := preA Tryz.prog (tabOf tbK) Tryz.f72 [skyA nm n] (skH n g0 g1 g2 g3) (false, false)
def enS (n : Nat) (g0 g1 g2 g3 : Nat → Int) : SkL := .need (zB n) (.need (Nat.blt z0N n) (.need (lB n) (.need (Nat.blt (lN n) n) (.leaf (.inl (true, enR (g0 z0N) (g0 (lN n)), skH n g0 g1 g2 g3))))))
theorem en_into (nm : ByteArray) (n : Nat) (g0 g1 g2 g3 : Nat → Int) : enT nm n g0 g1 g2 g3 = into (enT nm n g0 g1 g2 g3) (enS n g0 g1 g2 g3) := by kernel_rfl
theorem en_fits (nm : ByteArray) (n : Nat) (g0 g1 g2 g3 : Nat → Int) : fits (enT nm n g0 g1 g2 g3) (enS n g0 g1 g2 g3) = true := by kernel_rfl
theorem en_call (nm : ByteArray) (n : Nat) (g0 g1 g2 g3 : Nat → Int) (h1 : 1 ≤ n) (h2 : n ≤ 1000000) : CallAt Tryz.prog 72 [skyA nm n] (skH n g0 g1 g2 g3) (enR (g0 0) (g0 (n - 1))) (skH n g0 g1 g2 g3) := by
 obtain ⟨_, l2, l3, l4, l5, l6⟩ := lN_eq h1 h2
 refine call_sk tbK_ok Tryz.func72 (by kernel_rfl) (false, false) (by kernel_rfl) (S := enS n g0 g1 g2 g3) (en_into nm n g0 g1 g2 g3) (en_fits nm n g0 g1 g2 g3) (SkLeads.all ?_)
 refine sk_need l5 (sk_need l6 (sk_need l3 (sk_need l4 (sk_leaf ?_))))
 rw [l2]
 rfl
theorem en_ok : SpecOk Tryz.prog 72 enSp := by
 refine specT_ok rfl (by decide) fun l m n ts v news hl hm hn ht hnil hF => ?_
 unfold enF at hF
 split at hF
 ·rename_i nm id n g0 g1 g2 g3
  obtain ⟨hok, hF⟩ := Tree.need_some hF
  rw [Bool.and_eq_true, Nat.blt_eq] at hok
  simp only [Tree.run, Option.some.injEq, Prod.mk.injEq] at hF
  obtain ⟨rfl, rfl⟩ := hF
  exact en_call nm n g0 g1 g2 g3 hok.1 (Nat.le_of_ble_eq_true hok.2)
 ·cases hF
section
variable (E : FE) (vx vy vz : FV) (nm : ByteArray) (n : Nat) (g0 g1 g2 g3 : Nat → Int)
def dlN (c : C) (tb : List Blk) : SkX := .leaf (.normal, skN 52 n g0 g1 g2 g3 dlE (dlW nm n c tb))
def dlQ (S1 S2 : SkX) (t : Int) : SkX := .need (okN n) (.need (atOk E nm n g0 g1 g2 g3 t) (.node (decide (vz n g0 g1 g2 g3 t ≤ 0)) S1 S2))
noncomputable def dlA (m : Nat) (F T : Nat → Int) (t : Int) : SkX := .need (apN 69 m) (.leaf (.normal, dlH nm n g0 g1 g2 g3 (m + 1 + 1) (putF F (m + 1) t) (putF T (m + 1) (IntKind.i64.wrap (t + 1)))))
noncomputable def dlS (m : Nat) (F T : Nat → Int) (t : Int) : SkX := match m with
 | 0 => dlQ E vz nm n g0 g1 g2 g3 (.leaf (.normal, dlH nm n g0 g1 g2 g3 0 F T)) (.ff (.ff (dlN nm n g0 g1 g2 g3 (slC true 4 2 1) [⟨false, 69, .flat [ci t, ci (IntKind.i64.wrap (t + 1))]⟩]))) t
 | m + 1 => dlQ E vz nm n g0 g1 g2 g3 (.leaf (.normal, dlH nm n g0 g1 g2 g3 (m + 1) F T)) (.node (decide (((m + 1 : Nat) : Int) > 0)) (.need (lB (m + 1)) (.need (Nat.blt (lN (m + 1)) (m + 1)) (.node (T (lN (m + 1)) == t)
   (.need (lB (m + 1)) (.need (Nat.blt (lN (m + 1)) (m + 1)) (.need (lB (m + 1)) (.need (Nat.blt (lN (m + 1)) (m + 1)) (.leaf (.normal, dlH nm n g0 g1 g2 g3 (m + 1) F (putF T (lN (m + 1)) (IntKind.i64.wrap (T (lN (m + 1)) + 1)))))))))
   (dlA nm n g0 g1 g2 g3 m F T t)))) (.ff (dlA nm n g0 g1 g2 g3 m F T t))) t
theorem dl_into (F T : Nat → Int) (t : Int) : ∀ m, dlR E vx vy vz nm n g0 g1 g2 g3 m F T t = into (dlR E vx vy vz nm n g0 g1 g2 g3 m F T t) (dlS E vz nm n g0 g1 g2 g3 m F T t)
 | 0 => by kernel_rfl
 | m + 1 => by kernel_rfl
theorem dl_fits (F T : Nat → Int) (t : Int) : ∀ m, fits (dlR E vx vy vz nm n g0 g1 g2 g3 m F T t) (dlS E vz nm n g0 g1 g2 g3 m F T t) = true
 | 0 => by kernel_rfl
 | m + 1 => by kernel_rfl
end
theorem two_rowsC {x0 x1 : Int} {F T : Nat → Int} (h0 : x0 = F 0) (h1 : x1 = T 0) {e : TypeId} : ∀ (E : Env) (w : World) (p : Nat × Nat × Nat), blkIs E w p ⟨false, e, .flat [ci x0, ci x1]⟩ → blkIs E w p ⟨false, e, .rows 1 (spC F T)⟩ := by
 subst h0; subst h1
 refine blk_body rfl (fun cs e => by cases e) fun E arr hh => rows_one rfl (fun j c col h1 h2 => ?_) hh
 match j, h1, h2 with
 | 0, h1, h2 => injection h1 with h1; injection h2 with h2; subst h1; subst h2; rfl
 | 1, h1, h2 => injection h1 with h1; injection h2 with h2; subst h1; subst h2; rfl
section
variable {nm : ByteArray} {n : Nat} {g0 g1 g2 g3 : Nat → Int}
theorem dl_step {t : Int} (hok : atOk skyE nm n g0 g1 g2 g3 t = true) (ht : 0 ≤ t ∧ t ≤ 1000000000) (S : Spans) (hm : S.m ≤ 1000000) {φ : X × St → Prop} :
  SkLeads (fun q => match q.1 with | .normal => q.2.Le (let S' := (match !decide (vZ n g0 g1 g2 g3 t ≤ 0) with | true => S.add t | false => S); dlH nm n g0 g1 g2 g3 S'.m S'.F S'.T) | _ => φ q) (dlS skyE vZ nm n g0 g1 g2 g3 S.m S.F S.T t) := by
 obtain ⟨m, F, T⟩ := S
 have hm : m ≤ 1000000 := hm
 have hw : IntKind.i64.wrap (t + 1) = t + 1 := wrap_id (by omega) (by omega)
 cases m with
 | zero =>
  unfold dlS dlQ
  refine sk_need (okN_ok n) (sk_need hok (sk_either (fun h => sk_leaf ?_) fun h => sk_ff (sk_ff (sk_leaf ?_))))
  ·simp only [h]; exact St.Le.refl _
  ·simp only [h, Bool.not_false, Spans.add]
   exact le_news (show 1 + 4 ≤ lim by decide) ⟨⟨rfl, fun _ _ _ h => h⟩, ⟨rfl, fun _ _ _ h => h⟩, ⟨rfl, fun _ _ _ h => h⟩, ⟨rfl, two_rowsC (F := fun _ => t) (T := fun _ => t + 1) rfl hw⟩, trivial⟩
 | succ m =>
  obtain ⟨_, l2, l3, l4, _, _⟩ := lN_eq (n := m + 1) (by omega) (by omega)
  have d0 : ((Tryz.prog.info? 69).map (·.bytes)).getD 0 = 16 := by kernel_rfl
  have hp : decide (((m + 1 : Nat) : Int) > 0) = true := by simp only [decide_eq_true_eq]; omega
  unfold dlS dlQ
  refine sk_need (okN_ok n) (sk_need hok (sk_either (fun h => sk_leaf ?_) fun h => sk_yes hp (sk_need l3 (sk_need l4 (sk_either (fun h1 => sk_need l3 (sk_need l4 (sk_need l3 (sk_need l4 (sk_leaf ?_))))) fun h1 => ?_)))))
  ·simp only [h]; exact St.Le.refl _
  ·rw [l2] at h1
   simp only [h, Bool.not_false, Spans.add]
   have h1 : (T m == t) = true := h1
   have e : T m = t := by simpa using h1
   rw [h1, l2]
   show St.Le (dlH nm n g0 g1 g2 g3 (m + 1) F (putF T m (IntKind.i64.wrap (T m + 1)))) (dlH nm n g0 g1 g2 g3 (m + 1) F (putF T m (t + 1)))
   rw [e, hw]
   exact St.Le.refl _
  ·rw [l2] at h1
   have h1 : (T m == t) = false := h1
   unfold dlA
   refine sk_need (apN_ok (by rw [d0]; decide) (by omega)) (sk_leaf ?_)
   simp only [h, Bool.not_false, Spans.add]
   rw [h1, hw]
   exact St.Le.refl _
end
theorem sky_gap {n : Nat} {g0 g1 g2 g3 : Nat → Int} (hs : SkyOk n g0 g1 g2 g3) : ∀ {i : Nat}, i < n → g0 i ≤ g0 0 + 200 * i
 | 0, _ => by simp
 | i + 1, h => by
  have h1 := sky_gap hs (i := i) (by omega)
  have h2 := (hs.inc i h).2
  omega
def upB (n : Nat) (g0 g1 g2 g3 : Nat → Int) (t : Int) : Bool := !decide (vZ n g0 g1 g2 g3 t ≤ 0)
def cntT (n : Nat) (g0 : Nat → Int) : Nat := (g0 (n - 1) - g0 0 + 1).toNat
def dsS (n : Nat) (g0 g1 g2 g3 : Nat → Int) : Spans := spansK (upB n g0 g1 g2 g3) (g0 0) (cntT n g0)
section
variable (E : FE) (vx vy vz : FV) (nm : ByteArray) (n : Nat) (g0 g1 g2 g3 : Nat → Int)
def dlX (a : A) (e : Int) (tb : List Blk) : St := skN 52 n g0 g1 g2 g3 [(2, a), (3, int e)] tb
def dlOS : SkO := .need (okN n) (.node (E nm n g0 g1 g2 g3 != 0) (.leaf (.inl (.ret, dlX n g0 g1 g2 g3 nilA (E nm n g0 g1 g2 g3) []))) (.leaf (.inr ([true, true, true, false, true], dlH nm n g0 g1 g2 g3 0 (fun _ => 0) (fun _ => 0)))))
theorem dlO_into : dlO E vx vy vz nm n g0 g1 g2 g3 = into (dlO E vx vy vz nm n g0 g1 g2 g3) (dlOS E nm n g0 g1 g2 g3) := by kernel_rfl
theorem dlO_fits : fits (dlO E vx vy vz nm n g0 g1 g2 g3) (dlOS E nm n g0 g1 g2 g3) = true := by kernel_rfl
theorem dlPath_eq : dlPath = [true, true, true, false, true] := by kernel_rfl
theorem dlCo_eq : dlCo = .rangeFunc (.tmp 14) #[15] (rngA dlCo) (rngB dlCo) := by kernel_rfl
def dsC : Nat → A
 | 0 => nilA
 | m + 1 => slO 1 2 (m + 1)
theorem dlP_is (F T : Nat → Int) : ∀ m, dlP E vx vy vz nm n g0 g1 g2 g3 (.normal, dlH nm n g0 g1 g2 g3 m F T) = .leaf (.inl (.ret, dlX n g0 g1 g2 g3 (dsC m) 0 (dlT m F T)))
 | 0 => by kernel_rfl
 | m + 1 => by kernel_rfl
def dsR (m : Nat) (e : Int) : A := match m with
 | 0 => .tup [(false, [nilC]), (false, [ci e])]
 | m + 1 => .tup [(false, [slC true 1 2 (m + 1)]), (false, [ci e])]
theorem dl_left (F T : Nat → Int) (e : Int) : ∀ m, Left2 Tryz.prog Tryz.f10 (skH n g0 g1 g2 g3) (dsR m e) (hpT [⟨some 0, n, skC g0 g1 g2 g3⟩] [] (dlT m F T)) (.ret, dlX n g0 g1 g2 g3 (dsC m) e (dlT m F T))
 | 0 => left_of (b := true) (by kernel_rfl)
 | m + 1 => left_of (b := false) (by kernel_rfl)
end
section
variable {nm : ByteArray} {n : Nat} {g0 g1 g2 g3 : Nat → Int} (hE : skyE nm n g0 g1 g2 g3 = 0)
include hE
theorem cnt_eq : g0 0 + (cntT n g0 : Nat) = g0 (n - 1) + 1 ∧ cntT n g0 ≤ 13000 := by
 obtain ⟨hs, _⟩ := sky_ok hE
 have hf := hs.few
 have hg := sky_gap hs (show n - 1 < n by have := hs.two; omega)
 have h2 := hs.two
 have h1 := hs.le (show 0 ≤ n - 1 by omega) (by omega)
 have b1 := hs.tick 0 (by omega)
 have b2 := hs.tick (n - 1) (by omega)
 unfold cntT
 omega
theorem dl_loop : ComesF Tryz.prog dlCo (dlB nm n g0 g1 g2 g3) (dlH nm n g0 g1 g2 g3 0 (fun _ => 0) (fun _ => 0)) fun q => q = (.normal, dlH nm n g0 g1 g2 g3 (dsS n g0 g1 g2 g3).m (dsS n g0 g1 g2 g3).F (dsS n g0 g1 g2 g3).T) := by
 obtain ⟨hs, _⟩ := sky_ok hE
 obtain ⟨c1, c2⟩ := cnt_eq hE
 have hn2 := hs.two
 have hn := hs.few
 have b1 := hs.tick 0 (by omega)
 have b2 := hs.tick (n - 1) (by omega)
 have hrun : (enSp [.agg [.lit (.string nm), slC false 0 4 n]] (dlH nm n g0 g1 g2 g3 0 (fun _ => 0) (fun _ => 0)).hp).run = some (enR (g0 0) (g0 (n - 1)), (dlH nm n g0 g1 g2 g3 0 (fun _ => 0) (fun _ => 0)).hp) := by
  have e : enSp [.agg [.lit (.string nm), slC false 0 4 n]] (dlH nm n g0 g1 g2 g3 0 (fun _ => 0) (fun _ => 0)).hp = .need (okN n) (.need (Nat.blt 0 n && Nat.ble n 1000000) (.leaf (enR (g0 0) (g0 (n - 1)), (dlH nm n g0 g1 g2 g3 0 (fun _ => 0) (fun _ => 0)).hp))) := by kernel_rfl
  rw [e, okN_ok]
  have : (Nat.blt 0 n && Nat.ble n 1000000) = true := by rw [Bool.and_eq_true, Nat.blt_eq, Nat.ble_eq]; omega
  rw [this]
  rfl
 rw [dlCo_eq]
 refine comesF_ticks (rec := reL skyE vX vY vZ) (recT_ok tbL_ok) (sB := dlB nm n g0 g1 g2 g3) rfl rfl 14 15 _ _ 1 38 nm (slC false 0 4 n) (g0 0) (g0 (n - 1)) b1.1 (by omega) (cntT n g0) c1 en_ok [14, 1, 5] (by decide) (by decide) (by show 15 < 52; decide)
  (fun k => dlH nm n g0 g1 g2 g3 (spansK (upB n g0 g1 g2 g3) (g0 0) k).m (spansK (upB n g0 g1 g2 g3) (g0 0) k).F (spansK (upB n g0 g1 g2 g3) (g0 0) k).T) _ (by kernel_rfl) (by kernel_rfl) hrun (fun k hk => ?_) rfl
 have hT : dlR skyE vX vY vZ nm n g0 g1 g2 g3 (spansK (upB n g0 g1 g2 g3) (g0 0) k).m (spansK (upB n g0 g1 g2 g3) (g0 0) k).F (spansK (upB n g0 g1 g2 g3) (g0 0) k).T (g0 0 + k) = linT (reL skyE vX vY vZ) (rngA dlCo) (rngB dlCo) [14, 1, 5] (dlB nm n g0 g1 g2 g3) (midK (dlH nm n g0 g1 g2 g3 (spansK (upB n g0 g1 g2 g3) (g0 0) k).m (spansK (upB n g0 g1 g2 g3) (g0 0) k).F (spansK (upB n g0 g1 g2 g3) (g0 0) k).T) 15 (g0 0 + k)) := by delta dlR; rfl
 rw [← hT]
 have hok : atOk skyE nm n g0 g1 g2 g3 (g0 0 + k) = true := by
  unfold atOk
  rw [hE]
  simp only [Bool.and_eq_true, decide_eq_true_eq]
  exact ⟨rfl, by omega, by omega⟩
 have hm := spansK_m (upB n g0 g1 g2 g3) (g0 0) k
 exact all_into (dl_into _ _ _ _ _ _ _ _ _ _ _ _ _ _) (dl_fits _ _ _ _ _ _ _ _ _ _ _ _ _ _) (dl_step hok (by omega) (spansK (upB n g0 g1 g2 g3) (g0 0) k) (by omega)).all
theorem dl_call : CallAt Tryz.prog 10 [skyA nm n] (skH n g0 g1 g2 g3) (dsR (dsS n g0 g1 g2 g3).m 0) (hpT [⟨some 0, n, skC g0 g1 g2 g3⟩] [] (dlT (dsS n g0 g1 g2 g3).m (dsS n g0 g1 g2 g3).F (dsS n g0 g1 g2 g3).T)) := by
 refine call_baseRS (rec := reL skyE vX vY vZ) (recT_ok tbL_ok) (c := bodyOf Tryz.f10) (fn := Tryz.f10) Tryz.func10 (by kernel_rfl) (by kernel_rfl) (false, false) 1 [14, 1, 5] [2, 3] (sB := dlB nm n g0 g1 g2 g3) (by kernel_rfl) (t := dlO skyE vX vY vZ nm n g0 g1 g2 g3) (by delta dlO; rfl) (dlO_into skyE vX vY vZ nm n g0 g1 g2 g3) (dlO_fits skyE vX vY vZ nm n g0 g1 g2 g3) ?_
 have hl := dl_loop hE
 unfold dlCo at hl
 rw [dlPath_eq] at hl
 refine sk_need (okN_ok n) (sk_no (by rw [hE]; rfl) (sk_stopR _ true [] [2, 3] hl fun q hq => ?_))
 subst hq
 refine leads_leaf (T := dlP skyE vX vY vZ nm n g0 g1 g2 g3 (.normal, dlH nm n g0 g1 g2 g3 (dsS n g0 g1 g2 g3).m (dsS n g0 g1 g2 g3).F (dsS n g0 g1 g2 g3).T)) ?_ (dlP_is skyE vX vY vZ nm n g0 g1 g2 g3 (dsS n g0 g1 g2 g3).F (dsS n g0 g1 g2 g3).T (dsS n g0 g1 g2 g3).m) (cutR_dn (dl_left n g0 g1 g2 g3 (dsS n g0 g1 g2 g3).F (dsS n g0 g1 g2 g3).T 0 (dsS n g0 g1 g2 g3).m))
 rw [← dlPath_eq]
 delta dlP
 rfl
end
abbrev FS := Nat → (Nat → Int) → (Nat → Int) → (Nat → Int) → (Nat → Int) → Spans
def dlF (E : FE) (fl : Bool) (vm : Nat → (Nat → Int) → (Nat → Int) → (Nat → Int) → (Nat → Int) → Nat) (vF vT : Nat → (Nat → Int) → (Nat → Int) → (Nat → Int) → (Nat → Int) → Nat → Int) : FT
 | [], [], [nm], [⟨some _, n, [.int .i64 g0, .int .i64 g1, .int .i64 g2, .int .i64 g3]⟩] => .need (E nm n g0 g1 g2 g3 == 0) (match fl with
  | true => .need (Nat.blt 0 (vm n g0 g1 g2 g3)) (.leaf (.tup [(false, [slC true 1 2 (vm n g0 g1 g2 g3)]), (false, [ci 0])], [⟨false, 69, .rows (vm n g0 g1 g2 g3) (spC (vF n g0 g1 g2 g3) (vT n g0 g1 g2 g3))⟩]))
  | false => .need (Nat.beq (vm n g0 g1 g2 g3) 0) (.leaf (.tup [(false, [nilC]), (false, [ci 0])], [])))
 | _, _, _, _ => .fail 709
def dlSp (E : FE) (fl : Bool) (vm : Nat → (Nat → Int) → (Nat → Int) → (Nat → Int) → (Nat → Int) → Nat) (vF vT : Nat → (Nat → Int) → (Nat → Int) → (Nat → Int) → (Nat → Int) → Nat → Int) : Spec := fun args h => specT [(true, [.s, .t skyD])] [] (dlF E fl vm vF vT) args h
def dsM (n : Nat) (g0 g1 g2 g3 : Nat → Int) : Nat := (dsS n g0 g1 g2 g3).m
def dsF (n : Nat) (g0 g1 g2 g3 : Nat → Int) : Nat → Int := (dsS n g0 g1 g2 g3).F
def dsT (n : Nat) (g0 g1 g2 g3 : Nat → Int) : Nat → Int := (dsS n g0 g1 g2 g3).T
theorem dl_ok (fl : Bool) : SpecOk Tryz.prog 10 (dlSp skyE fl dsM dsF dsT) := by
 refine specT_ok rfl (by decide) fun l m n ts v news hl hm hn ht hnil hF => ?_
 unfold dlF at hF
 split at hF
 ·rename_i nm id n g0 g1 g2 g3
  obtain ⟨hok, hF⟩ := Tree.need_some hF
  have hc := dl_call (nm := nm) (n := n) (g0 := g0) (g1 := g1) (g2 := g2) (g3 := g3) (by simpa using hok)
  have key : v = dsR (dsM n g0 g1 g2 g3) 0 ∧ news = dlT (dsM n g0 g1 g2 g3) (dsF n g0 g1 g2 g3) (dsT n g0 g1 g2 g3) := by
   cases fl with
   | true =>
    obtain ⟨h0, hF⟩ := Tree.need_some hF
    rw [Nat.blt_eq] at h0
    simp only [Tree.run, Option.some.injEq, Prod.mk.injEq] at hF
    obtain ⟨rfl, rfl⟩ := hF
    obtain ⟨k, hk⟩ : ∃ k, dsM n g0 g1 g2 g3 = k + 1 := ⟨dsM n g0 g1 g2 g3 - 1, by omega⟩
    rw [hk]
    exact ⟨rfl, rfl⟩
   | false =>
    obtain ⟨h0, hF⟩ := Tree.need_some hF
    have h0 := Nat.eq_of_beq_eq_true h0
    simp only [Tree.run, Option.some.injEq, Prod.mk.injEq] at hF
    obtain ⟨rfl, rfl⟩ := hF
    rw [h0]
    exact ⟨rfl, rfl⟩
  obtain ⟨rfl, rfl⟩ := key
  exact hc
 ·cases hF
end Go.Ev
