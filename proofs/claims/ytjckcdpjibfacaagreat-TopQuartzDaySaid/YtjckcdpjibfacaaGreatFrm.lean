/- A grid's places, taken from another one's (at a flip). Conditions: grids of one row. -/
import Derived.Test.YtjckcdpjibfacaaGreatTot
namespace Go.Ev
open Go Go.Proofs
set_option maxRecDepth 100000
def tbFr (lv : Nat → Int) (sm : Int → Nat) : List (FuncId × Spec) := (85, blSp) :: tbN lv sm
theorem tbFr_ok : TabOk Tryz.prog (tabOf (tbFr levQ smpQ)) := tab_cons tbN_ok blS_ok
noncomputable def reFr (lv : Nat → Int) (sm : Int → Nat) : Code → St → Tree (X × St) := recT Tryz.prog (tabOf (tbFr lv sm))
theorem reFr_ok : RecOk Tryz.prog (reFr levQ smpQ) := recT_ok tbFr_ok
section
variable (lv : Nat → Int) (sm : Int → Nat) (n : Nat) (g W : Nat → Int)
def frTs : List TA := [⟨some 0, n, [.int .i64 g]⟩, ⟨some 1, 1, [.int .i64 W]⟩]
def frH0 : Hp := hpT (frTs n g W) [] []
def frFn : A := .one (.fn 56 [(1, 0, 1, 0)])
def frArgs : List A := [gridA n 1 n, int n, int 1, frFn]
def frB : St := baseB 33 (frArgs n) (frH0 n g W)
def frN (env : List (Nat × A)) (news : List Blk) : St := stN 33 (envL env) (bsS (frTs n g W) []) [] news
noncomputable def frO : Tree ((X × St) ⊕ (List Bool × St)) := evOr (reFr lv sm) (bodyOf Tryz.f55) [4, 7, 8, 9, 16] [8] (frB n g W)
noncomputable def frPath : List Bool := pathR (bodyOf Tryz.f55) 0
noncomputable def frCo : Code := nthRng (bodyOf Tryz.f55) frPath
def frE : List (Nat × A) := [(4, pt 2), (7, pt 3), (8, pt 4), (9, pt 5), (16, .one (.fn 97 [(6, 0, 1, 0)]))]
def frW (F : Nat → Int) : List Blk := [⟨false, 104, .flat [ci n, ci 1, slC false 0 1 n]⟩, ⟨false, 109, .flat [.fn 56 [(1, 0, 1, 0)]]⟩, ⟨false, 104, .flat [ci 0, ci 0, nilC]⟩, ⟨false, 104, .flat (ptO n 1 7 n)⟩, ⟨false, 104, .flat (ptO n 1 7 n)⟩, ⟨false, 3, .rows n [.int .i64 F]⟩]
def frH (F : Nat → Int) : St := frN n g W frE (frW n F)
noncomputable def frR (F : Nat → Int) (k : Nat) : Tree (X × St) := linT (reFr lv sm) (rngA frCo) (rngB frCo) [4, 7, 8, 9, 16] (frB n g W) (midP (frH n g W F) 17 18 (k : Int))
noncomputable def frP (q : X × St) : Tree ((X × St) ⊕ (List Bool × St)) := evOr2 (reFr lv sm) true (bodyOf Tryz.f55) frPath [] [8] (frB n g W) q
def frI (k : Nat) : Int := IntKind.i64.wrap (IntKind.i64.wrap (0 * (n : Int)) + IntKind.i64.wrap (IntKind.i64.wrap (W 0 - 1) - (k : Int)))
def frS (F : Nat → Int) (k : Nat) : SkX := .nn (.need (decide (0 ≤ frI n W k) && decide (frI n W k < (n : Int))) (.need (Nat.blt (0 + (frI n W k).toNat) n) (.need (kB n k) (.need (Nat.blt (ixN k) n) (.leaf (.normal, frH n g W (putF F (ixN k) (g (0 + (frI n W k).toNat)))))))))
theorem frR_into (F : Nat → Int) (k : Nat) : frR lv sm n g W F k = into (frR lv sm n g W F k) (frS n g W F k) := by kernel_rfl
theorem frR_fits (F : Nat → Int) (k : Nat) : fits (frR lv sm n g W F k) (frS n g W F k) = true := by kernel_rfl
def frM (F : Nat → Int) : List Blk := [⟨false, 104, .flat (ptO n 1 3 n)⟩, ⟨false, 3, .rows n [.int .i64 F]⟩]
def frD (F : Nat → Int) : St := frN n g W [(8, pt 2)] (frM n F)
theorem frP_is (F : Nat → Int) : frP lv sm n g W (.normal, frH n g W F) = .leaf (.inl (.ret, frD n g W F)) := by kernel_rfl
def frS0 : SkO := .nn (.need (mapOk n 1 (Int.toNat n)) (.leaf (.inr ([true, true, false, true], frH n g W fun _ => 0))))
theorem frO_into : frO lv sm n g W = into (frO lv sm n g W) (frS0 n g W) := by kernel_rfl
theorem frO_fits : fits (frO lv sm n g W) (frS0 n g W) = true := by kernel_rfl
theorem fr_left (F : Nat → Int) : Left2 Tryz.prog Tryz.f55 (frH0 n g W) (.agg (ptO n 1 3 n)) (hpT (frTs n g W) [] (frM n F)) (.ret, frD n g W F) := left_of (b := false) (by kernel_rfl)
end
theorem frPath_eq : frPath = [true, true, false, true] := by kernel_rfl
theorem frCo_eq : frCo = .rangeFunc (.tmp 16) #[17, 18] (rngA frCo) (rngB frCo) := by kernel_rfl
def frF (n : Nat) (g : Nat → Int) : Nat → Nat → Int
 | 0 => fun _ => 0
 | k + 1 => putF (frF n g k) k (g (n - 1 - k))
theorem frF_at {n : Nat} {g : Nat → Int} : ∀ {k i : Nat}, i < k → frF n g k i = g (n - 1 - i)
 | 0, _, h => by omega
 | k + 1, i, h => by
  unfold frF
  by_cases e : i = k
  ·subst e; exact putF_same _ _ _
  ·rw [putF_other _ _ e]; exact frF_at (by omega)
theorem fr_call {n : Nat} {g W : Nat → Int} (h0 : 0 < n) (h1 : n ≤ 64) (hW : W 0 = n) : CallAt Tryz.prog 55 (frArgs n) (frH0 n g W) (.agg (ptO n 1 3 n)) (hpT (frTs n g W) [] (frM n (frF n g n))) := by
 refine call_baseRS reFr_ok (c := bodyOf Tryz.f55) (fn := Tryz.f55) Tryz.func55 (by kernel_rfl) (by kernel_rfl) (false, false) 1 [4, 7, 8, 9, 16] [8] (sB := frB n g W) (by kernel_rfl) (t := frO levQ smpQ n g W) (by delta frO; rfl) (frO_into levQ smpQ n g W) (frO_fits levQ smpQ n g W) ?_
 have hl : ComesF Tryz.prog frCo (frB n g W) (frH n g W fun _ => 0) fun q => q = (.normal, frH n g W (frF n g n)) := by
  rw [frCo_eq]
  refine comesF_places (rec := reFr levQ smpQ) reFr_ok (sB := frB n g W) rfl rfl 16 17 18 _ _ 6 104 (.sl true 7 0 1 0 n) n h0 (by omega) [4, 7, 8, 9, 16] (by decide) (by decide) (by show 17 < 33; decide) (by decide) (by show 18 < 33; decide) (by decide)
   (fun k => frH n g W (frF n g k)) _ (fun k _ => by kernel_rfl) (fun k _ => by kernel_rfl) (fun k hk => ?_) rfl
  have hT : frR levQ smpQ n g W (frF n g k) k = linT (reFr levQ smpQ) (rngA frCo) (rngB frCo) [4, 7, 8, 9, 16] (frB n g W) (midP (frH n g W (frF n g k)) 17 18 (k : Int)) := by delta frR; rfl
  rw [← hT]
  obtain ⟨_, e2, e3⟩ := rnd_lt hk
  have hi : frI n W k = ((n - 1 - k : Nat) : Int) := by
   unfold frI
   rw [hW, Int.zero_mul, wrap_id (n := (0 : Int)) (by omega) (by omega), wrap_id (n := (n : Int) - 1) (by omega) (by omega), wrap_id (n := (n : Int) - 1 - k) (by omega) (by omega), wrap_id (by omega) (by omega)]
   omega
  refine all_into (frR_into _ _ _ _ _ _ _) (frR_fits _ _ _ _ _ _ _) (SkLeads.all ?_)
  unfold frS
  rw [hi, idx_nat, show ixN k = k from idx_nat k]
  refine sk_nn (sk_need ?_ (sk_need ?_ (sk_need e2 (sk_need ?_ (sk_leaf (St.Le.refl _))))))
  ·simp only [Bool.and_eq_true, decide_eq_true_eq]; omega
  ·rw [Nat.blt_eq]; omega
  ·rw [Nat.blt_eq]; exact hk
 unfold frCo at hl
 rw [frPath_eq] at hl
 refine sk_nn (sk_need ?_ (sk_stopR _ true [] [8] hl fun q hq => ?_))
 ·rw [Int.toNat_natCast]
  unfold mapOk
  simp only [Bool.and_eq_true, decide_eq_true_eq, Nat.blt_eq, Nat.ble_eq]
  exact ⟨trivial, trivial, h0, h1⟩
 ·subst hq
  refine leads_leaf (T := frP levQ smpQ n g W (.normal, frH n g W (frF n g n))) ?_ (frP_is levQ smpQ n g W (frF n g n)) (cutR_dn (fr_left n g W (frF n g n)))
  delta frP
  rw [frPath_eq]
def frF' (n : Nat) (g : Nat → Int) : Nat → Int := frF n g n
def frGo (fr : Nat → (Nat → Int) → Nat → Int) (h : Hp) (id jd n : Nat) (g : Nat → Int) : Tree (A × Hp) := .leaf (mapA (upN [id, jd] h.next) (.agg (ptO n 1 3 n)), layH (upN [id, jd] h.next) h (frM n (fr n g)))
def frBs (n : Nat) (g : Nat → Int) : List Blk := [⟨true, 0, .rows n [.int .i64 g]⟩, ⟨true, 0, .rows 1 [.int .i64 (putF (fun _ => 0) 0 (n : Int))]⟩]
theorem fr_small {n : Nat} {g : Nat → Int} (h0 : 0 < n) (h1 : n ≤ 64) : CallAt Tryz.prog 55 (frArgs n) (hpL (frBs n g) []) (.agg (ptO n 1 3 n)) (hpN (frBs n g) [] (frM n (frF' n g))) := by
 have hc := fr_call (g := g) (W := putF (fun _ => 0) 0 (n : Int)) h0 h1 (putF_same _ _ _)
 have e1 : frH0 n g (putF (fun _ => 0) 0 (n : Int)) = hpL (frBs n g) [] := by kernel_rfl
 have e2 : hpT (frTs n g (putF (fun _ => 0) 0 (n : Int))) [] (frM n (frF n g n)) = hpN (frBs n g) [] (frM n (frF' n g)) := by kernel_rfl
 rw [e1, e2] at hc
 exact hc
def frSp (fr : Nat → (Nat → Int) → Nat → Int) : Spec := fun args h => match args with
 | [.agg [.lit (.int .i64 w), .lit (.int .i64 b), .sl _ id 0 1 0 n], .one (.lit (.int .i64 w')), .one (.lit (.int .i64 b')), .one (.fn f [(jd, 0, 1, 0)])] => match Nat.beq f 56, h.blk id, h.blk jd with
  | true, some ⟨_, _, .rows n' [.int .i64 g]⟩, some ⟨_, _, .flat (.lit (.int .i64 m) :: _)⟩ => .need (mapOk w b n && (mapOk w' b' n && (decide (m = n) && (Nat.ble n n' && Nat.ble (h.next + 2) lim)))) (frGo fr h id jd n g)
  | _, _, _ => .fail 740
 | _ => .fail 741
theorem ptr_of {E E' : Env} {id j : Nat} (h : E' j = E id) {x : Value} (hx : ptrIs E (id, 0, 1, 0) x) : ptrIs E' (j, 0, 1, 0) x := by
 obtain ⟨b, s, he, hv⟩ := hx
 exact ⟨b, s, h.trans he, hv⟩
theorem frSp_ok : SpecOk Tryz.prog 55 (frSp frF') := by
 intro args h v h' hr E w vals rh hargs
 unfold frSp at hr
 split at hr
 ·rename_i a b own id n w' b' f jd
  split at hr
  ·rename_i ro e n' g ro2 e2 m rest hf hb hb2
   obtain rfl := Nat.eq_of_beq_eq_true hf
   obtain ⟨hnd, hr2⟩ := Tree.need_some hr
   simp only [Bool.and_eq_true, decide_eq_true_eq] at hnd
   obtain ⟨hm1, hm2, rfl, hn, hroom⟩ := hnd
   obtain ⟨rfl, rfl, h0, h1⟩ := mapOk_iff hm1
   obtain ⟨rfl, rfl, _, _⟩ := mapOk_iff hm2
   have hn := Nat.le_of_ble_eq_true hn
   have hroom := Nat.le_of_ble_eq_true hroom
   unfold frGo at hr2
   simp only [Tree.run, Option.some.injEq, Prod.mk.injEq] at hr2
   obtain ⟨rfl, rfl⟩ := hr2
   have hput : putRows 1 0 [.int .i64 fun _ => 0] (ci n :: rest) = some [.int .i64 (putF (fun _ => 0) 0 (n : Int))] := rfl
   match vals, hargs with
   | [p, q, q2, c], ⟨hp, ⟨hq, _⟩, ⟨hq2, _⟩, hc, _⟩ =>
    subst hq; subst hq2
    obtain ⟨vs, rfl, hvs⟩ := hc
    obtain ⟨ps, rfl, hps⟩ := hp
    match vs, hvs, ps, hps with
    | [u], ⟨hu, _⟩, [p1, p2, p3], ⟨⟨h4, _⟩, ⟨h5, _⟩, h6, _⟩ =>
     subst h4; subst h5
     have hE0 : subEnv E [id, jd] 0 = E id := rfl
     have hE1 : subEnv E [id, jd] 1 = E jd := rfl
     have hc := fr_small (g := g) h0 h1
     have hnews : ∀ b ∈ frM n (frF' n g), b.body.isMap = false := fun b hb => by
      rcases List.mem_cons.1 hb with rfl | hb
      ·rfl
      ·obtain rfl := List.mem_singleton.1 hb
       rfl
     have hbs : ∀ i k b1, nth [id, jd] i = some k → nth (frBs n g) i = some b1 → ∃ b, h.blk k = some b ∧ SubV b b1 := fun i k b1 hi hb1 => by
      match i, hi, hb1 with
      | 0, hi, hb1 =>
       have hb1 : some (⟨true, 0, .rows n [.int .i64 g]⟩ : Blk) = some b1 := hb1
       injection hi with hi; injection hb1 with hb1; subst hi; subst hb1; exact ⟨_, hb, subV_rows hn⟩
      | 1, hi, hb1 =>
       have hb1 : some (⟨true, 0, .rows 1 [.int .i64 (putF (fun _ => 0) 0 (n : Int))]⟩ : Blk) = some b1 := hb1
       injection hi with hi; injection hb1 with hb1; subst hi; subst hb1; exact ⟨_, hb2, subV_flatRows hput⟩
      | i + 2, hi, _ => cases hi
     have hargs' : All2 (A.Is (subEnv E [id, jd])) (frArgs n) [.agg [.int .i64 n, .int .i64 1, p3].toArray, .int .i64 n, .int .i64 1, .func (.func 56) #[] [u].toArray] := by
      refine ⟨⟨[.int .i64 n, .int .i64 1, p3], rfl, ⟨rfl, rfl⟩, ⟨rfl, rfl⟩, ?_, trivial⟩, ⟨rfl, rfl⟩, ⟨rfl, rfl⟩, ⟨[u], rfl, ⟨ptr_of hE1 hu, trivial⟩⟩, trivial⟩
      rcases h6 with ⟨b0, s, o, cap, he, r1, r2, r3, r4, _⟩ | ⟨_, r1, r2⟩
      ·exact .inl ⟨b0, s, o, cap, hE0.trans he, r1, r2, r3, r4, fun e => by cases e⟩
      ·exact .inr ⟨rfl, r1, r2⟩
     have hl := lift_new hc hnews rh (ids := [id, jd]) rfl (show (frBs n g).length + (frM n (frF' n g)).length ≤ lim from (by decide : 2 + 2 ≤ lim)) hroom hbs (fun g i hg => by cases hg) hargs'
     exact hl
  ·cases hr
 ·cases hr
end Go.Ev
