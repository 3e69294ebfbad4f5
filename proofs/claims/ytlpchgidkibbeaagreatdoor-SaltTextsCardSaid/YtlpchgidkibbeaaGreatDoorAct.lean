/- Entries that lean on the variable acts; steps checked. Conditions: as the entries say. -/
import Derived.Test.YtlpchgidkibbeaaGreatDoorKind
namespace Go.Ev
open Go Go.Proofs

/-- a call's word at the memory that holds acts alone, at any memory that holds it -/
theorem lift_acts {P : Program} {f : FuncId} {args : List A} {v : A} (hc : CallAt P f args hpK v hpK) (hv : v.noId = true) (ha : args.all A.noId = true) {E : Env} {h : Hp} {w : World} {vals : List Value} (hacts : actsAt h = true) (rh : RH E h w) (hargs : All2 (A.Is E) args vals) :
    Calls P f vals.toArray w fun e w' => ∃ x E', e = .returned x ∧ v.Is E' x ∧ Stp E h w E' h w' := by
  unfold actsAt at hacts
  split at hacts
  · rename_i id hg
    split at hacts
    · rename_i et cs' hb
      obtain rfl := eqDs_eq hacts
      refine lift_sub (ids := [id]) hc hv rh rfl (by decide) (by simp) (fun k id' b1 hk hb1 => ?_) (fun g k hgk => ?_) (all_noId hargs ha)
      · cases k with
        | zero =>
          simp only [nth, Option.some.injEq] at hk hb1
          subst hk; subst hb1
          exact ⟨_, hb, sub_acts2⟩
        | succ k => simp [nth] at hk
      · unfold lookupN at hgk
        split at hgk
        · rename_i e
          have := Nat.eq_of_beq_eq_true e
          subst this
          simp only [Option.some.injEq] at hgk
          subst hgk
          exact ⟨id, rfl, hg⟩
        · cases hgk
    · cases hacts
  · cases hacts
theorem encA_noId : ∀ (sh : List Sh) (l : List Int) (m : List Bool) (n : List ByteArray), (encA sh l m n).all A.noId = true := by
  have nl : ∀ l : List Int, noIds (l.map ci) = true := fun l => by
    induction l with
    | nil => rfl
    | cons a l ih => exact ih
  intro sh
  induction sh with
  | nil => intro l m n; rfl
  | cons x0 sh ih =>
    intro l m n
    cases x0 with
    | i => simp only [encA, List.all_cons, Bool.and_eq_true]; exact ⟨rfl, ih _ _ _⟩
    | b => simp only [encA, List.all_cons, Bool.and_eq_true]; exact ⟨rfl, ih _ _ _⟩
    | s => simp only [encA, List.all_cons, Bool.and_eq_true]; exact ⟨rfl, ih _ _ _⟩
    | v k => simp only [encA, List.all_cons, Bool.and_eq_true]; exact ⟨nl _, ih _ _ _⟩
    | sv k => simp only [encA, List.all_cons, Bool.and_eq_true]; exact ⟨nl _, ih _ _ _⟩
def specG (sh : List Sh) (ok : List Int → List Bool → List ByteArray → Bool) (F : List Int → List Bool → List ByteArray → A) : Spec := fun args h => match decA sh args, actsAt h with
  | some (l, m, n), true => .need (ok l m n) (.leaf (F l m n, h))
  | _, _ => .fail 332
theorem specG_ok {P : Program} {f : FuncId} {sh : List Sh} {ok : List Int → List Bool → List ByteArray → Bool} {F : List Int → List Bool → List ByteArray → A} (hv : ∀ l m n, (F l m n).noId = true)
    (hc : ∀ l m n, l.length = lenI sh → m.length = lenB sh → n.length = lenS sh → ok l m n = true → CallAt P f (encA sh l m n) hpK (F l m n) hpK) : SpecOk P f (specG sh ok F) := by
  intro args h v h' hr E w vals rh hargs
  unfold specG at hr
  split at hr
  · rename_i l m n hd hacts
    obtain ⟨hok, hr⟩ := Tree.need_some hr
    simp only [Tree.run, Option.some.injEq, Prod.mk.injEq] at hr
    obtain ⟨rfl, rfl⟩ := hr
    obtain ⟨rfl, h2, h3, h4⟩ := dec_enc hd
    exact lift_acts (hc l m n h2 h3 h4 hok) (hv l m n) (encA_noId sh l m n) hacts rh hargs
  · cases hr

def tb_kind : List (FuncId × Spec) := (129, specKind) :: tb_recv
theorem tb_kind_ok : TabOk Tryz.prog (tabOf tb_kind) := tab_cons tb_recv_ok specKind_ok
def isAct (s : ByteArray) : Bool := (sWait.toList == s.toList) || ((sFill.toList == s.toList) || ((sDrain.toList == s.toList) || ((sStart.toList == s.toList) || (sStop.toList == s.toList))))
def stepErr (c light flow : Int) (s : ByteArray) : Int := firstZ [errIf (!isAct s) 13, wW light 0 1000000, wW flow 0 c]
def chkV : List Int → List Bool → List ByteArray → A
  | [c, _, _, _, _, _, light, flow], [], [s] => int (stepErr c light flow s)
  | _, _, _ => int 0
theorem chk_run (c l f r h k light flow : Int) (s : ByteArray) : (evFun Tryz.prog (tabOf tb_kind) modes 100 121 (encA [.v 6, .sv 2] [c, l, f, r, h, k, light, flow] [] [s]) hpK).run = some (int (stepErr c light flow s), hpK) := by
  have hh : (evFun Tryz.prog (tabOf tb_kind) modes 100 121 (encA [.v 6, .sv 2] [c, l, f, r, h, k, light, flow] [] [s]) hpK).run =
    (Tree.node (sWait.toList == s.toList) (.leaf (int (firstZ [errIf false 13, wW light 0 1000000, wW flow 0 c]), hpK)) (.node (sFill.toList == s.toList) (.leaf (int (firstZ [errIf false 13, wW light 0 1000000, wW flow 0 c]), hpK)) (.node (sDrain.toList == s.toList) (.leaf (int (firstZ [errIf false 13, wW light 0 1000000, wW flow 0 c]), hpK)) (.node (sStart.toList == s.toList) (.leaf (int (firstZ [errIf false 13, wW light 0 1000000, wW flow 0 c]), hpK)) (.node (sStop.toList == s.toList) (.leaf (int (firstZ [errIf false 13, wW light 0 1000000, wW flow 0 c]), hpK)) (.leaf (int (firstZ [errIf true 13, wW light 0 1000000, wW flow 0 c]), hpK))))))).run := by kernel_rfl
  rw [hh]
  unfold stepErr isAct
  cases sWait.toList == s.toList <;> cases sFill.toList == s.toList <;> cases sDrain.toList == s.toList <;> cases sStart.toList == s.toList <;> cases sStop.toList == s.toList <;> rfl
theorem chk_ok : SpecOk Tryz.prog 121 (specG [.v 6, .sv 2] (fun _ _ _ => true) chkV) := specG_ok (fun l m n => by unfold chkV; split <;> rfl) fun l m n hl hm hn _ => match l, m, n, hl, hm, hn with
  | [c, l, f, r, h, k, light, flow], [], [s], _, _, _ => call_ev tb_kind_ok (chk_run c l f r h k light flow s)
def tb_chk : List (FuncId × Spec) := (121, specG [.v 6, .sv 2] (fun _ _ _ => true) chkV) :: tb_kind
theorem tb_chk_ok : TabOk Tryz.prog (tabOf tb_chk) := tab_cons tb_kind_ok chk_ok
end Go.Ev
