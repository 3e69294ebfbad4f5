/- SunCones returns true at every input. Conditions: the two variables that awake() reads hold what they are laid with. -/
import Derived.Test.YtfdfpfojiilcgaaGreatDoorAwake
import Derived.Test.YtfdfpfojiilcgaaGreatDoorLaw1
namespace Go.Ev
open Go Go.Proofs

/-! ### awake as an entry of a table -/
def hasG (h : Hp) : Option (Nat × Nat × TypeId × TypeId) := match lookupN h.globs 0, lookupN h.globs 2 with
  | some i, some j => match h.blk i, h.blk j with
    | some ⟨true, t1, .flat cs1⟩, some ⟨true, t2, .flat cs2⟩ => match isTabC .i64 cs1 [1, 0, 0, 0, 0, 1] && (isTabC .u64 cs2 Lib.pow10Tab && !(Nat.beq i j)) with
      | true => some (i, j, t1, t2)
      | false => none
    | _, _ => none
  | _, _ => none
def specAwake : Spec := fun args h => match args, hasG h with
  | [], some _ => .leaf (boo true, h)
  | _, _ => .fail 340
theorem isTabC_eq {k : IntKind} : ∀ {cs : List C} {zs : List Int}, isTabC k cs zs = true → cs = zs.map fun z => .lit (.int k z)
  | [], [], _ => rfl
  | [], _ :: _, h => by cases h
  | c :: cs, [], h => by
    unfold isTabC at h
    split at h
    · rename_i e _; cases e
    · rename_i e; cases e
    · cases h
  | c :: cs, z :: zs, h => by
    unfold isTabC at h
    split at h
    · rename_i e; cases e
    · rename_i k' a cs' z' zs' e1 e2
      obtain ⟨rfl, rfl⟩ := List.cons.inj e1
      obtain ⟨rfl, rfl⟩ := List.cons.inj e2
      split at h
      · rename_i hc
        simp only [Bool.and_eq_true, decide_eq_true_eq] at hc
        obtain ⟨rfl, rfl⟩ := hc
        rw [isTabC_eq h]; rfl
      · cases h
    · cases h
theorem sub_ro {et : TypeId} {k : IntKind} {zs : List Int} : Sub ⟨true, et, .flat (zs.map fun z => .lit (.int k z))⟩ ⟨true, et, .flat (zs.map fun z => .lit (.int k z))⟩ := by
  refine ⟨rfl, rfl, fun E E' arr h i c hc => ?_, fun _ cs1 e => ⟨_, rfl, by injection e with e; rw [e]⟩⟩
  obtain ⟨x, hx, hi⟩ := h i c hc
  refine ⟨x, hx, hi.noId ?_⟩
  rw [nth_eq, List.getElem?_map] at hc
  cases hl : zs[i]? with
  | none => rw [hl] at hc; cases hc
  | some z => rw [hl] at hc; injection hc with hc; subst hc; rfl
/-- what holds at the small memory with the two variables holds at a memory that has them -/
theorem lift_g {f : FuncId} {args : List A} {v : A} (hc : ∀ e1 e2, CallAt Tryz.prog f args (hpG e1 e2) v (hpG e1 e2)) (hv : v.noId = true) (ha : args.all A.noId = true) {E : Env} {h : Hp} {w : World} {vals : List Value} (rh : RH E h w) (hargs : All2 (A.Is E) args vals) {x : Nat × Nat × TypeId × TypeId} (hg : hasG h = some x) :
    Calls Tryz.prog f vals.toArray w fun e w' => ∃ x E', e = .returned x ∧ v.Is E' x ∧ Stp E h w E' h w' := by
  unfold hasG at hg
  split at hg
  · rename_i i j h1 h2
    split at hg
    · rename_i t1 cs1 t2 cs2 hb1 hb2
      split at hg
      · rename_i hc3
        rw [Bool.and_eq_true, Bool.and_eq_true] at hc3
        have e1 := isTabC_eq hc3.1
        have e2 := isTabC_eq hc3.2.1
        subst e1; subst e2
        have hne : i ≠ j := fun e => by have := hc3.2.2; rw [e] at this; simp at this
        refine lift_sub (ids := [i, j]) (hc t1 t2) hv rh rfl (by simp [lim]) (by simp [hne]) (fun k id b1 hk hb => ?_) (fun g k hg => ?_) (all_noId hargs ha)
        · match k, hk, hb with
          | 0, hk, hb =>
            injection hk with hk; subst hk
            injection hb with hb; subst hb
            exact ⟨_, hb1, sub_ro⟩
          | 1, hk, hb =>
            injection hk with hk; subst hk
            injection hb with hb; subst hb
            exact ⟨_, hb2, sub_ro⟩
          | k + 2, hk, hb => cases hk
        · unfold lookupN at hg
          split at hg
          · rename_i e
            obtain rfl := Nat.eq_of_beq_eq_true e
            injection hg with hg; subst hg
            exact ⟨i, rfl, h1⟩
          · unfold lookupN at hg
            split at hg
            · rename_i e
              obtain rfl := Nat.eq_of_beq_eq_true e
              injection hg with hg; subst hg
              exact ⟨j, rfl, h2⟩
            · cases hg
      · cases hg
    · cases hg
  · cases hg
theorem specAwake_ok : SpecOk Tryz.prog 20 specAwake := by
  intro args h v h' hr E w vals rh hargs
  unfold specAwake at hr
  split at hr
  · rename_i x hg
    simp only [Tree.run, Option.some.injEq, Prod.mk.injEq] at hr
    obtain ⟨rfl, rfl⟩ := hr
    exact lift_g (fun e1 e2 E w vals rh ha => (fun_ok tb_meets_ok noOwn mixed 1000 _ _ _ _ _ (awake_run e1 e2) E w vals rh ha).1 (by decide)) rfl rfl rh hargs hg
  · cases hr
def tbA : List (FuncId × Spec) := (20, specAwake) :: tb_meets
theorem tbA_ok : TabOk Tryz.prog (tabOf tbA) := tab_cons tb_meets_ok specAwake_ok

/-! ### SunCones -/
section
variable (x y z num den ax ay az bx b2 bz : Int)
def coOne : Int := firstZ [qconeErr x y z num den, qrayErr ax ay az]
def coTwo : Int := firstZ [qconeErr x y z num den, firstZ [qrayErr ax ay az, qrayErr bx b2 bz]]
def coIs : Bool := !(firstZ [coneErr x y z num den, rayErr ax ay az] != 0) && insW x y z num den ax ay az
def coMeets : Bool := !(meetErr x y z num den ax ay az bx b2 bz != 0) && (!(turnErr x y z ax ay az bx b2 bz != 0) && (insW x y z num den ax ay az || (insW x y z num den bx b2 bz || btwW x y z num den ax ay az bx b2 bz)))
def coErr : Int := match meetErr x y z num den ax ay az bx b2 bz != 0 with | true => meetErr x y z num den ax ay az bx b2 bz | false => turnErr x y z ax ay az bx b2 bz
def coT4 (i : Bool) (t : Int) (m : Bool) : Tree Bool :=
  .node (coneErr x y z num den == qconeErr x y z num den) (.node (coIs x y z num den ax ay az == i) (.node (firstZ [coneErr x y z num den, rayErr ax ay az] == coOne x y z num den ax ay az)
    (.node (coMeets x y z num den ax ay az bx b2 bz == m) (.node (coErr x y z num den ax ay az bx b2 bz == t) (.leaf true) (.leaf false)) (.leaf false)) (.leaf false)) (.leaf false)) (.leaf false)
def coT3 (i : Bool) (t : Int) : Tree Bool := .node (t == 0) (.need (in3 ax ay az && in3 bx b2 bz) (coT4 x y z num den ax ay az bx b2 bz i t (qmeet x y z num den ax ay az bx b2 bz))) (coT4 x y z num den ax ay az bx b2 bz i t false)
def coT2 (i : Bool) : Tree Bool := .node (coTwo x y z num den ax ay az bx b2 bz == 0) (.need (in3 ax ay az && in3 bx b2 bz) (coT3 x y z num den ax ay az bx b2 bz i (qturnErr x y z ax ay az bx b2 bz))) (coT3 x y z num den ax ay az bx b2 bz i (coTwo x y z num den ax ay az bx b2 bz))
def coT1 : Tree Bool := .node (coOne x y z num den ax ay az == 0) (coT2 x y z num den ax ay az bx b2 bz (insW x y z num den ax ay az)) (coT2 x y z num den ax ay az bx b2 bz false)
end
def six (t : Tree Bool) : Tree Bool := .amb (.amb (.amb (.amb (.amb t t) t) t) t) t
theorem six_ok {t : Tree Bool} (h : t.goes id = true) : (six t).goes id = true := by simp only [six, Tree.goes, h]
theorem cones_tree (e1 e2 : TypeId) (x y z num den ax ay az bx b2 bz : Int) : (preM Tryz.prog (tabOf tbA) Tryz.f3 [.agg ([x, y, z, num, den].map ci), vec ax ay az, vec bx b2 bz] (hpG e1 e2) (false, true)).goes isTrue =
    (six (coT1 x y z num den ax ay az bx b2 bz)).goes id := by kernel_rfl
theorem cones_law (x y z num den ax ay az bx b2 bz : Int) : (coT1 x y z num den ax ay az bx b2 bz).goes id = true := by
  have hone : firstZ [coneErr x y z num den, rayErr ax ay az] = coOne x y z num den ax ay az := by unfold coOne; rw [cone_eq, ray_eq]
  have htwo : meetErr x y z num den ax ay az bx b2 bz = coTwo x y z num den ax ay az bx b2 bz := by
    unfold meetErr coTwo
    rw [cone_eq, ray_eq, ray_eq]
    simp only [firstZ]
    cases (qconeErr x y z num den != 0) with
    | true => rfl
    | false =>
      cases ha : (qrayErr ax ay az != 0) with
      | true => simp only [ha]
      | false =>
        cases hb : (qrayErr bx b2 bz != 0) with
        | true => simp only [hb]
        | false => rfl
  -- the last step, where all is told
  have t4 : ∀ (i : Bool) (t : Int) (m : Bool), coIs x y z num den ax ay az = i → coMeets x y z num den ax ay az bx b2 bz = m → coErr x y z num den ax ay az bx b2 bz = t → (coT4 x y z num den ax ay az bx b2 bz i t m).goes id = true := fun i t m hi hm ht => by
    unfold coT4
    rw [hone, hi, hm, ht, cone_eq]
    simp only [beq_self_eq_true, Tree.goes, id]
  have t2 : ∀ i : Bool, coIs x y z num den ax ay az = i → (coT2 x y z num den ax ay az bx b2 bz i).goes id = true := fun i hi => by
    unfold coT2
    cases h2 : coTwo x y z num den ax ay az bx b2 bz == 0 with
    | false =>
      have h2' : ¬ coTwo x y z num den ax ay az bx b2 bz = 0 := by simpa using h2
      simp only [Tree.goes]
      unfold coT3
      rw [h2]
      simp only [Tree.goes]
      have hb : (coTwo x y z num den ax ay az bx b2 bz != 0) = true := by simpa using h2'
      refine t4 i _ false hi ?_ ?_
      · unfold coMeets; rw [htwo, hb]; rfl
      · unfold coErr; rw [htwo, hb]
    | true =>
      have h2' : coTwo x y z num den ax ay az bx b2 bz = 0 := by simpa using h2
      have hz := h2'
      unfold coTwo at hz
      rw [firstZ_zero] at hz
      simp only [List.mem_cons, List.not_mem_nil, or_false, forall_eq_or_imp, forall_eq, firstZ_zero] at hz
      obtain ⟨hc, ha, hb⟩ := hz
      rw [← ray_eq, ray_zero] at ha hb
      rw [← cone_eq] at hc
      unfold coneErr at hc
      rw [firstZ_zero] at hc
      have hx : Ray x y z := ray_zero.1 (hc _ (by simp))
      have hx' := hx.1.mono (show 4096 ≤ 1048576 by decide)
      have hA := ha.1.mono (show 4096 ≤ 1048576 by decide)
      have hB := hb.1.mono (show 4096 ≤ 1048576 by decide)
      have hin : (in3 ax ay az && in3 bx b2 bz) = true := by rw [ha.in3, hb.in3]; rfl
      have hte := turn_eq hx' ha.2 hb.2 hA hB
      have hm0 : (meetErr x y z num den ax ay az bx b2 bz != 0) = false := by rw [htwo, h2']; rfl
      have herr : coErr x y z num den ax ay az bx b2 bz = turnErr x y z ax ay az bx b2 bz := by unfold coErr; rw [hm0]
      simp only [Tree.goes, hin]
      unfold coT3
      rw [← hte]
      cases h3 : turnErr x y z ax ay az bx b2 bz == 0 with
      | false =>
        have h3' : (turnErr x y z ax ay az bx b2 bz != 0) = true := by rw [bne, h3]; rfl
        simp only [Tree.goes]
        refine t4 i _ false hi ?_ herr
        unfold coMeets; rw [hm0, h3']; rfl
      | true =>
        have h3' : turnErr x y z ax ay az bx b2 bz = 0 := by simpa using h3
        simp only [Tree.goes, hin]
        refine t4 i _ _ hi ?_ herr
        unfold coMeets
        rw [hm0, h3', meet_eq hx' ha.2 hb.2 hA hB h3']
        rfl
  unfold coT1
  cases h1 : coOne x y z num den ax ay az == 0 with
  | true =>
    have h1' : coOne x y z num den ax ay az = 0 := by simpa using h1
    simp only [Tree.goes]
    refine t2 _ ?_
    unfold coIs
    rw [hone, h1']; rfl
  | false =>
    have h1' : (coOne x y z num den ax ay az != 0) = true := by rw [bne, h1]; rfl
    simp only [Tree.goes]
    refine t2 _ ?_
    unfold coIs
    rw [hone, h1']; rfl
theorem cones_call (e1 e2 : TypeId) (x y z num den ax ay az bx b2 bz : Int) : CallAt Tryz.prog 3 [.agg ([x, y, z, num, den].map ci), vec ax ay az, vec bx b2 bz] (hpG e1 e2) (boo true) (hpG e1 e2) :=
  call_goes tbA_ok Tryz.func3 (by kernel_rfl) (false, true) (by kernel_rfl) (by rw [cones_tree]; exact six_ok (cones_law x y z num den ax ay az bx b2 bz))
end Go.Ev
