/- SaltParts: states of the law's loops. Conditions: none. -/
import Derived.Test.YtlpchgidkibbeaaGreatDoorStrE
import Derived.Test.YtlpchgidkibbeaaGreatDoorPLaw
import Derived.Test.YtlpchgidkibbeaaGreatDoorMapR
namespace Go.Ev
open Go Go.Proofs
set_option maxRecDepth 100000

/-! ### what is handed back for an empty list, nil or a row of the call's own -/
def zSp (v : A) : Spec := fun args h => match args with
  | [.one (.lit (.slice none 0 0))] => .leaf (v, h)
  | [.one (.sl true id 0 1 0 n)] => match h.blk id with
    | some b => .need (!b.body.isMap && Nat.beq n 0) (.leaf (v, h))
    | none => .fail 418
  | _ => .fail 418
def zBl : Blk := ⟨true, 0, .rows 0 [.int .i64 fun _ => 0]⟩
theorem zBl_sub {b : Blk} (hm : b.body.isMap = false) : SubV b zBl := by
  refine ⟨rfl, fun E E' w p h => ?_⟩
  obtain ⟨arr, fz, ⟨t, h1, _⟩, h2, _, _⟩ := h.cells hm
  exact .inl ⟨arr, fz, ⟨t, h1, fun e => by cases e⟩, h2, ⟨fun e => (by cases e), fun k j c hk hj => absurd hk (Nat.not_lt_zero k)⟩, fun cs e => by cases e⟩
theorem zSp_ok {P : Program} {f : FuncId} {v : A} (h1 : CallAt P f [nilA] (hpL [] []) v (hpL [] [])) (h2 : CallAt P f [slO 0 1 0] (hpL [zBl] []) v (hpL [zBl] [])) (hv : ∀ φ, mapA φ v = v) : SpecOk P f (zSp v) := by
  intro args h v' h' hr E w vals rh hargs
  unfold zSp at hr
  split at hr
  · simp only [Tree.run, Option.some.injEq, Prod.mk.injEq] at hr
    obtain ⟨rfl, rfl⟩ := hr
    have := lift_new (bs := []) (news := []) (globs := []) h1 (fun b hb => by cases hb) rh (ids := []) rfl (Nat.zero_le _) rh.nlim (fun i id b1 hi _ => by cases i <;> cases hi) (fun g i hi => by cases hi) (vals := vals) (by
      match vals, hargs with
      | [x], hx => exact ⟨hx.1, trivial⟩)
    refine this.mono ?_
    rintro e w' ⟨x, E', he, hx, hst⟩
    rw [hv] at hx
    exact ⟨x, E', he, hx, hst⟩
  · rename_i id n
    split at hr
    · rename_i b hb
      obtain ⟨hc, hr⟩ := Tree.need_some hr
      simp only [Tree.run, Option.some.injEq, Prod.mk.injEq] at hr
      obtain ⟨rfl, rfl⟩ := hr
      rw [Bool.and_eq_true, Bool.not_eq_true'] at hc
      obtain rfl := Nat.eq_of_beq_eq_true hc.2
      have := lift_new (bs := [zBl]) (news := []) (globs := []) h2 (fun b hb => by cases hb) rh (ids := [id]) rfl (by decide) rh.nlim (fun i id' b1 hi hb1 => by
        cases i with
        | zero =>
          injection hi with hi
          injection hb1 with hb1
          subst hi; subst hb1
          exact ⟨b, hb, zBl_sub hc.1⟩
        | succ i => cases hi) (fun g i hi => by cases hi) (vals := vals) (by
        match vals, hargs with
        | [x], hx =>
          refine ⟨?_, trivial⟩
          rcases hx.1 with ⟨bn, s, o, cap, hE, hh⟩ | ⟨hown, _⟩
          · exact .inl ⟨bn, s, o, cap, hE, hh⟩
          · cases hown)
      refine this.mono ?_
      rintro e w' ⟨x, E', he, hx, hst⟩
      rw [hv] at hx
      exact ⟨x, E', he, hx, hst⟩
    · cases hr
  · cases hr
def rpZv : A := .tup [(false, [nilZ]), (false, [nilZ]), (false, [ci 0])]
def tuZv : A := .tup [(false, [nilZ]), (false, [ci 0])]
theorem rpZ_ok : SpecOk Tryz.prog 25 (zSp rpZv) := zSp_ok
  (call_sk tbH3_ok Tryz.func25 (by kernel_rfl) (false, true) (by kernel_rfl) (S := .ff (.tt (.tt (.ff (.ff (.leaf (.inl (true, rpZv, hpL [] [])))))))) (by kernel_rfl) (by kernel_rfl) rfl)
  (call_sk tbH3_ok Tryz.func25 (by kernel_rfl) (false, true) (by kernel_rfl) (S := .ff (.ff (.tt (.ff (.ff (.leaf (.inl (true, rpZv, hpL [zBl] [])))))))) (by kernel_rfl) (by kernel_rfl) rfl) fun _ => rfl
theorem tuZ_ok : SpecOk Tryz.prog 23 (zSp tuZv) := zSp_ok
  (call_sk tbH3_ok Tryz.func23 (by kernel_rfl) (false, true) (by kernel_rfl) (S := .ff (.tt (.tt (.ff (.leaf (.inl (true, tuZv, hpL [] []))))))) (by kernel_rfl) (by kernel_rfl) rfl)
  (call_sk tbH3_ok Tryz.func23 (by kernel_rfl) (false, true) (by kernel_rfl) (S := .ff (.ff (.tt (.ff (.leaf (.inl (true, tuZv, hpL [zBl] []))))))) (by kernel_rfl) (by kernel_rfl) rfl) fun _ => rfl
def uu (u : Int) : A := .one (.lit (.int .u8 u))
/-- a history: none; without cycles; with so many -/
inductive KP where | z | n | c (p : Nat)
section
variable (n q : Nat) (u : Int) (z w1 w2 : Nat → Int)
def ptTs : List TA := [⟨some 0, n, [.int .i16 z]⟩, ⟨some 1, q, [.int .i64 w1, .int .i64 w2]⟩]
def ptHp : Hp := hpT (ptTs n q z w1 w2) glS []
def ptArgs : List A := [slT 0 1 n, uu u, slT 1 2 q]
def ptB : St := { baseB 435 (ptArgs n q u) (ptHp n q z w1 w2) with keep := true }
def ptN (env : List (Nat × A)) (news : List Blk) : St := stN 435 (envL env) (bsS (ptTs n q z w1 w2) glS) (globsG 2 glS) news true
noncomputable def ptBody : Code := bodyOf Tryz.f7
noncomputable def ptP (i : Nat) : List Bool := pathOf ptBody i
noncomputable def ptC (i : Nat) : Code := nthLoop ptBody (ptP i)
noncomputable def ptRe (a : KL) (b : KM) (c : KC) (g : Gs) : Code → St → Tree (X × St) := recT Tryz.prog (tabOf (stpL (tbS a b c g)))
def tbZ (g : Gs) : List (FuncId × Spec) := (25, zSp rpZv) :: (23, zSp tuZv) :: tbMid .z .z .ok g
theorem tbZ_ok : TabOk Tryz.prog (tabOf (tbZ gsT)) := tab_cons (tab_cons (tbMid_ok .z .z .ok) tuZ_ok) rpZ_ok
noncomputable def ptReZ (g : Gs) : Code → St → Tree (X × St) := recT Tryz.prog (tabOf (stpL (tbZ g)))
theorem ptReZ_ok : RecOk Tryz.prog (ptReZ gsT) := recT_ok (stpL_ok tbZ_ok)
theorem ptRe_ok (a : KL) (b : KM) (c : KC) : RecOk Tryz.prog (ptRe a b c gsT) := recT_ok (stpL_ok (tbS_ok a b c))
/-! ### the first loop -/
def ptIB (f : Nat → Int) (k : Nat) : List Blk := match k with | 0 => [] | k + 1 => [⟨false, 3, .rows (k + 1) [.int .i64 f]⟩]
def ptH0 (k : Nat) (f g : Nat → Int) (i : Int) : St := ptN n q z w1 w2 [(1, uu u), (2, slT 1 2 q), (7, liA 4 k), (8, liA 5 k), (61, slT 0 1 n), (62, int n), (63, int i)] (ptIB f k ++ ptIB g k)
def ptX0 (k : Nat) (f g : Nat → Int) : St := ptN n q z w1 w2 [(1, uu u), (2, slT 1 2 q), (7, liA 4 k), (8, liA 5 k)] (ptIB f k ++ ptIB g k)
noncomputable def ptO (c : KC) (g : Gs) : Tree ((X × St) ⊕ (List Bool × St)) := evO (ptRe .z .z c g) ptBody [1, 2, 7, 8, 61, 62, 63] [6] (ptB n q u z w1 w2)
noncomputable def ptT0 (gs : Gs) (k : Nat) (f g : Nat → Int) (i : Int) : Tree (X × St) := (ptRe .z .z .ok gs (ptC 0) (ptH0 n q u z w1 w2 k f g i)).bind (canonT [1, 2, 7, 8, 61, 62, 63] [1, 2, 7, 8] (ptB n q u z w1 w2))
/-! ### the loops that count -/
variable (kd : KP) (f g : Nat → Int) (R : Nat) (r c1 c2 : Nat → Int)
def kH (kd : KP) (j n : Nat) : A := match kd with | .z => nilA | _ => slO j 1 n
def kC (kd : KP) : A := match kd with | .c p => slO 6 2 (p + 1) | _ => nilA
def kR (kd : KP) (R : Nat) : A := match kd with | .z => nilA | .n => slO 6 1 R | .c _ => slO 7 1 R
def kM (kd : KP) : Nat := match kd with | .z => 4 | .n => 7 | .c _ => 8
def kT (kd : KP) (M : Nat) : A := match kd with | .z => nilA | .n => slO 8 1 M | .c _ => slO 9 1 M
def kN (kd : KP) (M : Nat) : Int := match kd with | .z => 0 | _ => M
def kCn (kd : KP) : Int := match kd with | .c p => ((p + 1 : Nat) : Int) | _ => 0
def ptE : List (Nat × A) := [(1, uu u), (2, slT 1 2 q), (7, kH kd 4 n), (8, kH kd 5 n), (15, kC kd), (16, kR kd R)]
def ptI1 (n : Nat) (f : Nat → Int) : Blk := ⟨false, 3, .rows n [.int .i64 f]⟩
def ptK (n : Nat) : List Blk := match kd with
  | .z => []
  | .n => [ptI1 n f, ptI1 n g, ptI1 R r]
  | .c p => [ptI1 n f, ptI1 n g, ⟨false, 112, .rows (p + 1) [.int .i64 c1, .int .i64 c2]⟩, ptI1 R r]
def ptM (s : MS) : Blk := ⟨false, 0, .imap s.n s.f s.b s.last⟩
def kTB (kd : KP) (M : Nat) (t : Nat → Int) : List Blk := match kd with | .z => [] | _ => [ptI1 M t]
def ptH1 (M : Nat) (t : Nat → Int) (s : MS) (i : Int) : St := ptN n q z w1 w2 (ptE n q u kd R ++ [(18, .one (.mp (kM kd))), (135, kT kd M), (136, int (kN kd M)), (137, int i)]) (ptK kd f g R r c1 c2 n ++ [ptM s] ++ kTB kd M t)
def ptXM (s : MS) : St := ptN n q z w1 w2 (ptE n q u kd R ++ [(18, .one (.mp (kM kd)))]) (ptK kd f g R r c1 c2 n ++ [ptM s])
def ptH2 (s : MS) (i : Int) : St := ptN n q z w1 w2 (ptE n q u kd R ++ [(18, .one (.mp (kM kd))), (146, kR kd R), (147, int (kN kd R)), (148, int i)]) (ptK kd f g R r c1 c2 n ++ [ptM s])
def ptH3 (s : MS) (i : Int) : St := ptN n q z w1 w2 (ptE n q u kd R ++ [(18, .one (.mp (kM kd))), (157, kC kd), (158, int (kCn kd)), (159, int i)]) (ptK kd f g R r c1 c2 n ++ [ptM s])
def ptH4 (s : MS) : St := ptN n q z w1 w2 (ptE n q u kd R ++ [(18, .one (.mp (kM kd))), (175, .one (.ptr (kM kd + 1) 0 1 0))]) (ptK kd f g R r c1 c2 n ++ [ptM s, ⟨false, 0, .iter (some (kM kd)) s.n⟩])
noncomputable def ptS1z (gs : Gs) : Tree ((X × St) ⊕ (List Bool × St)) := evO2 (ptReZ gs) true ptBody (ptP 0) [1, 2, 7, 8, 15, 16, 18, 135, 136, 137] [6] (ptB n q u z w1 w2) (.exit 0, ptX0 n q u z w1 w2 0 f g)
noncomputable def ptS1 (a : KL) (gs : Gs) (k : Nat) : Tree ((X × St) ⊕ (List Bool × St)) := evO2 (ptRe a .z .ok gs) true ptBody (ptP 0) [1, 2, 7, 8, 15, 16, 18, 135, 136, 137] [6] (ptB n q u z w1 w2) (.exit 0, ptX0 n q u z w1 w2 k f g)
noncomputable def ptT1 (gs : Gs) (M : Nat) (t : Nat → Int) (s : MS) (i : Int) : Tree (X × St) := (ptRe .z .z .ok gs (ptC 1) (ptH1 n q u z w1 w2 kd f g R r c1 c2 M t s i)).bind (canonT [1, 2, 7, 8, 15, 16, 18, 135, 136, 137] [1, 2, 7, 8, 15, 16, 18] (ptB n q u z w1 w2))
noncomputable def ptS2 (gs : Gs) (s : MS) : Tree ((X × St) ⊕ (List Bool × St)) := evO2 (ptRe .z .z .ok gs) true ptBody (ptP 1) [1, 2, 7, 8, 15, 16, 18, 146, 147, 148] [6] (ptB n q u z w1 w2) (.exit 2, ptXM n q u z w1 w2 kd f g R r c1 c2 s)
noncomputable def ptT2 (gs : Gs) (s : MS) (i : Int) : Tree (X × St) := (ptRe .z .z .ok gs (ptC 2) (ptH2 n q u z w1 w2 kd f g R r c1 c2 s i)).bind (canonT [1, 2, 7, 8, 15, 16, 18, 146, 147, 148] [1, 2, 7, 8, 15, 16, 18] (ptB n q u z w1 w2))
noncomputable def ptS3 (gs : Gs) (s : MS) : Tree ((X × St) ⊕ (List Bool × St)) := evO2 (ptRe .z .z .ok gs) true ptBody (ptP 2) [1, 2, 7, 8, 15, 16, 18, 157, 158, 159] [6] (ptB n q u z w1 w2) (.exit 4, ptXM n q u z w1 w2 kd f g R r c1 c2 s)
noncomputable def ptT3 (gs : Gs) (s : MS) (i : Int) : Tree (X × St) := (ptRe .z .z .ok gs (ptC 3) (ptH3 n q u z w1 w2 kd f g R r c1 c2 s i)).bind (canonT [1, 2, 7, 8, 15, 16, 18, 157, 158, 159] [1, 2, 7, 8, 15, 16, 18] (ptB n q u z w1 w2))
noncomputable def ptS4 (gs : Gs) (s : MS) : Tree ((X × St) ⊕ (List Bool × St)) := evO2 (ptRe .z .z .ok gs) true ptBody (ptP 3) [1, 2, 7, 8, 15, 16, 18, 175] [6] (ptB n q u z w1 w2) (.exit 6, ptXM n q u z w1 w2 kd f g R r c1 c2 s)
/-! ### behind the map -/
def fnFar : A := .one (.fn 61 [])
def ptH5 (i : Int) : St := ptN n q z w1 w2 (ptE n q u kd R ++ [(27, fnFar), (28, int i)]) (ptK kd f g R r c1 c2 n)
def ptX5 : St := ptN n q z w1 w2 (ptE n q u kd R) (ptK kd f g R r c1 c2 n)
noncomputable def ptS5 (gs : Gs) (s : MS) : Tree ((X × St) ⊕ (List Bool × St)) := evO2 (ptRe .z .z .ok gs) true ptBody (ptP 4) [1, 2, 7, 8, 15, 16, 27, 28] [6] (ptB n q u z w1 w2) (.exit 8, rangeSt [1, 2, 7, 8, 15, 16] (kM kd + 1) (ptH4 n q u z w1 w2 kd f g R r c1 c2 s))
noncomputable def ptT5 (gs : Gs) (i : Int) : Tree (X × St) := (ptRe .z .z .ok gs (ptC 5) (ptH5 n q u z w1 w2 kd f g R r c1 c2 i)).bind (canonT [1, 2, 7, 8, 15, 16, 27, 28] [1, 2, 7, 8, 15, 16] (ptB n q u z w1 w2))
/-! ### the history in two parts, and with the opposite sign -/
def rpSel (sel : Nat → Option Nat) (g : Gs) : Spec := fun args h => match sel h.next with
  | none => zSp rpZv args h
  | some k => specT [ckI] [] (rpF k g.gp) args h
def ptTb6 (sel : Nat → Option Nat) (g : Gs) : List (FuncId × Spec) := (25, rpSel sel g) :: tbMid .z .z .ok g
noncomputable def ptR6 (sel : Nat → Option Nat) (g : Gs) : Code → St → Tree (X × St) := recT Tryz.prog (tabOf (stpL (ptTb6 sel g)))
def kC6 (kd : KP) : A := match kd with | .c p => slO 4 2 (p + 1) | _ => nilA
def kR6 (kd : KP) (R : Nat) : A := match kd with | .z => nilA | .n => slO 4 1 R | .c _ => slO 5 1 R
def kO6 (kd : KP) : A := match kd with | .c p => slO 6 2 (p + 1) | _ => nilA
def ptE6 : List (Nat × A) := [(2, slT 1 2 q), (15, kC6 kd), (16, kR6 kd R)]
def ptK6 : List Blk := match kd with
  | .z => []
  | .n => [ptI1 R r]
  | .c p => [⟨false, 112, .rows (p + 1) [.int .i64 c1, .int .i64 c2]⟩, ptI1 R r]
def kOB (kd : KP) (o1 o2 : Nat → Int) : List Blk := match kd with | .c p => [⟨false, 112, .rows (p + 1) [.int .i64 o1, .int .i64 o2]⟩] | _ => []
def ptH6 (o1 o2 : Nat → Int) (i : Int) : St := ptN n q z w1 w2 (ptE6 q kd R ++ [(36, kO6 kd), (318, kO6 kd), (319, int (kCn kd)), (320, int i)]) (ptK6 kd R r c1 c2 ++ kOB kd o1 o2)
def ptX6 (o1 o2 : Nat → Int) : St := ptN n q z w1 w2 (ptE6 q kd R ++ [(36, kO6 kd)]) (ptK6 kd R r c1 c2 ++ kOB kd o1 o2)
noncomputable def ptS6z (gs : Gs) : Tree ((X × St) ⊕ (List Bool × St)) := evO2 (ptReZ gs) true ptBody (ptP 5) [2, 15, 16, 36, 318, 319, 320] [6] (ptB n q u z w1 w2) (.exit 10, ptX5 n q u z w1 w2 .z f g R r c1 c2)
noncomputable def ptS6 (gs : Gs) (sel : Nat → Option Nat) : Tree ((X × St) ⊕ (List Bool × St)) := evO2 (ptR6 sel gs) true ptBody (ptP 5) [2, 15, 16, 36, 318, 319, 320] [6] (ptB n q u z w1 w2) (.exit 10, ptX5 n q u z w1 w2 kd f g R r c1 c2)
noncomputable def ptT6 (gs : Gs) (o1 o2 : Nat → Int) (i : Int) : Tree (X × St) := (ptRe .z .z .ok gs (ptC 6) (ptH6 n q z w1 w2 kd R r c1 c2 o1 o2 i)).bind (canonT [2, 15, 16, 36, 318, 319, 320] [2, 15, 16, 36] (ptB n q u z w1 w2))
/-! ### damage -/
def ptH7 (part sum : Int) (k : Nat → Int) (i : Int) : St := ptN n q z w1 w2 [(2, slT 1 2 q), (43, int part), (49, int sum), (411, slO 4 1 q), (412, int q), (413, int i)] [ptI1 q k]
def ptX7 (part sum : Int) : St := ptN n q z w1 w2 [(43, int part), (49, int sum)] []
/-- as the table of SaltStrain's law; a rest that is nil is told as no rows of a block that is there -/
def tb7 (j : Nat) (a : KL) (b : KM) (g : Gs) : List (FuncId × Spec) := (29, fun args h => specT [ckII, ckI, ckII] [] (daF a.e b.e 0 g.gd) (fixAs [(1, 2), (j, 1), (2, 2)] args) h) :: tbS a b .ok g
theorem tb7_ok (j : Nat) (a : KL) (b : KM) : TabOk Tryz.prog (tabOf (tb7 j a b gsT)) := tab_cons (tbS_ok a b .ok) (fix_ok (S := fun args h => specT [ckII, ckI, ckII] [] (daF a.e b.e 0 daV) args h) (daF_ok a.e b.e 0) [(1, 2), (j, 1), (2, 2)])
noncomputable def ptRe7 (j : Nat) (a : KL) (b : KM) (g : Gs) : Code → St → Tree (X × St) := recT Tryz.prog (tabOf (stpL (tb7 j a b g)))
theorem ptRe7_ok (j : Nat) (a : KL) (b : KM) : RecOk Tryz.prog (ptRe7 j a b gsT) := recT_ok (stpL_ok (tb7_ok j a b))
def k7 (kd : KP) : Nat := match kd with | .c _ => 5 | _ => 4
noncomputable def ptS7 (a : KL) (b : KM) (gs : Gs) (o1 o2 : Nat → Int) : Tree ((X × St) ⊕ (List Bool × St)) := evO2 (ptRe7 (k7 kd) a b gs) true ptBody (ptP 6) [2, 43, 49, 411, 412, 413] [6] (ptB n q u z w1 w2) (.exit 12, ptX6 n q z w1 w2 kd R r c1 c2 o1 o2)
noncomputable def ptT7 (gs : Gs) (part sum : Int) (k : Nat → Int) (i : Int) : Tree (X × St) := (ptRe .z .z .ok gs (ptC 7) (ptH7 n q z w1 w2 part sum k i)).bind (canonT [2, 43, 49, 411, 412, 413] [43, 49] (ptB n q u z w1 w2))
noncomputable def ptS8 (gs : Gs) (part sum : Int) : Tree ((X × St) ⊕ (List Bool × St)) := evO2 (ptRe .z .z .ok gs) true ptBody (ptP 7) [] [6] (ptB n q u z w1 w2) (.exit 14, ptX7 n q z w1 w2 part sum)
end
end Go.Ev
