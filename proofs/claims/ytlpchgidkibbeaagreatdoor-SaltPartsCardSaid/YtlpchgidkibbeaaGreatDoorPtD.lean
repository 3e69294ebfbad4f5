/- SaltParts: the plain law, as the program's loops come to it. Conditions: short lists of small numbers. -/
import Derived.Test.YtlpchgidkibbeaaGreatDoorPtC
namespace Go.Ev
open Go Go.Proofs
set_option maxRecDepth 100000

theorem fnz_no {g : Nat → Int} : ∀ (n k : Nat), (∀ i, k ≤ i → i < k + n → g i = 0) → fnz g n k = none
  | 0, _, _ => rfl
  | n + 1, k, h => by
    unfold fnz
    rw [show (g k != 0) = false by rw [h k (Nat.le_refl _) (by omega)]; rfl]
    exact fnz_no n (k + 1) fun i h1 h2 => h i (by omega) (by omega)
theorem smiV_eq {n m : Nat} {p r : Nat → Int} (h : n = m) (hp : ∀ i, i < n → p i = r i) : smiV n m p r = true := by
  unfold smiV
  rw [show ((n : Int) != (m : Int)) = false by rw [h]; simp]
  simp only
  rw [fnz_no n 0 fun i _ hi => ?_]
  unfold smiG smiD
  rw [hp i (by omega)]
  simp
theorem smyV_eq {n m : Nat} {p p2 r r2 : Nat → Int} (h : n = m) (hp : ∀ i, i < n → p i = r i ∧ p2 i = r2 i) : smyV n m p p2 r r2 = true := by
  unfold smyV
  rw [show ((n : Int) != (m : Int)) = false by rw [h]; simp]
  simp only
  rw [fnz_no n 0 fun i _ hi => ?_]
  unfold smyG smyD
  rw [(hp i (by omega)).1, (hp i (by omega)).2]
  simp
theorem okM2_ok (a b : Nat) : okM2 a b = true := by unfold okM2; rw [bleR (Nat.le_refl _), bleR (Nat.le_refl _)]; rfl
theorem okM3_ok (a b c : Nat) : okM3 a b c = true := by unfold okM3; rw [bleR (Nat.le_refl _), bleR (Nat.le_refl _), bleR (Nat.le_refl _)]; rfl
theorem beqI {a b : Int} (h : a = b) : (a == b) = true := by rw [h]; exact beq_self_eq_true b
theorem and_ok {a b : Bool} (h : a = true) (h' : b = true) : (a && b) = true := by rw [h, h']; rfl
/-! ### bounds -/
def Bd (n : Nat) (z : Nat → Int) : Prop := ∀ i, i < n → -100000 ≤ z i ∧ z i ≤ 100000
theorem wW_ok {x : Int} (h : -100000 ≤ x ∧ x ≤ 100000) : wW x (-100000) 100000 = 0 := by
  unfold wW
  rw [show decide (x < -100000) = false by simp only [decide_eq_false_iff_not]; omega, show decide (100000 < x) = false by simp only [decide_eq_false_iff_not]; omega]
  rfl
theorem hisE_ok {n : Nat} {z : Nat → Int} (hn : n ≤ 256) (h : Bd n z) : hisE n z = 0 := by
  unfold hisE
  rw [show decide ((n : Int) > 256) = false by simp only [decide_eq_false_iff_not]; omega]
  simp only
  rw [fnz_no (g := hisG z) n 0 fun i _ hi => wW_ok (h i (by omega))]
  rfl
theorem cycE_ok {n : Nat} {z1 z2 : Nat → Int} (hn : n ≤ 256) (h1 : Bd n z1) (h2 : Bd n z2) : cycE n z1 z2 = 0 := by
  unfold cycE
  rw [show decide ((n : Int) > 256) = false by simp only [decide_eq_false_iff_not]; omega]
  simp only
  rw [fnz_no n 0 fun i _ hi => ?_]
  · rfl
  · unfold cycG
    rw [wW_ok (h1 i (by omega)), wW_ok (h2 i (by omega))]
    rfl
theorem tmod_bd (a : Int) : -1000 ≤ a.tmod 1001 ∧ a.tmod 1001 ≤ 1000 := by
  have h : (a.tmod 1001).natAbs < 1001 := by
    rw [Int.natAbs_tmod]
    exact Nat.mod_lt _ (by decide)
  omega
theorem hX_bd (z : Nat → Int) (k : Nat) : -1000 ≤ hX z k ∧ hX z k ≤ 1000 := tmod_bd _
theorem mX_eq (z : Nat → Int) (k : Nat) : mX z k = -hX z k := by
  have := hX_bd z k
  have e : mX z k = 0 - hX z k := wrap_id (by omega) (by omega)
  rw [e]
  omega
theorem hS_bd (z : Nat → Int) (n : Nat) : Bd n (hS z n) := fun i hi => by
  rw [hS_at z n i hi]
  have := hX_bd z i
  omega
theorem mS_bd (z : Nat → Int) (n : Nat) : Bd n (mS z n) := fun i hi => by
  rw [mS_at z n i hi, mX_eq]
  have := hX_bd z i
  omega
/-! ### lists -/
theorem his_toL (s : L2) : his s.2 s.1 = toL s := rfl
theorem his_neg (z : Nat → Int) (n : Nat) : his (mS z n) n = (his (hS z n) n).map neg1 := by
  unfold his
  rw [List.map_map]
  refine List.map_congr_left fun i hi => ?_
  have := List.mem_range.1 hi
  show mS z n i = -(hS z n i)
  rw [mS_at z n i this, hS_at z n i this, mX_eq]
theorem mem_his {f : Nat → Int} {n : Nat} {x : Int} (h : x ∈ his f n) : ∃ i, i < n ∧ f i = x := by
  unfold his at h
  obtain ⟨i, hi, e⟩ := List.mem_map.1 h
  exact ⟨i, List.mem_range.1 hi, e⟩
theorem his_mem {f : Nat → Int} {n i : Nat} (h : i < n) : f i ∈ his f n := List.mem_map.2 ⟨i, List.mem_range.2 h, rfl⟩
theorem his_cat (a b : Nat) (f g : Nat → Int) : his (catF a f g) (a + b) = his f a ++ his g b := by
  unfold his
  rw [List.range_add, List.map_append]
  congr 1
  · refine List.map_congr_left fun i hi => ?_
    have := List.mem_range.1 hi
    unfold catF
    rw [bltR this]
  · rw [List.map_map]
    refine List.map_congr_left fun i _ => ?_
    show catF a f g (a + i) = g i
    unfold catF
    rw [show Nat.blt (a + i) a = false by rw [← Bool.not_eq_true, Nat.blt_eq]; omega, Nat.add_sub_cancel_left]
theorem his_rest (f : Nat → Int) (L n : Nat) (h : L ≤ n) : his f L ++ his (restF f L) (n - L) = his f n := by
  obtain ⟨m, rfl⟩ : ∃ m, n = L + m := ⟨n - L, by omega⟩
  rw [Nat.add_sub_cancel_left]
  unfold his
  rw [List.range_add, List.map_append, List.map_map]
  congr 1
  refine List.map_congr_left fun i _ => ?_
  show f (i + (0 + L)) = f (L + i)
  congr 1
  omega
theorem red_all {P : Int → Prop} : ∀ (f : Nat) (s : List Int) (o : Cyc), (∀ x ∈ s, P x) → (∀ c ∈ o, P c.1 ∧ P c.2) → (∀ x ∈ (redR f s o).1, P x) ∧ ∀ c ∈ (redR f s o).2, P c.1 ∧ P c.2
  | f + 1, d :: c :: b :: a :: r, o, hs, ho => by
    rw [redR_step]
    cases fourI a b c d with
    | false => exact ⟨hs, ho⟩
    | true =>
      simp only [List.mem_cons, forall_eq_or_imp] at hs
      obtain ⟨h1, h2, h3, h4, h5⟩ := hs
      refine red_all f (d :: a :: r) (o ++ [(b, c)]) (fun x hx => ?_) (fun x hx => ?_)
      · simp only [List.mem_cons] at hx
        rcases hx with rfl | rfl | hx
        · exact h1
        · exact h4
        · exact h5 x hx
      · rcases List.mem_append.1 hx with hx | hx
        · exact ho x hx
        · rw [List.mem_singleton] at hx
          subst hx
          exact ⟨h3, h2⟩
  | f, [], o, hs, ho => by cases f <;> exact ⟨hs, ho⟩
  | f, [a], o, hs, ho => by cases f <;> exact ⟨hs, ho⟩
  | f, [a, b], o, hs, ho => by cases f <;> exact ⟨hs, ho⟩
  | f, [a, b, c], o, hs, ho => by cases f <;> exact ⟨hs, ho⟩
  | 0, _ :: _ :: _ :: _ :: _, o, hs, ho => ⟨hs, ho⟩
theorem stp_all {P : Int → Prop} (q : List Int × Cyc) (x : Int) (hx : P x) (hs : ∀ y ∈ q.1, P y) (ho : ∀ c ∈ q.2, P c.1 ∧ P c.2) : (∀ y ∈ (stepR q x).1, P y) ∧ ∀ c ∈ (stepR q x).2, P c.1 ∧ P c.2 := by
  have cons : ∀ l : List Int, (∀ y ∈ l, P y) → ∀ y ∈ x :: l, P y := fun l hl y hy => by
    rcases List.mem_cons.1 hy with rfl | hy
    · exact hx
    · exact hl y hy
  match q, hs, ho with
  | ([], o), _, ho => exact ⟨cons [] (fun y hy => by cases hy), ho⟩
  | ([a], o), hs, ho =>
    rw [sR1]
    cases x == a with
    | true => exact ⟨hs, ho⟩
    | false => exact ⟨cons [a] hs, ho⟩
  | (b :: a :: r, o), hs, ho =>
    rw [sR2]
    cases x == b with
    | true => exact ⟨hs, ho⟩
    | false =>
      cases btw a b x with
      | true => exact red_all _ _ _ (cons _ fun y hy => hs y (List.mem_cons_of_mem _ hy)) ho
      | false => exact red_all _ _ _ (cons _ hs) ho
theorem flow_all {P : Int → Prop} (h : List Int) (hP : ∀ x ∈ h, P x) : (∀ x ∈ (flow h).1, P x) ∧ ∀ c ∈ (flow h).2, P c.1 ∧ P c.2 := by
  have key : ∀ (h : List Int) (q : List Int × Cyc), (∀ x ∈ h, P x) → (∀ x ∈ q.1, P x) → (∀ c ∈ q.2, P c.1 ∧ P c.2) → (∀ x ∈ (h.foldl stepR q).1, P x) ∧ ∀ c ∈ (h.foldl stepR q).2, P c.1 ∧ P c.2 := fun h => by
    induction h with
    | nil => intro q _ h2 h3; exact ⟨h2, h3⟩
    | cons x h ih =>
      intro q h1 h2 h3
      obtain ⟨a, b⟩ := stp_all q x (h1 x List.mem_cons_self) h2 h3
      exact ih (stepR q x) (fun y hy => h1 y (List.mem_cons_of_mem _ hy)) a b
  exact key h ([], []) hP (fun x hx => by cases hx) (fun c hc => by cases hc)
/-! ### what the program comes to -/
section
variable {n : Nat} {z : Nat → Int} (hb : Bd n z)
include hb
theorem rest_bd : Bd (rfX n z).1.1 (rfX n z).1.2 := fun i hi => by
  have h1 := (rain_flow hb).1
  have h2 : (rfX n z).1.2 i ∈ (flow (his z n)).1.reverse := by rw [← h1]; exact his_mem hi
  refine (flow_all (P := fun x => -100000 ≤ x ∧ x ≤ 100000) (his z n) fun x hx => ?_).1 _ (List.mem_reverse.1 h2)
  obtain ⟨j, hj, e⟩ := mem_his hx
  rw [← e]
  exact hb j hj
theorem cyc_at (i : Nat) (hi : i < (rfX n z).2.1) : ((rfX n z).2.2.1 i, (rfX n z).2.2.2 i) ∈ (flow (his z n)).2 := by
  rw [← (rain_flow hb).2]
  exact List.mem_map.2 ⟨i, List.mem_range.2 hi, rfl⟩
theorem cyc_bd : Bd (rfX n z).2.1 (rfX n z).2.2.1 ∧ Bd (rfX n z).2.1 (rfX n z).2.2.2 := by
  have key : ∀ i, i < (rfX n z).2.1 → (-100000 ≤ (rfX n z).2.2.1 i ∧ (rfX n z).2.2.1 i ≤ 100000) ∧ (-100000 ≤ (rfX n z).2.2.2 i ∧ (rfX n z).2.2.2 i ≤ 100000) := fun i hi =>
    (flow_all (P := fun x => -100000 ≤ x ∧ x ≤ 100000) (his z n) fun x hx => by
      obtain ⟨j, hj, e⟩ := mem_his hx
      rw [← e]
      exact hb j hj).2 _ (cyc_at hb i hi)
  exact ⟨fun i hi => (key i hi).1, fun i hi => (key i hi).2⟩
theorem rain_len : (rfX n z).1.1 + 2 * (rfX n z).2.1 = (turQ n z).1 := by
  have h := flow_bd (his z n)
  rw [← tur_trn, toL_len] at h
  rw [← h, ← toL_len (rfX n z).1, ← toC_len (rfX n z).2, (rain_flow hb).1, (rain_flow hb).2, List.length_reverse]
omit hb in
/-- turns of turns -/
theorem tur_tur : (turQ (turQ n z).1 (turQ n z).2).1 = (turQ n z).1 ∧ ∀ i, i < (turQ (turQ n z).1 (turQ n z).2).1 → (turQ (turQ n z).1 (turQ n z).2).2 i = (turQ n z).2 i := by
  refine toL_eq ?_
  rw [tur_trn, his_toL, tur_trn, trn_trn]
omit hb in
theorem his_pairs1 (o : C2) : his o.2.1 o.1 = (toC o).map (·.1) := by
  unfold his toC
  rw [List.map_map]
  rfl
omit hb in
theorem his_pairs2 (o : C2) : his o.2.2 o.1 = (toC o).map (·.2) := by
  unfold his toC
  rw [List.map_map]
  rfl
/-- each turn is in the rest or in a cycle -/
theorem count_zero (v : Int) : cntI v (his (turQ n z).2 (turQ n z).1) - cntI v (his (rfX n z).1.2 (rfX n z).1.1) - (cntI v (his (rfX n z).2.2.1 (rfX n z).2.1) + cntI v (his (rfX n z).2.2.2 (rfX n z).2.1)) = 0 := by
  have h := flow_cnt (his z n) v
  rw [his_toL, his_toL, tur_trn, (rain_flow hb).1, cntI_rev, his_pairs1, his_pairs2, (rain_flow hb).2]
  unfold ends at h
  omega
end
/-- what is left has no four turns with a cycle -/
theorem calm_four : ∀ (s : List Int), calmR s → ∀ k, k + 3 < s.length → fourAt s.reverse k = false
  | d :: c :: b :: a :: r, h, k, hk => by
    simp only [List.length_cons] at hk
    rcases Nat.lt_or_ge k r.length with h1 | h1
    · rw [List.reverse_cons, fourAt_app (by simp only [List.length_reverse, List.length_cons]; omega)]
      exact calm_four (c :: b :: a :: r) h.2 k (by simp only [List.length_cons]; omega)
    · have e : k = r.length + 0 := by omega
      rw [rev4, e]
      unfold fourAt
      rw [getD4, show r.length + 0 + 1 = r.length + 1 by omega, show r.length + 0 + 2 = r.length + 2 by omega, show r.length + 0 + 3 = r.length + 3 by omega, getD4, getD4, getD4]
      exact h.1
  | [], _, k, hk => by simp at hk
  | [_], _, k, hk => by simp at hk
  | [_, _], _, k, hk => by simp at hk; omega
  | [_, _, _], _, k, hk => by simp at hk; omega
theorem rest_calm {n : Nat} {z : Nat → Int} (hb : Bd n z) (k : Nat) (hk : k + 3 < (rfX n z).1.1) : fourI ((rfX n z).1.2 k) ((rfX n z).1.2 (k + 1)) ((rfX n z).1.2 (k + 2)) ((rfX n z).1.2 (k + 3)) = false := by
  have h1 := (rain_flow hb).1
  have hl : (flow (his z n)).1.length = (rfX n z).1.1 := by rw [← toL_len, h1, List.length_reverse]
  have h := calm_four (flow (his z n)).1 (calm_fold (his z n) ([], []) trivial) k (by rw [hl]; exact hk)
  rw [← h1] at h
  unfold fourAt at h
  rw [toL_getD _ (by omega), toL_getD _ (by omega), toL_getD _ (by omega), toL_getD _ (by omega)] at h
  exact h
/-! ### a history in two parts -/
theorem toC_app (a b : C2) : toC a ++ toC b = toC (a.1 + b.1, catF a.1 a.2.1 b.2.1, catF a.1 a.2.2 b.2.2) := by
  unfold toC
  simp only
  rw [List.range_add, List.map_append, List.map_map]
  congr 1
  · refine List.map_congr_left fun i hi => ?_
    have := List.mem_range.1 hi
    unfold catF
    rw [bltR this]
  · refine List.map_congr_left fun i _ => ?_
    show _ = (catF a.1 a.2.1 b.2.1 (a.1 + i), catF a.1 a.2.2 b.2.2 (a.1 + i))
    unfold catF
    rw [show Nat.blt (a.1 + i) a.1 = false by rw [← Bool.not_eq_true, Nat.blt_eq]; omega, Nat.add_sub_cancel_left]
def jnN (L n : Nat) (z : Nat → Int) : Nat := (rfX L z).1.1 + (n - L)
def jnF (L : Nat) (z : Nat → Int) : Nat → Int := catF (rfX L z).1.1 (rfX L z).1.2 (restF z L)
theorem cut_law {n L : Nat} {z : Nat → Int} (hb : Bd n z) (hL : L ≤ n) : Bd (jnN L n z) (jnF L z) ∧
    ((rfX (jnN L n z) (jnF L z)).1.1 = (rfX n z).1.1 ∧ ∀ i, i < (rfX (jnN L n z) (jnF L z)).1.1 → (rfX (jnN L n z) (jnF L z)).1.2 i = (rfX n z).1.2 i) ∧
    ((rfX L z).2.1 + (rfX (jnN L n z) (jnF L z)).2.1 = (rfX n z).2.1 ∧ ∀ i, i < (rfX L z).2.1 + (rfX (jnN L n z) (jnF L z)).2.1 → catF (rfX L z).2.1 (rfX L z).2.2.1 (rfX (jnN L n z) (jnF L z)).2.2.1 i = (rfX n z).2.2.1 i ∧ catF (rfX L z).2.1 (rfX L z).2.2.2 (rfX (jnN L n z) (jnF L z)).2.2.2 i = (rfX n z).2.2.2 i) := by
  have hbL : Bd L z := fun i hi => hb i (by omega)
  have hbJ : Bd (jnN L n z) (jnF L z) := fun i hi => by
    unfold jnF catF
    rcases Nat.lt_or_ge i (rfX L z).1.1 with h | h
    · rw [bltR h]
      exact rest_bd hbL i h
    · rw [show Nat.blt i (rfX L z).1.1 = false by rw [← Bool.not_eq_true, Nat.blt_eq]; omega]
      unfold jnN at hi
      exact hb _ (by omega)
  have hj : his (jnF L z) (jnN L n z) = (flow (his z L)).1.reverse ++ his (restF z L) (n - L) := by
    unfold jnF jnN
    rw [his_cat, his_toL, (rain_flow hbL).1]
  have hc := flow_cut (his z L) (his (restF z L) (n - L))
  rw [his_rest z L n hL, ← hj] at hc
  refine ⟨hbJ, toL_eq ?_, ?_⟩
  · rw [(rain_flow hbJ).1, (rain_flow hb).1]
    rw [hc.1]
  · have := toC_eq (s := ((rfX L z).2.1 + (rfX (jnN L n z) (jnF L z)).2.1, catF (rfX L z).2.1 (rfX L z).2.2.1 (rfX (jnN L n z) (jnF L z)).2.2.1, catF (rfX L z).2.1 (rfX L z).2.2.2 (rfX (jnN L n z) (jnF L z)).2.2.2)) (t := (rfX n z).2) (by
      rw [← toC_app, (rain_flow hbL).2, (rain_flow hbJ).2, (rain_flow hb).2]
      exact hc.2.symm)
    exact this
/-! ### the opposite sign -/
theorem neg_law (z : Nat → Int) (n : Nat) : ((rfX n (mS z n)).1.1 = (rfX n (hS z n)).1.1) ∧ (rfX n (mS z n)).2.1 = (rfX n (hS z n)).2.1 ∧ ∀ i, i < (rfX n (hS z n)).2.1 → (rfX n (mS z n)).2.2.1 i = -(rfX n (hS z n)).2.2.1 i ∧ (rfX n (mS z n)).2.2.2 i = -(rfX n (hS z n)).2.2.2 i := by
  have h1 := rain_flow (mS_bd z n)
  have h2 := rain_flow (hS_bd z n)
  rw [his_neg, flow_neg] at h1
  have e1 : (rfX n (mS z n)).1.1 = (rfX n (hS z n)).1.1 := by
    rw [← toL_len (rfX n (mS z n)).1, ← toL_len (rfX n (hS z n)).1, h1.1, h2.1, List.length_reverse, List.length_reverse, List.length_map]
  have e2 : toC (rfX n (mS z n)).2 = toC ((rfX n (hS z n)).2.1, fun i => -(rfX n (hS z n)).2.2.1 i, fun i => -(rfX n (hS z n)).2.2.2 i) := by
    rw [h1.2]
    show (flow (his (hS z n) n)).2.map neg2 = _
    rw [← h2.2]
    unfold toC
    rw [List.map_map]
    rfl
  obtain ⟨a, b⟩ := toC_eq e2
  exact ⟨e1, a, fun i hi => b i (by rw [a]; exact hi)⟩
end Go.Ev
