/- Each operation of the evaluator is sound. Conditions: none. -/
import Derived.Test.YtlpchgidkibbeaaGreatDoorEvOp
namespace Go.Ev
open Go

section
variable {P : Program} {E : Env} {ρA : Operand → Option A} {ρ : Operand → Value} {h : Hp} {w : World}

/-- what an operation leaves -/
def Left (E : Env) (h : Hp) (w : World) (v : A) (h' : Hp) (x : Value) (w' : World) : Prop := ∃ E', v.Is E' x ∧ Stp E h w E' h' w'

theorem Left.same (r : RH E h w) {v : A} {x : Value} (hx : v.Is E x) : Left E h w v h x w := ⟨E, hx, Stp.refl r⟩

theorem intOf?_is {a : A} {n : Int} {x : Value} (h : intOf? a = some n) (ha : a.Is E x) : ∃ k, x = .int k n := by
  unfold intOf? at h
  split at h
  · rename_i k m
    simp only [Option.some.injEq] at h; subst h
    exact ⟨k, ha.1⟩
  · cases h

theorem lenA_all {t : TypeId} {x : A} {v : A} {p : Value} (hl : (lenA P t x).run = some v) (hx : x.Is E p) (ty : TypeId) : ∃ r, (∀ w, (Builtin.len_ #[t] ty #[p]).run P w = .ok r w) ∧ v.Is E r := by
  unfold lenA at hl
  split at hl
  · obtain ⟨rfl, _⟩ := hx
    split at hl
    · rename_i hu
      simp only [Tree.run, Option.some.injEq] at hl; subst hl
      exact ⟨_, fun w => by simp [Builtin.len_, run_underlying hu], rfl, rfl⟩
    · cases hl
  · obtain ⟨rfl, _⟩ := hx
    split at hl
    · rename_i hu
      simp only [Tree.run, Option.some.injEq] at hl; subst hl
      exact ⟨_, fun w => by simp [Builtin.len_, run_underlying hu], rfl, rfl⟩
    · cases hl
  · split at hl
    · rename_i hu
      simp only [Tree.run, Option.some.injEq] at hl; subst hl
      rcases hx with ⟨b, s, o, cap, _, rfl, _⟩ | ⟨_, rfl, rfl⟩
      · exact ⟨_, fun w => by simp [Builtin.len_, run_underlying hu], rfl, rfl⟩
      · exact ⟨_, fun w => by simp [Builtin.len_, run_underlying hu], rfl, rfl⟩
    · cases hl
  · obtain ⟨l, rfl, _⟩ := hx
    split at hl
    · rename_i hu
      simp only [Tree.run, Option.some.injEq] at hl; subst hl
      exact ⟨_, fun w => by simp [Builtin.len_, run_underlying hu], rfl, rfl⟩
    · cases hl
  · cases hl

theorem lenA_run {t : TypeId} {x : A} {v : A} {p : Value} (hl : (lenA P t x).run = some v) (hx : x.Is E p) (ty : TypeId) : ∃ r, (Builtin.len_ #[t] ty #[p]).run P w = .ok r w ∧ v.Is E r :=
  let ⟨r, h1, h2⟩ := lenA_all (P := P) hl hx ty; ⟨r, h1 w, h2⟩

theorem flat_take {cs : List C} {arr : Array Value} {off n : Nat} (hb : (Body.flat cs).Is E arr) (hle : off + n ≤ cs.length) :
    All2 (C.Is E) ((cs.drop off).take n) ((arr.toList.drop off).take n) ∧ ((arr.toList.drop off).take n).length = n ∧ off + n ≤ arr.size := by
  have hsz : ∀ i, i < cs.length → i < arr.size := fun i hi => by
    obtain ⟨x, hx, _⟩ := hb i cs[i] (by rw [nth_eq]; simp [hi])
    exact (Array.getElem?_eq_some_iff.1 hx).1
  have hle2 : off + n ≤ arr.size := by
    rcases Nat.eq_zero_or_pos (off + n) with h0 | h0
    · omega
    · have := hsz (off + n - 1) (by omega); omega
  have hl : ((arr.toList.drop off).take n).length = n := by simp; omega
  refine ⟨All2.of_get (by rw [hl]; simp; omega) fun i c hc => ?_, hl, hle2⟩
  rw [nth_eq, List.getElem?_take] at hc
  split at hc
  · rename_i hi
    rw [List.getElem?_drop] at hc
    obtain ⟨x, hx, hcx⟩ := hb (off + i) c (by rw [nth_eq]; exact hc)
    exact ⟨x, by rw [List.getElem?_take, if_pos hi, List.getElem?_drop]; simpa using hx, hcx⟩
  · cases hc

theorem own_flat {e : TypeId} {size n : Nat} {v' : Value} {w' : World} {news : List Value} (hown : w'.ownsRow 0 e size v' n news) (hn : 0 < n) :
    ∃ g cap cur, v' = .slice (some ⟨g, 0, none⟩) n cap ∧ w'.heap[g]? = some (.cells cur e (0, 0)) ∧ n ≤ cap ∧ cap ≤ maxLen ∧ cur.size = cap * size ∧ cur.toList.take (n * size) = news ∧ news.length = n * size := by
  rcases hown.2 with ⟨_, h0⟩ | ⟨g, cap, cur, e1, _, e2, e3, e4, e5, e6⟩
  · omega
  · exact ⟨g, cap, cur, e1, e2, e3, e4, e5, e6, hown.1⟩

theorem flat_of_take {cs : List C} {cur : Array Value} {l : List Value} {n : Nat} (ha : All2 (C.Is E) cs l) (ht : cur.toList.take n = l) : (Body.flat cs).Is E cur := fun i c hc => by
  obtain ⟨x, hx, hi⟩ := ha.get i c hc
  rw [← ht, List.getElem?_take] at hx
  split at hx
  · exact ⟨x, by simpa using hx, hi⟩
  · cases hx

theorem mul_lt_row {k n1 L j : Nat} (hk : k < n1) (hj : j < L) : k * L + j < n1 * L := by
  have : (k + 1) * L ≤ n1 * L := Nat.mul_le_mul_right L hk
  rw [Nat.add_mul, Nat.one_mul] at this
  omega
theorem rows_len {n n1 : Nat} {cols : List Col} {arr : Array Value} (hb : (Body.rows n cols).Is E arr) (hn : n1 ≤ n) (hc : 0 < cols.length) : n1 * cols.length ≤ arr.size := by
  rcases Nat.eq_zero_or_pos n1 with h0 | h0
  · subst h0; simp
  · obtain ⟨c, hcc⟩ : ∃ c, nth cols (cols.length - 1) = some c := ⟨cols[cols.length - 1], by rw [nth_eq]; exact List.getElem?_eq_getElem (by omega)⟩
    obtain ⟨x, hx, _⟩ := hb (n1 - 1) (cols.length - 1) c (by omega) hcc
    have h1 := (Array.getElem?_eq_some_iff.1 hx).1
    have h2 : (n1 - 1 + 1) * cols.length = (n1 - 1) * cols.length + cols.length := by rw [Nat.add_mul, Nat.one_mul]
    rw [show n1 - 1 + 1 = n1 by omega] at h2
    omega
/-- a table that is longer by a row -/
theorem rows_append {n n1 : Nat} {cols cols' : List Col} {arr cur : Array Value} {xs : List C} {news : List Value} (hb : (Body.rows n cols).Is E arr) (hn : n1 ≤ n) (hp : putCols cols n1 xs = some cols') (hx : All2 (C.Is E) xs news)
    (ht : cur.toList.take ((n1 + 1) * cols.length) = arr.toList.take (n1 * cols.length) ++ news) (hl : n1 * cols.length ≤ arr.size) : (Body.rows (n1 + 1) cols').Is E cur := by
  intro k j c' hk hj'
  obtain ⟨l1, l2, l3⟩ := putCols_spec hp
  obtain ⟨c, x, hc, hx0, hput⟩ := l3 j c' hj'
  obtain ⟨p1, p2⟩ := col_put hput
  have hj := nth_lt hc
  have hi := mul_lt_row hk hj
  have hcur : cur[k * cols.length + j]? = (arr.toList.take (n1 * cols.length) ++ news)[k * cols.length + j]? := by
    rw [← ht, List.getElem?_take, if_pos hi]; simp
  rw [l1, hcur]
  have hll : (arr.toList.take (n1 * cols.length)).length = n1 * cols.length := by simp; omega
  by_cases ek : k = n1
  · subst ek
    rw [List.getElem?_append_right (by omega), hll, Nat.add_sub_cancel_left, p1]
    obtain ⟨y, hy, hi⟩ := hx.get j x hx0
    exact ⟨y, hy, hi⟩
  · have hk1 : k < n1 := by omega
    have hi1 := mul_lt_row hk1 hj
    rw [List.getElem?_append_left (by omega), List.getElem?_take, if_pos hi1, p2 k ek]
    obtain ⟨y, hy, hi⟩ := hb k j c (by omega) hc
    exact ⟨y, by simpa using hy, hi⟩

theorem appendA_ok {t : TypeId} {s x v : A} {h' : Hp} {p q : Value} (ha : (appendA P h t s x).run = some (v, h')) (r : RH E h w) (hs : s.Is E p) (hx : x.Is E q) (ty : TypeId) :
    ∃ y w', (Builtin.append_ #[t, t] ty #[p, q]).run P w = .ok y w' ∧ Left E h w v h' y w' := by
  unfold appendA at ha
  split at ha
  · rename_i e hu
    split at ha
    · rename_i size' z own2 id2 k2 m2 j2 n2 hsz hz
      split at ha
      · rename_i b2 hzl hb2
        have hzl := Nat.eq_of_beq_eq_true hzl
        split at ha
        · rename_i cs2 hbody2
          split at ha
          · rename_i hcond
            simp only [Bool.and_eq_true, Nat.blt_eq] at hcond
            have hle2 := Nat.le_of_ble_eq_true hcond.1
            have hn2 := hcond.2
            obtain ⟨bn2, sz2, o2, cap2, hE2, rfl, hnc2, _, ho2, _⟩ := sl_some hx (.inr hn2)
            obtain ⟨p2, hp2, arr2, fz2, ⟨ty2, hh2, _⟩, hs2, hbd2, _⟩ := r.cells hb2 (by rw [hbody2]; rfl)
            obtain rfl : p2 = (bn2, sz2) := Option.some.inj (hp2.symm.trans hE2)
            have hbd2 := hbd2.2
            rw [hbody2] at hbd2
            obtain ⟨hall2, hlen2, hfit2⟩ := flat_take hbd2 hle2
            have ho2 := ho2 hn2
            subst ho2
            obtain ⟨zv, ⟨i0, hi0, hz0⟩, hzall⟩ := zero?_is hz E
            have hisz : i0.size = size' + 1 := by unfold size? at hsz; rw [hi0] at hsz; simpa using hsz
            have hzvs : zv.cells.size = size' + 1 := by rw [← hzl, hzall.length]; simp
            have hcells2 : ∀ j u, (((vw sz2.2 arr2).toList.drop (k2 * m2 + j2)).take (n2 * (size' + 1)))[j]? = some u → w.cell? ((⟨bn2, sz2.2 + (k2 * m2 + j2), none⟩ : Addr).add j) = some u := fun j u hj => by
              rw [addr_add, cell_of_row w bn2 _ arr2 ty2 fz2 hh2]
              rw [List.getElem?_take] at hj
              split at hj
              · rw [List.getElem?_drop, Array.getElem?_toList, vw_get, ← Nat.add_assoc] at hj; exact hj
              · cases hj
            have hbytes0 : ((P.info? e).map (·.bytes)).getD 0 = i0.bytes := by simp [hi0]
            rw [hbytes0] at ha
            split at ha
            · -- nil
              obtain ⟨hnd, ha⟩ := Tree.need_some ha
              simp only [Bool.and_eq_true, Nat.blt_eq] at hnd
              obtain ⟨⟨id, h1⟩, hal, ha⟩ := Tree.bind_some ha
              simp only [Tree.run, Option.some.injEq, Prod.mk.injEq] at ha
              obtain ⟨rfl, rfl⟩ := ha
              obtain ⟨rfl, _⟩ := hs
              obtain ⟨v', w', hrun, hown, hgrow, _, hat⟩ := run_append_own_at (P := P) w 0 t ty e i0 zv (size' + 1) i0.bytes hu hi0 hz0 hisz rfl hzvs (by omega) (.slice none 0 0) 0 []
                (World.ownsRow_nil w 0 e (size' + 1)) ⟨bn2, sz2.2 + (k2 * m2 + j2), none⟩ n2 cap2 _ hlen2 hcells2 (all2_oneCell hall2) (by have := Nat.le_of_ble_eq_true hnd.2; simp only [maxLen]; omega) (by rw [Nat.zero_add]; omega) (Nat.zero_le _)
              rw [Nat.zero_add, List.nil_append] at hown
              obtain ⟨g, cap, cur, rfl, hg, hnc, hcm, hcs, htake, hnl⟩ := own_flat hown hn2
              have hgn : g = w.heap.size := by
                rcases hat with hat | hat
                · simp [Value.ownBlock] at hat
                · simpa [Value.ownBlock] using hat
              subst hgn
              obtain ⟨hst, hE'⟩ := name_stp (b := { ro := false, elem := e, body := .flat ((cs2.drop (k2 * m2 + j2)).take (n2 * (size' + 1))) }) (g := w.heap.size) (arr := cur) (fun _ => False) r rfl rfl rfl (fun _ hf => hf.elim) (Nat.le_refl _)
                (fun i b' hb' => ⟨hb', fun pp hpp => ⟨fun hf => hf, fun e => by have := r.lt i pp hpp; omega⟩⟩) hg (flat_of_take hall2 htake)
                (fun k hk _ => hgrow.block k hk (by simp [Value.ownBlock])) hgrow.size hgrow.os hgrow.tape hgrow.output (fun _ hf => hf.elim) (.inl (Nat.le_refl _)) hal
              exact ⟨_, w', hrun, _, .inl ⟨_, _, 0, cap, hE', rfl, hnc, hcm, fun _ => by simp, fun _ => ⟨rfl, rfl, rfl, by rw [hcs]⟩⟩, hst⟩
            · -- a row of the call's own
              rename_i id1 m1 n1
              split at ha
              · rename_i b1 hb1
                split at ha
                · rename_i n1' cols hbody1 hro1
                  split at ha
                  · rename_i cols' hc1 hput
                    simp only [Bool.and_eq_true] at hc1
                    have hm1 := Nat.eq_of_beq_eq_true hc1.1.1
                    have hel1 := Nat.eq_of_beq_eq_true hc1.1.2
                    have hn21 := Nat.eq_of_beq_eq_true hc1.2
                    subst hn21
                    obtain ⟨hnd, ha⟩ := Tree.need_some ha
                    simp only [Bool.and_eq_true, Nat.blt_eq] at hnd
                    have hle1 := Nat.le_of_ble_eq_true hnd.1.1
                    obtain ⟨⟨id, h1⟩, hal, ha⟩ := Tree.bind_some ha
                    simp only [Tree.run, Option.some.injEq, Prod.mk.injEq] at ha
                    obtain ⟨rfl, rfl⟩ := ha
                    obtain ⟨bn1, sz1, o1, cap1, hE1, rfl, hnc1, hcm1, ho1, hown1⟩ := sl_some hs (.inl rfl)
                    obtain ⟨rfl, _, _, hs1⟩ := hown1 rfl
                    obtain ⟨p1, hp1, arr1, fz1, ⟨ty1, hh1, hty1⟩, hsz1, hbd1, hfz1⟩ := r.cells hb1 (by rw [hbody1]; rfl)
                    obtain rfl := hty1 hro1
                    obtain rfl : p1 = (bn1, sz1) := Option.some.inj (hp1.symm.trans hE1)
                    rw [roIs_fz hfz1 hro1, hel1] at hh1
                    obtain ⟨_, hbd1⟩ := hbd1.own hro1
                    rw [hbody1] at hbd1
                    rw [Nat.one_mul] at hall2 hlen2 hcells2
                    obtain ⟨_, hcl, _⟩ := putCols_spec hput
                    rw [hall2.length, hlen2] at hcl
                    have hfit1 := rows_len hbd1 hle1 (by omega)
                    rw [← hcl] at hfit1
                    have hlen1 : (arr1.toList.take (n1 * (size' + 1))).length = n1 * (size' + 1) := by simp; omega
                    have hor : w.ownsRow 0 e (size' + 1) (.slice (some ⟨bn1, 0, none⟩) n1 cap1) n1 (arr1.toList.take (n1 * (size' + 1))) :=
                      ⟨hlen1, .inr ⟨bn1, cap1, arr1, rfl, Nat.zero_le _, hh1, hnc1, hcm1, by rw [hsz1, hs1, hm1], rfl⟩⟩
                    obtain ⟨v', w', hrun, hown, hgrow, _, hat⟩ := run_append_own_at (P := P) w 0 t ty e i0 zv (size' + 1) i0.bytes hu hi0 hz0 hisz rfl hzvs (by omega) _ n1 _
                      hor ⟨bn2, sz2.2 + (k2 * m2 + j2), none⟩ 1 cap2 _ (by rw [Nat.one_mul]; exact hlen2) hcells2 (all2_oneCell hall2) (by have := Nat.le_of_ble_eq_true hnd.2; simp only [maxLen]; omega) (by have := hnd.1.2; omega) (Nat.zero_le _)
                    obtain ⟨g, cap, cur, rfl, hg, hnc, hcm, hcs, htake, hnl⟩ := own_flat hown (by omega)
                    have hgn : g = bn1 ∨ g = w.heap.size := by simpa [Value.ownBlock] using hat
                    have hlt1 : bn1 < w.heap.size := r.lt id1 _ hE1
                    have hid1 : id1 < lim := by
                      rcases Nat.lt_or_ge id1 h.next with hlt | hge
                      · exact Nat.lt_of_lt_of_le hlt r.nlim
                      · rw [r.dom id1 hge] at hE1; cases hE1
                    obtain ⟨hst, hE'⟩ := name_stp (b := { ro := false, elem := e, body := .rows (n1 + 1) cols' }) (g := g) (arr := cur)
                      (h1 := { h with heap := h.heap.set D id1 none, low := min h.low id1 }) (fun k => k = bn1) r rfl rfl rfl (fun k hk o ho => by subst hk; rw [hh1] at ho; injection ho with ho; subst ho; rfl) (Nat.min_le_left _ _)
                      (fun i b' hb' => by
                        have hb3 : (Tr.set D h.heap id1 none).get D i = some b' := hb'
                        rw [Tr.get_set_D _ _ _ _ hid1] at hb3
                        split at hb3
                        · cases hb3
                        · rename_i hne
                          refine ⟨hb3, fun pp hpp => ?_⟩
                          have hpn : pp.1 ≠ bn1 := fun he => hne (r.inj id1 i b1 b' _ pp hb1 hb3 hro1 hE1 hpp he.symm)
                          refine ⟨hpn, fun he => ?_⟩
                          rcases hgn with hgn | hgn
                          · exact hpn (he.trans hgn)
                          · have := r.lt i pp hpp; omega)
                      hg (rows_append hbd1 hle1 hput hall2 (by rw [← hcl]; exact htake) (by rw [← hcl]; exact hfit1))
                      (fun k hk hne => hgrow.block k hk (by simpa [Value.ownBlock] using hne)) hgrow.size hgrow.os hgrow.tape hgrow.output
                      (fun k hk => ⟨id1, _, hE1, hk.symm, Nat.min_le_right _ _⟩) (hgn.elim (fun e => .inr e) fun e => .inl (by omega)) hal
                    exact ⟨_, w', hrun, _, .inl ⟨_, _, 0, cap, hE', rfl, hnc, hcm, fun _ => by simp, fun _ => ⟨rfl, rfl, rfl, by rw [hcs]⟩⟩, hst⟩
                  · cases ha
                · rename_i cs1 hbody1 hro1
                  split at ha
                  · rename_i hc1
                    simp only [Bool.and_eq_true] at hc1
                    have hm1 := Nat.eq_of_beq_eq_true hc1.1.1
                    have hle1 := Nat.le_of_ble_eq_true hc1.1.2
                    have hel1 := Nat.eq_of_beq_eq_true hc1.2
                    obtain ⟨hnd, ha⟩ := Tree.need_some ha
                    simp only [Bool.and_eq_true, Nat.blt_eq] at hnd
                    obtain ⟨⟨id, h1⟩, hal, ha⟩ := Tree.bind_some ha
                    simp only [Tree.run, Option.some.injEq, Prod.mk.injEq] at ha
                    obtain ⟨rfl, rfl⟩ := ha
                    obtain ⟨bn1, sz1, o1, cap1, hE1, rfl, hnc1, hcm1, ho1, hown1⟩ := sl_some hs (.inl rfl)
                    obtain ⟨rfl, _, _, hs1⟩ := hown1 rfl
                    obtain ⟨p1, hp1, arr1, fz1, ⟨ty1, hh1, hty1⟩, hsz1, hbd1, hfz1⟩ := r.cells hb1 (by rw [hbody1]; rfl)
                    obtain rfl := hty1 hro1
                    obtain rfl : p1 = (bn1, sz1) := Option.some.inj (hp1.symm.trans hE1)
                    rw [roIs_fz hfz1 hro1, hel1] at hh1
                    obtain ⟨_, hbd1⟩ := hbd1.own hro1
                    rw [hbody1] at hbd1
                    obtain ⟨hall1, hlen1, _⟩ := flat_take (off := 0) hbd1 (by rw [Nat.zero_add]; exact hle1)
                    simp only [List.drop_zero] at hall1 hlen1
                    have hor : w.ownsRow 0 e (size' + 1) (.slice (some ⟨bn1, 0, none⟩) n1 cap1) n1 (arr1.toList.take (n1 * (size' + 1))) :=
                      ⟨hlen1, .inr ⟨bn1, cap1, arr1, rfl, Nat.zero_le _, hh1, hnc1, hcm1, by rw [hsz1, hs1, hm1], rfl⟩⟩
                    obtain ⟨v', w', hrun, hown, hgrow, _, hat⟩ := run_append_own_at (P := P) w 0 t ty e i0 zv (size' + 1) i0.bytes hu hi0 hz0 hisz rfl hzvs (by omega) _ n1 _
                      hor ⟨bn2, sz2.2 + (k2 * m2 + j2), none⟩ n2 cap2 _ hlen2 hcells2 (all2_oneCell hall2) (by have := Nat.le_of_ble_eq_true hnd.2; simp only [maxLen]; omega) (by omega) (Nat.zero_le _)
                    obtain ⟨g, cap, cur, rfl, hg, hnc, hcm, hcs, htake, hnl⟩ := own_flat hown (by omega)
                    have hgn : g = bn1 ∨ g = w.heap.size := by simpa [Value.ownBlock] using hat
                    have hlt1 : bn1 < w.heap.size := r.lt id1 _ hE1
                    have hid1 : id1 < lim := by
                      rcases Nat.lt_or_ge id1 h.next with hlt | hge
                      · exact Nat.lt_of_lt_of_le hlt r.nlim
                      · rw [r.dom id1 hge] at hE1; cases hE1
                    obtain ⟨hst, hE'⟩ := name_stp (b := { ro := false, elem := e, body := .flat (cs1.take (n1 * (size' + 1)) ++ (cs2.drop (k2 * m2 + j2)).take (n2 * (size' + 1))) }) (g := g) (arr := cur)
                      (h1 := { h with heap := h.heap.set D id1 none, low := min h.low id1 }) (fun k => k = bn1) r rfl rfl rfl (fun k hk o ho => by subst hk; rw [hh1] at ho; injection ho with ho; subst ho; rfl) (Nat.min_le_left _ _)
                      (fun i b' hb' => by
                        have hb3 : (Tr.set D h.heap id1 none).get D i = some b' := hb'
                        rw [Tr.get_set_D _ _ _ _ hid1] at hb3
                        split at hb3
                        · cases hb3
                        · rename_i hne
                          refine ⟨hb3, fun pp hpp => ?_⟩
                          have hpn : pp.1 ≠ bn1 := fun he => hne (r.inj id1 i b1 b' _ pp hb1 hb3 hro1 hE1 hpp he.symm)
                          refine ⟨hpn, fun he => ?_⟩
                          rcases hgn with hgn | hgn
                          · exact hpn (he.trans hgn)
                          · have := r.lt i pp hpp; omega)
                      hg (flat_of_take (hall1.append hall2) htake)
                      (fun k hk hne => hgrow.block k hk (by simpa [Value.ownBlock] using hne)) hgrow.size hgrow.os hgrow.tape hgrow.output
                      (fun k hk => ⟨id1, _, hE1, hk.symm, Nat.min_le_right _ _⟩) (hgn.elim (fun e => .inr e) fun e => .inl (by omega)) hal
                    exact ⟨_, w', hrun, _, .inl ⟨_, _, 0, cap, hE', rfl, hnc, hcm, fun _ => by simp, fun _ => ⟨rfl, rfl, rfl, by rw [hcs]⟩⟩, hst⟩
                  · cases ha
                · cases ha
              · cases ha
            · cases ha
          · cases ha
        · cases ha
      · cases ha
    · cases ha
  · cases ha

theorem copyA_ok {t : TypeId} {d s v : A} {h' : Hp} {p q : Value} (ha : (copyA P h t d s).run = some (v, h')) (r : RH E h w) (hd : d.Is E p) (hs : s.Is E q) (at' : Array TypeId) (hat : at'[0]? = some t) (ty : TypeId) :
    ∃ y w', (Builtin.copy_ at' ty #[p, q]).run P w = .ok y w' ∧ Left E h w v h' y w' := by
  unfold copyA at ha
  split at ha
  · rename_i e own1 id1 k1 m1 j1 n1 own2 id2 k2 m2 j2 n2 hu
    split at ha
    · rename_i size b1 b2 hsz hb1 hb2
      split at ha
      · rename_i cs2 hbody2
        split at ha
        · rename_i hcond
          simp only [Bool.and_eq_true, Nat.blt_eq] at hcond
          have hle2 := Nat.le_of_ble_eq_true hcond.2
          obtain ⟨b', hw, ha⟩ := Tree.bind_some ha
          simp only [Tree.run, Option.some.injEq, Prod.mk.injEq] at ha
          obtain ⟨rfl, rfl⟩ := ha
          obtain ⟨bn1, sz1, o1, cap1, hE1, rfl, hnc1, _, ho1, _⟩ := sl_some hd (.inr (by omega))
          obtain ⟨bn2, sz2, o2, cap2, hE2, rfl, hnc2, _, ho2, _⟩ := sl_some hs (.inr (by omega))
          have ho1 := ho1 (by omega)
          have ho2 := ho2 (by omega)
          subst ho1; subst ho2
          obtain ⟨p2, hp2, arr2, fz2, ⟨ty2, hh2, _⟩, hs2, hbd2, _⟩ := r.cells hb2 (by rw [hbody2]; rfl)
          obtain rfl : p2 = (bn2, sz2) := Option.some.inj (hp2.symm.trans hE2)
          have hbd2 := hbd2.2
          rw [hbody2] at hbd2
          obtain ⟨hall2, hlen2, hfit2⟩ := flat_take hbd2 hle2
          have hcells2 : ∀ j u, (((vw sz2.2 arr2).toList.drop (k2 * m2 + j2)).take (min n2 n1 * size))[j]? = some u → w.cell? ((⟨bn2, sz2.2 + (k2 * m2 + j2), none⟩ : Addr).add j) = some u := fun j u hj => by
            rw [addr_add, cell_of_row w bn2 _ arr2 ty2 fz2 hh2]
            rw [List.getElem?_take] at hj
            split at hj
            · rw [List.getElem?_drop, Array.getElem?_toList, vw_get, ← Nat.add_assoc] at hj; exact hj
            · cases hj
          have hfirst := run_firstCells_some (P := P) w size (min n2 n1) ⟨bn2, sz2.2 + (k2 * m2 + j2), none⟩ n2 cap2 _ hlen2 hcells2
          obtain ⟨w', hst, hstp⟩ := cells_stp (P := P) r hb1 hE1 hall2 hw
          refine ⟨goInt (min n2 n1 : Nat), w', ?_, E, ⟨rfl, rfl⟩, hstp⟩
          have hlo : (Builtin.lenOf (.slice (some ⟨bn2, sz2.2 + (k2 * m2 + j2), none⟩) n2 cap2)).run P w = .ok n2 w := by simp [Builtin.lenOf]
          have hmin : Nat.min n2 n1 = min n2 n1 := rfl
          simp [Builtin.copy_, hat, run_underlying hu w, hlo, hmin, hfirst, size?_run hsz w, hst]
        · cases ha
      · cases ha
    · cases ha
  · cases ha

theorem clearA_ok {t : TypeId} {x v : A} {h' : Hp} {p : Value} (ha : (clearA P h t x).run = some (v, h')) (r : RH E h w) (hx : x.Is E p) (at' : Array TypeId) (hat : at'[0]? = some t) (ty : TypeId) :
    ∃ y w', (Builtin.clear_ at' ty #[p]).run P w = .ok y w' ∧ Left E h w v h' y w' := by
  unfold clearA at ha
  split at ha
  · rename_i e own id k m j n hu
    split at ha
    · rename_i hn
      have hn := Nat.eq_of_beq_eq_true hn
      subst hn
      simp only [Tree.run, Option.some.injEq, Prod.mk.injEq] at ha
      obtain ⟨rfl, rfl⟩ := ha
      rcases hx with ⟨bn, sz, o, cap, hE, rfl, hnc, _, ho, _⟩ | ⟨_, _, rfl⟩
      · exact ⟨.tuple #[], w, by simp [Builtin.clear_, hat, run_underlying hu w], Left.same r (undefA_is E)⟩
      · exact ⟨.tuple #[], w, by simp [Builtin.clear_, hat, run_underlying hu w], Left.same r (undefA_is E)⟩
    · rename_i hn
      split at ha
      · rename_i z b hz hb
        obtain ⟨b', hw, ha⟩ := Tree.bind_some ha
        simp only [Tree.run, Option.some.injEq, Prod.mk.injEq] at ha
        obtain ⟨rfl, rfl⟩ := ha
        have hn0 : 0 < n := by
          rcases Nat.eq_zero_or_pos n with h0 | h0
          · subst h0; cases hn
          · exact h0
        obtain ⟨bn, sz, o, cap, hE, rfl, hnc, _, ho, _⟩ := sl_some hx (.inr hn0)
        have ho := ho hn0
        subst ho
        obtain ⟨zv, ⟨i0, hi0, hz0⟩, hzall⟩ := zero?_is hz E
        have hcells : (Builtin.zeroCells zv.cells n).toList = (List.replicate n zv.cells.toList).flatten := by
          rcases Nat.eq_zero_or_pos zv.cells.size with h0 | h0
          · have h1 : zv.cells.toList = [] := by rw [← List.length_eq_zero_iff]; simpa using h0
            simp [Builtin.zeroCells, h0, h1]
          · unfold Builtin.zeroCells
            rw [rep_range zv.cells n zv.cells.size rfl h0]
        obtain ⟨w', hst, hstp⟩ := cells_stp (P := P) r hb hE (repC_is hzall n) hw
        refine ⟨.tuple #[], w', ?_, E, undefA_is E, hstp⟩
        obtain ⟨n', rfl⟩ : ∃ n', n = n' + 1 := ⟨n - 1, by omega⟩
        simp [Builtin.clear_, hat, run_underlying hu w, zero?_run ⟨i0, hi0, hz0⟩ w, hcells, hst]
      · cases ha
  · cases ha

theorem checkKey_str {P : Program} {kt : TypeId} (h : P.underlying kt = some .string) (b : Bool) (n : Nat) (s : ByteArray) (w : World) : (Instr.checkKey b (n + 1) kt (.string s)).run P w = .ok () w := by
  simp [Instr.checkKey, run_underlying h]
theorem run_setObj_mapE {P : Program} {w : World} {r : Nat} {es : Array MapEntry} {clock : Nat} (o : Obj) (h : w.heap[r]? = some (.map es clock)) : (setObj r o).run P w = .ok () (w.putObj r o) := by simp [setObj, Sem.run, h, World.putObj]
theorem insertA_ok {t : TypeId} {m k v : Option A} {v' : A} {h' : Hp} {x y z : Value} (ha : (insertA P h t m k v).run = some (v', h')) (r : RH E h w) (hm : ∀ a, m = some a → a.Is E x) (hk : ∀ a, k = some a → a.Is E y) (hv : ∀ a, v = some a → a.Is E z) :
    v' = undefA ∧ ∃ w', (Instr.mapUpdate t x y z).run P w = .ok () w' ∧ Stp E h w E h' w' := by
  unfold insertA at ha
  split at ha
  · rename_i id s a kt vt hu
    split at ha
    · rename_i e es hku hb
      obtain ⟨hn, ha⟩ := Tree.need_some ha
      simp only [Tree.run, Option.some.injEq, Prod.mk.injEq] at ha
      obtain ⟨rfl, rfl⟩ := ha
      obtain ⟨b, sz, hE, rfl⟩ := hm _ rfl
      obtain ⟨rfl, _⟩ := hk _ rfl
      have hz := hv _ rfl
      obtain ⟨p, hp, hbi⟩ := r.blk id _ hb
      obtain rfl : p = (b, sz) := Option.some.inj (hp.symm.trans hE)
      rcases hbi with ⟨arr, fz, _, _, hf, _⟩ | ⟨es', l, he, _, h1, h2⟩
      · exact hf.2.elim
      · have he : Body.map es = Body.map es' := he
        injection he with he
        subst he
        refine ⟨rfl, _, ?_, map_stp r hb hE h1 h2 hz⟩
        have hfind : (Instr.findKey kt (.string s) (ents es l 0)).run P w = .ok none w := by
          simp [Instr.findKey, run_underlying hku w, find_fresh l 0 0 hn]
        have hck := checkKey_str (P := P) hku false 9999 s w
        simp only [Instr.mapUpdate, Sem.run_bind, run_underlying hu w, Result.andThen_ok]
        rw [run_getObj_map w _ _ _ h1]
        simp only [Result.andThen_ok, Sem.run_bind]
        rw [show (10000 : Nat) = 9999 + 1 from rfl, hck]
        simp only [Result.andThen_ok, hfind]
        exact run_setObj_mapE _ h1
    · cases ha
  · cases ha
theorem lookupA_ok {t : TypeId} {m k : Option A} {ok : Bool} {v : A} {h' : Hp} {x y : Value} (ha : (lookupA P h t m k ok).run = some (v, h')) (r : RH E h w) (hm : ∀ a, m = some a → a.Is E x) (hk : ∀ a, k = some a → a.Is E y) :
    h' = h ∧ ∃ z, (Instr.lookup t x y ok).run P w = .ok z w ∧ v.Is E z := by
  unfold lookupA at ha
  split at ha
  · rename_i id s kt et hu
    split at ha
    · rename_i ro e es z hku hb hz
      obtain ⟨⟨a, b⟩, hf, ha⟩ := Tree.bind_some ha
      obtain ⟨bb, sz, hE, rfl⟩ := hm _ rfl
      obtain ⟨rfl, _⟩ := hk _ rfl
      obtain ⟨p, hp, hbi⟩ := r.blk id _ hb
      obtain rfl : p = (bb, sz) := Option.some.inj (hp.symm.trans hE)
      rcases hbi with ⟨arr, fz, _, _, hf, _⟩ | ⟨es', l, he, _, h1, h2⟩
      · exact hf.2.elim
      · have he : Body.map es = Body.map es' := he
        injection he with he
        subst he
        have hzv : ∃ zv, (zeroValue et).run P w = .ok zv w ∧ z.Is E zv := by
          unfold zeroA? at hz
          split at hz
          · rename_i i hi
            split at hz
            · rename_i zv hzv
              exact ⟨zv, zero?_run ⟨i, hi, hzv⟩ w, ofVal_is hz⟩
            · cases hz
          · cases hz
        obtain ⟨zv, hzr, hzi⟩ := hzv
        have hck := fun b => checkKey_str (P := P) hku b 9999 s w
        have main : ∃ u, (Instr.lookup t (.map (some bb)) (.string s) ok).run P w = .ok (if ok then .tuple #[u, .bool b] else u) w ∧ a.Is E u := by
          rcases find_is 0 0 hf h2 with ⟨rfl, rfl, hfn⟩ | ⟨rfl, kk, u, hu', hfn⟩
          · refine ⟨zv, ?_, hzi⟩
            have hfind : (Instr.findKey kt (.string s) (ents es l 0)).run P w = .ok none w := by
              simp [Instr.findKey, run_underlying hku w, hfn]
            simp only [Instr.lookup, Sem.run_bind, run_underlying hu w, Result.andThen_ok]
            rw [run_getObj_map w _ _ _ h1]
            simp only [Result.andThen_ok, Sem.run_bind, Sem.run_pure]
            rw [show (10000 : Nat) = 9999 + 1 from rfl, hck]
            simp only [Result.andThen_ok, hfind, Sem.run_bind, hzr, Sem.run_pure]
          · refine ⟨u, ?_, hu'⟩
            have hfind : (Instr.findKey kt (.string s) (ents es l 0)).run P w = .ok (some (kk, u)) w := by
              simp [Instr.findKey, run_underlying hku w, hfn]
            simp only [Instr.lookup, Sem.run_bind, run_underlying hu w, Result.andThen_ok]
            rw [run_getObj_map w _ _ _ h1]
            simp only [Result.andThen_ok, Sem.run_bind, Sem.run_pure]
            rw [show (10000 : Nat) = 9999 + 1 from rfl, hck]
            simp only [Result.andThen_ok, hfind, Sem.run_bind, Sem.run_pure]
        obtain ⟨u, hrun, hui⟩ := main
        cases ok with
        | false =>
          simp only [Tree.run, Option.some.injEq, Prod.mk.injEq] at ha
          obtain ⟨rfl, rfl⟩ := ha
          exact ⟨rfl, u, by simpa using hrun, hui⟩
        | true =>
          simp only at ha
          split at ha
          · rename_i c hc
            simp only [Tree.run, Option.some.injEq, Prod.mk.injEq] at ha
            obtain ⟨rfl, rfl⟩ := ha
            exact ⟨rfl, _, by simpa using hrun, [u, .bool b], rfl, comp_is hui hc, ⟨_, rfl, rfl, rfl⟩, trivial⟩
          · cases ha
    · cases ha
  · cases ha
end
end Go.Ev
