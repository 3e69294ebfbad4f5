/- slices.Insert of a layer between two: what it is taken for. Conditions: the row of two lies by itself and is told whole. -/
import Derived.Test.YtlpchgidkibbeaaGreatDoorBas2
import Derived.Test.YtlpchgidkibbeaaGreatDoorInsW
namespace Go.Ev
open Go Go.Proofs

/-- slices.Insert(s, 1, x), s of two layers: a row of three -/
def specInsert : Spec := fun args h => match args with
  | [.one (.sl true id 0 2 0 2), .one (.lit (.int .i64 1)), .one (.sl _ id2 k2 2 0 1)] => match h.blk id, h.blk id2 with
    | some ⟨false, e, .flat [a, b, c, d]⟩, some ⟨false, _, .flat cs2⟩ => match Nat.beq e 152 && !Nat.beq id id2, cs2.drop (k2 * 2) with
      | true, x :: y :: _ => (Hp.alloc { h with heap := h.heap.set D id none, low := min h.low id } ⟨false, e, .flat [a, b, x, y, c, d]⟩).bind fun p => .leaf (.one (.sl true p.1 0 2 0 3), p.2)
      | _, _ => .fail 301
    | _, _ => .fail 301
  | _ => .fail 302
theorem specInsert_ok : SpecOk Tryz.prog 114 specInsert := by
  intro args h v h' hr E w vals rh hargs
  unfold specInsert at hr
  split at hr
  · rename_i id1 own2 id2 k2
    split at hr
    · rename_i e ca cb cc cd e2 cs2 hb1 hb2
      split at hr
      · rename_i cx cy rest hcond hdrop
        simp only [Bool.and_eq_true, Bool.not_eq_true'] at hcond
        obtain rfl := Nat.eq_of_beq_eq_true hcond.1
        obtain ⟨⟨id, h1⟩, hal, hr⟩ := Tree.bind_some hr
        simp only [Tree.run, Option.some.injEq, Prod.mk.injEq] at hr
        obtain ⟨rfl, rfl⟩ := hr
        match vals, hargs with
        | [p, q, r], ⟨hy1, ⟨hq, _⟩, hy2, _⟩ =>
          obtain ⟨bn1, sz1, o1, cap1, hE1, hp, hnc1, hcm1, ho1, hown1⟩ := sl_some hy1 (.inl rfl)
          obtain ⟨bn2, sz2, o2, cap2, hE2, hrr, hnc2, hcm2, ho2, _⟩ := sl_some hy2 (.inr (by omega))
          subst hp; subst hq; subst hrr
          obtain ⟨rfl, _, _, hs1⟩ := hown1 rfl
          have ho2 := ho2 (by omega)
          obtain ⟨p1, hp1, arr1, fz1, ⟨ty1, hh1, hty1⟩, hsz1, hbd1, hfz1⟩ := rh.cells hb1 rfl
          obtain rfl : p1 = (bn1, sz1) := Option.some.inj (hp1.symm.trans hE1)
          obtain ⟨p2, hp2, arr2, fz2, ⟨ty2, hh2, hty2⟩, hsz2, hbd2, hfz2⟩ := rh.cells hb2 rfl
          obtain rfl : p2 = (bn2, sz2) := Option.some.inj (hp2.symm.trans hE2)
          obtain rfl := hty1 rfl
          rw [roIs_fz hfz1 rfl] at hh1
          rw [roIs_fz hfz2 rfl] at hh2
          obtain ⟨_, hbd1⟩ := hbd1.own rfl
          obtain ⟨hz2, hbd2⟩ := hbd2.own rfl
          have hz2 : sz2.2 = 0 := hz2
          rw [hz2, Nat.zero_add] at ho2
          obtain ⟨va, ha, ia⟩ := hbd1 0 ca rfl
          obtain ⟨vb, hb, ib⟩ := hbd1 1 cb rfl
          obtain ⟨vc, hc, ic⟩ := hbd1 2 cc rfl
          obtain ⟨vd, hd, id'⟩ := hbd1 3 cd rfl
          have d0 : cs2[k2 * 2 + 0]? = some cx := by rw [← List.getElem?_drop, hdrop]; rfl
          have d1 : cs2[k2 * 2 + 1]? = some cy := by rw [← List.getElem?_drop, hdrop]; rfl
          obtain ⟨vx, hx, ix⟩ := hbd2 (k2 * 2 + 0) cx (by rw [nth_eq]; exact d0)
          obtain ⟨vy, hy, iy⟩ := hbd2 (k2 * 2 + 1) cy (by rw [nth_eq]; exact d1)
          have hne : bn2 ≠ bn1 := fun he => by
            have := rh.inj id1 id2 _ _ _ _ hb1 hb2 rfl hE1 hE2 he.symm
            subst this
            have h2 := hcond.2
            rw [Nat.beq_refl] at h2
            cases h2
          have hcx : w.cell? ⟨bn2, o2, none⟩ = some vx := by rw [cell_of_row w bn2 _ arr2 _ _ hh2, ho2]; exact hx
          have hcy : w.cell? ⟨bn2, o2 + 1, none⟩ = some vy := by rw [cell_of_row w bn2 _ arr2 _ _ hh2, ho2]; exact hy
          have k0 : ∀ u ∈ [va, vb, vc, vd, vx, vy], u.oneCell' = true := fun u hu => by
            simp only [List.mem_cons, List.not_mem_nil, or_false] at hu
            rcases hu with rfl | rfl | rfl | rfl | rfl | rfl
            · exact ia.oneCell
            · exact ib.oneCell
            · exact ic.oneCell
            · exact id'.oneCell
            · exact ix.oneCell
            · exact iy.oneCell
          have hid1 : id1 < lim := by
            rcases Nat.lt_or_ge id1 h.next with hlt | hge
            · exact Nat.lt_of_lt_of_le hlt rh.nlim
            · rw [rh.dom id1 hge] at hE1; cases hE1
          have hlt1 : bn1 < w.heap.size := rh.lt id1 _ hE1
          have hlt2 : bn2 < w.heap.size := rh.lt id2 _ hE2
          have hall : All2 (C.Is E) [ca, cb, cx, cy, cc, cd] [va, vb, vx, vy, vc, vd] := ⟨ia, ib, ix, iy, ic, id', trivial⟩
          have fin : ∀ (g cap' : Nat) (cur' : Array Value) (w' : World), (g = bn1 ∨ g = w.heap.size) → w'.heap[g]? = some (.cells cur' 152 (0, 0)) → cur'.size = cap' * 2 → 3 ≤ cap' → cap' ≤ maxLen → cur'.toList.take 6 = [va, vb, vx, vy, vc, vd] →
              (∀ k, k < w.heap.size → k ≠ bn1 → w'.heap[k]? = w.heap[k]?) → w.heap.size ≤ w'.heap.size → w'.os = w.os → w'.tape = w.tape → w'.output = w.output →
              ∃ x E', Ending.returned (.slice (some ⟨g, 0, none⟩) 3 cap') = .returned x ∧ (A.one (.sl true id 0 2 0 3)).Is E' x ∧ Stp E h w E' h1 w' := fun g cap' cur' w' hgn hg hcs hc3 hcm htake hkeep hsize hos htape hout => by
            obtain ⟨hst, hE'⟩ := name_stp (b := ⟨false, 152, .flat [ca, cb, cx, cy, cc, cd]⟩) (g := g) (arr := cur') (h1 := { h with heap := h.heap.set D id1 none, low := min h.low id1 }) (fun k => k = bn1) rh rfl rfl rfl
              (fun k hk o ho => by subst hk; rw [hh1] at ho; injection ho with ho; subst ho; rfl) (Nat.min_le_left _ _)
              (fun i b' hb' => by
                have hb3 : (Tr.set D h.heap id1 none).get D i = some b' := hb'
                rw [Tr.get_set_D _ _ _ _ hid1] at hb3
                split at hb3
                · cases hb3
                · rename_i hne'
                  refine ⟨hb3, fun pp hpp => ?_⟩
                  have hpn : pp.1 ≠ bn1 := fun he => hne' (rh.inj id1 i _ b' _ pp hb1 hb3 rfl hE1 hpp he.symm)
                  refine ⟨hpn, fun he => ?_⟩
                  rcases hgn with hgn | hgn
                  · exact hpn (he.trans hgn)
                  · have := rh.lt i pp hpp; omega)
              hg (flat_of_take hall htake) hkeep hsize hos htape hout (fun k hk => ⟨id1, _, hE1, hk.symm, Nat.min_le_right _ _⟩) (hgn.elim (fun e => .inr e) fun e => .inl (by omega)) hal
            exact ⟨_, _, rfl, .inl ⟨_, _, 0, cap', hE', rfl, hc3, hcm, fun _ => by simp, fun _ => ⟨rfl, rfl, rfl, by rw [hcs]⟩⟩, hst⟩
          by_cases hcap : cap1 = 2
          · subst hcap
            refine (Tryz.ins_grow bn1 va vb vc vd vx vy bn2 o2 cap2 w hlt1 hlt2 (by rw [cell_of_row w bn1 _ arr1 _ _ hh1]; exact ha) (by rw [cell_of_row w bn1 _ arr1 _ _ hh1]; exact hb) (by rw [cell_of_row w bn1 _ arr1 _ _ hh1]; exact hc) (by rw [cell_of_row w bn1 _ arr1 _ _ hh1]; exact hd) hcx hcy k0).mono ?_
            rintro e w' ⟨cap', cur', rfl, q1, q2, q3, q4, q5, q6, q7, q8, q9, q10⟩
            exact fin _ cap' cur' w' (.inr rfl) q1 q2 q3 q4 q5 (fun k hk _ => q6 k hk) q7 q8 q9 q10
          · refine (Tryz.ins_room bn1 cap1 arr1 va vb vc vd vx vy bn2 o2 cap2 arr2 _ w hh1 (by rw [hsz1, hs1]) (by omega) hcm1 hh2 ha hb hc hd hcx hcy hne k0).mono ?_
            rintro e w' ⟨cur', rfl, q1, q2, q3, q4, q5, q6, q7, q8⟩
            exact fin _ cap1 cur' w' (.inl rfl) q1 q2 (by omega) hcm1 q3 (fun k _ hk => q4 k hk) (Nat.le_of_eq q5.symm) q6 q7 q8
      · cases hr
    · cases hr
  · cases hr
def tabS : List (FuncId × Spec) := [(114, specInsert), (146, specItoa), (144, specJoin)]
theorem tabS_ok : TabOk Tryz.prog (tabOf tabS) := tabOf_ok fun e he => by
  simp only [tabS, List.mem_cons, List.not_mem_nil, or_false] at he
  rcases he with rfl | rfl | rfl
  · exact specInsert_ok
  · exact specItoa_ok
  · exact specJoin_ok
end Go.Ev
