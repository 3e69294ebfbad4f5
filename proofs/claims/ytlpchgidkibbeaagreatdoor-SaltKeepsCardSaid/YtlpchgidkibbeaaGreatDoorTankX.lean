/- Tanks: both functions that cool a tank. Conditions: few layers. Tanks: the entries of both functions that cool a tank. Conditions: few layers. -/
import Derived.Test.YtlpchgidkibbeaaGreatDoorTog
namespace Go.Ev
open Go Go.Proofs
set_option maxRecDepth 100000
theorem call_whole {P : Program} {rec : Code → St → Tree (X × St)} (hrec : RecOk P rec) {f : FuncId} {fn : Func} {c : Code} (hfn : P.funcs[f]? = some fn) (hc : fn.body = some c) {args : List A} (hsz : (Nat.ble args.length fn.ntmps && Nat.ble args.length lim) = true) {h : Hp} (m : Bool × Bool) {v : A} {h' : Hp} (slotsR : List Nat)
  {sB : St} (hsB : sB = st0 fn args h m) {T : Tree (X × St)} (hT : (rec c sB).bind (canonT [] slotsR sB) = T) {S : Sk (X × St)} (h1 : T = into T S) (h2 : fits T S = true) (hall : SkLeads (Left2 P fn h v h') S) : CallAt P f args h v h' := by
 subst hsB
 subst hT
 exact call_comes hfn hc hsz m (comes_base (St.Le.refl _) (comesF_round hrec rfl [] slotsR (all_into h1 h2 hall.all)))
def chainF (f : Nat → Int) : Nat → Nat → Int
 | 0 => fun _ => 0
 | n + 1 => putF (chainF f n) n (f n)
theorem chain_lt {f : Nat → Int} : ∀ {n k : Nat}, k < n → chainF f n k = f k
 | n + 1, k, h => by
  unfold chainF
  by_cases e : k = n
  ·subst e; exact putF_same _ _ _
  ·rw [putF_other _ _ e]
   exact chain_lt (by omega)
theorem togS_congr {a b c d : Nat → Int} : ∀ {n : Nat}, (∀ k, k < n → a k = c k) → (∀ k, k < n → b k = d k) → togS a b n = togS c d n
 | 0, _, _ => rfl
 | n + 1, h1, h2 => by
  unfold togS
  rw [togS_congr (fun k hk => h1 k (by omega)) (fun k hk => h2 k (by omega)), h1 n (by omega), h2 n (by omega)]
def coolN (z2 : Nat → Int) (num den : Int) (k : Nat) : Int := w64 ((w64 (z2 k * num)).tdiv den)
def coolH (z2 : Nat → Int) (num den : Int) (k : Nat) : Int := w64 (z2 k - coolN z2 num den k)
noncomputable def clRe (g : (Nat → Int) → (Nat → Int) → Nat → T3) : Code → St → Tree (X × St) := recT Tryz.prog (tabOf (tbG g))
section
variable (g : (Nat → Int) → (Nat → Int) → Nat → T3) (n : Nat) (room num den : Int) (z1 z2 : Nat → Int)
def cpB2 : St := { baseB 35 [tankA room n, int num, int den] (tankH n z1 z2) with keep := true }
noncomputable def cpT2 : Tree (X × St) := (clRe g (bodyOf Tryz.f46) (cpB2 n room num den z1 z2)).bind (canonT [] [6, 7, 8] (cpB2 n room num den z1 z2))
end
def clRounds (w : Nat) (den : Int) (L : Sk (X × St)) : Nat → Sk (X × St)
 | 0 => .ff L
 | n + 1 => .tt (nnS w (.need (!(den == 0)) (clRounds w den L n)))
where nnS : Nat → Sk (X × St) → Sk (X × St)
 | 0, S => S
 | w + 1, S => .nn (nnS w S)
theorem nnS_ok {p : X × St → Prop} : ∀ {w : Nat} {S : Sk (X × St)}, SkLeads p S → SkLeads p (clRounds.nnS w S)
 | 0, _, h => h
 | _ + 1, _, h => sk_nn (nnS_ok h)
theorem clRounds_ok {p : X × St → Prop} {w : Nat} {den : Int} {L : Sk (X × St)} (hd : (!(den == 0)) = true) (h : SkLeads p L) : ∀ n, SkLeads p (clRounds w den L n)
 | 0 => sk_ff h
 | n + 1 => sk_tt (nnS_ok (sk_need hd (clRounds_ok hd h n)))
def lastS (n : Nat) (L : Sk (X × St)) : Sk (X × St) := match n with | 0 => .tt L | _ + 1 => .ff L
theorem lastS_ok {p : X × St → Prop} {n : Nat} {L : Sk (X × St)} (h : SkLeads p L) : SkLeads p (lastS n L) := by cases n with | zero => exact sk_tt h | succ n => exact sk_ff h
def tkNews (e l : TypeId) (room : Int) (s : T3) (n : Nat) : List Blk := match n with
 | 0 => [tbox e room nilC]
 | _ + 1 => [tbox e room (slC true 2 2 s.1), ⟨false, l, .rows s.1 (tkC s.2.1 s.2.2)⟩]
def tkVal (room : Int) (s : T3) (n : Nat) : Bool × List C := match n with
 | 0 => (true, [ci room, nilC])
 | _ + 1 => (true, [ci room, slC true 2 2 s.1])
def tkMem (e l : TypeId) (room : Int) (s : T3) (n : Nat) : List Blk := match n with
 | 0 => []
 | n + 1 => tkNews e l room s (n + 1)
def coolT (n : Nat) (z1 z2 : Nat → Int) (num den : Int) : T3 := togS z1 (coolH z2 num den) n
def coolC (g : (Nat → Int) → (Nat → Int) → Nat → T3) (n : Nat) (z1 z2 : Nat → Int) (num den : Int) : T3 := g (chainF z1 n) (chainF (coolH z2 num den) n) n
theorem coolC_eq (n : Nat) (z1 z2 : Nat → Int) (num den : Int) : coolC togS n z1 z2 num den = coolT n z1 z2 num den := togS_congr (fun _ h => chain_lt h) fun _ h => chain_lt h
def ordS (i b : Bool) (L : Sk (X × St)) : Sk (X × St) := .both (.need i (.both (.need b (.need i (.need b L))) (.need i (.need b (.need b L))))) (.need i (.both (.need i (.need b (.need b L))) (.need b (.need i (.need b L)))))
theorem ordS_ok {p : X × St → Prop} {i b : Bool} {L : Sk (X × St)} (hi : i = true) (hb : b = true) (h : SkLeads p L) : SkLeads p (ordS i b L) := by
 have h1 := sk_need hb (sk_need hi (sk_need hb h))
 have h2 := sk_need hi (sk_need hb (sk_need hb h))
 exact sk_both (sk_need hi (sk_both h1 h2)) (sk_need hi (sk_both h2 h1))
section
variable (n : Nat) (room num den : Int) (z1 z2 : Nat → Int)
def clB : St := { baseB 56 [tankA room n, int num, int den] (tankH n z1 z2) with keep := true }
def clN (env : List (Nat × A)) (news : List Blk) : St := stN 56 (envL env) (bsS [⟨some 0, n, tkC z1 z2⟩] []) [] news true
def clHS (l : A) (lost i : Int) (news : List Blk) : St := clN n z1 z2 [(1, int num), (2, int den), (3, pt 1), (6, pt 2), (8, l), (9, int lost), (10, int i)] ([tbox 76 room (slC false 0 2 n), tbox 76 0 nilC] ++ news)
def clTb (k : Nat) (h : Nat → Int) : List Blk := match k with | 0 => [] | k + 1 => [⟨false, 98, .rows (k + 1) (tkC z1 h)⟩]
def clA (j k : Nat) : A := match k with | 0 => nilA | k + 1 => slO j 2 (k + 1)
def clH (k : Nat) : St := clHS n room num den z1 z2 (clA 3 k) (sumA (coolN z2 num den) k) (k : Int) (clTb z1 k (coolH z2 num den))
def clX (k : Nat) : St := clN n z1 z2 [(3, pt 1), (6, pt 2), (8, clA 3 k), (9, int (sumA (coolN z2 num den) k))] ([tbox 76 room (slC false 0 2 n), tbox 76 0 nilC] ++ clTb z1 k (coolH z2 num den))
noncomputable def clT (g : (Nat → Int) → (Nat → Int) → Nat → T3) (k : Nat) : Tree (X × St) := (clRe g (loopF Tryz.f54) (clH n room num den z1 z2 k)).bind (canonT [1, 2, 3, 6, 8, 9, 10] [3, 6, 8, 9] (clB n room num den z1 z2))
noncomputable def clO (g : (Nat → Int) → (Nat → Int) → Nat → T3) : Tree ((X × St) ⊕ (List Bool × St)) := evO (clRe g) (bodyOf Tryz.f54) [1, 2, 3, 6, 8, 9, 10] [6, 7] (clB n room num den z1 z2)
noncomputable def clP (g : (Nat → Int) → (Nat → Int) → Nat → T3) (k : Nat) : Tree ((X × St) ⊕ (List Bool × St)) := evO2 (clRe g) true (bodyOf Tryz.f54) (pathF Tryz.f54) [] [6, 7] (clB n room num den z1 z2) (.exit 0, clX n room num den z1 z2 k)
end
section
variable (n : Nat) (room num den : Int) (z1 z2 : Nat → Int) (g : (Nat → Int) → (Nat → Int) → Nat → T3)
noncomputable def clSk (k : Nat) : Sk (X × St) := .node (decide ((k : Int) < (n : Int))) (.need (decide (0 ≤ (k : Int)) && decide ((k : Int) < (n : Int))) (.need (Nat.blt (0 + Int.toNat (k : Int)) n) (.need (!(den == 0)) (ordS (decide (0 ≤ (k : Int)) && decide ((k : Int) < (n : Int))) (Nat.blt (0 + Int.toNat (k : Int)) n) (match k with
 | 0 => .leaf (.normal, clHS n room num den z1 z2 (slO 3 2 1) (w64 (0 + coolN z2 num den 0)) (IntKind.i64.wrap (((0 : Nat) : Int) + 1)) [⟨false, 98, .flat [ci (z1 0), ci (coolH z2 num den 0)]⟩])
 | k + 1 => .need (Nat.ble (k + 1) (k + 1) && Nat.blt ((k + 1 + 1) * 16) 140737488355328 && Nat.ble (k + 1 + 1) 9223372036854775807)
   (.leaf (.normal, clHS n room num den z1 z2 (slO 3 2 (k + 1 + 1)) (w64 (sumA (coolN z2 num den) (k + 1) + coolN z2 num den (0 + Int.toNat ((k + 1 : Nat) : Int)))) (IntKind.i64.wrap (((k + 1 : Nat) : Int) + 1)) [⟨false, 98, .rows (k + 1 + 1) (tkC (putF z1 (k + 1) (z1 (0 + Int.toNat ((k + 1 : Nat) : Int)))) (putF (coolH z2 num den) (k + 1) (coolH z2 num den (0 + Int.toNat ((k + 1 : Nat) : Int)))))⟩])))))))
 (.leaf (.exit 0, clX n room num den z1 z2 k))
theorem cl_into (k : Nat) : clT n room num den z1 z2 g k = into (clT n room num den z1 z2 g k) (clSk n room num den z1 z2 k) := by
 cases k with
 | zero => kernel_rfl
 | succ k => kernel_rfl
theorem cl_fits (k : Nat) : fits (clT n room num den z1 z2 g k) (clSk n room num den z1 z2 k) = true := by
 cases k with
 | zero => kernel_rfl
 | succ k => kernel_rfl
theorem clRe_ok : RecOk Tryz.prog (clRe togS) := recT_ok tbT2_ok
theorem cl_loop (hn : n ≤ 100000) (hd : (!(den == 0)) = true) : ComesF Tryz.prog (.loop (loopF Tryz.f54)) (clB n room num den z1 z2) (clH n room num den z1 z2 0) fun q => q = (.exit 0, clX n room num den z1 z2 n) := by
 refine loop_count clRe_ok rfl [1, 2, 3, 6, 8, 9, 10] [3, 6, 8, 9] (clH n room num den z1 z2) (fun _ => (.exit 0, clX n room num den z1 z2 n)) n (clT n room num den z1 z2 togS) (clSk n room num den z1 z2) (fun _ => rfl) (cl_into n room num den z1 z2 togS) (cl_fits n room num den z1 z2 togS) (fun k hk => ?_) (sk_no (rnd_end n) (sk_leaf rfl))
 obtain ⟨a1, a2, a3⟩ := rnd_lt hk
 refine sk_yes a1 (sk_need a2 (sk_need a3 (sk_need hd (ordS_ok a2 a3 ?_))))
 cases k with
 | zero =>
  refine sk_leaf (rnd_next ?_ rfl)
  rw [wrap_succ (k := 0) (by omega)]
  refine le_news (news := [tbox 76 room (slC false 0 2 n), tbox 76 0 nilC, ⟨false, 98, .flat [ci (z1 0), ci (coolH z2 num den 0)]⟩]) (news' := [tbox 76 room (slC false 0 2 n), tbox 76 0 nilC, ⟨false, 98, .rows 1 (tkC z1 (coolH z2 num den))⟩]) (show 1 + 3 ≤ lim by decide) ⟨⟨rfl, fun _ _ _ h => h⟩, ⟨rfl, fun _ _ _ h => h⟩, ⟨rfl, two_rows rfl rfl⟩, trivial⟩
 | succ k =>
  refine sk_need (by rw [ble_self, blt_lit (by omega), ble_lit (by omega)]; rfl) (sk_leaf (rnd_next ?_ rfl))
  rw [idx_nat, wrap_succ (by omega), putF_self, putF_self]
  exact St.Le.refl _
def clR (s : T3) (lost : Int) : St := clN n z1 z2 [(6, pt 1), (7, int lost)] (tkNews 76 98 room s n)
noncomputable def clPS : Sk ((X × St) ⊕ (List Bool × St)) := match n with
 | 0 => .tt (.leaf (.inl (.ret, clR 0 room z1 z2 (g z1 (coolH z2 num den) 0) 0)))
 | k + 1 => .need (okN (k + 1)) (.need (Nat.ble (k + 1) 100000) (.ff (.leaf (.inl (.ret, clR (k + 1) room z1 z2 (g z1 (coolH z2 num den) (k + 1)) (sumA (coolN z2 num den) (k + 1)))))))
theorem clP_into : clP n room num den z1 z2 g n = into (clP n room num den z1 z2 g n) (clPS n room num den z1 z2 g) := by
 cases n with
 | zero => kernel_rfl
 | succ k => kernel_rfl
theorem clP_fits : fits (clP n room num den z1 z2 g n) (clPS n room num den z1 z2 g) = true := by
 cases n with
 | zero => kernel_rfl
 | succ k => kernel_rfl
theorem clO_into : clO n room num den z1 z2 g = into (clO n room num den z1 z2 g) (.leaf (.inr (pathF Tryz.f54, clH n room num den z1 z2 0))) := by kernel_rfl
theorem clO_fits : fits (clO n room num den z1 z2 g) (.leaf (.inr (pathF Tryz.f54, clH n room num den z1 z2 0))) = true := by kernel_rfl
def clV (n : Nat) (room num den : Int) (z1 z2 : Nat → Int) : A := .tup [tkVal room (coolT n z1 z2 num den) n, (false, [ci (sumA (coolN z2 num den) n)])]
def clW (n : Nat) (room num den : Int) (z1 z2 : Nat → Int) : List Blk := tkMem 76 98 room (coolT n z1 z2 num den) n
theorem cl_left (s : T3) (lost : Int) : Left2 Tryz.prog Tryz.f54 (tankH n z1 z2) (.tup [tkVal room s n, (false, [ci lost])]) (hpT [⟨some 0, n, tkC z1 z2⟩] [] (tkMem 76 98 room s n)) (.ret, clR n room z1 z2 s lost) := by
 cases n with
 | zero => exact left_of (b := true) (by kernel_rfl)
 | succ n => exact left_of (b := false) (by kernel_rfl)
theorem cl_call (hn : n ≤ 100000) (hd : (!(den == 0)) = true) : CallAt Tryz.prog 54 [tankA room n, int num, int den] (tankH n z1 z2) (clV n room num den z1 z2) (hpT [⟨some 0, n, tkC z1 z2⟩] [] (clW n room num den z1 z2)) := by
 refine call_base clRe_ok (c := bodyOf Tryz.f54) (fn := Tryz.f54) Tryz.func54 (by kernel_rfl) (by kernel_rfl) (false, true) 1 [1, 2, 3, 6, 8, 9, 10] [6, 7] (sB := clB n room num den z1 z2) (by kernel_rfl) (t := clO n room num den z1 z2 togS) (by delta clO; rfl) (all_into (clO_into n room num den z1 z2 togS) (clO_fits n room num den z1 z2 togS) (SkLeads.all ?_))
 refine sk_leaf ⟨_, true, [], [6, 7], cl_loop n room num den z1 z2 hn hd, fun q hq => Leads.all ?_⟩
 subst hq
 refine leads_in (show _ = clP n room num den z1 z2 togS n by delta clP; rfl) (clP_into n room num den z1 z2 togS) (clP_fits n room num den z1 z2 togS) ?_
 cases n with
 | zero => exact sk_tt (sk_leaf (cutF_dn (cl_left 0 room z1 z2 _ _)))
 | succ k => exact sk_need (okN_ok _) (sk_need (by rw [Nat.ble_eq]; exact hn) (sk_ff (sk_leaf (cutF_dn (cl_left (k + 1) room z1 z2 _ _)))))
end
section
variable (n : Nat) (room num den : Int) (z1 z2 : Nat → Int)
def cpE (n : Nat) (room num den : Int) (z1 z2 : Nat → Int) : Int := firstZ [tankE n room z1 z2, wW den 1 1000, wW num 0 den]
def cpR2 (s : T3) (lost : Int) : St := stN 35 (envL [(6, pt 1), (7, int lost), (8, int 0)]) (bsS [⟨some 0, n, tkC z1 z2⟩] []) [] (tkNews 81 152 room s n) true
def cpY2 (e : Int) : St := stN 35 (envL [(6, pt 1), (7, int 0), (8, int e)]) (bsS [⟨some 0, n, tkC z1 z2⟩] []) [] [tbox 81 0 nilC] true
def cpS2 (g : (Nat → Int) → (Nat → Int) → Nat → T3) : Sk (X × St) := .node (cpE n room num den z1 z2 != 0) (.leaf (.ret, cpY2 n z1 z2 (cpE n room num den z1 z2))) (clRounds 3 den (lastS n (.leaf (.ret, cpR2 n room z1 z2 (coolC g n z1 z2 num den) (sumA (coolN z2 num den) n)))) n)
def cpV2 (n : Nat) (room num den : Int) (z1 z2 : Nat → Int) : A := match cpE n room num den z1 z2 != 0 with
 | true => .tup [(true, [ci 0, nilC]), (false, [ci 0]), (false, [ci (cpE n room num den z1 z2)])]
 | false => .tup [tkVal room (coolT n z1 z2 num den) n, (false, [ci (sumA (coolN z2 num den) n)]), (false, [ci 0])]
def cpW2 (n : Nat) (room num den : Int) (z1 z2 : Nat → Int) : List Blk := match cpE n room num den z1 z2 != 0 with
 | true => []
 | false => tkMem 81 152 room (coolT n z1 z2 num den) n
theorem cp_left2 (s : T3) (lost : Int) : Left2 Tryz.prog Tryz.f46 (tankH n z1 z2) (.tup [tkVal room s n, (false, [ci lost]), (false, [ci 0])]) (hpT [⟨some 0, n, tkC z1 z2⟩] [] (tkMem 81 152 room s n)) (.ret, cpR2 n room z1 z2 s lost) := by
 cases n with
 | zero => exact left_of (b := true) (by kernel_rfl)
 | succ n => exact left_of (b := false) (by kernel_rfl)
theorem cp_left3 (e : Int) : Left2 Tryz.prog Tryz.f46 (tankH n z1 z2) (.tup [(true, [ci 0, nilC]), (false, [ci 0]), (false, [ci e])]) (hpT [⟨some 0, n, tkC z1 z2⟩] [] []) (.ret, cpY2 n z1 z2 e) := left_of (b := true) (by kernel_rfl)
theorem cp_den (h : (cpE n room num den z1 z2 != 0) = false) : (!(den == 0)) = true := by
 have h : cpE n room num den z1 z2 = 0 := ne0 h
 unfold cpE at h
 obtain ⟨_, h⟩ := first0 h
 obtain ⟨h, _⟩ := first0 h
 obtain ⟨h, _⟩ := wW0 h
 have : den ≠ 0 := by omega
 simpa using this
theorem cp_case2 (h1 : cpT2 togS n room num den z1 z2 = into (cpT2 togS n room num den z1 z2) (cpS2 n room num den z1 z2 togS)) (h2 : fits (cpT2 togS n room num den z1 z2) (cpS2 n room num den z1 z2 togS) = true) :
  CallAt Tryz.prog 46 [tankA room n, int num, int den] (tankH n z1 z2) (cpV2 n room num den z1 z2) (hpT [⟨some 0, n, tkC z1 z2⟩] [] (cpW2 n room num den z1 z2)) := by
 refine call_whole (rec := clRe togS) (recT_ok tbT2_ok) Tryz.func46 (by kernel_rfl) (by kernel_rfl) (false, true) [6, 7, 8] (sB := cpB2 n room num den z1 z2) (by kernel_rfl) (T := cpT2 togS n room num den z1 z2) (by delta cpT2; rfl) h1 h2 ?_
 unfold cpV2 cpW2 cpS2
 rw [← coolC_eq]
 refine sk_either (fun h => ?_) fun h => ?_
 ·rw [h]; exact sk_leaf (cp_left3 n z1 z2 _)
 ·rw [h]; exact clRounds_ok (cp_den n room num den z1 z2 h) (lastS_ok (sk_leaf (cp_left2 n room z1 z2 _ _))) n
end
theorem cp_0 (g : (Nat → Int) → (Nat → Int) → Nat → T3) (room num den : Int) (z1 z2 : Nat → Int) : cpT2 g 0 room num den z1 z2 = into (cpT2 g 0 room num den z1 z2) (cpS2 0 room num den z1 z2 g) := by kernel_rfl
theorem cp_f0 (g : (Nat → Int) → (Nat → Int) → Nat → T3) (room num den : Int) (z1 z2 : Nat → Int) : fits (cpT2 g 0 room num den z1 z2) (cpS2 0 room num den z1 z2 g) = true := by kernel_rfl
theorem cp_1 (g : (Nat → Int) → (Nat → Int) → Nat → T3) (room num den : Int) (z1 z2 : Nat → Int) : cpT2 g 1 room num den z1 z2 = into (cpT2 g 1 room num den z1 z2) (cpS2 1 room num den z1 z2 g) := by kernel_rfl
theorem cp_f1 (g : (Nat → Int) → (Nat → Int) → Nat → T3) (room num den : Int) (z1 z2 : Nat → Int) : fits (cpT2 g 1 room num den z1 z2) (cpS2 1 room num den z1 z2 g) = true := by kernel_rfl
theorem cp_2 (g : (Nat → Int) → (Nat → Int) → Nat → T3) (room num den : Int) (z1 z2 : Nat → Int) : cpT2 g 2 room num den z1 z2 = into (cpT2 g 2 room num den z1 z2) (cpS2 2 room num den z1 z2 g) := by kernel_rfl
theorem cp_f2 (g : (Nat → Int) → (Nat → Int) → Nat → T3) (room num den : Int) (z1 z2 : Nat → Int) : fits (cpT2 g 2 room num den z1 z2) (cpS2 2 room num den z1 z2 g) = true := by kernel_rfl
theorem cp_3 (g : (Nat → Int) → (Nat → Int) → Nat → T3) (room num den : Int) (z1 z2 : Nat → Int) : cpT2 g 3 room num den z1 z2 = into (cpT2 g 3 room num den z1 z2) (cpS2 3 room num den z1 z2 g) := by kernel_rfl
theorem cp_f3 (g : (Nat → Int) → (Nat → Int) → Nat → T3) (room num den : Int) (z1 z2 : Nat → Int) : fits (cpT2 g 3 room num den z1 z2) (cpS2 3 room num den z1 z2 g) = true := by kernel_rfl
theorem cp_4 (g : (Nat → Int) → (Nat → Int) → Nat → T3) (room num den : Int) (z1 z2 : Nat → Int) : cpT2 g 4 room num den z1 z2 = into (cpT2 g 4 room num den z1 z2) (cpS2 4 room num den z1 z2 g) := by kernel_rfl
theorem cp_f4 (g : (Nat → Int) → (Nat → Int) → Nat → T3) (room num den : Int) (z1 z2 : Nat → Int) : fits (cpT2 g 4 room num den z1 z2) (cpS2 4 room num den z1 z2 g) = true := by kernel_rfl
theorem cp_5 (g : (Nat → Int) → (Nat → Int) → Nat → T3) (room num den : Int) (z1 z2 : Nat → Int) : cpT2 g 5 room num den z1 z2 = into (cpT2 g 5 room num den z1 z2) (cpS2 5 room num den z1 z2 g) := by kernel_rfl
theorem cp_f5 (g : (Nat → Int) → (Nat → Int) → Nat → T3) (room num den : Int) (z1 z2 : Nat → Int) : fits (cpT2 g 5 room num den z1 z2) (cpS2 5 room num den z1 z2 g) = true := by kernel_rfl
theorem cp_6 (g : (Nat → Int) → (Nat → Int) → Nat → T3) (room num den : Int) (z1 z2 : Nat → Int) : cpT2 g 6 room num den z1 z2 = into (cpT2 g 6 room num den z1 z2) (cpS2 6 room num den z1 z2 g) := by kernel_rfl
theorem cp_f6 (g : (Nat → Int) → (Nat → Int) → Nat → T3) (room num den : Int) (z1 z2 : Nat → Int) : fits (cpT2 g 6 room num den z1 z2) (cpS2 6 room num den z1 z2 g) = true := by kernel_rfl
theorem cp_7 (g : (Nat → Int) → (Nat → Int) → Nat → T3) (room num den : Int) (z1 z2 : Nat → Int) : cpT2 g 7 room num den z1 z2 = into (cpT2 g 7 room num den z1 z2) (cpS2 7 room num den z1 z2 g) := by kernel_rfl
theorem cp_f7 (g : (Nat → Int) → (Nat → Int) → Nat → T3) (room num den : Int) (z1 z2 : Nat → Int) : fits (cpT2 g 7 room num den z1 z2) (cpS2 7 room num den z1 z2 g) = true := by kernel_rfl
theorem cp_8 (g : (Nat → Int) → (Nat → Int) → Nat → T3) (room num den : Int) (z1 z2 : Nat → Int) : cpT2 g 8 room num den z1 z2 = into (cpT2 g 8 room num den z1 z2) (cpS2 8 room num den z1 z2 g) := by kernel_rfl
theorem cp_f8 (g : (Nat → Int) → (Nat → Int) → Nat → T3) (room num den : Int) (z1 z2 : Nat → Int) : fits (cpT2 g 8 room num den z1 z2) (cpS2 8 room num den z1 z2 g) = true := by kernel_rfl
theorem cp_9 (g : (Nat → Int) → (Nat → Int) → Nat → T3) (room num den : Int) (z1 z2 : Nat → Int) : cpT2 g 9 room num den z1 z2 = into (cpT2 g 9 room num den z1 z2) (cpS2 9 room num den z1 z2 g) := by kernel_rfl
theorem cp_f9 (g : (Nat → Int) → (Nat → Int) → Nat → T3) (room num den : Int) (z1 z2 : Nat → Int) : fits (cpT2 g 9 room num den z1 z2) (cpS2 9 room num den z1 z2 g) = true := by kernel_rfl
theorem cp_10 (g : (Nat → Int) → (Nat → Int) → Nat → T3) (room num den : Int) (z1 z2 : Nat → Int) : cpT2 g 10 room num den z1 z2 = into (cpT2 g 10 room num den z1 z2) (cpS2 10 room num den z1 z2 g) := by kernel_rfl
theorem cp_f10 (g : (Nat → Int) → (Nat → Int) → Nat → T3) (room num den : Int) (z1 z2 : Nat → Int) : fits (cpT2 g 10 room num den z1 z2) (cpS2 10 room num den z1 z2 g) = true := by kernel_rfl
theorem cp_11 (g : (Nat → Int) → (Nat → Int) → Nat → T3) (room num den : Int) (z1 z2 : Nat → Int) : cpT2 g 11 room num den z1 z2 = into (cpT2 g 11 room num den z1 z2) (cpS2 11 room num den z1 z2 g) := by kernel_rfl
theorem cp_f11 (g : (Nat → Int) → (Nat → Int) → Nat → T3) (room num den : Int) (z1 z2 : Nat → Int) : fits (cpT2 g 11 room num den z1 z2) (cpS2 11 room num den z1 z2 g) = true := by kernel_rfl
theorem cp_12 (g : (Nat → Int) → (Nat → Int) → Nat → T3) (room num den : Int) (z1 z2 : Nat → Int) : cpT2 g 12 room num den z1 z2 = into (cpT2 g 12 room num den z1 z2) (cpS2 12 room num den z1 z2 g) := by kernel_rfl
theorem cp_f12 (g : (Nat → Int) → (Nat → Int) → Nat → T3) (room num den : Int) (z1 z2 : Nat → Int) : fits (cpT2 g 12 room num den z1 z2) (cpS2 12 room num den z1 z2 g) = true := by kernel_rfl
theorem cp_13 (g : (Nat → Int) → (Nat → Int) → Nat → T3) (room num den : Int) (z1 z2 : Nat → Int) : cpT2 g 13 room num den z1 z2 = into (cpT2 g 13 room num den z1 z2) (cpS2 13 room num den z1 z2 g) := by kernel_rfl
theorem cp_f13 (g : (Nat → Int) → (Nat → Int) → Nat → T3) (room num den : Int) (z1 z2 : Nat → Int) : fits (cpT2 g 13 room num den z1 z2) (cpS2 13 room num den z1 z2 g) = true := by kernel_rfl
theorem cp_14 (g : (Nat → Int) → (Nat → Int) → Nat → T3) (room num den : Int) (z1 z2 : Nat → Int) : cpT2 g 14 room num den z1 z2 = into (cpT2 g 14 room num den z1 z2) (cpS2 14 room num den z1 z2 g) := by kernel_rfl
theorem cp_f14 (g : (Nat → Int) → (Nat → Int) → Nat → T3) (room num den : Int) (z1 z2 : Nat → Int) : fits (cpT2 g 14 room num den z1 z2) (cpS2 14 room num den z1 z2 g) = true := by kernel_rfl
theorem cp_15 (g : (Nat → Int) → (Nat → Int) → Nat → T3) (room num den : Int) (z1 z2 : Nat → Int) : cpT2 g 15 room num den z1 z2 = into (cpT2 g 15 room num den z1 z2) (cpS2 15 room num den z1 z2 g) := by kernel_rfl
theorem cp_f15 (g : (Nat → Int) → (Nat → Int) → Nat → T3) (room num den : Int) (z1 z2 : Nat → Int) : fits (cpT2 g 15 room num den z1 z2) (cpS2 15 room num den z1 z2 g) = true := by kernel_rfl
theorem cp_16 (g : (Nat → Int) → (Nat → Int) → Nat → T3) (room num den : Int) (z1 z2 : Nat → Int) : cpT2 g 16 room num den z1 z2 = into (cpT2 g 16 room num den z1 z2) (cpS2 16 room num den z1 z2 g) := by kernel_rfl
theorem cp_f16 (g : (Nat → Int) → (Nat → Int) → Nat → T3) (room num den : Int) (z1 z2 : Nat → Int) : fits (cpT2 g 16 room num den z1 z2) (cpS2 16 room num den z1 z2 g) = true := by kernel_rfl
theorem cp_17 (g : (Nat → Int) → (Nat → Int) → Nat → T3) (room num den : Int) (z1 z2 : Nat → Int) : cpT2 g 17 room num den z1 z2 = into (cpT2 g 17 room num den z1 z2) (cpS2 17 room num den z1 z2 g) := by kernel_rfl
theorem cp_f17 (g : (Nat → Int) → (Nat → Int) → Nat → T3) (room num den : Int) (z1 z2 : Nat → Int) : fits (cpT2 g 17 room num den z1 z2) (cpS2 17 room num den z1 z2 g) = true := by kernel_rfl
theorem cp_call2 (n : Nat) (hn : n ≤ 17) (room num den : Int) (z1 z2 : Nat → Int) : CallAt Tryz.prog 46 [tankA room n, int num, int den] (tankH n z1 z2) (cpV2 n room num den z1 z2) (hpT [⟨some 0, n, tkC z1 z2⟩] [] (cpW2 n room num den z1 z2)) := by
 match n, hn with
 | 0, _ => exact cp_case2 0 room num den z1 z2 (cp_0 togS room num den z1 z2) (cp_f0 togS room num den z1 z2)
 | 1, _ => exact cp_case2 1 room num den z1 z2 (cp_1 togS room num den z1 z2) (cp_f1 togS room num den z1 z2)
 | 2, _ => exact cp_case2 2 room num den z1 z2 (cp_2 togS room num den z1 z2) (cp_f2 togS room num den z1 z2)
 | 3, _ => exact cp_case2 3 room num den z1 z2 (cp_3 togS room num den z1 z2) (cp_f3 togS room num den z1 z2)
 | 4, _ => exact cp_case2 4 room num den z1 z2 (cp_4 togS room num den z1 z2) (cp_f4 togS room num den z1 z2)
 | 5, _ => exact cp_case2 5 room num den z1 z2 (cp_5 togS room num den z1 z2) (cp_f5 togS room num den z1 z2)
 | 6, _ => exact cp_case2 6 room num den z1 z2 (cp_6 togS room num den z1 z2) (cp_f6 togS room num den z1 z2)
 | 7, _ => exact cp_case2 7 room num den z1 z2 (cp_7 togS room num den z1 z2) (cp_f7 togS room num den z1 z2)
 | 8, _ => exact cp_case2 8 room num den z1 z2 (cp_8 togS room num den z1 z2) (cp_f8 togS room num den z1 z2)
 | 9, _ => exact cp_case2 9 room num den z1 z2 (cp_9 togS room num den z1 z2) (cp_f9 togS room num den z1 z2)
 | 10, _ => exact cp_case2 10 room num den z1 z2 (cp_10 togS room num den z1 z2) (cp_f10 togS room num den z1 z2)
 | 11, _ => exact cp_case2 11 room num den z1 z2 (cp_11 togS room num den z1 z2) (cp_f11 togS room num den z1 z2)
 | 12, _ => exact cp_case2 12 room num den z1 z2 (cp_12 togS room num den z1 z2) (cp_f12 togS room num den z1 z2)
 | 13, _ => exact cp_case2 13 room num den z1 z2 (cp_13 togS room num den z1 z2) (cp_f13 togS room num den z1 z2)
 | 14, _ => exact cp_case2 14 room num den z1 z2 (cp_14 togS room num den z1 z2) (cp_f14 togS room num den z1 z2)
 | 15, _ => exact cp_case2 15 room num den z1 z2 (cp_15 togS room num den z1 z2) (cp_f15 togS room num den z1 z2)
 | 16, _ => exact cp_case2 16 room num den z1 z2 (cp_16 togS room num den z1 z2) (cp_f16 togS room num den z1 z2)
 | 17, _ => exact cp_case2 17 room num den z1 z2 (cp_17 togS room num den z1 z2) (cp_f17 togS room num den z1 z2)
 | n + 18, h => exact absurd h (by omega)
end Go.Ev
namespace Go.Ev
open Go Go.Proofs
set_option maxRecDepth 100000
def clSh : List (Bool × List CK) := [tkS, (false, [.i]), (false, [.i])]
def coolG (g : (Nat → Int) → (Nat → Int) → Nat → T3) (n : Nat) (z1 z2 : Nat → Int) (num den : Int) : T3 := g z1 (coolH z2 num den) n
def cpFG (g : (Nat → Int) → (Nat → Int) → Nat → T3) : FT
 | [room, num, den], [], [], [⟨_, n, [.int .i64 z1, .int .i64 z2]⟩] => .need (Nat.ble n 17) (.node (cpE n room num den z1 z2 != 0) (.leaf (.tup [(true, [ci 0, nilC]), (false, [ci 0]), (false, [ci (cpE n room num den z1 z2)])], []))
   (.leaf (.tup [tkVal room (coolG g n z1 z2 num den) n, (false, [ci (sumA (coolN z2 num den) n)]), (false, [ci 0])], tkMem 81 152 room (coolG g n z1 z2 num den) n)))
 | _, _, _, _ => .fail 383
def clFG (g : (Nat → Int) → (Nat → Int) → Nat → T3) : FT
 | [room, num, den], [], [], [⟨_, n, [.int .i64 z1, .int .i64 z2]⟩] => .need (Nat.ble n 100000) (.need (!(den == 0)) (.leaf (.tup [tkVal room (coolG g n z1 z2 num den) n, (false, [ci (sumA (coolN z2 num den) n)])], tkMem 76 98 room (coolG g n z1 z2 num den) n)))
 | _, _, _, _ => .fail 384
def cpSpG (g : (Nat → Int) → (Nat → Int) → Nat → T3) : Spec := fun args h => specT clSh [] (cpFG g) args h
def clSpG (g : (Nat → Int) → (Nat → Int) → Nat → T3) : Spec := fun args h => specT clSh [] (clFG g) args h
theorem cp_nil (room num den : Int) (z1 z2 : Nat → Int) : CallAt Tryz.prog 46 [.agg [ci room, nilC], int num, int den] (hpT [] [] []) (cpV2 0 room num den z1 z2) (hpT [] [] (cpW2 0 room num den z1 z2)) := by
 refine call_sk tbT2_ok Tryz.func46 (by kernel_rfl) (false, true) (by kernel_rfl) (S := .node (cpE 0 room num den z1 z2 != 0) (.leaf (.inl (true, .tup [(true, [ci 0, nilC]), (false, [ci 0]), (false, [ci (cpE 0 room num den z1 z2)])], hpT [] [] []))) (.ff (.tt (.leaf (.inl (true, .tup [(true, [ci room, nilC]), (false, [ci 0]), (false, [ci 0])], hpT [] [] [])))))) (by kernel_rfl) (by kernel_rfl) (SkLeads.all ?_)
 unfold cpV2 cpW2
 refine sk_either (fun h => ?_) fun h => ?_
 ·rw [h]; exact sk_leaf rfl
 ·rw [h]; exact sk_ff (sk_tt (sk_leaf rfl))
theorem coolP_ok : SpecOk Tryz.prog 46 (cpSpG togS) := by
 refine specT_ok rfl (by decide) fun l m n ts v news hl hm hn ht hnil hF => ?_
 unfold cpFG at hF
 split at hF
 ·rename_i room num den id n z1 z2
  obtain ⟨hok, hF⟩ := Tree.need_some hF
  have hok := Nat.le_of_ble_eq_true hok
  have hv : v = cpV2 n room num den z1 z2 ∧ news = cpW2 n room num den z1 z2 := by
   unfold cpV2 cpW2
   cases h : cpE n room num den z1 z2 != 0 with
   | true =>
    rw [h] at hF
    simp only [Tree.run, Option.some.injEq, Prod.mk.injEq] at hF
    obtain ⟨rfl, rfl⟩ := hF
    exact ⟨rfl, rfl⟩
   | false =>
    rw [h] at hF
    simp only [Tree.run, Option.some.injEq, Prod.mk.injEq] at hF
    obtain ⟨rfl, rfl⟩ := hF
    exact ⟨rfl, rfl⟩
  obtain ⟨rfl, rfl⟩ := hv
  cases id with
  | none =>
   have h0 : n = 0 := hnil _ (List.mem_singleton.2 rfl) rfl
   subst h0
   exact cp_nil room num den z1 z2
  | some id => exact cp_call2 n hok room num den z1 z2
 ·cases hF
theorem cl_nil (room num den : Int) (z1 z2 : Nat → Int) : CallAt Tryz.prog 54 [.agg [ci room, nilC], int num, int den] (hpT [] [] []) (clV 0 room num den z1 z2) (hpT [] [] (clW 0 room num den z1 z2)) :=
 call_sk tbT2_ok Tryz.func54 (by kernel_rfl) (false, true) (by kernel_rfl) (S := .ff (.tt (.leaf (.inl (true, .tup [(true, [ci room, nilC]), (false, [ci 0])], hpT [] [] []))))) (by kernel_rfl) (by kernel_rfl) (SkLeads.all (sk_ff (sk_tt (sk_leaf rfl))))
theorem coolQ_ok : SpecOk Tryz.prog 54 (clSpG togS) := by
 refine specT_ok rfl (by decide) fun l m n ts v news hl hm hn ht hnil hF => ?_
 unfold clFG at hF
 split at hF
 ·rename_i room num den id n z1 z2
  obtain ⟨hok, hF⟩ := Tree.need_some hF
  have hok := Nat.le_of_ble_eq_true hok
  obtain ⟨hd, hF⟩ := Tree.need_some hF
  simp only [Tree.run, Option.some.injEq, Prod.mk.injEq] at hF
  obtain ⟨rfl, rfl⟩ := hF
  cases id with
  | none =>
   have h0 : n = 0 := hnil _ (List.mem_singleton.2 rfl) rfl
   subst h0
   exact cl_nil room num den z1 z2
  | some id => exact cl_call n room num den z1 z2 hok hd
 ·cases hF
def tbG3 (g : (Nat → Int) → (Nat → Int) → Nat → T3) : List (FuncId × Spec) := (46, cpSpG g) :: (54, clSpG g) :: tbG g
theorem tbG3_ok : TabOk Tryz.prog (tabOf (tbG3 togS)) := tab_cons (tab_cons tbT2_ok coolQ_ok) coolP_ok
end Go.Ev
