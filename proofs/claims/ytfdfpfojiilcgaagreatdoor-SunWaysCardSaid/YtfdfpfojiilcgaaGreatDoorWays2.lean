/- SunWays returns true at every input. Conditions: the two bytes are from 0 to 255; the two variables that awake() reads hold what they are laid with. -/
import Derived.Test.YtfdfpfojiilcgaaGreatDoorLaw7
namespace Go.Ev
open Go Go.Proofs

theorem Tree.all_hits {α : Type} {φ q : α → Prop} : ∀ {t : Tree α}, t.All φ → t.Hits q → t.All fun a => φ a ∧ q a
  | .leaf a, h, hq => ⟨h, hq⟩
  | .node true t _, h, hq => Tree.all_hits (t := t) h hq
  | .node false _ e, h, hq => Tree.all_hits (t := e) h hq
  | .need true t, h, hq => ⟨rfl, Tree.all_hits (t := t) h.2 (hq rfl)⟩
  | .need false t, h, _ => by cases h.1
  | .amb _ _, h, hq => ⟨Tree.all_hits h.1 hq.1, Tree.all_hits h.2 hq.2⟩
  | .fail _, h, _ => h.elim
theorem Tree.all_slim0 {α : Type} {φ : α → Prop} : ∀ {t : Tree α}, t.All φ → t.slim0.All φ
  | .leaf _, h => h
  | .node true t _, h => Tree.all_slim0 (t := t) h
  | .node false _ e, h => Tree.all_slim0 (t := e) h
  | .need true t, h => Tree.all_slim0 (t := t) h.2
  | .need false _, h => by cases h.1
  | .amb _ _, h => ⟨Tree.all_slim0 h.1, Tree.all_slim0 h.2⟩
  | .fail _, h => h
theorem cut_sum {P : Program} {T : FuncId → Option Spec} {fn : Func} {h : Hp} {S : St} {q : X × St} (hs : SumAt P (loopF fn) S q) (hz : q.2.size = S.size) (hg : ((evR (recT P T) false (bodyOf fn) (pathF fn) q.1 q.2).bind (cutO P fn h [])).goes isTrue = true) :
    CutIs P (recT P T) fn (bodyOf fn) h (boo true) h 1 (.inr (pathF fn, S)) := ⟨q, [], false, hs, hz, goes_cut hg⟩
theorem by13_ok {m : Int} (h0 : 0 ≤ m) (h1 : m ≤ 255) : 0 ≤ by13 m ∧ by13 m < 13 := by
  unfold by13
  rw [w64_id (by omega), Int.tmod_eq_emod_of_nonneg h0]
  omega
set_option maxRecDepth 100000 in
theorem ways_call (e1 e2 : TypeId) (x y z num den ax ay az bx b2 bz m n : Int) (hm : 0 ≤ m ∧ m ≤ 255) (hn : 0 ≤ n ∧ n ≤ 255) : CallAt Tryz.prog 6 (wArgs [x, y, z, num, den] [ax, ay, az, bx, b2, bz] [m, n]) (hpG e1 e2) (boo true) (hpG e1 e2) := by
  refine call_cut (c := bodyOf Tryz.f6) (recT_ok tb_frame_ok) Tryz.func6 (by kernel_rfl) (by kernel_rfl) (false, true) 1 slotsO ?_
  have hb := ways_beg e1 e2 x y z num den ax ay az bx b2 bz m n _ rfl
  have hall : ((begT Tryz.prog (tabOf tb_frame) Tryz.f6 (wArgs [x, y, z, num, den] [ax, ay, az, bx, b2, bz] [m, n]) (hpG e1 e2) (false, true) slotsO).bind mark).All
      (fun u => match u with
        | .inl () => True
        | .inr w => w = (pathF Tryz.f6, wo 2 e1 e2 x y z num den ax ay az bx b2 bz m n (fr1 ax ay az) (fr2 ax ay az) (fr3 ax ay az) (fr4 ax ay az) (fr5 ax ay az) (fr6 ax ay az) (halfN num) (coMeets x y z num den ax ay az bx b2 bz) Tryz.f6.ntmps 0) ∧ WFacts x y z num den ax ay az bx b2 bz) := by
    refine Tree.slim0_all ?_
    rw [hb]
    exact Tree.all_slim0 (beg_ok trivial fun f => ⟨rfl, f⟩)
  refine Tree.All_mono (fun o ho => ?_) (Tree.all_hits (Tree.All_bind hall) (Tree.hits_bind (fun o => cutO_leave o) _))
  obtain ⟨h1, h2⟩ := ho
  match o, h1, h2 with
  | .inl (true, .one (.lit (.bool b)), h'), h1, h2 =>
    have e2 : h' = hpG e1 e2 := h2 rfl
    cases b with
    | true => rw [e2]; rfl
    | false => exact h1.elim
  | .inr w, h1, _ =>
    obtain ⟨rfl, f⟩ := h1
    have hl := w_outer 2 e1 e2 x y z num den ax ay az bx b2 bz m n (fr1 ax ay az) (fr2 ax ay az) (fr3 ax ay az) (fr4 ax ay az) (fr5 ax ay az) (fr6 ax ay az) (halfN num) (coMeets x y z num den ax ay az bx b2 bz)
      (fun k j k0 k1 j0 j1 kj => good_ok f.c f.a f.b f.A f.B f.o k0 k1 j0 j1 kj)
    obtain ⟨m0, m1⟩ := by13_ok hm.1 hm.2
    obtain ⟨n0, n1⟩ := by13_ok hn.1 hn.2
    have he := ways_end x y z num den ax ay az bx b2 bz e1 e2 m n (fr1 ax ay az) (fr2 ax ay az) (fr3 ax ay az) (fr4 ax ay az) (fr5 ax ay az) (fr6 ax ay az) (halfN num) (coMeets x y z num den ax ay az bx b2 bz) _ rfl
    have hz : (wo 2 e1 e2 x y z num den ax ay az bx b2 bz m n (fr1 ax ay az) (fr2 ax ay az) (fr3 ax ay az) (fr4 ax ay az) (fr5 ax ay az) (fr6 ax ay az) (halfN num) (coMeets x y z num den ax ay az bx b2 bz) Tryz.f6.ntmps 13).size = (wo 2 e1 e2 x y z num den ax ay az bx b2 bz m n (fr1 ax ay az) (fr2 ax ay az) (fr3 ax ay az) (fr4 ax ay az) (fr5 ax ay az) (fr6 ax ay az) (halfN num) (coMeets x y z num den ax ay az bx b2 bz) Tryz.f6.ntmps 0).size := by unfold wo wO; rfl
    rw [end_ok f.c f.a f.b f.A f.B f.o m0 m1 n0 n1] at he
    unfold endT at he
    generalize wo 2 e1 e2 x y z num den ax ay az bx b2 bz m n (fr1 ax ay az) (fr2 ax ay az) (fr3 ax ay az) (fr4 ax ay az) (fr5 ax ay az) (fr6 ax ay az) (halfN num) (coMeets x y z num den ax ay az bx b2 bz) Tryz.f6.ntmps 0 = S0 at hl hz ⊢
    generalize wo 2 e1 e2 x y z num den ax ay az bx b2 bz m n (fr1 ax ay az) (fr2 ax ay az) (fr3 ax ay az) (fr4 ax ay az) (fr5 ax ay az) (fr6 ax ay az) (halfN num) (coMeets x y z num den ax ay az bx b2 bz) Tryz.f6.ntmps 13 = S1 at hl hz he
    have hs : SumAt Tryz.prog (loopF Tryz.f6) S0 (.exit 0, S1) := fun ro ds E a w Q r hro hq => hl ro ds E a w Q r hro (fun q e => by rw [e]; exact hq)
    exact cut_sum hs hz he
end Go.Ev
