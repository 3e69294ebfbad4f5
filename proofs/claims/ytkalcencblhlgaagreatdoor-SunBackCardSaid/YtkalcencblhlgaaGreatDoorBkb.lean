/- The law of bent rays and of texts: its entries, its trees. Conditions: as the entries say. -/
import Derived.Test.YtkalcencblhlgaaGreatDoorTxs
import Derived.Test.YtkalcencblhlgaaGreatDoorBka
import Derived.Test.YtkalcencblhlgaaGreatDoorBn0
namespace Go.Ev
open Go Go.RowKit Go.Proofs
set_option maxRecDepth 100000
def caEF (E : FA) (e : Nat) : FT
 | [], [], [], [⟨_, n, [.int .i64 f, .int .i64 l]⟩] => .need (Nat.ble n 1000000 && (E n f l == (e : Int))) (.leaf (int (e : Int), []))
 | _, _, _, _ => .fail 760
def caEs (E : FA) (e : Nat) : Spec := fun args h => specT [(false, [.t stD])] [] (caEF E e) args h
def tinF : FT
 | [x, y, z], [], [], [] => .need (tinW x y z) (.leaf (boo true, []))
 | _, _, _, _ => .fail 761
def tinS : Spec := fun args h => specT [(true, [.i, .i, .i])] [] tinF args h
def pa3 (a b : Nat) (s1 s2 s3 : Spec) : Spec := fun args h => match Nat.blt h.next a with
 | true => s1 args h
 | false => match Nat.blt h.next b with
  | true => s2 args h
  | false => s3 args h
def tbA (ca ck : Spec) : List (FuncId × Spec) := (8, specAwake) :: (28, ca) :: (7, ck) :: tb_tiny
def tbBk (ca ck pr pa bt un : Spec) (nS : ByteArray → UInt8 → Nat) (fS : ByteArray → UInt8 → Nat → ByteArray) : List (FuncId × Spec) := (29, bt) :: (32, un) :: (30, spSp) :: (21, pr) :: (22, pa) ::
 (34, spqSp nS fS) :: (11, gvSp) :: (26, owSp) :: (25, ssSp) :: tbA ca ck
def bkTs (n N : Nat) (f l g0 g1 g2 g3 : Nat → Int) : List TA := [⟨some 0, n, stC f l⟩, ⟨some 1, N, skC g0 g1 g2 g3⟩]
def bkHp (n N : Nat) (f l g0 g1 g2 g3 : Nat → Int) : Hp := hpT (bkTs n N f l g0 g1 g2 g3) glY []
def bkX (nm : ByteArray) (N : Nat) (t : ByteArray) : A := .agg [cs nm, slC false 1 4 N, cs t]
def bkArgs (n : Nat) (x y z : Int) (nm : ByteArray) (N : Nat) (t : ByteArray) : List A := [slT 0 2 n, vec x y z, bkX nm N t]
section
variable (EA : FA) (E : FE) (n N : Nat) (f l g0 g1 g2 g3 : Nat → Int) (x y z : Int) (nm t : ByteArray)
noncomputable def bkT (a e : Nat) : Tree ((Bool × A × Hp) ⊕ (List Bool × St)) := preA Tryz.prog (tabOf (tbA (caEs EA a) (ckSe E e))) Tryz.f5 (bkArgs n x y z nm N t) (bkHp n N f l g0 g1 g2 g3) (false, true)
end
structure Bq where
 EA : FA
 L : FO
 K : FK
 M : FM
 U0 : FU
 U1 : FU
 U2 : FU
 E : FE
 T : FTx
 pE : ByteArray → Int
 pA : ByteArray → Int
 pN : ByteArray → ByteArray
 p0 : ByteArray → Nat → Int
 p1 : ByteArray → Nat → Int
 p2 : ByteArray → Nat → Int
 p3 : ByteArray → Nat → Int
 pL : ByteArray → Nat
 nS : ByteArray → UInt8 → Nat
 fS : ByteArray → UInt8 → Nat → ByteArray
section
variable (q : Bq)
def bkOk (m : Nat) : Spec := paSok q.pE q.pN q.p0 q.p1 q.p2 q.p3 q.pL m
def bkEr (c : Nat) : Spec := paSer q.pE q.pA c
def tbB0 (pa : Spec) : List (FuncId × Spec) := tbBk (caEs q.EA 0) (ckSe q.E 0) (prSp q.E q.T) pa (btSp q.EA q.L) (unSp q.K q.M q.U0 q.U1 q.U2) q.nS q.fS
noncomputable def bkRe (pa : Spec) : Code → St → Tree (X × St) := recT Tryz.prog (tabOf ((9, tinS) :: tbB0 q pa))
variable (n N : Nat) (f l g0 g1 g2 g3 : Nat → Int) (x y z : Int) (nm t : ByteArray)
def bkB (wd kp : Bool) : St := { baseB 306 (bkArgs n x y z nm N t) (bkHp n N f l g0 g1 g2 g3) with wide := wd, keep := kp }
def bkN (wd kp : Bool) (env : List (Nat × A)) (news : List Blk) : St := { stN 306 (envL env) (bsS (bkTs n N f l g0 g1 g2 g3) glY) (globsG 2 glY) news with wide := wd, keep := kp }
noncomputable def bkC (p : List Bool) : Code := navC (bodyOf Tryz.f5) p
noncomputable def bkP (pa : Spec) (p : List Bool) (slots : List Nat) (wd kp : Bool) (st : St) : Tree (X × St) := pieceT (bkRe q pa) slots [6] (bkC p) (bkB n N f l g0 g1 g2 g3 x y z nm t wd kp) st
def bkTd : Blk := ⟨false, 71, .flat [cs nm, slC false 1 4 N, cs t]⟩
def bkS1 (wd kp : Bool) : St := bkN n N f l g0 g1 g2 g3 wd kp [(0, slT 0 2 n), (4, pt 4), (5, pt 5), (6, boo false)] [vec3 29 x y z, bkTd N nm t]
def bkS3 (b1 b2 b3 : Int) (wd kp : Bool) : St := bkN n N f l g0 g1 g2 g3 wd kp [(0, slT 0 2 n), (4, pt 4), (5, pt 5), (6, boo false), (7, pt 6), (8, int 0)] [vec3 29 x y z, bkTd N nm t, vec3 29 b1 b2 b3]
noncomputable def bkO (pa : Spec) (b1 b2 b3 : Int) : Tree ((X × St) ⊕ (List Bool × St)) := (evB (bkRe q pa) (bkC [true, true, true]) (bkS3 n N f l g0 g1 g2 g3 x y z nm t b1 b2 b3 true false)).bind (canO [0, 5, 6, 7, 9, 15, 184, 185, 186] [6] (bkB n N f l g0 g1 g2 g3 x y z nm t true false))
def bkR (wd kp : Bool) (b : Bool) : St := bkN n N f l g0 g1 g2 g3 wd kp [(6, boo b)] []
def bkH (wd kp : Bool) (b1 b2 b3 : Int) (u0 u1 u2 : Nat → Int) (M : Nat) (th : Bool) (i : Int) : St := bkN n N f l g0 g1 g2 g3 wd kp [(0, slT 0 2 n), (5, pt 4), (6, boo false), (7, pt 5), (9, pt 6), (15, boo th), (184, .one (.sl true 7 0 3 0 M)), (185, int (M : Int)), (186, int i)]
 [bkTd N nm t, vec3 29 b1 b2 b3, vec3 29 (rdW x y z x) (rdW x y z y) (rdW x y z z), ⟨false, 29, .rows M (vcC u0 u1 u2)⟩]
def bkZ (wd kp th : Bool) : St := bkN n N f l g0 g1 g2 g3 wd kp [(5, pt 4), (6, boo false), (15, boo th)] [bkTd N nm t]
def bkPath : List Bool := [true, true, true, true, true, true, true, false, true]
noncomputable def bkTb (pa : Spec) (b1 b2 b3 : Int) (u0 u1 u2 : Nat → Int) (M : Nat) (th : Bool) (k : Nat) : Tree (X × St) := pieceT (bkRe q pa) [0, 5, 6, 7, 9, 15, 184, 185, 186] [5, 6, 15] (nthLoop (bkC [true, true, true]) bkPath) (bkB n N f l g0 g1 g2 g3 x y z nm t false true) (bkH n N f l g0 g1 g2 g3 x y z nm t false true b1 b2 b3 u0 u1 u2 M th (k : Int))
noncomputable def bkA (pa : Spec) (th : Bool) : Tree ((X × St) ⊕ (List Bool × St)) := evO2 (bkRe q pa) true (bkC [true, true, true]) bkPath [] [6] (bkB n N f l g0 g1 g2 g3 x y z nm t true false) (.exit 0, bkZ n N f l g0 g1 g2 g3 nm t true false th)
end
end Go.Ev
namespace Go.Ev
open Go Go.RowKit Go.Proofs
set_option maxRecDepth 100000
def ttX : Nat → SkX → SkX
 | 0, S => S
 | n + 1, S => .tt (ttX n S)
def ttO : Nat → SkO → SkO
 | 0, S => S
 | n + 1, S => .tt (ttO n S)
def ffO : Nat → SkO → SkO
 | 0, S => S
 | n + 1, S => .ff (ffO n S)
def mx4 (x y : Int) : Int := max2 (max2 (max2 x (w64 (0 - x))) y) (w64 (0 - y))
def e3B (a b c d e f : Int) : Bool := (a == d) && ((b == e) && ((c == f) && true))
section
variable (q : Bq) (n N : Nat) (f l g0 g1 g2 g3 : Nat → Int) (x y z : Int) (nm t : ByteArray)
def bkY : SkL := .leaf (.inl (true, boo true, bkHp n N f l g0 g1 g2 g3))
def bkSa (EA : FA) (e : Nat) : SkL := .node (!decide ((n : Int) ≤ 17)) (ttL 6 (bkY n N f l g0 g1 g2 g3)) (.need (okN n) (.need (Nat.ble n 1000000 && (EA n f l == ((e + 1 : Nat) : Int))) (ttL 6 (bkY n N f l g0 g1 g2 g3))))
def bkSe (E : FE) (e : Nat) : SkL := .need (okN N) (.need (E nm N g0 g1 g2 g3 == ((e + 1 : Nat) : Int)) (ttL 3 (bkY n N f l g0 g1 g2 g3)))
def bkSb (EA : FA) (E : FE) (e : Nat) : SkL := .node (!decide ((n : Int) ≤ 17)) (ttL 6 (bkY n N f l g0 g1 g2 g3)) (.need (okN n) (.need (Nat.ble n 1000000 && (EA n f l == ((0 : Nat) : Int))) (.ff (.node (!tinW x y z) (ttL 4 (bkY n N f l g0 g1 g2 g3)) (.node (decide ((nm.size : Int) ≤ 40))
 (.node (decide ((N : Int) ≤ 12)) (.ff (bkSe n N f l g0 g1 g2 g3 nm E e)) (.node (!((N : Int) == 65)) (ttL 3 (bkY n N f l g0 g1 g2 g3)) (bkSe n N f l g0 g1 g2 g3 nm E e))) (ttL 4 (bkY n N f l g0 g1 g2 g3)))))))
def bkW : SkX := .leaf (.ret, bkR n N f l g0 g1 g2 g3 false true true)
def bkG : SkX := .need (okN N) (.need (q.E nm N g0 g1 g2 g3 == ((0 : Nat) : Int)) (.ff (.node (decide ((N : Int) > 12)) (.tt (bkW n N f l g0 g1 g2 g3)) (.node (decide ((t.size : Int) > 200)) (bkW n N f l g0 g1 g2 g3) (.leaf (.normal, bkS1 n N f l g0 g1 g2 g3 x y z nm t false true))))))
def bk1 : SkX := .node (!decide ((n : Int) ≤ 17)) (ttX 6 (bkW n N f l g0 g1 g2 g3)) (.need (okN n) (.need (Nat.ble n 1000000 && (q.EA n f l == ((0 : Nat) : Int))) (.ff (.nn (.need (tinW x y z) (.ff (.node (decide ((nm.size : Int) ≤ 40))
 (.node (decide ((N : Int) ≤ 12)) (.ff (bkG q n N f l g0 g1 g2 g3 x y z nm t)) (.node (!((N : Int) == 65)) (ttX 3 (bkW n N f l g0 g1 g2 g3)) (bkG q n N f l g0 g1 g2 g3 x y z nm t))) (ttX 4 (bkW n N f l g0 g1 g2 g3)))))))))
def bk3L (n' : Nat) (f' l' : Nat → Int) : SkX := .need (bnO q.EA q.L n' f' l' x y z) (.leaf (.normal, bkS3 n N f l g0 g1 g2 g3 x y z nm t (bnV q.L p1 n' f' l' x y z) (bnV q.L p2 n' f' l' x y z) (bnV q.L p3 n' f' l' x y z) false true))
def bk3 : SkX := .need (okN n) (.need (Nat.ble n 1000000) (.node (Nat.beq n 0) (.nn (bk3L q n N f l g0 g1 g2 g3 x y z nm t 0 (fun _ => 0) (fun _ => 0))) (.need (okV n) (bk3L q n N f l g0 g1 g2 g3 x y z nm t n f l))))
def bkF : SkO := .leaf (.inl (.ret, bkR n N f l g0 g1 g2 g3 true false false))
def bkOU (b1 b2 b3 : Int) (n' : Nat) (f' l' : Nat → Int) : SkO := .need (q.K n' f' l' b1 b2 b3) (.ff (.node (decide (((q.M n' f' l' b1 b2 b3 + 1 : Nat) : Int) > IntKind.i64.wrap ((n : Int) + 1))) (bkF n N f l g0 g1 g2 g3)
 (.leaf (.inr (bkPath, bkH n N f l g0 g1 g2 g3 x y z nm t true false b1 b2 b3 (q.U0 n' f' l' b1 b2 b3) (q.U1 n' f' l' b1 b2 b3) (q.U2 n' f' l' b1 b2 b3) (q.M n' f' l' b1 b2 b3 + 1) false ((0 : Nat) : Int))))))
def bkOS (b1 b2 b3 : Int) : SkO := .nn (.nn (.need (bnO q.EA q.L 0 (fun _ => 0) (fun _ => 0) x y z) (.ff (.node (dirErr x y z != 0) (ttO 3 (bkF n N f l g0 g1 g2 g3)) (.ff
 (.node (!(e3B (bnV q.L p1 0 (fun _ => 0) (fun _ => 0) x y z) (bnV q.L p2 0 (fun _ => 0) (fun _ => 0) x y z) (bnV q.L p3 0 (fun _ => 0) (fun _ => 0) x y z) (rdW x y z x) (rdW x y z y) (rdW x y z z))) (.tt (bkF n N f l g0 g1 g2 g3))
 (.node (qrayErr b1 b2 b3 != 0) (bkF n N f l g0 g1 g2 g3) (.node (w64 (b1 * y) != w64 (b2 * x)) (ttO 3 (bkF n N f l g0 g1 g2 g3)) (.node (decide (w64 (b1 * x) < 0)) (ttO 2 (bkF n N f l g0 g1 g2 g3)) (.node (decide (w64 (b2 * y) < 0)) (.tt (bkF n N f l g0 g1 g2 g3))
 (.node (decide (w64 (b3 * mx4 x y) < w64 (z * mx4 b1 b2))) (bkF n N f l g0 g1 g2 g3) (.need (okN n) (.need (Nat.ble n 1000000) (.node (Nat.beq n 0) (.nn (bkOU q n N f l g0 g1 g2 g3 x y z nm t b1 b2 b3 0 (fun _ => 0) (fun _ => 0))) (.need (okV n) (bkOU q n N f l g0 g1 g2 g3 x y z nm t b1 b2 b3 n f l))))))))))))))))
section
variable (b1 b2 b3 : Int) (u0 u1 u2 : Nat → Int) (M : Nat) (th : Bool) (k : Nat)
def bkHn (v : Bool) : SkX := .leaf (.normal, bkH n N f l g0 g1 g2 g3 x y z nm t false true b1 b2 b3 u0 u1 u2 M v (IntKind.i64.wrap ((k : Int) + 1)))
def bkZr (v : Bool) : SkX := .leaf (.ret, bkZ n N f l g0 g1 g2 g3 nm t false true v)
def bkRc (v : Bool) (n' : Nat) (f' l' : Nat → Int) : SkX := .need (bnO q.EA q.L n' f' l' (u0 (ixN k)) (u1 (ixN k)) (u2 (ixN k))) (.ff (.node (!(e3B (bnV q.L p1 n' f' l' (u0 (ixN k)) (u1 (ixN k)) (u2 (ixN k))) (bnV q.L p2 n' f' l' (u0 (ixN k)) (u1 (ixN k)) (u2 (ixN k))) (bnV q.L p3 n' f' l' (u0 (ixN k)) (u1 (ixN k)) (u2 (ixN k))) b1 b2 b3))
 (bkZr n N f l g0 g1 g2 g3 nm t v) (bkHn n N f l g0 g1 g2 g3 x y z nm t b1 b2 b3 u0 u1 u2 M k v)))
def bkRa (v : Bool) : SkX := .node (qrayErr (u0 (ixN k)) (u1 (ixN k)) (u2 (ixN k)) != 0) (bkHn n N f l g0 g1 g2 g3 x y z nm t b1 b2 b3 u0 u1 u2 M k v)
 (.need (okN n) (.need (Nat.ble n 1000000) (.node (Nat.beq n 0) (.nn (bkRc q n N f l g0 g1 g2 g3 x y z nm t b1 b2 b3 u0 u1 u2 M k v 0 (fun _ => 0) (fun _ => 0))) (.need (okV n) (bkRc q n N f l g0 g1 g2 g3 x y z nm t b1 b2 b3 u0 u1 u2 M k v n f l)))))
def bkRd : SkX := .node (decide ((k : Int) < (M : Int))) (.need (kB M k) (need3 (Nat.blt (ixN k) M) (.node (qdirErr (u0 (ixN k)) (u1 (ixN k)) (u2 (ixN k)) != 0) (bkZr n N f l g0 g1 g2 g3 nm t th)
 (.node th (bkRa q n N f l g0 g1 g2 g3 x y z nm t b1 b2 b3 u0 u1 u2 M k true) (bkRa q n N f l g0 g1 g2 g3 x y z nm t b1 b2 b3 u0 u1 u2 M k (e3B (u0 (ixN k)) (u1 (ixN k)) (u2 (ixN k)) (rdW x y z x) (rdW x y z y) (rdW x y z z))))))) (.leaf (.exit 0, bkZ n N f l g0 g1 g2 g3 nm t false true th))
end
def bkTx (N : Nat) (q : Bq) (nm : ByteArray) (g0 g1 g2 g3 : Nat → Int) : ByteArray := q.T nm N g0 g1 g2 g3
def bkCt (s : ByteArray) : ByteArray := s.extract (Int.toNat 0) (IntKind.i64.wrap ((s.size : Int) - 1)).toNat
def bkEnd (s : ByteArray) : SkO := .need (decide ((0 : Int) ≤ 0) && decide (0 ≤ IntKind.i64.wrap ((s.size : Int) - 1)) && decide (IntKind.i64.wrap ((s.size : Int) - 1) ≤ (s.size : Int))) (.nn (.need (q.pE (bkCt s) == ((24 + 1 : Nat) : Int)) (.tt (.node (q.pA (bkCt s) == (N : Int)) (.leaf (.inl (.ret, bkR n N f l g0 g1 g2 g3 true false true))) (bkF n N f l g0 g1 g2 g3)))))
def bkP2 (s : ByteArray) (m2 : Nat) : SkO := .nn (.need ((q.pE t == 0) && Nat.beq (q.pL t) (m2 + 1)) (.tt (.need (okN (m2 + 1)) (.need (okE q.E (q.pN t) (m2 + 1) (q.p0 t) (q.p1 t) (q.p2 t) (q.p3 t)) (.ff (.node (!((q.T (q.pN t) (m2 + 1) (q.p0 t) (q.p1 t) (q.p2 t) (q.p3 t)).toList == t.toList)) (bkF n N f l g0 g1 g2 g3) (bkEnd q n N f l g0 g1 g2 g3 s)))))))
def bkE2 (s : ByteArray) (c : Nat) : SkO := .nn (.need (q.pE t == ((c + 1 : Nat) : Int)) (.ff (bkEnd q n N f l g0 g1 g2 g3 s)))
def bkP1 (s : ByteArray) (m : Nat) (Z : SkO) : SkO := .nn (.need ((q.pE s == 0) && Nat.beq (q.pL s) (m + 1)) (ffO 8 (.need (okN (m + 1)) (.need (Nat.ble (m + 1) 1000000) (.ff (.ff (.need (ok2 (m + 1) N) (.need (((q.pN s).toList == nm.toList) && (Nat.beq (m + 1) N && (Nat.ble (m + 1) 1000000 && allK (eqR (q.p0 s) (q.p1 s) (q.p2 s) (q.p3 s) g0 g1 g2 g3) (m + 1))))
 (ffO 8 (.need (decide ((0 : Int) ≤ 10) && decide ((10 : Int) < 256) && Nat.ble s.size 1000000) (.ff (.ff (.node (((q.nS s (UInt8.ofNat (Int.toNat 10)) : Nat) : Int) != IntKind.i64.wrap ((N : Int) + 2)) (bkF n N f l g0 g1 g2 g3) Z)))))))))))))
def bkAt (th : Bool) (Z : SkO) : SkO := .node (!th) (bkF n N f l g0 g1 g2 g3) Z
def bkAg (m : Nat) (Z : SkO) : SkO := .need (okN N) (.need (Nat.ble N 1000000) (.ff (.need (okN N) (.need (okE q.E nm N g0 g1 g2 g3) (bkP1 q n N f l g0 g1 g2 g3 nm (bkTx N q nm g0 g1 g2 g3) m Z)))))
end
end Go.Ev
