/- An evaluator of Go code over abstract memory: definitions only. It runs a function's code inside the kernel; the tests that it cannot decide stay as nodes of a tree. Conditions: none. -/
import Derived.WalkKit
namespace Go.Ev
open Go
inductive Tree (α : Type) where
 | leaf (a : α)
 | node (b : Bool) (t e : Tree α)
 | need (b : Bool) (t : Tree α)
 | amb (l r : Tree α)
 | fail (why : Nat)
def Tree.bind {α β : Type} : Tree α → (α → Tree β) → Tree β
 | .leaf a, f => f a
 | .node b t e, f => .node b (t.bind f) (e.bind f)
 | .need b t, f => .need b (t.bind f)
 | .amb l r, f => .amb (l.bind f) (r.bind f)
 | .fail n, _ => .fail n
def Tree.run {α : Type} : Tree α → Option α
 | .leaf a => some a
 | .node b t e => match b with | true => t.run | false => e.run
 | .need b t => match b with | true => t.run | false => none
 | .amb l _ => l.run
 | .fail _ => none
def Tree.meet {α : Type} (eq : α → α → Bool) : Tree α → Tree α → Tree α
 | .need b t, r => .need b (t.meet eq r)
 | .node b t e, r => .node b (t.meet eq r) (e.meet eq r)
 | .leaf a, r => meetL a r
 | _, _ => .fail 98
where
 meetL (a : α) : Tree α → Tree α
  | .need b t => .need b (meetL a t)
  | .node b t e => .node b (meetL a t) (meetL a e)
  | .leaf a' => .need (eq a a') (.leaf a)
  | _ => .fail 98
def Tree.join {α : Type} (eq : α → α → Bool) : Tree α → Tree α
 | .leaf a => .leaf a
 | .node b t e => .node b (t.join eq) (e.join eq)
 | .need b t => .need b (t.join eq)
 | .amb l r => (l.join eq).meet eq (r.join eq)
 | .fail n => .fail n
def Tree.alts {α : Type} : List (Tree α) → Tree α
 | [] => .fail 99
 | [t] => t
 | t :: ts => .amb t (alts ts)
def Tree.outs {α : Type} : Tree α → Option (List α)
 | .leaf a => some [a]
 | .node b t e => match b with | true => t.outs | false => e.outs
 | .need b t => match b with | true => t.outs | false => none
 | .amb l r => match l.outs, r.outs with
  | some a, some b => some (a ++ b)
  | _, _ => none
 | .fail _ => none
def memE {α : Type} (eq : α → α → Bool) (a : α) : List α → Bool
 | [] => false
 | b :: bs => match eq a b with | true => true | false => memE eq a bs
def uniqL {α : Type} (eq : α → α → Bool) : List α → List α
 | [] => []
 | a :: as => match memE eq a as with | true => uniqL eq as | false => a :: uniqL eq as
def Tree.uniq {α : Type} (eq : α → α → Bool) (t : Tree α) : Tree α := match t.outs with
 | some l => .alts ((uniqL eq l).map .leaf)
 | none => .fail 86
def Tree.ofOption {α : Type} (n : Nat) : Option α → Tree α
 | some a => .leaf a
 | none => .fail n
inductive Tr (α : Type) where
 | nil
 | node (l : Tr α) (v : Option α) (r : Tr α)
namespace Tr
variable {α : Type}
def left : Tr α → Tr α | .nil => .nil | .node l _ _ => l
def right : Tr α → Tr α | .nil => .nil | .node _ _ r => r
def val : Tr α → Option α | .nil => none | .node _ v _ => v
def get : Nat → Tr α → Nat → Option α
 | 0, _, _ => none
 | _ + 1, t, 0 => t.val
 | d + 1, t, i + 1 => match Nat.beq (i % 2) 0 with
  | true => get d t.left (i / 2)
  | false => get d t.right (i / 2)
def set : Nat → Tr α → Nat → Option α → Tr α
 | 0, t, _, _ => t
 | _ + 1, t, 0, x => .node t.left x t.right
 | d + 1, t, i + 1, x => match Nat.beq (i % 2) 0 with
  | true => .node (set d t.left (i / 2) x) t.val t.right
  | false => .node t.left t.val (set d t.right (i / 2) x)
end Tr
inductive C where
 | lit (v : Value)
 | ptr (id k m j : Nat)
 | sl (own : Bool) (id k m j n : Nat)
 | fn (f : FuncId) (caps : List (Nat × Nat × Nat × Nat))
 | yld (id : Nat)
 | fb (f : FuncId) (first : List (Bool × List Value))
 | bd (f : FuncId) (id k m j : Nat)
 | mp (id : Nat)
 | any
inductive A where
 | one (c : C)
 | agg (cs : List C)
 | tup (vs : List (Bool × List C))
inductive Col where
 | int (k : IntKind) (f : Nat → Int)
 | str (f : Nat → ByteArray)
 | bool (f : Nat → Bool)
 | flt (k : FloatKind) (f : Nat → Nat)
def Col.at : Col → Nat → C
 | .int k f, i => .lit (.int k (f i))
 | .str f, i => .lit (.string (f i))
 | .bool f, i => .lit (.bool (f i))
 | .flt k f, i => .lit (.float k (f i))
def putF {α : Type} (f : Nat → α) (i : Nat) (x : α) : Nat → α := fun j => match Nat.beq j i with | true => x | false => f j
def Col.put : Col → Nat → C → Option Col
 | .int k f, i, .lit (.int k' z) => match decide (k = k') with | true => some (.int k (putF f i z)) | false => none
 | .str f, i, .lit (.string z) => some (.str (putF f i z))
 | .bool f, i, .lit (.bool z) => some (.bool (putF f i z))
 | .flt k f, i, .lit (.float k' z) => match decide (k = k') with | true => some (.flt k (putF f i z)) | false => none
 | _, _, _ => none
def putCols : List Col → Nat → List C → Option (List Col)
 | [], _, [] => some []
 | c :: cs, i, x :: xs => match c.put i x, putCols cs i xs with
  | some c', some cs' => some (c' :: cs')
  | _, _ => none
 | _, _, _ => none
def setCol : List Col → Nat → Nat → C → Option (List Col)
 | [], _, _, _ => none
 | c :: cs, 0, i, x => match c.put i x with | some c' => some (c' :: cs) | none => none
 | c :: cs, j + 1, i, x => match setCol cs j i x with | some cs' => some (c :: cs') | none => none
def Col.up (k : Nat) : Col → Col
 | .int κ f => .int κ fun i => f (i + k)
 | .str f => .str fun i => f (i + k)
 | .bool f => .bool fun i => f (i + k)
 | .flt κ f => .flt κ fun i => f (i + k)
def Col.behind (n : Nat) : Col → Col
 | .int κ f => .int κ fun i => f (i - n)
 | .str f => .str fun i => f (i - n)
 | .bool f => .bool fun i => f (i - n)
 | .flt κ f => .flt κ fun i => f (i - n)
def catF {α : Type} (n : Nat) (f g : Nat → α) : Nat → α := fun i => match Nat.blt i n with | true => f i | false => g (i - n)
def Col.cat (n : Nat) : Col → Col → Option Col
 | .int κ f, .int κ' g => match decide (κ = κ') with | true => some (.int κ (catF n f g)) | false => none
 | .str f, .str g => some (.str (catF n f g))
 | .bool f, .bool g => some (.bool (catF n f g))
 | .flt κ f, .flt κ' g => match decide (κ = κ') with | true => some (.flt κ (catF n f g)) | false => none
 | _, _ => none
def catCols (n : Nat) : List Col → List Col → Option (List Col)
 | [], [] => some []
 | c :: cs, d :: ds => match c.cat n d, catCols n cs ds with
  | some x, some xs => some (x :: xs)
  | _, _ => none
 | _, _ => none
def constCol : C → Option Col
 | .lit (.int k a) => some (.int k fun _ => a)
 | .lit (.string s) => some (.str fun _ => s)
 | .lit (.bool b) => some (.bool fun _ => b)
 | .lit (.float k b) => some (.flt k fun _ => b)
 | _ => none
def constCols : List C → Option (List Col)
 | [] => some []
 | c :: cs => match constCol c, constCols cs with
  | some x, some xs => some (x :: xs)
  | _, _ => none
def putRows : Nat → Nat → List Col → List C → Option (List Col)
 | 0, _, cols, _ => some cols
 | r + 1, i, cols, cs => match putCols cols i (cs.take cols.length) with
  | some cols' => putRows r (i + 1) cols' (cs.drop cols.length)
  | none => none
inductive Body where
 | flat (cs : List C)
 | rows (n : Nat) (cols : List Col)
 | map (es : List (ByteArray × A))
 | imap (n : Nat) (f b : Int → Int) (last : Int)
 | iter (id : Option Nat) (n : Nat)
def Body.isMap : Body → Bool
 | .map _ => true
 | .imap .. => true
 | .iter .. => true
 | _ => false
structure Blk where
 ro : Bool
 elem : TypeId
 body : Body
structure Lp where
 size : Nat
 env : Tr A
 wide : Bool
 keep : Bool
 ps : List Nat
 assign : Code
 body : Code
structure Hp where
 heap : Tr Blk
 next : Nat
 low : Nat
 globs : List (Nat × Nat)
 lp : Option (Nat × Lp) := none
structure St where
 size : Nat
 env : Tr A
 hp : Hp
 wide : Bool := false
 keep : Bool := false
def D : Nat := 13
def lim : Nat := 8000
def undefA : A := .tup []
def litC : Value → Option C
 | .agg _ => none
 | .tuple _ => none
 | v => some (.lit v)
def litCs : List Value → Option (List C)
 | [] => some []
 | v :: vs => match litC v, litCs vs with
  | some c, some cs => some (c :: cs)
  | _, _ => none
def ofVal : Value → Option A
 | .agg cs => match litCs cs.toList with
  | some l => some (.agg l)
  | none => none
 | .tuple vs => match vs.toList with
  | [] => some (.tup [])
  | _ => none
 | v => some (.one (.lit v))
def A.cells : A → Option (List C)
 | .one c => some [c]
 | .agg cs => some cs
 | .tup _ => none
def A.comp : A → Option (Bool × List C)
 | .one c => some (false, [c])
 | .agg cs => some (true, cs)
 | .tup _ => none
def ofComp : Bool × List C → Option A
 | (true, cs) => some (.agg cs)
 | (false, [c]) => some (.one c)
 | _ => none
def C.noId : C → Bool
 | .lit _ => true
 | .fb _ _ => true
 | .any => true
 | .fn _ [] => true
 | _ => false
def noIds : List C → Bool
 | [] => true
 | c :: cs => match c.noId with | true => noIds cs | false => false
def A.noId : A → Bool
 | .one c => c.noId
 | .agg cs => noIds cs
 | .tup vs => vs.all fun v => noIds v.2
def nth {α : Type} : List α → Nat → Option α
 | [], _ => none
 | c :: _, 0 => some c
 | _ :: cs, i + 1 => nth cs i
def setNth : List C → Nat → C → Option (List C)
 | [], _, _ => none
 | _ :: cs, 0, x => some (x :: cs)
 | c :: cs, i + 1, x => match setNth cs i x with | some cs' => some (c :: cs') | none => none
def lookupN {α : Type} : List (Nat × α) → Nat → Option α
 | [], _ => none
 | (a, b) :: l, n => match Nat.beq a n with | true => some b | false => lookupN l n
def eraseN {α : Type} : List (Nat × α) → Nat → List (Nat × α)
 | [], _ => []
 | (a, b) :: l, n => match Nat.beq a n with | true => eraseN l n | false => (a, b) :: eraseN l n
section
variable (P : Program)
def size? (t : TypeId) : Option Nat := (P.info? t).map (·.size)
def zero? (t : TypeId) : Option (List C) := match P.info? t with
 | some i => match i.zero with
  | some v => match ofVal v with
   | some a => a.cells
   | none => none
  | none => none
 | none => none
def agg? (t : TypeId) : Option Bool := match P.underlying t with
 | some (.struct _) => some true
 | some (.array _ _) => some true
 | some _ => some false
 | none => none
def Blk.read (b : Blk) (k m j : Nat) : Tree C := match b.body with
 | .flat cs => .ofOption 1 (nth cs (k * m + j))
 | .rows n cols => match Nat.beq m cols.length, nth cols j with
  | true, some c => .need (Nat.blt k n) (.leaf (c.at k))
  | true, none => match cols with
   | [c] => .need (Nat.blt (k + j) n) (.leaf (c.at (k + j)))
   | _ => .fail 2
  | _, _ => .fail 2
 | .map _ => .fail 2
 | .imap .. => .fail 2
 | .iter .. => .fail 2
def Blk.readN (b : Blk) (k m : Nat) : Nat → Nat → Tree (List C)
 | _, 0 => .leaf []
 | j, c + 1 => (b.read k m j).bind fun x => (readN b k m (j + 1) c).bind fun xs => .leaf (x :: xs)
def Blk.write (b : Blk) (k m j : Nat) (x : C) : Tree Blk := match b.ro with
 | true => .fail 3
 | false => match b.body with
  | .flat cs => match setNth cs (k * m + j) x with
   | some cs' => .leaf { b with body := .flat cs' }
   | none => .fail 4
  | .rows n cols => match Nat.beq m cols.length, setCol cols j k x with
   | true, some cols' => .need (Nat.blt k n) (.leaf { b with body := .rows n cols' })
   | _, _ => .fail 5
  | .map _ => .fail 5
  | .imap .. => .fail 5
  | .iter .. => .fail 5
def Blk.writeN (b : Blk) (k m : Nat) : Nat → List C → Tree Blk
 | _, [] => .leaf b
 | j, x :: xs => (b.write k m j x).bind fun b' => writeN b' k m (j + 1) xs
def Hp.blk (h : Hp) (id : Nat) : Option Blk := h.heap.get D id
def Hp.alloc (h : Hp) (b : Blk) : Tree (Nat × Hp) := match Nat.blt h.next lim with
 | true => .leaf (h.next, { h with heap := h.heap.set D h.next (some b), next := h.next + 1 })
 | false => .fail 7
def St.put (st : St) (dst : Option Tmp) (v : A) : Tree St := match dst with
 | none => .leaf st
 | some d => match Nat.blt d st.size && Nat.blt d lim with
  | true => .leaf { st with env := st.env.set D d (some v) }
  | false => .fail 6
def operand (env : Tr A) (globs : List (Nat × Nat)) : Operand → Option A
 | .tmp t => env.get D t
 | .const v => ofVal v
 | .global g => match lookupN globs g with
  | some id => some (.one (.ptr id 0 1 0))
  | none => none
 | .func f => some (.one (.fn f []))
def pureRun {α : Type} : Sem α → Option α
 | .pure a => some a
 | .program k => pureRun (k P)
 | .mark _ k => pureRun k
 | _ => none
def pureC (s : Sem Value) : Tree A := match pureRun P s with
 | some v => match litC v with
  | some c => .leaf (.one c)
  | none => .fail 8
 | none => .fail 9
def partC (t : TypeId) (cs : List C) (off : Nat) : Option (List C) := match agg? P t, size? P t with
 | some true, some s => match Nat.ble (off + s) cs.length with
  | true => some ((cs.drop off).take s)
  | false => none
 | some false, _ => match nth cs off with
  | some c => some [c]
  | none => none
 | _, _ => none
def eqFs (eq : TypeId → List C → List C → Option Bool) (xs ys : List C) : List Field → Option Bool
 | [] => some true
 | f :: fs => match decide (f.name ≠ "_"), partC P f.type xs f.offset, partC P f.type ys f.offset with
  | true, some a, some b => match eq f.type a b, eqFs eq xs ys fs with
   | some r, some r' => some (r && r')
   | _, _ => none
  | _, _, _ => none
def eqEs (eq : TypeId → List C → List C → Option Bool) (e : TypeId) (s : Nat) (xs ys : List C) : Nat → Nat → Option Bool
 | _, 0 => some true
 | i, n + 1 => match partC P e xs (i * s), partC P e ys (i * s) with
  | some a, some b => match eq e a b, eqEs eq e s xs ys (i + 1) n with
   | some r, some r' => some (r && r')
   | _, _ => none
  | _, _ => none
def eqT : Nat → TypeId → List C → List C → Option Bool
 | 0, _, _, _ => none
 | d + 1, t, xs, ys => match P.underlying t with
  | some (.int _) => match xs, ys with
   | [.lit (.int k a)], [.lit (.int k' b)] => match decide (k = k') with
    | true => some (a == b)
    | false => none
   | _, _ => none
  | some .bool => match xs, ys with
   | [.lit (.bool a)], [.lit (.bool b)] => some (a == b)
   | _, _ => none
  | some .string => match xs, ys with
   | [.lit (.string a)], [.lit (.string b)] => some (a.toList == b.toList)
   | _, _ => none
  | some (.struct fs) => match P.stoodInHeld t with
   | false => eqFs P (eqT d) xs ys fs.toList
   | true => none
  | some (.array n e) => match size? P e with
   | some s => eqEs P (eqT d) e s xs ys 0 n
   | none => none
  | _ => none
def divA (op : BinOp) (k k' : IntKind) (a b : Int) : Tree A := match decide (k = k') with
 | true => match op with
  | .quo => .need (!(b == 0)) (.leaf (.one (.lit (.int k (k.wrap (a.tdiv b))))))
  | .rem => .need (!(b == 0)) (.leaf (.one (.lit (.int k (a.tmod b)))))
  | _ => .fail 10
 | false => .fail 10
def fltA (k : FloatKind) (x : Option Nat) : Tree A := .need x.isSome (.leaf (.one (.lit (.float k (x.getD 0)))))
def fltC (b : Bool) : Tree A := .leaf (.one (.lit (.bool b)))
def fltOp (op : BinOp) (k : FloatKind) (x y : Nat) : Tree A := match op with
 | .add => fltA k (k.format.add x y)
 | .sub => fltA k (k.format.sub x y)
 | .mul => fltA k (k.format.mul x y)
 | .quo => fltA k (k.format.div x y)
 | .eql => fltC (k.format.order x y == some .eq)
 | .neq => fltC (k.format.order x y != some .eq)
 | .lss => fltC (k.format.order x y == some .lt)
 | .leq => fltC (k.format.order x y == some .lt || k.format.order x y == some .eq)
 | .gtr => fltC (k.format.order x y == some .gt)
 | .geq => fltC (k.format.order x y == some .gt || k.format.order x y == some .eq)
 | _ => .fail 151
def fltBin (op : BinOp) (k k' : FloatKind) (x y : Nat) : Tree A := match decide (k = k') with
 | true => fltOp op k x y
 | false => .fail 150
def convA (s d : TypeId) (v : Value) : Tree A := match v with
 | .float k b => (match P.underlying s, P.underlying d with
  | some (.float _), some (.int i) => .need ((((k.decode b).toInt .zero).isSome) && (decide (i.min ≤ (((k.decode b).toInt .zero).getD 0)) && decide ((((k.decode b).toInt .zero).getD 0) ≤ i.max))) (.leaf (.one (.lit (.int i (((k.decode b).toInt .zero).getD 0)))))
  | some (.float _), some (.float k') => match decide (k = k') with
   | true => .leaf (.one (.lit (.float k b)))
   | false => .need (numD (k.decode b) && !(k'.decode (k'.encode (k.decode b))).isInfinity) (.leaf (.one (.lit (.float k' (k'.encode (k.decode b))))))
  | _, _ => .fail 152)
 | v => pureC P (convert s d v)
where
 numD : Ieee.Datum → Bool
  | .number _ _ _ => true
  | _ => false
def binLit (op : BinOp) (t : TypeId) (u v : Value) : Tree A := match op, u, v with
 | .quo, .int k a, .int k' b => divA .quo k k' a b
 | .rem, .int k a, .int k' b => divA .rem k k' a b
 | .add, .string a, .string b => .need (Nat.ble (a.size + b.size) 9223372036854775807) (.leaf (.one (.lit (.string (a ++ b)))))
 | _, .nilIface, .nilIface => .fail 10
 | op, .float k a, .float k' b => fltBin op k k' a b
 | op, u, v => pureC P (binOp op t u v)
def eqAgg (t : TypeId) (xs ys : List C) : Option Bool := match P.eqGuardType P.depth t, agg? P t with
 | false, some true => eqT P 20 t xs ys
 | _, _ => none
def binary (op : BinOp) (t : TypeId) (x y : A) : Tree A := match x, y with
 | .one (.lit u), .one (.lit v) => binLit P op t u v
 | .agg xs, .agg ys => match eqAgg P t xs ys with
  | some r => match op with
   | .eql => .leaf (.one (.lit (.bool r)))
   | .neq => .leaf (.one (.lit (.bool (!r))))
   | _ => .fail 11
  | none => .fail 12
 | .one (.sl own _ _ _ _ n), .one (.lit (.slice none _ _)) => match P.underlying t, op with
  | some (.slice _), .eql => .need (own || Nat.blt 0 n) (.leaf (.one (.lit (.bool false))))
  | some (.slice _), .neq => .need (own || Nat.blt 0 n) (.leaf (.one (.lit (.bool true))))
  | _, _ => .fail 14
 | _, _ => .fail 13
def intOf? : A → Option Int
 | .one (.lit (.int _ n)) => some n
 | _ => none
def optA (ρ : Operand → Option A) : Option Operand → Option (Option A)
 | none => some none
 | some x => match ρ x with | some a => some (some a) | none => none
def fillC (place : Nat → Option (Nat × Nat)) (cells : List C) : List (Nat × List C) → Option (List C)
 | [] => some cells
 | (i, v) :: rest => match place i with
  | none => none
  | some (off, size) => match Nat.beq v.length size && Nat.ble (off + v.length) cells.length with
   | true => fillC place (cells.take off ++ v ++ cells.drop (off + v.length)) rest
   | false => none
def partsOf (ρ : Operand → Option A) : List (Nat × Operand) → Option (List (Nat × List C))
 | [] => some []
 | (i, x) :: rest => match ρ x, partsOf ρ rest with
  | some a, some ps => match a.cells with
   | some cs => some ((i, cs) :: ps)
   | none => none
  | _, _ => none
def placesOf : List Field → Option (List (Nat × Nat))
 | [] => some []
 | f :: fs => match size? P f.type, placesOf fs with
  | some s, some ps => some ((f.offset, s) :: ps)
  | _, _ => none
def repC : Nat → List C → List C
 | 0, _ => []
 | n + 1, z => z ++ repC n z
def argsOf (ρ : Operand → Option A) : List Operand → Option (List A)
 | [] => some []
 | x :: rest => match ρ x, argsOf ρ rest with
  | some a, some as => some (a :: as)
  | _, _ => none
def capsOf : List A → Option (List (Nat × Nat × Nat × Nat))
 | [] => some []
 | .one (.ptr id k m j) :: rest => match capsOf rest with | some l => some ((id, k, m, j) :: l) | none => none
 | _ => none
def litsOf : List C → Option (List Value)
 | [] => some []
 | .lit v :: cs => match litsOf cs with | some vs => some (v :: vs) | none => none
 | _ => none
def firstOf : A → Option (Bool × List Value)
 | .one (.lit v) => some (false, [v])
 | .agg cs => match litsOf cs with | some vs => some (true, vs) | none => none
 | _ => none
def firstsOf : List A → Option (List (Bool × List Value))
 | [] => some []
 | a :: as => match firstOf a, firstsOf as with
  | some p, some ps => some (p :: ps)
  | _, _ => none
def firstA : Bool × List Value → A
 | (true, vs) => .agg (vs.map .lit)
 | (false, v :: _) => .one (.lit v)
 | (false, []) => undefA
def firstV : Bool × List Value → Value
 | (true, vs) => .agg vs.toArray
 | (false, v :: _) => v
 | (false, []) => .tuple #[]
def capA (c : Nat × Nat × Nat × Nat) : A := .one (.ptr c.1 c.2.1 c.2.2.1 c.2.2.2)
def max2A : A → A → Option A
 | .one (.lit (.int k x)), .one (.lit (.int _ y)) => some (.one (.lit (.int k (if y > x then y else x))))
 | _, _ => none
def maxA : A → List A → Option A
 | x, [] => some x
 | x, y :: rest => match max2A x y with
  | some z => maxA z rest
  | none => none
def keepOwn : Option Operand → Bool → Bool
 | none, own => own
 | some _, _ => false
def min2A : A → A → Option A
 | .one (.lit (.int k x)), .one (.lit (.int _ y)) => some (.one (.lit (.int k (if y < x then y else x))))
 | _, _ => none
def minA : A → List A → Option A
 | x, [] => some x
 | x, y :: rest => match min2A x y with
  | some z => minA z rest
  | none => none
def copyA (h : Hp) (t : TypeId) (d s : A) : Tree (A × Hp) := match P.underlying t, d, s with
 | some (.slice e), .one (.sl _ id1 k1 m1 j1 n1), .one (.sl _ id2 k2 m2 j2 n2) => match size? P e, h.blk id1, h.blk id2 with
  | some size, some b1, some b2 => match b2.body with
   | .flat cs2 => match Nat.blt 0 (min n2 n1) && Nat.blt 0 size && Nat.ble (k2 * m2 + j2 + min n2 n1 * size) cs2.length with
    | true => (b1.writeN k1 m1 j1 ((cs2.drop (k2 * m2 + j2)).take (min n2 n1 * size))).bind fun b' => .leaf (.one (.lit (goInt (min n2 n1 : Nat))), { h with heap := h.heap.set D id1 (some b'), low := min h.low id1 })
    | false => .fail 37
   | .rows n2' cols2 => match d, b1.ro, Nat.beq k1 0 && Nat.beq j1 0 && Nat.beq m1 size && Nat.beq m2 size && Nat.beq j2 0 && Nat.beq cols2.length size && Nat.blt 0 size && !b1.body.isMap with
    | .one (.sl true _ _ _ _ _), false, true => .need (Nat.ble n1 n2 && Nat.ble (k2 + n2) n2' && Nat.blt 0 n1) (.leaf (.one (.lit (goInt n1)), { h with heap := h.heap.set D id1 (some ⟨false, b1.elem, .rows n1 (cols2.map (Col.up k2))⟩), low := min h.low id1 }))
    | _, _, _ => .fail 141
   | _ => .fail 37
  | _, _, _ => .fail 37
 | _, _, _ => .fail 37
def clearF (h : Hp) (e : TypeId) (id k m j n : Nat) : Tree (A × Hp) := match Nat.beq n 0 with
 | true => .leaf (undefA, h)
 | false => match zero? P e, h.blk id with
  | some z, some b => (b.writeN k m j (repC n z)).bind fun b' => .leaf (undefA, { h with heap := h.heap.set D id (some b'), low := min h.low id })
  | _, _ => .fail 38
def clearA (h : Hp) (t : TypeId) (x : A) : Tree (A × Hp) := match P.underlying t, x with
 | some (.slice e), .one (.sl _ id k m j n) => match h.blk id with
  | some ⟨false, e1, .rows n' cols⟩ => match zero? P e with
   | some z => match Nat.beq m cols.length && Nat.beq j 0 && Nat.beq z.length m && Nat.blt 0 m with
    | true => .need (Nat.ble (k + n) n') (.leaf (undefA, { h with heap := h.heap.set D id (some ⟨false, e1, .rows k cols⟩), low := min h.low id }))
    | false => .fail 142
   | none => .fail 142
  | _ => clearF P h e id k m j n
 | _, _ => .fail 38
def appendR (h : Hp) (e : TypeId) (size bytes : Nat) (s : A) (k2 m2 j2 n2 n2' : Nat) (cols2 : List Col) : Tree (A × Hp) := match Nat.beq m2 size && Nat.beq j2 0 && Nat.beq cols2.length size with
 | true => match s with
  | .one (.lit (.slice none 0 0)) => .need (Nat.ble (k2 + n2) n2' && Nat.ble (n2 * bytes) 140737488355328 && Nat.ble n2 9223372036854775807)
    (.node (Nat.beq n2 0) (.leaf (s, h)) ((h.alloc { ro := false, elem := e, body := .rows n2 (cols2.map (Col.up k2)) }).bind fun p => .leaf (.one (.sl true p.1 0 size 0 n2), p.2)))
  | .one (.sl true id1 0 m1 0 n1) => match h.blk id1 with
   | some b1 => match b1.body, b1.ro with
    | .flat cs1, false => match Nat.beq m1 size && Nat.ble (n1 * size) cs1.length && Nat.beq b1.elem e, putRows n1 0 (cols2.map fun c => (c.up k2).behind n1) cs1 with
     | true, some cols' => .need (Nat.ble (k2 + n2) n2' && Nat.ble ((n2 + n1) * bytes) 140737488355328 && Nat.ble (n2 + n1) 9223372036854775807)
       ((Hp.alloc { h with heap := h.heap.set D id1 none, low := min h.low id1 } { ro := false, elem := e, body := .rows (n2 + n1) cols' }).bind fun p => .leaf (.one (.sl true p.1 0 size 0 (n2 + n1)), p.2))
     | _, _ => .fail 121
    | .rows n1' cols1, false => match Nat.beq m1 size && Nat.beq b1.elem e, catCols n1 cols1 (cols2.map (Col.up k2)) with
     | true, some cols' => .need (Nat.ble n1 n1' && Nat.ble (k2 + n2) n2' && Nat.ble ((n1 + n2) * bytes) 140737488355328 && Nat.ble (n1 + n2) 9223372036854775807)
       ((Hp.alloc { h with heap := h.heap.set D id1 none, low := min h.low id1 } { ro := false, elem := e, body := .rows (n1 + n2) cols' }).bind fun p => .leaf (.one (.sl true p.1 0 size 0 (n1 + n2)), p.2))
     | _, _ => .fail 122
    | _, _ => .fail 123
   | none => .fail 124
  | _ => .fail 125
 | false => .fail 126
def appendA (h : Hp) (t : TypeId) (s x : A) : Tree (A × Hp) := match P.underlying t with
 | some (.slice e) => match size? P e, zero? P e, x with
  | some (size' + 1), some z, .one (.sl _ id2 k2 m2 j2 n2) => match Nat.beq z.length (size' + 1), h.blk id2 with
   | true, some b2 => match b2.body with
    | .flat cs2 => match Nat.ble (k2 * m2 + j2 + n2 * (size' + 1)) cs2.length && Nat.blt 0 n2 with
     | true => match s with
      | .one (.lit (.slice none 0 0)) => .need (Nat.blt (n2 * ((P.info? e).map (·.bytes)).getD 0) 140737488355328 && Nat.ble n2 9223372036854775807)
        ((h.alloc { ro := false, elem := e, body := .flat ((cs2.drop (k2 * m2 + j2)).take (n2 * (size' + 1))) }).bind fun p => .leaf (.one (.sl true p.1 0 (size' + 1) 0 n2), p.2))
      | .one (.sl true id1 0 m1 0 n1) => match h.blk id1 with
       | some b1 => match b1.body, b1.ro with
        | .rows n1' cols, false => match Nat.beq m1 (size' + 1) && Nat.beq b1.elem e && Nat.beq n2 1, putCols cols n1 ((cs2.drop (k2 * m2 + j2)).take (size' + 1)) with
         | true, some cols' => .need (Nat.ble n1 n1' && Nat.blt ((n1 + 1) * ((P.info? e).map (·.bytes)).getD 0) 140737488355328 && Nat.ble (n1 + 1) 9223372036854775807)
           ((Hp.alloc { h with heap := h.heap.set D id1 none, low := min h.low id1 } { ro := false, elem := e, body := .rows (n1 + 1) cols' }).bind fun p => .leaf (.one (.sl true p.1 0 (size' + 1) 0 (n1 + 1)), p.2))
         | _, _ => .fail 21
        | .flat cs1, false => match Nat.beq m1 (size' + 1) && Nat.ble (n1 * (size' + 1)) cs1.length && Nat.beq b1.elem e with
         | true => .need (Nat.blt ((n1 + n2) * ((P.info? e).map (·.bytes)).getD 0) 140737488355328 && Nat.ble (n1 + n2) 9223372036854775807)
           ((Hp.alloc { h with heap := h.heap.set D id1 none, low := min h.low id1 } { ro := false, elem := e, body := .flat (cs1.take (n1 * (size' + 1)) ++ (cs2.drop (k2 * m2 + j2)).take (n2 * (size' + 1))) }).bind fun p => .leaf (.one (.sl true p.1 0 (size' + 1) 0 (n1 + n2)), p.2))
         | false => .fail 21
        | _, _ => .fail 22
       | none => .fail 23
      | _ => .fail 24
     | false => match Nat.beq n2 0, s with
      | true, .one (.lit (.slice none 0 0)) => .leaf (s, h)
      | true, .one (.sl true _ 0 _ 0 _) => .leaf (s, h)
      | _, _ => .fail 20
    | .rows n2' cols2 => appendR h e (size' + 1) (((P.info? e).map (·.bytes)).getD 0) s k2 m2 j2 n2 n2' cols2
    | .map _ => .fail 25
    | .imap .. => .fail 25
    | .iter .. => .fail 25
   | _, _ => .fail 26
  | some (_ + 1), some _, .one (.lit (.slice none 0 0)) => match s with
   | .one (.lit (.slice none 0 0)) => .leaf (s, h)
   | .one (.sl true _ 0 _ 0 _) => .leaf (s, h)
   | _ => .fail 28
  | _, _, _ => .fail 27
 | _ => .fail 29
def appendZ (h : Hp) (t t2 : TypeId) (s x : A) : Tree (A × Hp) := match P.underlying t, P.underlying t2, s, x with
 | some (.slice e), some (.int _), .one (.sl true id1 0 m1 0 0), .one (.lit (.int _ n)) => match size? P e, zero? P e, P.info? e, h.blk id1 with
  | some (size' + 1), some z, some i, some ⟨false, e1, .flat _⟩ => match Nat.beq m1 (size' + 1) && Nat.beq e1 e && Nat.beq z.length (size' + 1), constCols z with
   | true, some cols => .need (decide (0 < n) && Nat.ble (n.toNat * i.bytes) 140737488355328 && Nat.ble n.toNat 9223372036854775807)
     ((Hp.alloc { h with heap := h.heap.set D id1 none, low := min h.low id1 } { ro := false, elem := e, body := .rows n.toNat cols }).bind fun p => .leaf (.one (.sl true p.1 0 (size' + 1) 0 n.toNat), p.2))
   | _, _ => .fail 131
  | _, _, _, _ => .fail 132
 | _, _, _, _ => .fail 32
def lenA (t : TypeId) : A → Tree A
 | .one (.lit (.string s)) => match P.underlying t with
  | some .string => .leaf (.one (.lit (goInt s.size)))
  | _ => .fail 30
 | .one (.lit (.slice _ n _)) => match P.underlying t with
  | some (.slice _) => .leaf (.one (.lit (goInt n)))
  | _ => .fail 30
 | .one (.sl _ _ _ _ _ n) => match P.underlying t with
  | some (.slice _) => .leaf (.one (.lit (goInt n)))
  | _ => .fail 30
 | .agg _ => match P.underlying t with
  | some (.array n _) => .leaf (.one (.lit (goInt n)))
  | _ => .fail 30
 | _ => .fail 30
def yieldBase : Nat := 1000000
def hasBody (f : FuncId) : Bool := match P.funcs[f]? with
 | some fn => fn.body.isSome
 | none => false
abbrev Spec := List A → Hp → Tree (A × Hp)
def findA (s : ByteArray) (z : A) : List (ByteArray × A) → Tree (A × Bool)
 | [] => .leaf (z, false)
 | (k, a) :: es => .node (s == k) (.leaf (a, true)) (findA s z es)
def freshKey (s : ByteArray) : List (ByteArray × A) → Bool
 | [] => true
 | (k, _) :: es => !(s == k) && freshKey s es
def zeroA? (t : TypeId) : Option A := match P.info? t with
 | some i => match i.zero with
  | some v => ofVal v
  | none => none
 | none => none
def insertS (h : Hp) (t : TypeId) (m k v : Option A) : Tree (A × Hp) := match m, k, v, P.underlying t with
 | some (.one (.mp id)), some (.one (.lit (.string s))), some a, some (.map kt _) => match P.underlying kt, h.blk id with
  | some .string, some ⟨false, e, .map es⟩ => .need (freshKey s es) (.leaf (undefA, { h with heap := h.heap.set D id (some ⟨false, e, .map (es ++ [(s, a)])⟩), low := min h.low id }))
  | _, _ => .fail 75
 | _, _, _, _ => .fail 75
def lookupS (h : Hp) (t : TypeId) (m k : Option A) (ok : Bool) : Tree (A × Hp) := match m, k, P.underlying t with
 | some (.one (.mp id)), some (.one (.lit (.string s))), some (.map kt et) => match P.underlying kt, h.blk id, zeroA? P et with
  | some .string, some ⟨_, _, .map es⟩, some z => (findA s z es).bind fun p => match ok with
   | false => .leaf (p.1, h)
   | true => match p.1.comp with
    | some c => .leaf (.tup [c, (false, [.lit (.bool p.2)])], h)
    | none => .fail 76
  | _, _, _ => .fail 76
 | _, _, _ => .fail 76
def imapOf (t : TypeId) : Bool := match P.underlying t with
 | some (.map kt vt) => match P.underlying kt, P.underlying vt, zeroA? P vt with
  | some (.int .i64), some (.int .i64), some (.one (.lit (.int .i64 z))) => decide (z = 0)
  | _, _, _ => false
 | _ => false
def enterN (n : Nat) (b : Int → Int) (x : Int) : Nat := match decide (0 ≤ b x) with
 | true => n
 | false => n + 1
def enterB (n : Nat) (b : Int → Int) (x : Int) : Int → Int := match decide (0 ≤ b x) with
 | true => b
 | false => fun y => match decide (y = x) with | true => (n : Int) | false => b y
def putM (f : Int → Int) (x v : Int) : Int → Int := fun y => match decide (y = x) with | true => v | false => f y
def entryA (h : Hp) (t : TypeId) (m k : Option A) : Tree (A × Hp) := match m, k, imapOf P t with
 | some (.one (.mp id)), some (.one (.lit (.int .i64 x))), true => match h.blk id with
  | some ⟨false, e, .imap n f b _⟩ => .leaf (.tup [(false, [.lit (.int .i64 (f x))]), (false, [.lit (.int .i64 (enterB n b x x))])], { h with heap := h.heap.set D id (some ⟨false, e, .imap (enterN n b x) f (enterB n b x) x⟩), low := min h.low id })
  | _ => .fail 78
 | _, _, _ => .fail 78
def entryStA (h : Hp) (m s v : Option A) : Tree (A × Hp) := match m, s, v with
 | some (.one (.mp id)), some (.one (.lit (.int .i64 s))), some (.one (.lit (.int .i64 v))) => match h.blk id with
  | some ⟨false, e, .imap n f b x⟩ => .need (decide (s = b x) && decide (0 ≤ b x)) (.leaf (undefA, { h with heap := h.heap.set D id (some ⟨false, e, .imap n (putM f x v) b x⟩), low := min h.low id }))
  | _ => .fail 79
 | _, _, _ => .fail 79
def insertI (h : Hp) (m k v : Option A) : Tree (A × Hp) := match m, k, v with
 | some (.one (.mp id)), some (.one (.lit (.int .i64 x))), some (.one (.lit (.int .i64 y))) => match h.blk id with
  | some ⟨false, e, .imap n f b _⟩ => .leaf (undefA, { h with heap := h.heap.set D id (some ⟨false, e, .imap (enterN n b x) (putM f x y) (enterB n b x) x⟩), low := min h.low id })
  | _ => .fail 88
 | _, _, _ => .fail 88
def lookupI (h : Hp) (m k : Option A) : Tree (A × Hp) := match m, k with
 | some (.one (.mp id)), some (.one (.lit (.int .i64 x))) => match h.blk id with
  | some ⟨_, _, .imap _ f _ _⟩ => .leaf (.one (.lit (.int .i64 (f x))), h)
  | _ => .fail 89
 | _, _ => .fail 89
def insertA (h : Hp) (t : TypeId) (m k v : Option A) : Tree (A × Hp) := match k with
 | some (.one (.lit (.int _ _))) => (match imapOf P t with
  | true => insertI h m k v
  | false => .fail 88)
 | _ => insertS P h t m k v
def lookupA (h : Hp) (t : TypeId) (m k : Option A) (ok : Bool) : Tree (A × Hp) := match k with
 | some (.one (.lit (.int _ _))) => (match imapOf P t && !ok with
  | true => lookupI h m k
  | false => .fail 89)
 | _ => lookupS P h t m k ok
def callA (evf : FuncId → Spec) (c : Call) (ρ : Operand → Option A) (h : Hp) : Tree (A × Hp) := match argsOf ρ c.args.toList with
 | some as => match c.callee with
  | .builtin .len => match as, c.argTypes.toList with
   | [x], t :: _ => (lenA P t x).bind fun v => .leaf (v, h)
   | _, _ => .fail 31
  | .builtin .append => match as, c.argTypes.toList with
   | [s, x], [t, t2] => match Nat.beq t t2 with | true => appendA P h t s x | false => appendZ P h t t2 s x
   | _, _ => .fail 32
  | .builtin .max => match as with
   | x :: rest => match maxA x rest with | some v => .leaf (v, h) | none => .fail 33
   | [] => .fail 33
  | .builtin .min => match as with
   | x :: rest => match minA x rest with | some v => .leaf (v, h) | none => .fail 33
   | [] => .fail 33
  | .builtin .copy => match as, c.argTypes.toList with
   | [d, s], t :: _ => copyA P h t d s
   | _, _ => .fail 37
  | .builtin .clear => match as, c.argTypes.toList with
   | [x], t :: _ => clearA P h t x
   | _, _ => .fail 38
  | .value f => match ρ f with
   | some (.one (.fn g caps)) => match hasBody P g && Nat.blt g yieldBase with
    | true => evf g (as ++ caps.map capA) h
    | false => .fail 34
   | some (.one (.yld id)) => evf (yieldBase + id) as h
   | some (.one (.fb g ls)) => match hasBody P g && Nat.blt g yieldBase with
    | true => evf g (ls.map firstA ++ as) h
    | false => .fail 34
   | some (.one (.bd g id k m j)) => match hasBody P g && Nat.blt g yieldBase with
    | true => evf g (.one (.ptr id k m j) :: as) h
    | false => .fail 34
   | _ => .fail 34
  | _ => .fail 35
 | none => .fail 36
def cfgRows (evf : FuncId → Spec) (h : Hp) : Bool := match evf 999999 [] h with
 | .fail n => Nat.beq n 777
 | _ => false
def evOp (evf : FuncId → Spec) (op : Op) (ρ : Operand → Option A) (h : Hp) : Tree (A × Hp) := match op with
 | .move x => match ρ x with | some a => .leaf (a, h) | none => .fail 40
 | .assign x => match ρ x with | some a => .leaf (a, h) | none => .fail 41
 | .pick c x y => match ρ c, ρ x, ρ y with
  | some (.one (.lit (.bool b))), some (.one (.lit (.bool p))), some (.one (.lit (.bool q))) => .leaf (.one (.lit (.bool (match b with | true => p | false => q))), h)
  | some (.one (.lit (.bool b))), some (.tup []), some v => .need (!b) (.leaf (v, h))
  | some (.one (.lit (.bool b))), some u, some (.tup []) => .need b (.leaf (u, h))
  | some (.one (.lit (.bool b))), some u, some v => .node b (.leaf (u, h)) (.leaf (v, h))
  | _, _, _ => .fail 42
 | .alloc e => match zero? P e with
  | some cs => (h.alloc { ro := false, elem := e, body := .flat cs }).bind fun p => .leaf (.one (.ptr p.1 0 1 0), p.2)
  | none => .fail 43
 | .box e x => match ρ x with
  | some a => match a.cells with
   | some cs => (h.alloc { ro := false, elem := e, body := .flat cs }).bind fun p => .leaf (.one (.ptr p.1 0 1 0), p.2)
   | none => .fail 44
  | none => .fail 44
 | .build t parts => match zero? P t, partsOf ρ parts.toList with
  | some z, some ps => match P.underlying t with
   | some (.struct fs) => match placesOf P fs.toList with
    | some places => match fillC (nth places) z ps with
     | some cs => .leaf (.agg cs, h)
     | none => .fail 45
    | none => .fail 45
   | some (.array _ e) => match size? P e with
    | some s => match fillC (fun i => some (i * s, s)) z ps with
     | some cs => .leaf (.agg cs, h)
     | none => .fail 46
    | none => .fail 46
   | _ => .fail 47
  | _, _ => .fail 47
 | .buildSlice t n parts => match P.underlying t with
  | some (.slice e) => match size? P e, zero? P e, partsOf ρ parts.toList with
   | some s, some z, some ps => match Nat.ble (n * s) 16777216 && Nat.beq z.length s && Nat.blt 0 s with
    | true => match fillC (fun i => some (i * s, s)) (repC n z) ps with
     | some cs => (h.alloc { ro := false, elem := e, body := .flat cs }).bind fun p => .leaf (.one (.sl true p.1 0 s 0 n), p.2)
     | none => .fail 48
    | false => .fail 48
   | _, _, _ => .fail 48
  | _ => .fail 48
 | .load t x => match ρ x with
  | some (.one (.ptr id k m j)) => match h.blk id, agg? P t, size? P t with
   | some b, some true, some s => (b.readN k m j s).bind fun cs => .leaf (.agg cs, h)
   | some b, some false, _ => (b.read k m j).bind fun c => .leaf (.one c, h)
   | _, _, _ => .fail 49
  | _ => .fail 50
 | .store t x v => match ρ x, ρ v with
  | some (.one (.ptr id k m j)), some a => match a.cells, size? P t, h.blk id with
   | some cs, some s, some b => match Nat.beq cs.length s with
    | true => (b.writeN k m j cs).bind fun b' => .leaf (undefA, { h with heap := h.heap.set D id (some b'), low := min h.low id })
    | false => .fail 51
   | _, _, _ => .fail 51
  | _, _ => .fail 52
 | .nilCheck x => match ρ x with
  | some (.one (.ptr id k m j)) => .leaf (.one (.ptr id k m j), h)
  | some (.one (.fn f cs)) => .leaf (.one (.fn f cs), h)
  | some (.one (.yld id)) => .leaf (.one (.yld id), h)
  | some (.one (.fb f ls)) => .leaf (.one (.fb f ls), h)
  | some (.one (.bd f id k m j)) => .leaf (.one (.bd f id k m j), h)
  | _ => .fail 53
 | .binOp op t x y _ => match ρ x, ρ y with
  | some u, some v => (binary P op t u v).bind fun a => .leaf (a, h)
  | _, _ => .fail 54
 | .unOp op _ x => match ρ x with
  | some (.one (.lit v)) => (pureC P (Op.unary op v)).bind fun a => .leaf (a, h)
  | _ => .fail 55
 | .convert s d x => match ρ x with
  | some (.one (.lit v)) => (convA P s d v).bind fun a => .leaf (a, h)
  | _ => .fail 56
 | .makeFunc fn first caps => match fn, first.toList, argsOf ρ caps.toList with
  | .func f, [], some as => match capsOf as with
   | some l => .leaf (.one (.fn f l), h)
   | none => .fail 57
  | .func f, x :: xs, some [] => match argsOf ρ (x :: xs) with
   | some as => match firstsOf as with
    | some ls => .leaf (.one (.fb f ls), h)
    | none => match as with
     | [.one (.ptr id k m j)] => .leaf (.one (.bd f id k m j), h)
     | _ => .fail 57
   | none => .fail 57
  | _, _, _ => .fail 58
 | .slice t x lo hi mx => match ρ x, mx with
  | some (.one (.ptr id k m j)), none => match P.underlying t, lo, hi with
   | some (.array n e), none, none => match size? P e with
    | some (s + 1) => match Nat.beq ((k * m + j) % (s + 1)) 0 && Nat.ble n 9223372036854775807 with
     | true => .leaf (.one (.sl false id ((k * m + j) / (s + 1)) (s + 1) 0 n), h)
     | false => .fail 59
    | _ => .fail 59
   | some (.array n e), some lo0, some hi0 => match size? P e, ρ lo0, ρ hi0 with
    | some (s + 1), some (.one (.lit (.int _ l))), some (.one (.lit (.int _ u))) => match Nat.beq ((k * m + j) % (s + 1)) 0 && Nat.ble n 9223372036854775807 with
     | true => .need (decide (0 ≤ l) && decide (l < u) && decide (u ≤ n)) (.leaf (.one (.sl false id ((k * m + j) / (s + 1) + l.toNat) (s + 1) 0 (u.toNat - l.toNat)), h))
     | false => .fail 59
    | _, _, _ => .fail 59
   | _, _, _ => .fail 59
  | some (.one (.sl own id k m j n)), none => match P.underlying t, optA ρ lo, optA ρ hi with
   | some (.slice e), some lo', some hi' => match size? P e, (match lo' with | some a => intOf? a | none => some 0), (match hi' with | some a => intOf? a | none => some (n : Int)) with
    | some s, some l, some u => match Nat.beq s m && Nat.beq j 0 with
     | true => .need (decide (0 ≤ l) && decide (l ≤ u) && decide (u ≤ n)) (.leaf (.one (.sl (keepOwn lo own) id (k + l.toNat) m 0 (u.toNat - l.toNat)), h))
     | false => .fail 60
    | _, _, _ => .fail 60
   | _, _, _ => .fail 60
  | some (.one (.lit (.slice none 0 0))), none => match P.underlying t, optA ρ lo, optA ρ hi with
   | some (.slice e), some lo', some hi' => match size? P e, (match lo' with | some a => intOf? a | none => some 0), (match hi' with | some a => intOf? a | none => some (0 : Int)) with
    | some _, some l, some u => .need (decide (l = 0) && decide (u = 0)) (.leaf (.one (.lit (.slice none 0 0)), h))
    | _, _, _ => .fail 60
   | _, _, _ => .fail 60
  | some (.one (.lit (.string z))), none => match P.underlying t, optA ρ lo, optA ρ hi with
   | some .string, some lo', some hi' => match (match lo' with | some a => intOf? a | none => some 0), (match hi' with | some a => intOf? a | none => some (z.size : Int)) with
    | some l, some u => .need (decide (0 ≤ l) && decide (l ≤ u) && decide (u ≤ z.size)) (.leaf (.one (.lit (.string (z.extract l.toNat u.toNat))), h))
    | _, _ => .fail 60
   | _, _, _ => .fail 60
  | _, _ => .fail 61
 | .fieldAddr s x f => match ρ x, P.underlying s with
  | some (.one (.ptr id k m j)), some (.struct fs) => match fs[f]? with
   | some fd => match size? P fd.type with
    | some (_ + 1) => .leaf (.one (.ptr id k m (j + fd.offset)), h)
    | _ => .fail 62
   | none => .fail 62
  | _, _ => .fail 63
 | .field t x f => match ρ x, P.underlying t with
  | some (.agg cs), some (.struct fs) => match fs[f]? with
   | some fd => match size? P fd.type, agg? P fd.type with
    | some s, some true => match Nat.ble (fd.offset + s) cs.length with
     | true => .leaf (.agg ((cs.drop fd.offset).take s), h)
     | false => .fail 64
    | some _, some false => match nth cs fd.offset with
     | some c => .leaf (.one c, h)
     | none => .fail 64
    | _, _ => .fail 64
   | none => .fail 64
  | _, _ => .fail 64
 | .indexAddr t x ix => match ρ x, ρ ix with
  | some (.one (.ptr id k m j)), some (.one (.lit (.int _ i))) => match P.underlying t with
   | some (.array n e) => match size? P e with
    | some s => .need (decide (0 ≤ i) && decide (i < n)) (.leaf (.one (.ptr id k m (j + i.toNat * s)), h))
    | none => .fail 65
   | _ => .fail 65
  | some (.one (.sl _ id k m j n)), some (.one (.lit (.int _ i))) => match P.underlying t with
   | some (.slice e) => match size? P e with
    | some s => match Nat.beq s m && Nat.beq j 0 with
     | true => .need (decide (0 ≤ i) && decide (i < n)) (.leaf (.one (.ptr id (k + i.toNat) m 0), h))
     | false => .fail 66
    | none => .fail 66
   | _ => .fail 66
  | _, _ => .fail 67
 | .index t x ix => match ρ x, ρ ix with
  | some (.agg cs), some (.one (.lit (.int _ i))) => match P.underlying t with
   | some (.array n e) => match size? P e, agg? P e with
    | some s, some true => .need (decide (0 ≤ i) && decide (i < n)) (match Nat.ble (i.toNat * s + s) cs.length with
     | true => .leaf (.agg ((cs.drop (i.toNat * s)).take s), h)
     | false => .fail 68)
    | some s, some false => .need (decide (0 ≤ i) && decide (i < n)) (match nth cs (i.toNat * s) with
     | some c => .leaf (.one c, h)
     | none => .fail 68)
    | _, _ => .fail 68
   | _ => .fail 68
  | some (.one (.lit (.string z))), some (.one (.lit (.int _ i))) => match P.underlying t with
   | some .string => .need (decide (0 ≤ i) && decide (i < z.size)) (.leaf (.one (.lit (.int .u8 (z.get! i.toNat).toNat)), h))
   | _ => .fail 69
  | _, _ => .fail 69
 | .extract x i => match ρ x with
  | some (.tup vs) => match nth vs i with
   | some c => match ofComp c with
    | some a => .leaf (a, h)
    | none => .fail 70
   | none => .fail 70
  | _ => .fail 71
 | .call c => callA P evf c ρ h
 | .makeMap t none => match imapOf P t with
  | true => (h.alloc ⟨false, 0, .imap 0 (fun _ => 0) (fun _ => -1) 0⟩).bind fun p => .leaf (.one (.mp p.1), p.2)
  | false => (h.alloc ⟨false, 0, .map []⟩).bind fun p => .leaf (.one (.mp p.1), p.2)
 | .mapEntry t m k => entryA P h t (ρ m) (ρ k)
 | .entryStore _ m s x => entryStA h (ρ m) (ρ s) (ρ x)
 | .range t x => match ρ x, P.underlying t with
  | some (.one (.mp id)), some (.map _ _) => match h.blk id with
   | some ⟨false, _, .imap n _ _ _⟩ => (h.alloc ⟨false, 0, .iter (some id) n⟩).bind fun p => .leaf (.one (.ptr p.1 0 1 0), p.2)
   | _ => .fail 96
  | _, _ => .fail 96
 | .insert t m k v => insertA P h t (ρ m) (ρ k) (ρ v)
 | .mapUpdate t m k v => insertA P h t (ρ m) (ρ k) (ρ v)
 | .lookup t x ix ok => lookupA P h t (ρ x) (ρ ix) ok
 | .sliceToArrayPointer t x => match ρ x, P.underlying t with
  | some (.one (.sl _ id k m j n)), some (.array n' e) => match size? P e with
   | some s => match Nat.beq s m && Nat.beq j 0 && Nat.blt 0 n' with
    | true => .need (Nat.ble n' n) (.leaf (.one (.ptr id k m 0), h))
    | false => .fail 73
   | none => .fail 73
  | _, _ => .fail 73
 | .makeSlice t x y => match cfgRows evf h with
  | true => match ρ x, ρ y, P.underlying t with
   | some (.one (.lit (.int _ n))), some (.one (.lit (.int _ n'))), some (.slice e) => match size? P e, zero? P e, P.info? e with
    | some s, some z, some i => match Nat.beq z.length s && Nat.blt 0 s, constCols z with
     | true, some cols => .need (decide (n = n') && decide (0 ≤ n) && Nat.ble (n.toNat * i.bytes) 140737488355328 && Nat.ble n.toNat 9223372036854775807)
       ((h.alloc { ro := false, elem := e, body := .rows n.toNat cols }).bind fun p => .leaf (.one (.sl true p.1 0 s 0 n.toNat), p.2))
     | _, _ => .fail 77
    | _, _, _ => .fail 77
   | _, _, _ => .fail 77
  | false => match ρ x, ρ y, P.underlying t with
   | some (.one (.lit (.int _ n))), some (.one (.lit (.int _ n'))), some (.slice e) => match size? P e, zero? P e, P.info? e with
    | some s, some z, some i => match Nat.beq z.length s && Nat.blt 0 s && decide (n = n') && decide (0 < n) && Nat.ble (n.toNat * i.bytes) 140737488355328 && Nat.ble n.toNat 9223372036854775807 with
     | true => (h.alloc { ro := false, elem := e, body := .flat (repC n.toNat z) }).bind fun p => .leaf (.one (.sl true p.1 0 s 0 n.toNat), p.2)
     | false => .fail 74
    | _, _, _ => .fail 74
   | _, _, _ => .fail 74
 | _ => .fail 72
def dstOf (ops : List Oper) (j : Nat) : Option Tmp := match nth ops j with | some o => o.dst | none => none
def guarded {α : Type} (ops : List Oper) (o : Oper) (dec : List (Nat × Bool)) (st : St) (k : Bool → List (Nat × Bool) → St → Tree α) : Tree α := match o.guard with
  | none => k true dec st
  | some (j, want) => match dstOf ops j with
    | some t => match lookupN dec t with
      | some d => k (d == want) dec st
      | none => match st.env.get D t with
        | some (.one (.lit (.bool b))) => match Nat.blt t lim with
          | true => .node b (k (true == want) ((t, true) :: dec) { st with env := st.env.set D t (some (.one (.lit (.bool true)))) })
                  (k (false == want) ((t, false) :: dec) { st with env := st.env.set D t (some (.one (.lit (.bool false)))) })
          | false => .fail 80
        | some (.tup []) => k false dec st
        | _ => .fail 80
    | none => .fail 80
def unDec (dec : List (Nat × Bool)) (dst : Option Tmp) : List (Nat × Bool) := match dst with
 | some d => eraseN dec d
 | none => dec
def St.ρ (st : St) : Operand → Option A := operand st.env st.hp.globs
def evOper (evf : FuncId → Spec) (ops : List Oper) (o : Oper) (dec : List (Nat × Bool)) (st : St) (k : List (Nat × Bool) → St → Tree St) : Tree St :=
 guarded ops o dec st fun go dec st => match go with
  | true => (evOp P evf o.op st.ρ st.hp).bind fun p => (St.put { st with hp := p.2 } o.dst p.1).bind fun st' => k (unDec dec o.dst) st'
  | false => (st.put o.dst undefA).bind fun st' => k (unDec dec o.dst) st'
def evOps (evf : FuncId → Spec) (ops : List Oper) : List Oper → List (Nat × Bool) → St → Tree St
 | [], _, st => .leaf st
 | o :: rest, dec, st => evOper P evf ops o dec st fun dec st => evOps evf ops rest dec st
def edgeMask (acc : List Nat) : List Edge → Nat
 | [] => 0
 | e :: es => match Region.binds .any e with
  | true => Nat.lor (Nat.lor (2 ^ e.on) ((nth acc e.on).getD 0)) (edgeMask acc es)
  | false => edgeMask acc es
def masks : List Nat → List Oper → List Nat
 | acc, [] => acc
 | acc, o :: os => masks (acc ++ [edgeMask acc o.after.toList]) os
def simple : Op → Bool
 | .move _ => true
 | .pick .. => true
 | .load .. => true
 | .nilCheck _ => true
 | .binOp .. => true
 | .unOp .. => true
 | .convert .. => true
 | .build .. => true
 | .makeFunc .. => true
 | .fieldAddr .. => true
 | .field .. => true
 | .indexAddr .. => true
 | .index .. => true
 | .slice .. => true
 | .extract .. => true
 | .call { callee := .builtin .len, .. } => true
 | .call { callee := .builtin .max, .. } => true
 | .call { callee := .builtin .min, .. } => true
 | .sliceToArrayPointer .. => true
 | .lookup .. => true
 | _ => false
structure Item where
 i : Nat
 o : Oper
 mask : Nat
def itemsFrom : Nat → List Oper → List Nat → List Item
 | i, o :: os, m :: ms => ⟨i, o, m⟩ :: itemsFrom (i + 1) os ms
 | _, _, _ => []
def loudMask : List Item → Nat
 | [] => 0
 | x :: xs => match simple x.o.op with
  | true => loudMask xs
  | false => Nat.lor (2 ^ x.i) (loudMask xs)
def isEarly (loud : Nat) (x : Item) : Bool := match simple x.o.op with
 | true => Nat.beq (Nat.land x.mask loud) 0
 | false => false
def orderOf (xs : List Item) : List Item := xs.filter (isEarly (loudMask xs)) ++ xs.filter fun x => !isEarly (loudMask xs) x
def looksOp : List Operand → List Nat
 | [] => []
 | .tmp t :: xs => t :: looksOp xs
 | _ :: xs => looksOp xs
def looks (ops : List Oper) (o : Oper) : List Nat := match o.guard with
 | some (g, _) => match dstOf ops g with
  | some t => t :: looksOp o.op.operands.toList
  | none => looksOp o.op.operands.toList
 | none => looksOp o.op.operands.toList
def memN : Nat → List Nat → Bool
 | _, [] => false
 | n, m :: l => match Nat.beq n m with | true => true | false => memN n l
def clash (ops : List Oper) (x y : Oper) : Bool :=
  (match x.dst with
   | some d => memN d (looks ops y) || (match y.dst with | some d' => Nat.beq d d' | none => false)
   | none => false) ||
  (match y.dst with
   | some d => memN d (looks ops x)
   | none => false)
def apartFrom (ops : List Oper) (y : Item) : List Item → Bool
 | [] => true
 | x :: xs => match clash ops x.o y.o with
  | true => match y.mask.testBit x.i with
   | true => apartFrom ops y xs
   | false => false
  | false => apartFrom ops y xs
def edgesIn (listed : Nat) : List Edge → Bool
 | [] => true
 | e :: es => match Region.binds .any e with
  | true => match listed.testBit e.on with
   | true => edgesIn listed es
   | false => false
  | false => edgesIn listed es
def guardIn (o : Oper) (mask : Nat) : Bool := match o.guard with
 | some (g, _) => mask.testBit g
 | none => true
def orderOk (ops : List Oper) : List Item → Nat → List Item → Bool
 | _, _, [] => true
 | done, listed, y :: ys => match edgesIn listed y.o.after.toList && apartFrom ops y done && guardIn y.o y.mask && !listed.testBit y.i with
  | true => orderOk ops (y :: done) (Nat.lor listed (2 ^ y.i)) ys
  | false => false
def allTail : Nat → List Item → Bool
 | _, [] => true
 | listed, y :: ys => match Nat.beq y.mask listed with
  | true => allTail (Nat.lor listed (2 ^ y.i)) ys
  | false => false
def evItems (evf : FuncId → Spec) (ops : List Oper) : List Item → Nat → List (Nat × Bool) → St → Tree St
 | [], _, _, st => .leaf st
 | y :: ys, listed, dec, st => match allTail listed (y :: ys) with
  | true => evOps P evf ops ((y :: ys).map (·.o)) dec st
  | false => guarded ops y.o dec st fun go dec st => match go with
   | true => (evOp P evf y.o.op st.ρ { st.hp with low := st.hp.next }).bind fun p => match Nat.beq p.2.low st.hp.next && Nat.beq p.2.next st.hp.next with
    | true => (st.put y.o.dst p.1).bind fun st' => evItems evf ops ys (Nat.lor listed (2 ^ y.i)) (unDec dec y.o.dst) st'
    | false => .fail 81
   | false => (st.put y.o.dst undefA).bind fun st' => evItems evf ops ys (Nat.lor listed (2 ^ y.i)) (unDec dec y.o.dst) st'
def evDrawn (evf : FuncId → Spec) (ops : List Oper) (st : St) : Tree St :=
 let items := orderOf (itemsFrom 0 ops (masks [] ops))
 match orderOk ops [] 0 items && Nat.beq items.length ops.length with
 | true => evItems P evf ops items 0 [] st
 | false => .fail 82
def isAlloc : Op → Bool
 | .alloc _ => true
 | .store .. => true
 | .box .. => true
 | .buildSlice .. => true
 | .makeSlice .. => true
 | .makeMap .. => true
 | .insert .. => true
 | .mapUpdate .. => true
 | .mapEntry .. => true
 | .entryStore .. => true
 | .range .. => true
 | .call { callee := .builtin .append, .. } => true
 | .call { callee := .builtin .copy, .. } => true
 | .call { callee := .builtin .clear, .. } => true
 | _ => false
def headLoud : List Item → Nat → Bool
 | [], _ => false
 | y :: ys, listed => match allTail listed (y :: ys) with
  | true => false
  | false => match isAlloc y.o.op with
   | true => true
   | false => headLoud ys (Nat.lor listed (2 ^ y.i))
def headCalls : List Item → Nat → Bool
 | [], _ => false
 | y :: ys, listed => match allTail listed (y :: ys) with
  | true => false
  | false => match y.o.op with
   | .call { callee := .value _, .. } => true
   | _ => headCalls ys (Nat.lor listed (2 ^ y.i))
def isPure : Op → Bool
 | .move _ => true
 | .nilCheck _ => true
 | .fieldAddr .. => true
 | .indexAddr .. => true
 | .binOp .. => true
 | .unOp .. => true
 | .convert .. => true
 | .build .. => true
 | .slice .. => true
 | .extract .. => true
 | .makeFunc .. => true
 | .call { callee := .builtin .len, .. } => true
 | _ => false
def isLoad : Op → Bool
 | .load .. => true
 | _ => false
def newHere (t : Nat) : List Oper → Bool
 | [] => false
 | o :: os => match o.op, o.dst with
  | .alloc _, some d => match Nat.beq d t with | true => true | false => newHere t os
  | _, _ => newHere t os
def rowHere (t : Nat) : List Oper → Bool
 | [] => false
 | o :: os => match o.op, o.dst with
  | .buildSlice .., some d => match Nat.beq d t with | true => true | false => rowHere t os
  | _, _ => rowHere t os
def heldOk (ops : List Oper) : List Oper → Bool
 | [] => true
 | o :: os => match o.op with
  | .store _ (.tmp t) _ => match newHere t ops with | true => heldOk ops os | false => false
  | .store .. => false
  | .call { callee := .builtin .append, args, .. } => match args.toList with
   | .tmp t :: _ => match rowHere t ops with | true => heldOk ops os | false => false
   | .const _ :: _ => heldOk ops os
   | _ => false
  | .call { callee := .builtin .copy, .. } => false
  | .call { callee := .builtin .clear, .. } => false
  | .insert .. => false
  | .mapUpdate .. => false
  | .mapEntry .. => false
  | .entryStore .. => false
  | _ => heldOk ops os
def noSel : List Oper → Bool
 | [] => true
 | o :: os => match o.op with
  | .select .. => false
  | .defer _ => false
  | _ => noSel os
def waits (y : Item) : List Edge → Bool
 | [] => false
 | e :: es => match Region.binds .any e && Nat.beq e.on y.i with
  | true => true
  | false => waits y es
def freeOf (ops : List Oper) (y : Item) : List Item → Bool
 | [] => true
 | x :: xs => match Nat.beq x.i y.i || waits y x.o.after.toList || !(clash ops y.o x.o) with
  | true => freeOf ops y xs
  | false => false
def firstPure (ld : Bool) (ops : List Oper) (listed : Nat) (items : List Item) : List Item → Option Item
 | [] => none
 | y :: ys => match (isPure y.o.op || (ld && isLoad y.o.op)) && edgesIn listed y.o.after.toList && freeOf ops y items with
  | true => some y
  | false => firstPure ld ops listed items ys
def evAmb (evf : FuncId → Spec) (ld : Bool) (h0 : Hp) (ops : List Oper) : Nat → List Item → Nat → St → Tree St
 | _, [], _, st => .leaf st
 | 0, _ :: _, _, _ => .fail 83
 | n + 1, items, listed, st => match firstPure ld ops listed items items with
  | some y => match isPure y.o.op with
   | true => (evOper P evf ops y.o [] st fun _ st' => .leaf st').bind fun st' => evAmb evf ld h0 ops n (items.filter fun x => !Nat.beq x.i y.i) (Nat.lor listed (2 ^ y.i)) st'
   | false => (evOper P evf ops y.o [] { st with hp := h0 } fun _ st' => .leaf st').bind fun st' => evAmb evf ld h0 ops n (items.filter fun x => !Nat.beq x.i y.i) (Nat.lor listed (2 ^ y.i)) { st' with hp := st.hp }
  | none => .alts ((items.filter fun y => edgesIn listed y.o.after.toList).map fun y =>
   (evOper P evf ops y.o [] st fun _ st' => .leaf st').bind fun st' => match !ld || Nat.ble h0.next st'.hp.low with
    | true => evAmb evf ld h0 ops n (items.filter fun x => !Nat.beq x.i y.i) (Nat.lor listed (2 ^ y.i)) st'
    | false => .fail 84)
def isCalm : Op → Bool
 | .alloc _ => true
 | .box .. => true
 | .buildSlice .. => true
 | .load .. => true
 | o => isPure o
def headMask : Nat → List Item → Nat
 | M, [] => M
 | M, y :: ys => match isCalm y.o.op && Nat.beq (Nat.land y.mask M) y.mask with
  | true => headMask (Nat.lor M (2 ^ y.i)) ys
  | false => headMask M ys
def waitAll (M i : Nat) : List Item → Bool
 | [] => true
 | x :: xs => match M.testBit x.i || x.mask.testBit i with
  | true => waitAll M i xs
  | false => false
def loadsWait (M : Nat) (all : List Item) : List Item → Bool
 | [] => true
 | y :: ys => match M.testBit y.i && isLoad y.o.op with
  | true => match waitAll M y.i all with
   | true => loadsWait M all ys
   | false => false
  | false => loadsWait M all ys
def evAmbH (evf : FuncId → Spec) (M : Nat) (h0 : Hp) (ops : List Oper) (all : List Item) : Nat → List Item → Nat → St → Tree St
 | 0, _, listed, st => match Nat.beq listed M with | true => .leaf st | false => .fail 107
 | n + 1, items, listed, st => match Nat.beq listed M with
  | true => .leaf st
  | false => match firstPure true ops listed items items with
   | some y => match M.testBit y.i && waitAll M y.i all with
    | true => match isPure y.o.op with
     | true => (evOper P evf ops y.o [] st fun _ st' => .leaf st').bind fun st' => evAmbH evf M h0 ops all n (items.filter fun x => !Nat.beq x.i y.i) (Nat.lor listed (2 ^ y.i)) st'
     | false => (evOper P evf ops y.o [] { st with hp := h0 } fun _ st' => .leaf st').bind fun st' => evAmbH evf M h0 ops all n (items.filter fun x => !Nat.beq x.i y.i) (Nat.lor listed (2 ^ y.i)) { st' with hp := st.hp }
    | false => match isPure y.o.op && M.testBit y.i with
     | true => (evOper P evf ops y.o [] st fun _ st' => .leaf st').bind fun st' => evAmbH evf M h0 ops all n (items.filter fun x => !Nat.beq x.i y.i) (Nat.lor listed (2 ^ y.i)) st'
     | false => .fail 109
   | none => .alts ((items.filter fun y => edgesIn listed y.o.after.toList).map fun y =>
    (evOper P evf ops y.o [] st fun _ st' => .leaf st').bind fun st' => match Nat.ble h0.next st'.hp.low with
     | true => evAmbH evf M h0 ops all n (items.filter fun x => !Nat.beq x.i y.i) (Nat.lor listed (2 ^ y.i)) st'
     | false => .fail 109)
def eqV : Value → Value → Bool
 | .int k a, .int k' b => decide (k = k') && decide (a = b)
 | .bool a, .bool b => a == b
 | .string a, .string b => decide (a = b)
 | _, _ => false
def eqVl : List Value → List Value → Bool
 | [], [] => true
 | a :: as, b :: bs => eqV a b && eqVl as bs
 | _, _ => false
def eqFl : List (Bool × List Value) → List (Bool × List Value) → Bool
 | [], [] => true
 | (x, a) :: as, (y, b) :: bs => (x == y) && (eqVl a b && eqFl as bs)
 | _, _ => false
def eqD : C → C → Bool
 | .lit (.int k a), .lit (.int k' b) => decide (k = k') && decide (a = b)
 | .lit (.bool a), .lit (.bool b) => a == b
 | .lit (.string a), .lit (.string b) => decide (a = b)
 | .lit (.float k a), .lit (.float k' b) => decide (k = k') && decide (a = b)
 | .lit (.slice none 0 0), .lit (.slice none 0 0) => true
 | .lit (.pointer none), .lit (.pointer none) => true
 | .lit .nilIface, .lit .nilIface => true
 | .ptr a b c d, .ptr a' b' c' d' => Nat.beq a a' && (Nat.beq b b' && (Nat.beq c c' && Nat.beq d d'))
 | .sl o a b c d e, .sl o' a' b' c' d' e' => (o == o') && (Nat.beq a a' && (Nat.beq b b' && (Nat.beq c c' && (Nat.beq d d' && Nat.beq e e'))))
 | .fn f l, .fn f' l' => Nat.beq f f' && decide (l = l')
 | .yld a, .yld b => Nat.beq a b
 | .fb f l, .fb f' l' => Nat.beq f f' && eqFl l l'
 | .mp a, .mp b => Nat.beq a b
 | .any, .any => true
 | _, _ => false
def eqDs : List C → List C → Bool
 | [], [] => true
 | a :: as, b :: bs => eqD a b && eqDs as bs
 | _, _ => false
def eqDvs : List (Bool × List C) → List (Bool × List C) → Bool
 | [], [] => true
 | (x, a) :: as, (y, b) :: bs => (x == y) && (eqDs a b && eqDvs as bs)
 | _, _ => false
def eqB : A → A → Bool
 | .one a, .one b => eqD a b
 | .agg a, .agg b => eqDs a b
 | .tup a, .tup b => eqDvs a b
 | _, _ => false
def eqOB : Option A → Option A → Bool
 | none, none => true
 | some a, some b => eqB a b
 | _, _ => false
def eqTr : Tr A → Tr A → Bool
 | .nil, .nil => true
 | .node l v r, .node l' v' r' => eqTr l l' && (eqOB v v' && eqTr r r')
 | _, _ => false
def eqEnts : List (ByteArray × A) → List (ByteArray × A) → Bool
 | [], [] => true
 | (k, a) :: as, (k', b) :: bs => decide (k = k') && (eqB a b && eqEnts as bs)
 | _, _ => false
def eqBlk : Option Blk → Option Blk → Bool
 | none, none => true
 | some ⟨ro, e, .flat cs⟩, some ⟨ro', e', .flat cs'⟩ => (ro == ro') && (Nat.beq e e' && eqDs cs cs')
 | some ⟨ro, e, .map es⟩, some ⟨ro', e', .map es'⟩ => (ro == ro') && (Nat.beq e e' && eqEnts es es')
 | _, _ => false
def eqBlks : List (Option Blk) → List (Option Blk) → Bool
 | [], [] => true
 | a :: as, b :: bs => eqBlk a b && eqBlks as bs
 | _, _ => false
structure Out where
 size : Nat
 env : Tr A
 next : Nat
 low : Nat
 blks : List (Option Blk)
def eqOut (x y : Out) : Bool := Nat.beq x.size y.size && (Nat.beq x.next y.next && (Nat.beq x.low y.low && (eqBlks x.blks y.blks && eqTr x.env y.env)))
def newBlks (t : Tr Blk) : Nat → Nat → List (Option Blk)
 | _, 0 => []
 | i, n + 1 => t.get D i :: newBlks t (i + 1) n
def layBlks (t : Tr Blk) : Nat → List (Option Blk) → Tr Blk
 | _, [] => t
 | i, b :: bs => layBlks (t.set D i b) (i + 1) bs
def outOf (h0 : Hp) (st : St) : Out := ⟨st.size, st.env, st.hp.next, st.hp.low, newBlks st.hp.heap h0.next (st.hp.next - h0.next)⟩
def stOf (h0 : Hp) (wide keep : Bool) (low0 : Nat) (o : Out) : St := { size := o.size, env := o.env, wide := wide, keep := keep, hp := { heap := layBlks h0.heap h0.next o.blks, next := o.next, low := min low0 o.low, globs := h0.globs, lp := h0.lp } }
def newN (n0 id : Nat) : List Nat := match Nat.blt id n0 with | true => [] | false => [id]
def namesC (n0 : Nat) : C → List Nat
 | .ptr id _ _ _ => newN n0 id
 | .sl _ id _ _ _ _ => newN n0 id
 | .fn _ caps => caps.flatMap fun c => newN n0 c.1
 | .yld id => newN n0 id
 | .mp id => newN n0 id
 | .bd _ id _ _ _ => newN n0 id
 | _ => []
def namesCs (n0 : Nat) : List C → List Nat
 | [] => []
 | c :: cs => namesC n0 c ++ namesCs n0 cs
def namesA (n0 : Nat) : A → List Nat
 | .one c => namesC n0 c
 | .agg cs => namesCs n0 cs
 | .tup vs => vs.flatMap fun v => namesCs n0 v.2
def namesD (n0 : Nat) (env : Tr A) : List Oper → List Nat
 | [] => []
 | o :: os => match o.dst with
  | some d => (match env.get D d with | some a => namesA n0 a | none => []) ++ namesD n0 env os
  | none => namesD n0 env os
def namesEs (n0 : Nat) : List (ByteArray × A) → List Nat
 | [] => []
 | (_, a) :: es => namesA n0 a ++ namesEs n0 es
def closeN (heap : Tr Blk) (n0 : Nat) : Nat → List Nat → List Nat → List Nat
 | 0, _, acc => acc
 | _ + 1, [], acc => acc
 | f + 1, x :: todo, acc => match memN x acc with
  | true => closeN heap n0 f todo acc
  | false => match heap.get D x with
   | some ⟨_, _, .flat cs⟩ => closeN heap n0 f (todo ++ namesCs n0 cs) (acc ++ [x])
   | some ⟨_, _, .map es⟩ => closeN heap n0 f (todo ++ namesEs n0 es) (acc ++ [x])
   | some ⟨_, _, .iter (some i) _⟩ => closeN heap n0 f (todo ++ newN n0 i) (acc ++ [x])
   | _ => closeN heap n0 f todo (acc ++ [x])
def idxN : List Nat → Nat → Nat → Option Nat
 | [], _, _ => none
 | y :: ys, x, i => match Nat.beq y x with | true => some i | false => idxN ys x (i + 1)
def ren (n0 : Nat) (L : List Nat) (id : Nat) : Option Nat := match Nat.blt id n0 with
 | true => some id
 | false => idxN L id n0
def renCaps (n0 : Nat) (L : List Nat) : List (Nat × Nat × Nat × Nat) → Option (List (Nat × Nat × Nat × Nat))
 | [] => some []
 | (id, r) :: l => match ren n0 L id, renCaps n0 L l with
  | some i, some l' => some ((i, r) :: l')
  | _, _ => none
def renC (n0 : Nat) (L : List Nat) : C → C
 | .ptr id k m j => match ren n0 L id with | some i => .ptr i k m j | none => .any
 | .sl o id k m j n => match ren n0 L id with | some i => .sl o i k m j n | none => .any
 | .fn f caps => match renCaps n0 L caps with | some l => .fn f l | none => .any
 | .yld id => match ren n0 L id with | some i => .yld i | none => .any
 | .mp id => match ren n0 L id with | some i => .mp i | none => .any
 | .bd f id k m j => match ren n0 L id with | some i => .bd f i k m j | none => .any
 | c => c
def renCs (n0 : Nat) (L : List Nat) : List C → List C
 | [] => []
 | c :: cs => renC n0 L c :: renCs n0 L cs
def renVs (n0 : Nat) (L : List Nat) : List (Bool × List C) → List (Bool × List C)
 | [] => []
 | (b, cs) :: vs => (b, renCs n0 L cs) :: renVs n0 L vs
def renA (n0 : Nat) (L : List Nat) : A → A
 | .one c => .one (renC n0 L c)
 | .agg cs => .agg (renCs n0 L cs)
 | .tup vs => .tup (renVs n0 L vs)
def renEs (n0 : Nat) (L : List Nat) : List (ByteArray × A) → List (ByteArray × A)
 | [] => []
 | (k, a) :: es => (k, renA n0 L a) :: renEs n0 L es
def renB (n0 : Nat) (L : List Nat) : Blk → Blk
 | ⟨ro, e, .flat cs⟩ => ⟨ro, e, .flat (renCs n0 L cs)⟩
 | ⟨ro, e, .rows n cols⟩ => ⟨ro, e, .rows n cols⟩
 | ⟨ro, e, .map es⟩ => ⟨ro, e, .map (renEs n0 L es)⟩
 | ⟨ro, e, .imap n f b x⟩ => ⟨ro, e, .imap n f b x⟩
 | ⟨ro, e, .iter id n⟩ => ⟨ro, e, .iter (match id with | some i => ren n0 L i | none => none) n⟩
def renTr (n0 : Nat) (L : List Nat) : Tr A → Tr A
 | .nil => .nil
 | .node l v r => .node (renTr n0 L l) (match v with | some a => some (renA n0 L a) | none => none) (renTr n0 L r)
def allGe (n0 : Nat) : List Nat → Bool
 | [] => true
 | x :: xs => match Nat.ble n0 x with | true => allGe n0 xs | false => false
def nodupN : List Nat → Bool
 | [] => true
 | x :: xs => match memN x xs with | true => false | false => nodupN xs
def canonOf (h0 : Hp) (L : List Nat) (st : St) : Out := ⟨st.size, renTr h0.next L st.env, h0.next + L.length, h0.next, L.map fun x => match st.hp.heap.get D x with | some b => some (renB h0.next L b) | none => none⟩
def canonS (h0 : Hp) (ops : List Oper) (st : St) : Tree Out :=
 let L := closeN st.hp.heap h0.next 2000 (namesD h0.next st.env ops) []
 match Nat.ble h0.next st.hp.low && allGe h0.next L && nodupN L && Nat.ble (h0.next + L.length) lim with
 | true => .leaf (canonOf h0 L st)
 | false => .fail 87
structure Out3 where
 size : Nat
 env : Tr A
 next : Nat
 low : Nat
 heap : Tr Blk
def eqHeap : Tr Blk → Tr Blk → Bool
 | .nil, .nil => true
 | .node l v r, .node l' v' r' => eqHeap l l' && (eqBlk v v' && eqHeap r r')
 | _, _ => false
def eqOut3 (x y : Out3) : Bool := Nat.beq x.size y.size && (Nat.beq x.next y.next && (Nat.beq x.low y.low && (eqTr x.env y.env && eqHeap x.heap y.heap)))
def outOf3 (st : St) : Out3 := ⟨st.size, st.env, st.hp.next, st.hp.low, st.hp.heap⟩
def stOf3 (st : St) (o : Out3) : St := { size := o.size, env := o.env, wide := st.wide, keep := st.keep, hp := { heap := o.heap, next := o.next, low := o.low, globs := st.hp.globs, lp := st.hp.lp } }
def evOpen (evf : FuncId → Spec) (ops : List Oper) (st : St) : Tree St := match ((match st.wide with | true => !st.keep || headCalls (orderOf (itemsFrom 0 ops (masks [] ops))) 0 | false => false) || headLoud (orderOf (itemsFrom 0 ops (masks [] ops))) 0) && noSel ops with
 | false => evDrawn P evf ops st
 | true => match heldOk ops ops with
  | false => match st.keep && st.wide with
   | false => match st.wide && loadsWait (headMask 0 (itemsFrom 0 ops (masks [] ops))) (itemsFrom 0 ops (masks [] ops)) (itemsFrom 0 ops (masks [] ops)) with
    | false => evAmb P evf false st.hp ops ops.length (itemsFrom 0 ops (masks [] ops)) 0 st
    | true => (((evAmbH P evf (headMask 0 (itemsFrom 0 ops (masks [] ops))) { st.hp with low := st.hp.next } ops (itemsFrom 0 ops (masks [] ops)) ops.length (itemsFrom 0 ops (masks [] ops)) 0 { st with hp := { st.hp with low := st.hp.next } }).bind fun st' => match Nat.ble st.hp.next st'.hp.low && Nat.ble st.hp.next st'.hp.next && Nat.ble st'.hp.next lim with
     | true => .leaf (outOf st.hp st')
     | false => .fail 108).join eqOut).bind fun o => evAmb P evf false st.hp ops ops.length ((itemsFrom 0 ops (masks [] ops)).filter fun x => !(headMask 0 (itemsFrom 0 ops (masks [] ops))).testBit x.i) (headMask 0 (itemsFrom 0 ops (masks [] ops))) (stOf st.hp st.wide st.keep st.hp.low o)
   | true => (((evAmb P evf false st.hp ops ops.length (itemsFrom 0 ops (masks [] ops)) 0 st).bind fun st' => .leaf (outOf3 st')).uniq eqOut3).bind fun o => .leaf (stOf3 st o)
  | true => match st.keep with
   | true => match st.wide with
    | false => (evAmb P evf true { st.hp with low := st.hp.next } ops ops.length (itemsFrom 0 ops (masks [] ops)) 0 { st with hp := { st.hp with low := st.hp.next } }).bind fun st' => .leaf { st' with hp := { st'.hp with low := min st.hp.low st'.hp.low } }
    | true => (((evAmb P evf true { st.hp with low := st.hp.next } ops ops.length (itemsFrom 0 ops (masks [] ops)) 0 { st with hp := { st.hp with low := st.hp.next } }).bind fun st' => canonS st.hp ops st').uniq eqOut).bind fun o => .leaf (stOf st.hp st.wide st.keep st.hp.low o)
   | false => (((evAmb P evf true { st.hp with low := st.hp.next } ops ops.length (itemsFrom 0 ops (masks [] ops)) 0 { st with hp := { st.hp with low := st.hp.next } }).bind fun st' => match Nat.ble st.hp.next st'.hp.low && Nat.ble st.hp.next st'.hp.next && Nat.ble st'.hp.next lim with
    | true => .leaf (outOf st.hp st')
    | false => .fail 85).join eqOut).bind fun o => .leaf (stOf st.hp st.wide st.keep st.hp.low o)
inductive X where
 | normal
 | exit (id : Nat)
 | ret
def evCodeS (evf : FuncId → Spec) (rec : Code → St → Tree (X × St)) (c : Code) (st : St) : Tree (X × St) := match c with
 | .skip => .leaf (.normal, st)
 | .region _ ops draw => match draw with
  | false => (evOps P evf ops.toList ops.toList [] st).bind fun st' => .leaf (.normal, st')
  | true => (evOpen P evf ops.toList st).bind fun st' => .leaf (.normal, st')
 | .seq a b => (rec a st).bind fun p => match p.1 with
  | .normal => rec b p.2
  | .exit i => .leaf (.exit i, p.2)
  | .ret => .leaf (.ret, p.2)
 | .cond c a b => match st.ρ c with
  | some (.one (.lit (.bool t))) => .node t (rec a st) (rec b st)
  | _ => .fail 90
 | .block id c => (rec c st).bind fun p => match p.1 with
  | .exit i => (match Nat.beq i id with | true => .leaf (.normal, p.2) | false => .leaf (.exit i, p.2))
  | .normal => .leaf (.normal, p.2)
  | .ret => .leaf (.ret, p.2)
 | .loop c => (rec c st).bind fun p => match p.1 with
  | .normal => rec (.loop c) p.2
  | .exit i => .leaf (.exit i, p.2)
  | .ret => .leaf (.ret, p.2)
 | .exit id => .leaf (.exit id, st)
 | .ret => .leaf (.ret, st)
 | .scope c => rec c st
 | .label _ => .leaf (.normal, st)
 | .rangeFunc g ps assign body => match st.ρ g with
  | some (.one (.fn gf caps)) => match hasBody P gf && Nat.blt gf yieldBase && Nat.blt st.hp.next lim with
   | true => (evf gf (.one (.yld st.hp.next) :: caps.map capA) { st.hp with next := st.hp.next + 1, lp := some (st.hp.next, ⟨st.size, st.env, st.wide, st.keep, ps.toList, assign, body⟩) }).bind fun r => .leaf (.normal, { st with hp := { r.2 with lp := st.hp.lp } })
   | false => .fail 101
  | _ => .fail 102
 | _ => .fail 91
def resA (st : St) : ResultVar → Tree A
 | .tmp t => .ofOption 92 (st.env.get D t)
 | .cell a t => match st.env.get D a with
  | some (.one (.ptr id k m j)) => match st.hp.blk id, agg? P t, size? P t with
   | some b, some true, some s => (b.readN k m j s).bind fun cs => .leaf (.agg cs)
   | some b, some false, _ => (b.read k m j).bind fun c => .leaf (.one c)
   | _, _, _ => .fail 93
  | _ => .fail 94
def resAs (st : St) : List ResultVar → Tree (List (Bool × List C))
 | [] => .leaf []
 | r :: rs => (resA P st r).bind fun a => (resAs st rs).bind fun as => match a.comp with
  | some c => .leaf (c :: as)
  | none => .fail 95
def resultA (st : St) (rs : List ResultVar) : Tree A := match rs with
 | [r] => resA P st r
 | rs => (resAs P st rs).bind fun vs => .leaf (.tup vs)
def initEnv : Nat → List A → Tr A → Tr A
 | _, [], t => t
 | i, a :: as, t => initEnv (i + 1) as (t.set D i (some a))
def eqC : C → C → Bool
 | .lit (.int k a), .lit (.int k' b) => decide (k = k') && decide (a = b)
 | .lit (.bool a), .lit (.bool b) => a == b
 | .lit (.string a), .lit (.string b) => decide (a = b)
 | _, _ => false
def eqCs : List C → List C → Bool
 | [], [] => true
 | a :: as, b :: bs => eqC a b && eqCs as bs
 | _, _ => false
def eqVs : List (Bool × List C) → List (Bool × List C) → Bool
 | [], [] => true
 | (x, a) :: as, (y, b) :: bs => (x == y) && (eqCs a b && eqVs as bs)
 | _, _ => false
def eqA : A → A → Bool
 | .one a, .one b => eqC a b
 | .agg a, .agg b => eqCs a b
 | .tup a, .tup b => eqVs a b
 | _, _ => false
def leaveS (h : Hp) (a : A) (h' : Hp) : Bool × A × Hp := match Nat.beq h'.low h.next && a.noId with
 | true => (true, a, h)
 | false => (false, a, { h' with low := min h.low h'.low })
def sameS (x y : Bool × A × Hp) : Bool := match x.1, y.1 with
 | true, true => eqA x.2.1 y.2.1
 | _, _ => false
variable (T : FuncId → Option Spec) (W : FuncId → Bool × Bool)
def setPs (size : Nat) : List Nat → List A → Tr A → Option (Tr A)
 | [], [], env => some env
 | p :: ps, a :: as, env => match Nat.blt p size && Nat.blt p lim with
  | true => setPs size ps as (env.set D p (some a))
  | false => none
 | _, _, _ => none
def outR (h : Hp) : Out3 := ⟨0, .nil, h.next, h.low, h.heap⟩
def evRound (rec : Code → St → Tree (X × St)) (id : Nat) (args : List A) (h : Hp) : Tree (A × Hp) := match h.lp with
 | some (id', d) => match Nat.beq id id', setPs d.size d.ps args d.env with
  | true, some env => (((rec d.assign { size := d.size, env := env, hp := { h with lp := none }, wide := d.wide, keep := d.keep }).bind fun p => match p.1 with
   | .normal => (rec d.body p.2).bind fun q => match q.1 with
    | .normal => .leaf (outR q.2.hp)
    | _ => .fail 103
   | _ => .fail 104).join eqOut3).bind fun o => .leaf (.one (.lit (.bool true)), { heap := o.heap, next := o.next, low := o.low, globs := h.globs, lp := h.lp })
  | _, _ => .fail 105
 | none => .fail 106
def evFunS (rec : Code → St → Tree (X × St)) (f : FuncId) (args : List A) (h : Hp) : Tree (A × Hp) := match Nat.ble yieldBase f with
 | true => evRound rec (f - yieldBase) args h
 | false => match T f with
 | some s => s args h
 | none => match P.funcs[f]? with
  | some fn => match fn.body with
   | some c => match Nat.ble args.length fn.ntmps && Nat.ble args.length lim with
    | true => (((rec c { size := fn.ntmps, env := initEnv 0 args .nil, hp := { h with low := h.next }, wide := (W f).1, keep := (W f).2 }).bind fun p => match p.1 with
     | .exit _ => .fail 96
     | _ => (resultA P p.2 fn.results.toList).bind fun a => .leaf (leaveS h a p.2.hp)).join sameS).bind fun r => .leaf r.2
    | false => .fail 96
   | none => .fail 97
  | none => .fail 98
def evCode : Nat → Code → St → Tree (X × St)
 | 0, _, _ => .fail 99
 | n + 1, c, st => evCodeS P (evFunS P T W (evCode n)) (evCode n) c st
def evFun (n : Nat) (f : FuncId) (args : List A) (h : Hp) : Tree (A × Hp) := evFunS P T W (evCode P T W n) f args h
def hp0 : Hp := { heap := .nil, next := 0, low := 0, globs := [] }
def resOf (t : Tree (A × Hp)) : Tree A := t.bind fun p => .leaf p.1
end
end Go.Ev
