/-
  An abstract program logic over the kit's model, part 1: what an operation, a region and a stack of code ask of an abstract state.
-/
import Derived.Test.YtccioplhchmilaaA0
set_option linter.unusedVariables false
namespace Go.Proofs.Ytccioplhchmilaa.AL
open Go Go.RowKit

abbrev Slots := Nat → AVal
def upd (σ : Slots) (i : Nat) (v : AVal) : Slots := fun j => bif Nat.beq j i then v else σ j
def entry (args : List AVal) : Slots := fun i => args.getD i .junk

def ofV0 : Value → AVal
  | .int k n => .int k n
  | .bool b => .bool b
  | .string s => .str s
  | .slice none 0 0 => .nilS
  | .pointer none => .nilP
  | .nilFunc => .nilF
  | .nilIface => .nilI
  | _ => .junk
def ofV : Value → AVal
  | .agg cs => bif cs.toList.all Value.oneCell' then .agg (cs.toList.map ofV0) else .junk
  | v => ofV0 v
def ev (σ : Slots) : Operand → AVal
  | .tmp t => σ t
  | .const v => ofV v
  | .func f => .fn f [] []
  | .global _ => .junk

def hset (H : Heap) (i g : Nat) (cs : List AVal) : Heap := H.set i (some (g, cs))
def hnew (H : Heap) (g : Nat) (cs : List AVal) : Heap := H ++ [some (g, cs)]
def rep (n : Nat) (zs : List AVal) : List AVal := (List.replicate n zs).flatten

def fnOk (P : Program) (f : FuncId) : Bool := match P.funcs[f]? with
  | some fn => fn.name != "runtime.NumGoroutine" && fn.body.isSome
  | none => false
/-- The call of f at these arguments and this heap ends, and with a result and a heap of which Q holds. -/
def ACalls (P : Program) (f : FuncId) (args : List AVal) (H : Heap) (Q : AVal → Heap → Prop) : Prop :=
  fnOk P f = true ∧ ∀ (w : World) (I : Nat → Prop) (B : Nat) (vs : List Value) (K : Value → World → Prop), HRel w I B H → VRels w I args vs →
    (∀ r H' w' I' v, Q r H' → HRel w' I' B H' → VRel w' I' r v → Ext B w I w' I' → K v w') →
    Calls P f vs.toArray w fun e w' => ∃ v, e = .returned v ∧ K v w'

/-! Operations -/
def IXK (es : Nat) (x i : AVal) (K : AVal → Prop) : Prop :=
  match x, i with
  | .sl _ n cs, .int _ k => 0 ≤ k ∧ k < n ∧ K (.pel cs (k.toNat * es))
  | .own b g es' off n, .int _ k => es' = es ∧ 0 ≤ k ∧ k < n ∧ K (.ptr b g (off + k.toNat * es))
  | _, _ => False
def cellsAt (ag : Bool) (n : Nat) (cs : List AVal) (o : Nat) (K : AVal → Prop) : Prop :=
  bif ag then o + n ≤ cs.length ∧ K (.agg ((cs.drop o).take n)) else ∃ v, cs[o]? = some v ∧ K v
def LDK (ag : Bool) (n : Nat) (H : Heap) (p : AVal) (K : AVal → Prop) : Prop :=
  match p with
  | .ptr i g off => ∃ cs, hget H i = some (g, cs) ∧ cellsAt ag n cs off K
  | .pel cs i => cellsAt ag n cs i K
  | _ => False
def STK (n : Nat) (H : Heap) (p v : AVal) (K : Heap → Prop) : Prop :=
  match p with
  | .ptr i g off => ∃ cs, hget H i = some (g, cs) ∧
    match v with
    | .agg vs => vs.length = n ∧ off + n ≤ cs.length ∧ K (hset H i g (cs.take off ++ vs ++ cs.drop (off + n)))
    | v => n = 1 ∧ v.one = true ∧ off < cs.length ∧ K (hset H i g (cs.set off v))
  | _ => False
def cellsOfV (v : AVal) (K : List AVal → Prop) : Prop :=
  match v with
  | .agg cs => K cs
  | v => v.one = true ∧ K [v]
def BOXK (v : AVal) (H : Heap) (K : AVal → Heap → Prop) : Prop := cellsOfV v fun cs => ∀ g, K (.ptr H.length g 0) (hnew H g cs)
def MKK (es : Nat) (z n : AVal) (H : Heap) (K : AVal → Heap → Prop) : Prop :=
  match n with
  | .int _ k => 0 ≤ k ∧ k ≤ 1000000000 ∧ cellsOfV z fun zs => zs.length = es ∧ ∀ g, K (.own H.length g es 0 k.toNat) (hnew H g (rep k.toNat zs))
  | _ => False
def allCells (es : Nat) : List AVal → (List AVal → Prop) → Prop
  | [], K => K []
  | v :: vs, K => cellsOfV v fun cs => cs.length = es ∧ allCells es vs fun ds => K (cs ++ ds)
def BSK (es : Nat) (vs : List AVal) (H : Heap) (K : AVal → Heap → Prop) : Prop := allCells es vs fun cs => (∀ g, K (.own H.length g es 0 vs.length) (hnew H g cs)) ∨ K (.sl true vs.length cs) H
def elemsOf (es : Nat) (H : Heap) (x : AVal) (K : Nat → List AVal → Prop) : Prop :=
  match x with
  | .nilS => K 0 []
  | .sl _ n cs => cs.length = n * es ∧ K n cs
  | .own i g es' off n => ∃ cs, hget H i = some (g, cs) ∧ off + n * es ≤ cs.length ∧ K n ((cs.drop off).take (n * es))
  | _ => False
def APK (es : Nat) (H : Heap) (d x : AVal) (K : AVal → Heap → Prop) : Prop :=
  elemsOf es H x fun m ns =>
    match d with
    | .nilS => m ≤ 1000000000 ∧ (m = 0 → K .nilS H) ∧ (0 < m → ∀ g, K (.own H.length g es 0 m) (hnew H g ns))
    | .sl true n cs => cs.length = n * es ∧ n + m ≤ 1000000000 ∧ (m = 0 → K (.sl true n cs) H) ∧ (0 < m → ∀ g, K (.own H.length g es 0 (n + m)) (hnew H g (cs ++ ns)))
    | .own i g es' off n => es' = es ∧ off = 0 ∧ n + m ≤ 1000000000 ∧ ∃ cs, hget H i = some (g, cs) ∧ n * es ≤ cs.length ∧ ∀ g', K (.own i g' es 0 (n + m)) (hset H i g' (cs.take (n * es) ++ ns))
    | _ => False
def LENK (x : AVal) (K : AVal → Prop) : Prop :=
  match x with
  | .nilS => K (.int .i64 0)
  | .sl _ n _ => K (.int .i64 n)
  | .own _ _ _ _ n => K (.int .i64 n)
  | _ => False
def LENS (x : AVal) (K : AVal → Prop) : Prop :=
  match x with
  | .str s => K (.int .i64 s.size)
  | _ => False
def boundOf (d : Nat) : Option AVal → (Nat → Prop) → Prop
  | none, K => K d
  | some (.int _ k), K => 0 ≤ k ∧ K k.toNat
  | _, _ => False
def SLK (es : Nat) (x : AVal) (lo hi mx : Option AVal) (K : AVal → Prop) : Prop :=
  match x with
  | .nilS => boundOf 0 lo fun l => boundOf 0 hi fun h => boundOf h mx fun m => l ≤ h ∧ h ≤ m ∧ m = 0 ∧ K .nilS
  | .sl x n cs => boundOf 0 lo fun l => boundOf n hi fun h => boundOf h mx fun m => l ≤ h ∧ h ≤ n ∧ m = h ∧ K (.sl mx.isSome (h - l) ((cs.drop (l * es)).take ((h - l) * es)))
  | .own i g es' off n => es' = es ∧ boundOf 0 lo fun l => boundOf n hi fun h => boundOf h mx fun m => l ≤ h ∧ h ≤ n ∧ m = h ∧
      (l = h → K (.sl mx.isSome 0 [])) ∧ (l < h → mx = none ∧ K (.own i g es (off + l * es) (h - l)))
  | _ => False
def SSK (x : AVal) (lo hi : Option AVal) (K : AVal → Prop) : Prop :=
  match x with
  | .str s => boundOf 0 lo fun l => boundOf s.size hi fun h => l ≤ h ∧ h ≤ s.size ∧ K (.str (s.extract l h))
  | _ => False
def byteOfA : AVal → UInt8
  | .int _ n => UInt8.ofNat n.toNat
  | _ => 0
def isByteA : AVal → Bool
  | .int .u8 _ => true
  | _ => false
def bytesOfCells (cs : List AVal) : ByteArray := ⟨(cs.map byteOfA).toArray⟩
def cellsOfBytes (s : ByteArray) : List AVal := s.data.toList.map fun b => .int .u8 b.toNat
def SOBK (H : Heap) (x : AVal) (K : AVal → Prop) : Prop := elemsOf 1 H x fun n cs => (∀ c ∈ cs, isByteA c = true) ∧ K (.str (bytesOfCells cs))
def BOSK (s : AVal) (K : AVal → Prop) : Prop :=
  match s with
  | .str s => s.size ≤ 1000000000 ∧ K (.sl false s.size (cellsOfBytes s))
  | _ => False
def ICVK (k : IntKind) (x : AVal) (K : AVal → Prop) : Prop :=
  match x with
  | .int _ n => K (.int k (k.wrap n))
  | _ => False
def ITH (x : AVal) (K : AVal → Prop) : Prop :=
  match x with
  | .str s => K (.str s)
  | _ => False
def FLDK (ag : Bool) (n o : Nat) (x : AVal) (K : AVal → Prop) : Prop :=
  match x with
  | .agg cs => cellsAt ag n cs o K
  | _ => False
def FADK (o : Nat) (x : AVal) (K : AVal → Prop) : Prop :=
  match x with
  | .ptr i g off => K (.ptr i g (off + o))
  | .pel cs i => K (.pel cs (i + o))
  | _ => False
def NILK (x : AVal) (K : AVal → Prop) : Prop :=
  match x with
  | .ptr .. => K x
  | .pel .. => K x
  | .fn .. => K x
  | _ => False
def EXTK (x : AVal) (i : Nat) (K : AVal → Prop) : Prop :=
  match x with
  | .tup vs => ∃ v, vs[i]? = some v ∧ K v
  | _ => False
def IDXK (x i : AVal) (K : AVal → Prop) : Prop :=
  match x, i with
  | .str s, .int _ k => ∃ b, 0 ≤ k ∧ s[k.toNat]? = some b ∧ K (.int .u8 b.toNat)
  | _, _ => False
def NEGK (x : AVal) (K : AVal → Prop) : Prop :=
  match x with
  | .int k n => K (.int k (k.wrap (0 - n)))
  | _ => False
def NOTK (x : AVal) (K : AVal → Prop) : Prop :=
  match x with
  | .bool b => K (.bool !b)
  | _ => False
def PICK (c a b : AVal) (K : AVal → Prop) : Prop :=
  match c with
  | .bool c => K (bif c then a else b)
  | _ => False
def ariK (op : BinOp) (k : IntKind) (a b : Int) (K : AVal → Prop) : Prop :=
  match op with
  | .add => K (.int k (k.wrap (a + b)))
  | .sub => K (.int k (k.wrap (a - b)))
  | .mul => K (.int k (k.wrap (a * b)))
  | .quo => b ≠ 0 ∧ K (.int k (k.wrap (a.tdiv b)))
  | .rem => b ≠ 0 ∧ K (.int k (a.tmod b))
  | .eql => K (.bool (a == b))
  | .neq => K (.bool (a != b))
  | .lss => K (.bool (a < b))
  | .leq => K (.bool (a ≤ b))
  | .gtr => K (.bool (a > b))
  | .geq => K (.bool (a ≥ b))
  | .and => K (.int k (k.wrap (BitVec.ofInt k.bits a &&& BitVec.ofInt k.bits b).toNat))
  | .or => K (.int k (k.wrap (BitVec.ofInt k.bits a ||| BitVec.ofInt k.bits b).toNat))
  | .shl => 0 ≤ b ∧ K (.int k (k.wrap (a * 2 ^ (min b.toNat k.bits))))
  | .shr => 0 ≤ b ∧ K (.int k (a.fdiv (2 ^ (min b.toNat k.bits))))
  | _ => False
def strK (op : BinOp) (a b : ByteArray) (K : AVal → Prop) : Prop :=
  match op with
  | .add => a.size + b.size ≤ 1000000000 ∧ K (.str (a ++ b))
  | .eql => K (.bool (a.toList == b.toList))
  | .neq => K (.bool !(a.toList == b.toList))
  | _ => False
def BINK (op : BinOp) (x y : AVal) (K : AVal → Prop) : Prop :=
  match x, y with
  | .int k a, .int k' b => match op with
    | .shl => ariK op k a b K
    | .shr => ariK op k a b K
    | _ => k = k' ∧ ariK op k a b K
  | .str a, .str b => strK op a b K
  | _, _ => False
/-- '==' and '!=' of bools; a slice against nil. -/
def EQB (op : BinOp) (x y : AVal) (K : AVal → Prop) : Prop :=
  match op, x, y with
  | .eql, .bool a, .bool b => K (.bool (a == b))
  | .neq, .bool a, .bool b => K (.bool !(a == b))
  | _, _, _ => False
def EQS (op : BinOp) (x y : AVal) (K : AVal → Prop) : Prop :=
  match op, x, y with
  | .eql, .nilS, .nilS => K (.bool true)
  | .neq, .nilS, .nilS => K (.bool !true)
  | .eql, .own .., .nilS => K (.bool false)
  | .neq, .own .., .nilS => K (.bool !false)
  | _, _, _ => False
def MMK (isMax : Bool) (vs : List AVal) (K : AVal → Prop) : Prop :=
  match vs with
  | [.int k a, .int k' b] => K (.int k (bif isMax then (if b > a then b else a) else (if b < a then b else a)))
  | _ => False
def CLRK (es : Nat) (z : AVal) (H : Heap) (x : AVal) (K : AVal → Heap → Prop) : Prop :=
  match x with
  | .nilS => K (.tup []) H
  | .sl _ n _ => n = 0 ∧ K (.tup []) H
  | .own i g es' off n => es' = es ∧ cellsOfV z fun zs => zs.length = es ∧ ∃ cs, hget H i = some (g, cs) ∧ off + n * es ≤ cs.length ∧ K (.tup []) (hset H i g (cs.take off ++ rep n zs ++ cs.drop (off + n * es)))
  | _ => False
def CPYK (es : Nat) (H : Heap) (d x : AVal) (K : AVal → Heap → Prop) : Prop :=
  match d with
  | .own i g es' off n => elemsOf es H x fun m ns => es' = es ∧ ∃ cs, hget H i = some (g, cs) ∧ off + n * es ≤ cs.length ∧
      K (.int .i64 (Nat.min m n)) (hset H i g (cs.take off ++ ns.take (Nat.min m n * es) ++ cs.drop (off + Nat.min m n * es)))
  | _ => False
def CALLK (P : Program) (f : AVal) (args : List AVal) (H : Heap) (K : AVal → Heap → Prop) : Prop :=
  match f with
  | .fn f first caps => ACalls P f (first ++ args ++ caps) H K
  | _ => False
def BRK (c : AVal) (x y : Prop) : Prop :=
  match c with
  | .bool true => x
  | .bool false => y
  | _ => False
/-- A struct out of its fields: (offset, cells) and the part. -/
def BLDK (zs : List AVal) : List ((Nat × Nat) × AVal) → (AVal → Prop) → Prop
  | [], K => K (.agg zs)
  | ((o, n), v) :: ps, K => cellsOfV v fun cs => cs.length = n ∧ o + n ≤ zs.length ∧ BLDK (zs.take o ++ cs ++ zs.drop (o + n)) ps K

section
variable (P : Program)
def szOf (t : TypeId) : Nat := match P.info? t with | some i => i.size | none => 0
def bytesOk (t : TypeId) : Bool := match P.info? t with | some i => Nat.ble i.bytes 1000 && Nat.ble 1 i.bytes && Nat.ble 1 i.size && (match i.zero with | some z => Nat.beq z.cells.size i.size | none => false) | none => false
def zeroOf (t : TypeId) : AVal := match P.info? t with | some i => (match i.zero with | some z => ofV z | none => .junk) | none => .junk
def aggOf (t : TypeId) : Bool := match P.underlying t with | some (.struct _) => true | some (.array _ _) => true | _ => false
def elemT (t : TypeId) (K : TypeId → Prop) : Prop := match P.underlying t with | some (.slice e) => K e | _ => False
/-- the parts of a slice literal, if they stand in order -/
def inOrder : Nat → List (Nat × Operand) → Option (List Operand)
  | _, [] => some []
  | i, (j, x) :: ps => bif Nat.beq i j then (inOrder (i + 1) ps).map (x :: ·) else none
def fieldsOf (fs : List Field) (P : Program) (σ : Slots) : List (Nat × Operand) → Option (List ((Nat × Nat) × AVal))
  | [] => some []
  | (i, x) :: ps => match fs[i]? with
    | some f => (fieldsOf fs P σ ps).map (((f.offset, szOf P f.type), ev σ x) :: ·)
    | none => none
def vop (o : Oper) (σ : Slots) (H : Heap) (K : AVal → Heap → Prop) : Prop :=
  match o.op with
  | .move x => K (ev σ x) H
  | .assign x => K (ev σ x) H
  | .pick c a b => PICK (ev σ c) (ev σ a) (ev σ b) fun v => K v H
  | .alloc t => bytesOk P t = true ∧ BOXK (zeroOf P t) H K
  | .box t x => BOXK (ev σ x) H K
  | .buildSlice t len ps => elemT P t fun e => bytesOk P e = true ∧ match inOrder 0 ps.toList with
    | some xs => Nat.beq len xs.length = true ∧ Nat.ble (len * szOf P e) 100000 = true ∧ BSK (szOf P e) (xs.map (ev σ)) H K
    | none => False
  | .build t ps => match P.underlying t with
    | some (.struct fs) => (fs.toList.all fun f => (P.info? f.type).isSome) = true ∧ (match zeroOf P t with
      | .agg zs => (match fieldsOf fs.toList P σ ps.toList with
        | some qs => BLDK zs qs fun v => K v H
        | none => False)
      | _ => False)
    | _ => False
  | .load t a => bytesOk P t = true ∧ (P.underlying t).isSome = true ∧ LDK (aggOf P t) (szOf P t) H (ev σ a) fun v => K v H
  | .store t a x => bytesOk P t = true ∧ STK (szOf P t) H (ev σ a) (ev σ x) fun H' => K .junk H'
  | .nilCheck x => NILK (ev σ x) fun v => K v H
  | .binOp op t x y _ => (match P.underlying t with
    | some (.int _) => BINK op (ev σ x) (ev σ y) fun v => K v H
    | some .string => BINK op (ev σ x) (ev σ y) fun v => K v H
    | some .bool => EQB op (ev σ x) (ev σ y) fun v => K v H
    | some (.slice _) => EQS op (ev σ x) (ev σ y) fun v => K v H
    | _ => False)
  | .unOp .neg _ x => NEGK (ev σ x) fun v => K v H
  | .unOp .not _ x => NOTK (ev σ x) fun v => K v H
  | .convert s d x => (match P.underlying s, P.underlying d with
    | some (.int _), some (.int k) => ICVK k (ev σ x) fun v => K v H
    | some .string, some .string => ITH (ev σ x) fun v => K v H
    | some (.slice e), some .string => (match P.underlying e with | some (.int .u8) => SOBK H (ev σ x) fun v => K v H | _ => False)
    | some .string, some (.slice e) => (match P.underlying e with | some (.int .u8) => BOSK (ev σ x) fun v => K v H | _ => False)
    | _, _ => False)
  | .makeInterface t x => (match P.underlying t with | some (.interface _) => False | some _ => K (.iface t (ev σ x)) H | none => False)
  | .makeFunc (.func f) first caps => K (.fn f (first.toList.map (ev σ)) (caps.toList.map (ev σ))) H
  | .makeSlice t l c => l = c ∧ elemT P t fun e => bytesOk P e = true ∧ MKK (szOf P e) (zeroOf P e) (ev σ l) H K
  | .slice t x lo hi mx => (match P.underlying t with
    | some (.slice e) => bytesOk P e = true ∧ (bif mx.isSome then hi.isSome else true) = true ∧ SLK (szOf P e) (ev σ x) (lo.map (ev σ)) (hi.map (ev σ)) (mx.map (ev σ)) fun v => K v H
    | some .string => mx.isNone = true ∧ SSK (ev σ x) (lo.map (ev σ)) (hi.map (ev σ)) fun v => K v H
    | _ => False)
  | .fieldAddr s x f => (match P.underlying s with
    | some (.struct fs) => (match fs.toList[f]? with
      | some fd => bytesOk P fd.type = true ∧ FADK fd.offset (ev σ x) fun v => K v H
      | none => False)
    | _ => False)
  | .field s x f => (match P.underlying s with
    | some (.struct fs) => (match fs.toList[f]? with
      | some fd => bytesOk P fd.type = true ∧ (P.underlying fd.type).isSome = true ∧ FLDK (aggOf P fd.type) (szOf P fd.type) fd.offset (ev σ x) fun v => K v H
      | none => False)
    | _ => False)
  | .indexAddr t x i => elemT P t fun e => bytesOk P e = true ∧ IXK (szOf P e) (ev σ x) (ev σ i) fun v => K v H
  | .index t x i => (match P.underlying t with | some .string => IDXK (ev σ x) (ev σ i) fun v => K v H | _ => False)
  | .extract t i => EXTK (ev σ t) i fun v => K v H
  | .call c => match c.callee with
    | .value f => CALLK P (ev σ f) (c.args.toList.map (ev σ)) H K
    | .builtin .len => (match c.args.toList, c.argTypes.toList with
      | [x], [t] => (match P.underlying t with
        | some (.slice _) => LENK (ev σ x) fun v => K v H
        | some .string => LENS (ev σ x) fun v => K v H
        | _ => False)
      | _, _ => False)
    | .builtin .append => (match c.args.toList, c.argTypes.toList with
      | [d, x], [t, u] => Nat.beq t u = true ∧ elemT P t fun e => bytesOk P e = true ∧ APK (szOf P e) H (ev σ d) (ev σ x) K
      | _, _ => False)
    | .builtin .max => MMK true (c.args.toList.map (ev σ)) fun v => K v H
    | .builtin .min => MMK false (c.args.toList.map (ev σ)) fun v => K v H
    | .builtin .clear => (match c.args.toList, c.argTypes.toList with
      | [x], [t] => elemT P t fun e => bytesOk P e = true ∧ CLRK (szOf P e) (zeroOf P e) H (ev σ x) K
      | _, _ => False)
    | .builtin .copy => (match c.args.toList, c.argTypes.toList with
      | [d, x], [t, _] => elemT P t fun e => bytesOk P e = true ∧ CPYK (szOf P e) H (ev σ d) (ev σ x) K
      | _, _ => False)
    | _ => False
  | _ => False

/-! Regions and stacks of code -/
/-- What a guard has yielded, if that is known. -/
def gval (ops : Array Oper) (σ : Slots) (j : Nat) : Option (Option Bool) :=
  match (ops.toList[j]?).bind (·.dst) with
  | some d => (match σ d with | .bool b => some (some b) | .tup [] => some none | _ => none)
  | none => none
def PUT (N : Nat) (σ : Slots) (d : Option Nat) (v : AVal) (K : Slots → Prop) : Prop :=
  match d with
  | none => K σ
  | some d => bif Nat.blt d N then K (upd σ d v) else False
def SPL (v : AVal) (x y : Prop) : Prop :=
  match v with
  | .bool true => x
  | .bool false => y
  | _ => False
def guardsOf (ops : Array Oper) : List Nat := ops.toList.filterMap fun o => o.guard.map (·.1)
def vcOps (N : Nat) (ops : Array Oper) (gs : List Nat) : List Oper → Nat → Slots → Heap → (Slots → Heap → Prop) → Prop
  | [], _, σ, H, K => K σ H
  | o :: rest, i, σ, H, K =>
    let go := vop P o σ H fun v H' =>
      bif gs.any (Nat.beq i) then SPL v (PUT N σ o.dst (.bool true) fun σ' => vcOps N ops gs rest (i + 1) σ' H' K) (PUT N σ o.dst (.bool false) fun σ' => vcOps N ops gs rest (i + 1) σ' H' K)
      else PUT N σ o.dst v fun σ' => vcOps N ops gs rest (i + 1) σ' H' K
    match o.guard with
    | none => go
    | some (j, want) => match gval ops σ j with
      | some b => bif (b == some want) then go else PUT N σ o.dst (.tup []) fun σ' => vcOps N ops gs rest (i + 1) σ' H K
      | none => False

inductive KF where
  | sq (c : Code)
  | bl (id : Nat)
  | lp (c : Code)
def KF.item : KF → Item
  | .sq c => .code c
  | .bl id => .inBlock id
  | .lp c => .inLoop c

structure FRel (N : Nat) (w : World) (I : Nat → Prop) (σ : Slots) (a : Act) : Prop where
  size : a.tmps.size = N
  defers : a.defers = []
  slots : ∀ i, VRel w I (σ i) (a.tmps.getD i undef)

/-- From here, with this code to do, the function returns, and with a result and a heap of which Q holds. -/
def At (f : FuncId) (N : Nat) (todo : List KF) (Q : AVal → Heap → Prop) (σ : Slots) (H : Heap) : Prop :=
  ∀ (w : World) (I : Nat → Prop) (B : Nat) (a : Act) (K : Value → World → Prop), HRel w I B H → FRel N w I σ a →
    (∀ r H' w' I' v, Q r H' → HRel w' I' B H' → VRel w' I' r v → Ext B w I w' I' → K v w') →
    ∀ (b : Frame) (cs : List Frame), b.fn = f → b.kind = .normal →
      ∃ v w' fr, K v w' ∧ Steps P (lone (b.at a (todo.map KF.item)) cs w) (lone fr cs w') ∧ fr.fn = f ∧ fr.leaving P w' (.returned v)

def exitK (id : Nat) : List KF → Option (List KF)
  | [] => none
  | .bl j :: ks => bif Nat.beq id j then some ks else exitK id ks
  | _ :: ks => exitK id ks
def RESK (H : Heap) (σ : Slots) : List ResultVar → (List AVal → Prop) → Prop
  | [], K => K []
  | .tmp t :: rs, K => RESK H σ rs fun vs => K (σ t :: vs)
  | .cell p t :: rs, K => bytesOk P t = true ∧ (P.underlying t).isSome = true ∧ LDK (aggOf P t) (szOf P t) H (σ p) fun v => RESK H σ rs fun vs => K (v :: vs)
def RETK (rs : List ResultVar) (Q : AVal → Heap → Prop) (σ : Slots) (H : Heap) : Prop :=
  RESK P H σ rs fun
    | [v] => Q v H
    | vs => Q (.tup vs) H
end

end Go.Proofs.Ytccioplhchmilaa.AL
