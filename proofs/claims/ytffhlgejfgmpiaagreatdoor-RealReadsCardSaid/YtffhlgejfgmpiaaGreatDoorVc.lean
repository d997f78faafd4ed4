/-
  A generator of verification conditions over the model's 'Code.wp': its definitions.
  'vc' runs a function's code over a PARTIAL frame (what each slot is known to hold) and comes to a plain proposition: what must hold of memory at each load and store,
  what each call must answer, an invariant for each loop. 'calls_of_vc' (VcSound) says that the condition suffices.
-/
import Derived.WalkKit
namespace Go.Vc
open Go.RowKit

/-- What is known of a slot: a Bool that is decided, an address, or a value. -/
inductive SV where
  | lb (b : Bool)
  | pt (b o : Nat)
  | v (x : Value)
def SV.val : SV → Value
  | .lb b => .bool b
  | .pt b o => .pointer (some ⟨b, o, none⟩)
  | .v x => x
abbrev Env := List (Option SV)
def get : Env → Nat → Option SV
  | [], _ => none
  | x :: _, 0 => x
  | _ :: r, n + 1 => get r n
def put : Env → Nat → SV → Env
  | [], _, _ => []
  | _ :: r, 0, s => some s :: r
  | x :: r, n + 1, s => x :: put r n s
def putO (σ : Env) : Option Tmp → SV → Env
  | none, _ => σ
  | some d, s => put σ d s
def forget : Env → Nat → Env
  | [], _ => []
  | _ :: r, 0 => none :: r
  | x :: r, n + 1 => x :: forget r n
def forgetAll (σ : Env) : List Nat → Env
  | [] => σ
  | t :: r => forgetAll (forget σ t) r
def svC : Value → SV
  | .bool b => .lb b
  | x => .v x
def ev (σ : Env) : Operand → Option SV
  | .tmp t => get σ t
  | .const x => some (svC x)
  | .global g => some (.pt g 0)
  | .func f => some (.v (.func (.func f) #[] #[]))
def opt {α : Type} (x : Option α) (K : α → Prop) : Prop :=
  match x with
  | some a => K a
  | none => False
def optL {α β : Type} (f : α → Option β) : List α → (List β → Prop) → Prop
  | [], K => K []
  | x :: r, K => opt (f x) fun b => optL f r fun bs => K (b :: bs)
/-- Both ways of a test. -/
def Br (b : Bool) (A B : Prop) : Prop := (b = true → A) ∧ (b = false → B)

/-- The kinds into which an unknown value is taken apart. -/
inductive Kd where
  | int (k : IntKind)
  | bool
  | str
  | ptr
  | slice
  | flt (k : FloatKind)
  | fn
  | any
def Ex : Kd → (SV → Prop) → Prop
  | .int k, F => ∃ n : Int, F (.v (.int k n))
  | .bool, F => ∃ b : Bool, F (.v (.bool b))
  | .str, F => ∃ s : ByteArray, F (.v (.string s))
  | .ptr, F => ∃ p : Option Addr, F (.v (.pointer p))
  | .slice, F => ∃ (p : Option Addr) (l c : Nat), F (.v (.slice p l c))
  | .flt k, F => ∃ n : Nat, F (.v (.float k n))
  | .fn, F => ∃ (g : Go.Fn) (fs caps : Array Value), F (.v (.func g fs caps))
  | .any, F => ∃ x : Value, F (.v x)
def ExL : List Kd → (List SV → Prop) → Prop
  | [], F => F []
  | k :: r, F => Ex k fun s => ExL r fun ss => F (s :: ss)
/-- A relation on the slots of a loop (or of a cut), and the number that falls. -/
def InvT : List Kd → Type
  | [] => Nat → World → Prop
  | .int _ :: r => Int → InvT r
  | .bool :: r => Bool → InvT r
  | .str :: r => ByteArray → InvT r
  | .ptr :: r => Option Addr → InvT r
  | .slice :: r => Option Addr → Nat → Nat → InvT r
  | .flt _ :: r => Nat → InvT r
  | .fn :: r => Go.Fn → Array Value → Array Value → InvT r
  | .any :: r => Value → InvT r
/-- The relation at these values. -/
def app : (ks : List Kd) → InvT ks → List SV → Nat → World → Prop
  | [], I, _, n, w => I n w
  | .int k :: r, I, .v (.int k' x) :: ss, n, w => if k = k' then app r (I x) ss n w else False
  | .bool :: r, I, .v (.bool b) :: ss, n, w => app r (I b) ss n w
  | .bool :: r, I, .lb b :: ss, n, w => app r (I b) ss n w
  | .str :: r, I, .v (.string s) :: ss, n, w => app r (I s) ss n w
  | .ptr :: r, I, .v (.pointer p) :: ss, n, w => app r (I p) ss n w
  | .ptr :: r, I, .pt b o :: ss, n, w => app r (I (some ⟨b, o, none⟩)) ss n w
  | .slice :: r, I, .v (.slice p l c) :: ss, n, w => app r (I p l c) ss n w
  | .flt k :: r, I, .v (.float k' x) :: ss, n, w => if k = k' then app r (I x) ss n w else False
  | .fn :: r, I, .v (.func g fs caps) :: ss, n, w => app r (I g fs caps) ss n w
  | .any :: r, I, s :: ss, n, w => app r (I s.val) ss n w
  | _, _, _, _, _ => False
/-- For all values of these kinds. -/
def AllI : (ks : List Kd) → InvT ks → (List SV → (Nat → World → Prop) → Prop) → Prop
  | [], I, F => F [] I
  | .int k :: r, I, F => ∀ x : Int, AllI r (I x) fun ss J => F (.v (.int k x) :: ss) J
  | .bool :: r, I, F => ∀ b : Bool, AllI r (I b) fun ss J => F (.v (.bool b) :: ss) J
  | .str :: r, I, F => ∀ s : ByteArray, AllI r (I s) fun ss J => F (.v (.string s) :: ss) J
  | .ptr :: r, I, F => ∀ p : Option Addr, AllI r (I p) fun ss J => F (.v (.pointer p) :: ss) J
  | .slice :: r, I, F => ∀ (p : Option Addr) (l c : Nat), AllI r (I p l c) fun ss J => F (.v (.slice p l c) :: ss) J
  | .flt k :: r, I, F => ∀ x : Nat, AllI r (I x) fun ss J => F (.v (.float k x) :: ss) J
  | .fn :: r, I, F => ∀ (g : Go.Fn) (fs caps : Array Value), AllI r (I g fs caps) fun ss J => F (.v (.func g fs caps) :: ss) J
  | .any :: r, I, F => ∀ x : Value, AllI r (I x) fun ss J => F (.v x :: ss) J

/-- What is said beside the code: the slots of each loop and cut (by the number of the first region in it), the slots whose sums are taken as they wrap (or as they do not), the callees that may panic. -/
structure Ann where
  loops : List (Nat × List (Tmp × Kd)) := []
  cuts : List (Nat × List (Tmp × Kd)) := []
  flip : List Tmp := []
  throws : List FuncId := []
  ranges : List (Nat × List (Tmp × Kd)) := []
def lookupN {α : Type} (n : Nat) : List (Nat × α) → Option α
  | [] => none
  | (m, a) :: r => if n = m then some a else lookupN n r
def memN (n : Nat) : List Nat → Bool
  | [] => false
  | m :: r => if n = m then true else memN n r
def Ann.exact (A : Ann) (d : Option Tmp) (k : IntKind) : Bool :=
  match d with
  | some d => xor (memN d A.flip) (match k with | .i64 => true | _ => false)
  | none => false
/-- The number is one of its kind. -/
def InK (k : IntKind) (z : Int) : Prop := k.min ≤ z ∧ z ≤ k.max
def num (A : Ann) (d : Option Tmp) (k : IntKind) (z : Int) (K : SV → Prop) : Prop :=
  match A.exact d k with
  | true => InK k z ∧ K (.v (.int k z))
  | false => K (.v (.int k (k.wrap z)))

def kindOf (P : Program) (t : TypeId) : Option Kd :=
  match P.underlying t with
  | some (.int k) => some (.int k)
  | some .bool => some .bool
  | some .string => some .str
  | some (.pointer _) => some .ptr
  | some (.slice _) => some .slice
  | some (.float k) => some (.flt k)
  | some (.func _ _ _) => some .fn
  | some (.struct _) => none
  | some (.array _ _) => none
  | some _ => some .any
  | none => none
/-- The kinds of the cells of a type, in their order. -/
def leaves (P : Program) : Nat → TypeId → Option (List Kd)
  | 0, _ => none
  | n + 1, t =>
    match P.underlying t with
    | some (.struct fs) => fs.toList.foldr (fun f acc => match leaves P n f.type, acc with | some a, some b => some (a ++ b) | _, _ => none) (some [])
    | some (.array len e) => match leaves P n e with | some ks => some (List.replicate len ks).flatten | none => none
    | _ => (kindOf P t).map fun k => [k]
def fieldOf (P : Program) (T f : Nat) : Option Field :=
  match P.underlying T with
  | some (.struct fs) => fs[f]?
  | _ => none
def elemOf (P : Program) (T : TypeId) : Option TypeId :=
  match P.underlying T with
  | some (.slice e) => some e
  | _ => none
def isAggT (P : Program) (t : TypeId) : Option Bool :=
  match P.underlying t with
  | some (.struct _) | some (.array _ _) => some true
  | some _ => some false
  | none => none
def sizeO (P : Program) (t : TypeId) : Option Nat := (P.info? t).map (·.size)
def zeroO (P : Program) (t : TypeId) : Option Value := (P.info? t).bind (·.zero)

/-- The fields of a struct, of integers, one after another. -/
def eqFields (P : Program) (xs ys : List Value) : List Field → (Bool → Prop) → Prop
  | [], K => K true
  | f :: r, K => match P.underlying f.type, f.name == "_", xs.drop f.offset, ys.drop f.offset with
    | some (.int _), false, .int k a :: _, .int k' b :: _ => if k = k' then eqFields P xs ys r fun t => K ((a == b) && t) else False
    | _, _, _, _ => False
def eqVc (P : Program) (T : TypeId) (x y : SV) (K : Bool → Prop) : Prop :=
  match P.underlying T with
  | some .bool => match x.val, y.val with
    | .bool a, .bool b => K (a == b)
    | _, _ => False
  | some (.pointer _) => match x, y with
    | .pt _ _, .v (.pointer none) => K false
    | .v (.pointer a), .v (.pointer none) => K a.isNone
    | _, _ => False
  | some (.slice _) => match x, y with
    | .v (.slice a _ _), .v (.slice none _ _) => K a.isNone
    | _, _ => False
  | some (.struct fs) => match x.val, y.val with
    | .agg a, .agg b => match P.stoodInHeld T, P.eqGuardType P.depth T with
      | false, false => eqFields P a.toList b.toList fs.toList K
      | _, _ => False
    | _, _ => False
  | _ => False
def binVc (P : Program) (A : Ann) (d : Option Tmp) (op : BinOp) (T : TypeId) (x y : SV) (K : SV → Prop) : Prop :=
  match x.val, y.val with
  | .int k a, .int k' b =>
    match op with
    | .shl => 0 ≤ b ∧ num A d k (a * 2 ^ (min b.toNat k.bits)) K
    | .shr => 0 ≤ b ∧ K (.v (.int k (a.fdiv (2 ^ (min b.toNat k.bits)))))
    | _ =>
      if k = k' then
        match op with
        | .add => num A d k (a + b) K
        | .sub => num A d k (a - b) K
        | .mul => num A d k (a * b) K
        | .quo => b ≠ 0 ∧ num A d k (a.tdiv b) K
        | .rem => b ≠ 0 ∧ K (.v (.int k (a.tmod b)))
        | .and => K (.v (.int k (bits .and k a b)))
        | .or => K (.v (.int k (bits .or k a b)))
        | .xor => K (.v (.int k (bits .xor k a b)))
        | .andNot => K (.v (.int k (bits .andNot k a b)))
        | .eql => K (.v (.bool (a == b)))
        | .neq => K (.v (.bool (a != b)))
        | .lss => K (.v (.bool (decide (a < b))))
        | .leq => K (.v (.bool (decide (a ≤ b))))
        | .gtr => K (.v (.bool (decide (a > b))))
        | .geq => K (.v (.bool (decide (a ≥ b))))
        | _ => False
      else False
  | .string a, .string b =>
    match op with
    | .add => ((a.size + b.size : Nat) : Int) ≤ 9223372036854775807 ∧ K (.v (.string (a ++ b)))
    | .eql => K (.v (.bool (a.toList == b.toList)))
    | .neq => K (.v (.bool (!(a.toList == b.toList))))
    | _ => False
  | .float k a, .float k' b =>
    if k = k' then
      match op with
      | .eql => K (.v (.bool (k.format.order a b == some .eq)))
      | .neq => K (.v (.bool (k.format.order a b != some .eq)))
      | .lss => K (.v (.bool (k.format.order a b == some .lt)))
      | .leq => K (.v (.bool (k.format.order a b == some .lt || k.format.order a b == some .eq)))
      | .gtr => K (.v (.bool (k.format.order a b == some .gt)))
      | .geq => K (.v (.bool (k.format.order a b == some .gt || k.format.order a b == some .eq)))
      | _ => False
    else False
  | _, _ =>
    match op with
    | .eql => eqVc P T x y fun b => K (.v (.bool b))
    | .neq => eqVc P T x y fun b => K (.v (.bool (!b)))
    | _ => False
def unVc (A : Ann) (d : Option Tmp) (op : UnOp) (x : SV) (K : SV → Prop) : Prop :=
  match op, x with
  | .not, .lb b => K (.lb (!b))
  | .not, .v (.bool b) => K (.v (.bool (!b)))
  | .neg, .v (.int k n) => num A d k (0 - n) K
  | .neg, .v (.float k n) => K (.v (.float k (Op.negFloat k n)))
  | .xor, .v (.int k n) => K (.v (.int k (bits .xor k (if k.signed then -1 else k.max) n)))
  | _, _ => False
/-- The arithmetic of floats: it may draw. -/
def arithB (op : BinOp) : Bool :=
  match op with
  | .add | .sub | .mul | .quo => true
  | _ => false
def fltB (P : Program) (op : BinOp) (T : TypeId) : Bool :=
  match P.underlying T with
  | some (.float _) => arithB op
  | _ => false
/-- A comparison of an interface's value with nil. -/
def nilB (P : Program) (op : BinOp) (T : TypeId) (y : Operand) : Bool :=
  match P.underlying T, y, op with
  | some (.interface _), .const .nilIface, .eql => true
  | some (.interface _), .const .nilIface, .neq => true
  | _, _, _ => false
/-- A comparison of addresses, or of what interfaces hold. -/
def eqB (P : Program) (op : BinOp) (T : TypeId) (y : Operand) : Bool :=
  match P.underlying T, y, op with
  | some (.pointer _), .global _, .eql => true
  | some (.interface _), .tmp _, .eql => true
  | _, _, _ => false
def GuardOk (x : Value) : Prop := (∃ a, x = .pointer a) ∨ ∃ t u, x = .iface t u
def nilR (op : BinOp) (b : Bool) : Bool := match op with
  | .eql => b
  | _ => !b
def IfNil (a : Value) (b : Bool) : Prop := (a = .nilIface ∧ b = true) ∨ ((∃ t v, a = .iface t v) ∧ b = false)
/-- The cells that the parts of a literal fill. -/
def fillL : List (Nat × Nat) → List Value → List (Nat × Value) → Option (List Value)
  | _, cs, [] => some cs
  | ps, cs, (i, x) :: r =>
    match ps[i]? with
    | some (off, size) => if x.cells.size = size ∧ off + size ≤ cs.length then fillL ps (cs.take off ++ x.cells.toList ++ cs.drop (off + size)) r else none
    | none => none
def placesO (P : Program) : List Field → Option (List (Nat × Nat))
  | [] => some []
  | f :: r => match sizeO P f.type, placesO P r with
    | some n, some ps => some ((f.offset, n) :: ps)
    | _, _ => none
def intOfV : SV → Option Int
  | .v (.int _ n) => some n
  | _ => none
/-- The pointer of a part of a slice. -/
def subp (p : Option Addr) (lo m size : Nat) : Option Addr := if m = lo then p else p.map (·.add (lo * size))
def optI (v : Operand → Option SV) (x : Option Operand) (K : Option Int → Prop) : Prop :=
  match x with
  | none => K none
  | some x => opt (v x) fun s => opt (intOfV s) fun n => K (some n)
/-- The bounds of a slice expression: what they must be, and the three numbers. -/
def boundsVc (len cap : Nat) (lo hi mx : Option Int) (K : Nat → Nat → Nat → Prop) : Prop :=
  match lo, hi, mx with
  | none, none, none => K 0 len cap
  | some l, none, none => (0 ≤ l ∧ l ≤ (len : Int)) ∧ K l.toNat len cap
  | none, some h, none => (0 ≤ h ∧ h ≤ (cap : Int)) ∧ K 0 h.toNat cap
  | some l, some h, none => (0 ≤ h ∧ h ≤ (cap : Int)) ∧ (0 ≤ l ∧ l ≤ h) ∧ K l.toNat h.toNat cap
  | none, some h, some m => (0 ≤ m ∧ m ≤ (cap : Int)) ∧ (0 ≤ h ∧ h ≤ m) ∧ K 0 h.toNat m.toNat
  | some l, some h, some m => (0 ≤ m ∧ m ≤ (cap : Int)) ∧ (0 ≤ h ∧ h ≤ m) ∧ (0 ≤ l ∧ l ≤ h) ∧ K l.toNat h.toNat m.toNat
  | _, _, _ => False
def oneOf (xs : List Value) (i : Int) (K : SV → Prop) : Nat → Prop
  | n => match xs with
    | [] => True
    | x :: r => (i = (n : Int) → K (svC x)) ∧ oneOf r i K (n + 1)
def sb (s : ByteArray) (i : Int) : Int := ((s.data.toList.getD i.toNat 0).toNat : Int)

def idx (n sz : Nat) : Nat :=
  match sz with
  | 1 => n
  | k => n * k
/-- An operation whose answer hangs on its operands alone. -/
def pureVc (P : Program) (A : Ann) (o : Oper) (v : Operand → Option SV) (K : SV → Prop) : Option Prop :=
  match o.op with
  | .move x | .assign x => some (opt (v x) K)
  | .pick c a b => some (opt (v c) fun sc => match sc with
      | .lb true => opt (v a) K
      | .lb false => opt (v b) K
      | .v (.bool t) => Br t (opt (v a) K) (opt (v b) K)
      | _ => False)
  | .unOp op _ x => some (opt (v x) fun sx => unVc A o.dst op sx K)
  | .binOp op T x y _ => match fltB P op T || nilB P op T y || eqB P op T y with
    | true => none
    | false => some (opt (v x) fun sx => opt (v y) fun sy => binVc P A o.dst op T sx sy K)
  | .convert src dst x => match P.underlying src, P.underlying dst with
    | some (.int _), some (.int k) => some (opt (v x) fun sx => opt (intOfV sx) fun n => num A o.dst k n K)
    | some .string, some .string => some (opt (v x) fun sx => match sx with | .v (.string s) => K (.v (.string s)) | _ => False)
    | _, _ => none
  | .makeFunc fn first caps => some (optL v first.toList fun fs => optL v caps.toList fun cs => K (.v (.func fn (fs.map SV.val).toArray (cs.map SV.val).toArray)))
  | .makeInterface T x => some (opt (v x) fun sx => match P.concrete T with
      | true => K (.v (.iface T sx.val))
      | false => False)
  | .extract t i => some (opt (v t) fun st => match st with
      | .v (.tuple vs) => opt (vs.toList[i]?) fun x => K (.v x)
      | _ => False)
  | .field T x f => some (opt (v x) fun sx => opt (fieldOf P T f) fun fd => match sx with
      | .v (.agg cs) => match isAggT P fd.type with
        | some true => opt (sizeO P fd.type) fun sz => K (.v (.agg ((cs.toList.drop fd.offset).take sz).toArray))
        | some false => opt (cs.toList[fd.offset]?) fun x => K (.v x)
        | none => False
      | _ => False)
  | .fieldAddr T x f => some (opt (v x) fun sx => opt (fieldOf P T f) fun fd => opt (sizeO P fd.type) fun sz => match sz with
      | 0 => False
      | _ + 1 => match sx with
        | .pt b o => K (.pt b (o + fd.offset))
        | .v (.pointer p) => ∃ b o, p = some ⟨b, o, none⟩ ∧ K (.pt b (o + fd.offset))
        | _ => False)
  | .nilCheck x => some (opt (v x) fun sx => match sx with
      | .pt b o => K (.pt b o)
      | .v (.pointer p) => ∃ b o, p = some ⟨b, o, none⟩ ∧ K (.pt b o)
      | .v (.func (.func f) a c) => K (.v (.func (.func f) a c))
      | .v (.func f a c) => (∀ nm, f ≠ .method nm) ∧ K (.v (.func f a c))
      | _ => False)
  | .indexAddr T x i => some (opt (v x) fun sx => opt (v i) fun si => opt (intOfV si) fun n => match P.underlying T with
      | some (.slice e) => opt (sizeO P e) fun sz => match sx with
        | .v (.slice p l _) => (0 ≤ n ∧ n < (l : Int)) ∧ ∃ b o, p = some ⟨b, o, none⟩ ∧ K (.pt b (o + idx n.toNat sz))
        | _ => False
      | some (.array len e) => opt (sizeO P e) fun sz => match sx with
        | .pt b o => (0 ≤ n ∧ n < (len : Int)) ∧ K (.pt b (o + idx n.toNat sz))
        | .v (.pointer p) => (0 ≤ n ∧ n < (len : Int)) ∧ ∃ b o, p = some ⟨b, o, none⟩ ∧ K (.pt b (o + idx n.toNat sz))
        | _ => False
      | _ => False)
  | .index T x i => some (opt (v x) fun sx => opt (v i) fun si => opt (intOfV si) fun n => match P.underlying T with
      | some .string => match sx with
        | .v (.string s) => (0 ≤ n ∧ n < (s.size : Int)) ∧ K (.v (.int .u8 (sb s n)))
        | _ => False
      | some (.array len e) => match sx with
        | .v (.agg cs) => match isAggT P e, sizeO P e, decide (cs.toList.length = len) with
          | some false, some 1, true => (0 ≤ n ∧ n < (len : Int)) ∧ oneOf cs.toList n K 0
          | _, _, _ => False
        | _ => False
      | _ => False)
  | .slice T x lo hi mx => some (opt (v x) fun sx => optI v lo fun l => optI v hi fun h => optI v mx fun m =>
      match P.underlying T with
      | some (.slice e) => opt (sizeO P e) fun sz => match sx with
        | .v (.slice p len cap) => boundsVc len cap l h m fun l h m => K (.v (.slice (subp p l m sz) (h - l) (m - l)))
        | _ => False
      | some .string => match sx, m with
        | .v (.string s), none => boundsVc s.size s.size l h none fun l h _ => K (.v (.string (s.extract l h)))
        | _, _ => False
      | some (.pointer arr) => match P.underlying arr with
        | some (.array len e) => opt (sizeO P e) fun sz => match sx with
          | .pt b o => boundsVc len len l h m fun l h m => K (.v (.slice (subp (some ⟨b, o, none⟩) l m sz) (h - l) (m - l)))
          | _ => False
        | _ => False
      | some (.array len e) => opt (sizeO P e) fun sz => match sx with
        | .pt b o => boundsVc len len l h m fun l h m => K (.v (.slice (subp (some ⟨b, o, none⟩) l m sz) (h - l) (m - l)))
        | _ => False
      | _ => False)
  | .build T parts => some (opt (zeroO P T) fun z => optL (fun p : Nat × Operand => (v p.2).map fun s => (p.1, s.val)) parts.toList fun vs => match P.underlying T with
      | some (.struct fs) => opt (placesO P fs.toList) fun ps => opt (fillL ps z.cells.toList vs) fun cs => K (.v (.agg cs.toArray))
      | some (.array len e) => opt (sizeO P e) fun sz => opt (fillL ((List.range len).map fun i => (i * sz, sz)) z.cells.toList vs) fun cs => K (.v (.agg cs.toArray))
      | _ => False)
  | .call { callee := .builtin .len, args, argTypes } => match args.toList, argTypes.toList with
    | [x], [T] => match P.underlying T with
      | some (.slice _) => some (opt (v x) fun sx => match sx with
        | .v (.slice _ l _) => K (.v (.int .i64 l))
        | _ => False)
      | some .string => some (opt (v x) fun sx => match sx with
        | .v (.string s) => K (.v (.int .i64 s.size))
        | _ => False)
      | _ => none
    | _, _ => none
  | .call { callee := .builtin .cap, args, argTypes } => match args.toList, argTypes.toList with
    | [x], [T] => match P.underlying T with
      | some (.slice _) => some (opt (v x) fun sx => match sx with
        | .v (.slice _ _ c) => K (.v (.int .i64 c))
        | _ => False)
      | _ => none
    | _, _ => none
  | .call { callee := .builtin .min, args, .. } => match args.toList with
    | [x, y] => some (opt (v x) fun sx => opt (v y) fun sy => match sx, sy with
        | .v (.int k a), .v (.int _ b) => K (.v (.int k (if b < a then b else a)))
        | _, _ => False)
    | [x, y, z] => some (opt (v x) fun sx => opt (v y) fun sy => opt (v z) fun sz => match sx, sy, sz with
        | .v (.int k a), .v (.int _ b), .v (.int _ c) => K (.v (.int k (if c < (if b < a then b else a) then c else (if b < a then b else a))))
        | _, _, _ => False)
    | _ => none
  | .call { callee := .builtin .max, args, .. } => match args.toList with
    | [x, y] => some (opt (v x) fun sx => opt (v y) fun sy => match sx, sy with
        | .v (.int k a), .v (.int _ b) => K (.v (.int k (if a < b then b else a)))
        | _, _ => False)
    | _ => none
  | _ => none
end Go.Vc
