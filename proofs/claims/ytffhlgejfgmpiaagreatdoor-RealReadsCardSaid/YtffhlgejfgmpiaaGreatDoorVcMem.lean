/-
  A generator of verification conditions: memory, calls, code.
-/
import Derived.Test.YtffhlgejfgmpiaaGreatDoorVcPure3
import Derived.Deep.Quiet
import Derived.RangeFuncSeq
namespace Go.Vc
open Go.RowKit

/-- A block that was laid just now. -/
structure NewBlk (w : World) (b : Nat) (cs : List Value) (T : TypeId) (w' : World) : Prop where
  eq : b = w.heap.size
  world : w' = w.alloc (.cells cs.toArray T)
/-- The world behind a store. -/
structure Stored (w : World) (b o : Nat) (x : Value) (w' : World) : Prop where
  world : w' = w.setCell ⟨b, o, none⟩ x
def CanStore (w : World) (b o : Nat) : Prop := (∃ u, w.cell? ⟨b, o, none⟩ = some u) ∧ w.frozen? ⟨b, o, none⟩ = false
def callableB (P : Program) (g : FuncId) : Bool :=
  match P.funcs[g]? with
  | some fn => !(fn.name == "runtime.NumGoroutine") && fn.body.isSome
  | none => false
/-- A call of a function that has a body: how it ends. -/
def DoesB (P : Program) (g : FuncId) (args : Array Value) (w : World) (R : Ending → World → Prop) : Prop := callableB P g = true ∧ Calls P g args w R
/-- A call of a function that the model answers itself. -/
def DoesX (P : Program) (g : FuncId) (args : Array Value) (w : World) (R : Ending → World → Prop) : Prop := callableB P g = false ∧ ∃ v w', (callFunc g args).run P w = .ok (.value v) w' ∧ R (.returned v) w'
/-- A call of a function: how it ends. -/
def Does (P : Program) (g : FuncId) (args : Array Value) (w : World) (R : Ending → World → Prop) : Prop := DoesB P g args w R ∨ DoesX P g args w R
theorem Does.calls {P : Program} {g : FuncId} {args : Array Value} {w : World} {R : Ending → World → Prop} (h : Does P g args w R) (hc : callableB P g = true) : Calls P g args w R := by
  rcases h with h | h
  · exact h.2
  · have e : false = true := h.1.symm.trans hc
    cases e
theorem Does.mono {P : Program} {g : FuncId} {args : Array Value} {w : World} {R R' : Ending → World → Prop} (h : Does P g args w R) (hr : ∀ e w', R e w' → R' e w') : Does P g args w R' :=
  h.imp (fun h => ⟨h.1, h.2.mono hr⟩) fun ⟨hc, v, w', h, hR⟩ => ⟨hc, v, w', h, hr _ _ hR⟩

/-- A call of 'yield': a round. -/
def YieldsV (P : Program) (l : Nat) (args : Array Value) (w : World) (R : Ending → World → Prop) : Prop := YieldAt Fence.wide 0 P l args w R
/-- A call of a function value. -/
def DoesV (P : Program) (f : Go.Fn) (first args caps : Array Value) (w : World) (R : Ending → World → Prop) : Prop :=
  match f with
  | .func g => Does P g (first ++ args ++ caps) w R
  | .yield l => YieldsV P l (first ++ args) w R
  | _ => False

/-- A call of a function value that may panic. -/
def DoesF (P : Program) (f : Go.Fn) (first args caps : Array Value) (w : World) (R : Ending → World → Prop) : Prop :=
  match f with
  | .func g => Does P g (first ++ args ++ caps) w R
  | _ => False
/-- A call of a function value that is a function of the program. -/
def DoesG (P : Program) (f : Go.Fn) (first args caps : Array Value) (w : World) (R : Ending → World → Prop) : Prop :=
  match f with
  | .func g => DoesB P g (first ++ args ++ caps) w R
  | _ => False

inductive Rk where
  | one (k : Kd)
  | agg (ks : List Kd)
def rkOf (P : Program) (t : TypeId) : Option Rk :=
  match isAggT P t with
  | some true => (leaves P 20 t).map .agg
  | some false => (kindOf P t).map .one
  | none => none
def rkAll (P : Program) : List TypeId → Option (List Rk)
  | [] => some []
  | t :: r => match rkOf P t, rkAll P r with
    | some k, some ks => some (k :: ks)
    | _, _ => none
def ExR : Rk → (SV → Prop) → Prop
  | .one k, F => Ex k F
  | .agg ks, F => ExL ks fun ss => F (.v (.agg (ss.map SV.val).toArray))
def ExRL : List Rk → (List SV → Prop) → Prop
  | [], F => F []
  | k :: r, F => ExR k fun s => ExRL r fun ss => F (s :: ss)
/-- Some answer of type t of which F holds. -/
def ResVc (P : Program) (t : TypeId) (F : SV → Prop) : Prop :=
  match P.underlying t with
  | some (.tuple ts) => match ts.toList with
    | [] => F (.v (.tuple #[]))
    | l => opt (rkAll P l) fun rs => ExRL rs fun ss => F (.v (.tuple (ss.map SV.val).toArray))
  | _ => opt (rkOf P t) fun r => ExR r F
def addrVc (s : SV) (F : Nat → Nat → Prop) : Prop :=
  match s with
  | .pt b o => F b o
  | .v (.pointer p) => ∃ b o, p = some ⟨b, o, none⟩ ∧ F b o
  | _ => False
def loadL (w : World) (b : Nat) : Nat → List Kd → (List Value → Prop) → Prop
  | _, [], F => F []
  | o, k :: ks, F => Ex k fun s => w.cell? ⟨b, o, none⟩ = some s.val ∧ loadL w b (o + 1) ks fun vs => F (s.val :: vs)
def loadQ (C : World → Prop) (b : Nat) : Nat → List Kd → (List Value → Prop) → Prop
  | _, [], F => F []
  | o, k :: ks, F => Ex k fun s => (∀ w, C w → w.cell? ⟨b, o, none⟩ = some s.val) ∧ loadQ C b (o + 1) ks fun vs => F (s.val :: vs)
def storeL (b : Nat) : Nat → List Value → World → (World → Prop) → Prop
  | _, [], w, F => F w
  | o, x :: r, w, F => match x.oneCell' with
    | true => CanStore w b o ∧ ∀ w', Stored w b o x w' → storeL b (o + 1) r w' F
    | false => False
def zerosL (z : Value) (n : Nat) : List Value := (List.replicate n z.cells.toList).flatten

def callVc (P : Program) (A : Ann) (t : TypeId) (g : FuncId) (args : Array Value) (K : SV → World → Prop) (Qp : List PanicEntry → World → Prop) (w : World) : Prop :=
  match memN g A.throws with
  | false => Does P g args w fun e w' => ResVc P t fun s => e = .returned s.val ∧ K s w'
  | true => Does P g args w fun e w' => (ResVc P t fun s => e = .returned s.val ∧ K s w') ∨ ∃ ch, e = .panicked ch ∧ Qp ch w'
/-- An operation that reads or writes memory, or calls. -/
def memVc (P : Program) (A : Ann) (o : Oper) (v : Operand → Option SV) (K : SV → World → Prop) (Qp : List PanicEntry → World → Prop) (w : World) : Prop :=
  match o.op with
  | .load T x => opt (v x) fun sx => match isAggT P T with
    | some false => opt (kindOf P T) fun k => addrVc sx fun b o => Ex k fun s => w.cell? ⟨b, o, none⟩ = some s.val ∧ K s w
    | some true => opt (leaves P 20 T) fun ks => opt (sizeO P T) fun sz => match decide (ks.length = sz) with
      | true => addrVc sx fun b o => match decide (sz ≤ 64) with
        | true => loadL w b o ks fun vs => K (.v (.agg vs.toArray)) w
        | false => ∃ vs : List Value, vs.length = sz ∧ (∀ j u, vs[j]? = some u → w.cell? ⟨b, o + j, none⟩ = some u) ∧ K (.v (.agg vs.toArray)) w
      | false => False
    | none => False
  | .store T x y => opt (v x) fun sx => opt (v y) fun sy => opt (sizeO P T) fun sz => match decide (sy.val.cells.size = sz) with
    | true => addrVc sx fun b o => storeL b o sy.val.cells.toList w fun w' => K (.v undef) w'
    | false => False
  | .alloc T => opt (zeroO P T) fun z => ∀ b w', NewBlk w b z.cells.toList T w' → K (.pt b 0) w'
  | .box T x => opt (v x) fun sx => ∀ b w', NewBlk w b sx.val.cells.toList T w' → K (.pt b 0) w'
  | .buildSlice T n parts => opt (elemOf P T) fun e => opt (sizeO P e) fun sz => opt (zeroO P e) fun z =>
      optL (fun p : Nat × Operand => (v p.2).map fun s => (p.1, s.val)) parts.toList fun vs =>
      match decide (n * sz ≤ 2 ^ 24), decide (z.cells.size = sz), decide (0 < n * sz) with
      | true, true, true => opt (fillL ((List.range n).map fun i => (i * sz, sz)) (zerosL z n) vs) fun cs =>
          ∀ b w', NewBlk w b cs e w' → K (.v (.slice (some ⟨b, 0, none⟩) n n)) w'
      | true, true, false => match vs with
        | [] => ∀ b w', NewBlk w b [] e w' → K (.v (.slice (some ⟨b, 0, none⟩) n n)) w'
        | _ => False
      | _, _, _ => False
  | .makeSlice T l c => opt (elemOf P T) fun e => opt (zeroO P e) fun z => opt (P.info? e) fun i => opt (v l) fun sl => opt (v c) fun sc => opt (intOfV sl) fun l => opt (intOfV sc) fun c =>
      match decide (z.cells.size = i.size), decide (0 < i.size) with
      | true, true => (0 ≤ l ∧ l ≤ c ∧ c * i.bytes ≤ 140737488355328 ∧ c ≤ 9223372036854775807) ∧ ∀ b w', NewBlk w b (zerosL z c.toNat) e w' → K (.v (.slice (some ⟨b, 0, none⟩) l.toNat c.toNat)) w'
      | _, _ => False
  | .binOp op T x y _ => match fltB P op T with
    | true => opt (v x) fun sx => opt (v y) fun sy => opt (kindOf P T) fun k => Ex k fun s => ∃ w', (binOp op T sx.val sy.val).run P w = .ok s.val w' ∧ K s w'
    | false => match nilB P op T y with
      | true => opt (v x) fun sx => ∃ b : Bool, IfNil sx.val b ∧ K (.v (.bool (nilR op b))) w
      | false => match eqB P op T y with
        | true => opt (v x) fun sx => opt (v y) fun sy => GuardOk sx.val ∧ ∃ (b : Bool) (w' : World), (binOp op T sx.val sy.val).run P w = .ok (.bool b) w' ∧ K (.v (.bool b)) w'
        | false => False
  | .convert src dst x => opt (v x) fun sx => opt (kindOf P dst) fun k => Ex k fun s => ∃ w', (convert src dst sx.val).run P w = .ok s.val w' ∧ K s w'
  | .call { callee := .builtin .append, args, argTypes } => optL v args.toList fun ss => ∃ (p : Option Addr) (l c : Nat) (w' : World), (Builtin.append_ argTypes o.type (ss.map SV.val).toArray).run P w = .ok (.slice p l c) w' ∧ K (.v (.slice p l c)) w'
  | .call { callee := .builtin .copy, args, argTypes } => optL v args.toList fun ss => ∃ (n : Int) (w' : World), (Builtin.copy_ argTypes o.type (ss.map SV.val).toArray).run P w = .ok (.int .i64 n) w' ∧ K (.v (.int .i64 n)) w'
  | .call { callee := .builtin .unsafeString, args, argTypes } => optL v args.toList fun ss => ∃ (s : ByteArray) (w' : World), (Builtin.unsafeString_ argTypes o.type (ss.map SV.val).toArray).run P w = .ok (.string s) w' ∧ K (.v (.string s)) w'
  | .call { callee := .value f, args, .. } => opt (v f) fun sf => optL v args.toList fun ss => match sf with
    | .v (.func f first caps) => match A.throws with
      | [] => DoesV P f first (ss.map SV.val).toArray caps w fun e w' => ResVc P o.type fun s => e = .returned s.val ∧ K s w'
      | 0 :: _ => DoesF P f first (ss.map SV.val).toArray caps w fun e w' => (ResVc P o.type fun s => e = .returned s.val ∧ K s w') ∨ ∃ ch, e = .panicked ch ∧ Qp ch w'
      | _ :: _ => match f with
        | .func g => callVc P A o.type g (first ++ (ss.map SV.val).toArray ++ caps) K Qp w
        | _ => False
    | _ => False
  | .panic x => opt (v x) fun sx => match sx with
    | .v (.iface t y) => Qp [{ v := .iface t y, recovered := false }] w
    | _ => False
  | _ => False
/-- A load, in every world of a class. -/
def quietVc (P : Program) (o : Oper) (v : Operand → Option SV) (C : World → Prop) (K : SV → Prop) : Prop :=
  match o.op with
  | .load T x => opt (v x) fun sx => match isAggT P T with
    | some false => opt (kindOf P T) fun k => addrVc sx fun b o => Ex k fun s => (∀ w, C w → w.cell? ⟨b, o, none⟩ = some s.val) ∧ K s
    | some true => opt (leaves P 20 T) fun ks => opt (sizeO P T) fun sz => match decide (ks.length = sz) with
      | true => addrVc sx fun b o => loadQ C b o ks fun vs => K (.v (.agg vs.toArray))
      | false => False
    | none => False
  | _ => False
/-- An order has been drawn. -/
structure Drew (w w' : World) : Prop where
  eq : w' = { w with drawn := w.drawn + 1 }
/-- Does the operation change the world? -/
def effB (P : Program) (o : Oper) : Bool :=
  match o.op with
  | .store .. | .alloc _ | .box .. | .buildSlice .. | .makeSlice .. => true
  | .binOp op T _ y _ => fltB P op T || nilB P op T y || eqB P op T y
  | .convert src dst _ => match P.underlying src, P.underlying dst with
    | some (.int _), some (.int _) => false
    | some .string, some .string => false
    | _, _ => true
  | .call { callee := .builtin b, .. } => match b with
    | .len | .cap | .min | .max => false
    | _ => true
  | .call _ => true
  | _ => false
def loadB (o : Oper) : Bool :=
  match o.op with
  | .load .. => true
  | _ => false
/-- What goes before what: a number a operation, its bits. -/
def maskOf (ops : Array Oper) : List Nat := (Region.before ops).toList
def befM (M : List Nat) (i e : Nat) : Bool := (M.getD e 0).testBit i
def edgesMask (M : List Nat) (l : List Edge) : Nat :=
  match l with
  | [] => 0
  | d :: r => if Region.binds .any d then (2 ^ d.on ||| M.getD d.on 0) ||| edgesMask M r else edgesMask M r
def okM (M : List Nat) : List Oper → Nat → Bool
  | [], _ => true
  | o :: r, k => (M.getD k 0 == edgesMask M o.after.toList) && okM M r (k + 1)
def allFrom (f : Oper → Nat → Bool) : List Oper → Nat → Bool
  | [], _ => true
  | o :: r, k => f o k && allFrom f r (k + 1)
def chainM (P : Program) (M : List Nat) (ops : List Oper) : Bool :=
  allFrom (fun o i => !effB P o || allFrom (fun o' j => !effB P o' || i == j || befM M i j || befM M j i) ops 0) ops 0
/-- A load ahead of whatever changes the world. -/
def earlyM (P : Program) (M : List Nat) (ops : List Oper) (i : Nat) : Bool := allFrom (fun o e => !effB P o || befM M i e) ops 0
/-- May a load come behind this operation? -/
def needM (P : Program) (M : List Nat) (ops : List Oper) (e : Nat) : Bool := !allFrom (fun o i => !loadB o || earlyM P M ops i || befM M i e) ops 0
def anyM (P : Program) (M : List Nat) (ops : List Oper) : Bool := !allFrom (fun o i => !loadB o || earlyM P M ops i) ops 0

/-- What the guard of an operation says, if it is known. -/
def guarded (ops : Array Oper) (o : Oper) (σ : Env) (go skip : Env → Prop) : Prop :=
  match o.guard with
  | none => go σ
  | some (j, want) => match (ops[j]?).bind (·.dst) with
    | none => False
    | some d => match get σ d with
      | some (.lb b) => match b, want with
        | true, true | false, false => go σ
        | _, _ => skip σ
      | some (.v (.bool b)) => match want with
        | true => Br b (go (put σ d (.lb true))) (skip (put σ d (.lb false)))
        | false => Br b (skip (put σ d (.lb true))) (go (put σ d (.lb false)))
      | some (.v (.tuple _)) => skip σ
      | _ => False
/-- A defer statement: the call that is put off. -/
def deferVc (v : Operand → Option SV) (c : Call) (K : Deferred → Prop) : Prop :=
  match c with
  | { callee := .value f, args, .. } => opt (v f) fun sf => optL v args.toList fun ss => match sf with
    | .v (.func fn first caps) => K { target := .fn fn caps, args := first ++ (ss.map SV.val).toArray }
    | _ => False
  | _ => False
def deferB (o : Oper) : Bool :=
  match o.op with
  | .defer _ => true
  | _ => false
def nodefOps : List Oper → Bool
  | [] => true
  | o :: r => !deferB o && nodefOps r
def vcOps (P : Program) (A : Ann) (ops : Array Oper) (Q : Exit → Env → List Deferred → World → Prop) : List Oper → Env → List Deferred → World → Prop
  | [], σ, ds, w => Q .normal σ ds w
  | o :: rest, σ, ds, w => guarded ops o σ
      (fun σ => match o.op with
        | .defer c => deferVc (ev σ) c fun d => vcOps P A ops Q rest (putO σ o.dst (.v undef)) (d :: ds) w
        | _ => match pureVc P A o (ev σ) (fun s => vcOps P A ops Q rest (putO σ o.dst s) ds w) with
          | some p => p
          | none => memVc P A o (ev σ) (fun s w' => vcOps P A ops Q rest (putO σ o.dst s) ds w') (fun ch w' => Q (.panic ch) σ ds w') w)
      (fun σ => vcOps P A ops Q rest (putO σ o.dst (.v undef)) ds w)
def vcP (P : Program) (A : Ann) (ops : Array Oper) (M : List Nat) (S : World → Prop) (w0 : World) (F : Env → World → Prop) : List Oper → Nat → Env → World → Prop
  | [], _, σ, w => F σ w
  | o :: rest, k, σ, w => guarded ops o σ
      (fun σ => match effB P o with
        | true => memVc P A o (ev σ) (fun s w' => match needM P M ops.toList k with
          | true => S w' ∧ vcP P A ops M S w0 F rest (k + 1) (putO σ o.dst s) w'
          | false => vcP P A ops M S w0 F rest (k + 1) (putO σ o.dst s) w') (fun _ _ => False) w
        | false => match loadB o with
          | true => match earlyM P M ops.toList k with
            | true => memVc P A o (ev σ) (fun s _ => vcP P A ops M S w0 F rest (k + 1) (putO σ o.dst s) w) (fun _ _ => False) w0
            | false => quietVc P o (ev σ) S (fun s => vcP P A ops M S w0 F rest (k + 1) (putO σ o.dst s) w)
          | false => match pureVc P A o (ev σ) (fun s => vcP P A ops M S w0 F rest (k + 1) (putO σ o.dst s) w) with
            | some p => p
            | none => False)
      (fun σ => vcP P A ops M S w0 F rest (k + 1) (putO σ o.dst (.v undef)) w)
/-- Is there an edge? -/
def edgeB (o : Oper) (i : Nat) : Bool := o.after.any fun d => Region.binds .any d && d.on == i
/-- Any two operations are joined by an edge, or touch none of one another's slots. -/
def apartT (ops : Array Oper) : Bool := allFrom (fun oi i => allFrom (fun oj j => i == j || edgeB oj i || edgeB oi j || oi.apart ops oj) ops.toList 0) ops.toList 0
/-- The first one that leaves the world alone. -/
def firstQ (P : Program) (ops : Array Oper) : List Nat → Option Nat
  | [] => none
  | k :: r => match (ops[k]?).map (effB P) with
    | some false => some k
    | _ => firstQ P ops r
def allT (f : Nat → Prop) : List Nat → Prop
  | [] => True
  | [k] => f k
  | k :: r => f k ∧ allT f r
/-- May a load come behind this operation, whatever the order? -/
def needT (M : List Nat) (ops : List Oper) (e : Nat) : Bool := !allFrom (fun o i => !loadB o || befM M i e) ops 0
def opT (P : Program) (A : Ann) (ops : Array Oper) (M : List Nat) (S : World → Prop) (Z : List PanicEntry → World → Prop) (k : Nat) (K : Env → World → Prop) (σ : Env) (w : World) : Prop :=
  match ops[k]? with
  | none => False
  | some o => guarded ops o σ
      (fun σ => match effB P o with
        | true => memVc P A o (ev σ) (fun s w' => match needT M ops.toList k with
          | true => S w' ∧ K (putO σ o.dst s) w'
          | false => K (putO σ o.dst s) w') Z w
        | false => match loadB o with
          | true => quietVc P o (ev σ) S (fun s => K (putO σ o.dst s) w)
          | false => match pureVc P A o (ev σ) (fun s => K (putO σ o.dst s) w) with
            | some p => p
            | none => False)
      (fun σ => K (putO σ o.dst (.v undef)) w)
def vcT (P : Program) (A : Ann) (ops : Array Oper) (M : List Nat) (S : World → Prop) (Z : List PanicEntry → World → Prop) (F : Env → World → Prop) : Nat → Array Bool → Env → World → Prop
  | 0, listed, σ, w => match Region.ready .any ops listed with
    | [] => F σ w
    | _ :: _ => False
  | n + 1, listed, σ, w => match Region.ready .any ops listed with
    | [] => F σ w
    | k0 :: r => match firstQ P ops (k0 :: r) with
      | some k => opT P A ops M S Z k (vcT P A ops M S Z F n (listed.setIfInBounds k true)) σ w
      | none => allT (fun k => opT P A ops M S Z k (vcT P A ops M S Z F n (listed.setIfInBounds k true)) σ w) (k0 :: r)
def writesOps : List Oper → List Tmp
  | [] => []
  | o :: r => match o.dst with
    | some d => d :: writesOps r
    | none => writesOps r
def writes : Code → List Tmp
  | .region _ ops _ => writesOps ops.toList
  | .seq a b => writes a ++ writes b
  | .cond _ a b => writes a ++ writes b
  | .block _ c => writes c
  | .loop c => writes c
  | .scope c => writes c
  | _ => []
/-- The number of the first region of a piece of code. -/
def firstId : Code → Nat
  | .region id _ _ => id
  | .seq a _ => firstId a
  | .block _ c => firstId c
  | .loop c => firstId c
  | .scope c => firstId c
  | _ => 1000000
def getL (σ : Env) : List (Tmp × Kd) → Option (List SV)
  | [] => some []
  | (t, _) :: r => match get σ t, getL σ r with
    | some s, some ss => some (s :: ss)
    | _, _ => none
def putL (σ : Env) : List (Tmp × Kd) → List SV → Env
  | (t, _) :: r, s :: ss => putL (put σ t s) r ss
  | _, _ => σ
def appE (sl : List (Tmp × Kd)) (I : InvT (sl.map (·.2))) (σ : Env) (n : Nat) (w : World) : Prop := opt (getL σ sl) fun ss => app (sl.map (·.2)) I ss n w
def putT (σ : Env) : Operand → SV → Env
  | .tmp t, s => put σ t s
  | _, _ => σ
/-- No defer statement, no range over a function: the deferred calls stay as they are. -/
def nodef : Code → Bool
  | .region _ ops _ => nodefOps ops.toList
  | .seq a b => nodef a && nodef b
  | .cond _ a b => nodef a && nodef b
  | .block _ c => nodef c
  | .loop c => nodef c
  | .scope c => nodef c
  | .rangeFunc _ _ _ _ => false
  | _ => true
def All1 : Kd → (SV → Prop) → Prop
  | .int k, F => ∀ n : Int, F (.v (.int k n))
  | .bool, F => ∀ b : Bool, F (.v (.bool b))
  | .str, F => ∀ s : ByteArray, F (.v (.string s))
  | .ptr, F => ∀ p : Option Addr, F (.v (.pointer p))
  | .slice, F => ∀ (p : Option Addr) (l c : Nat), F (.v (.slice p l c))
  | .flt k, F => ∀ n : Nat, F (.v (.float k n))
  | .fn, F => ∀ (g : Go.Fn) (fs caps : Array Value), F (.v (.func g fs caps))
  | .any, F => ∀ x : Value, F (.v x)
def AllK : List Kd → (List SV → Prop) → Prop
  | [], F => F []
  | k :: r, F => All1 k fun s => AllK r fun ss => F (s :: ss)
/-- The record of a range over a function, in a state. -/
structure LoopAt (w : World) (l : Nat) (rec : Loop) (st : LoopState) : Prop where
  heap : w.heap[l]? = some (.loop { rec with state := st, pending := none })
/-- A range over a function is entered: the block for the rounds' deferred calls, and the record. -/
structure Opened (w : World) (D l : Nat) (rec : Loop) (w' : World) : Prop where
  blk : D = w.heap.size
  rcd : l = w.heap.size + 1
  world : w' = (w.alloc (.deferred (some []))).alloc (.loop { rec with state := .ready, pending := none })
/-- The record has turned. -/
structure Turned (w : World) (l : Nat) (w' : World) : Prop where
  world : ∃ o, w' = w.putObj l o
def markOf (D : Nat) : Deferred := { target := .collected D, args := #[] }
def vc (P : Program) (A : Ann) : Code → (Exit → Env → List Deferred → World → Prop) → Env → List Deferred → World → Prop
  | .skip, Q, σ, ds, w => Q .normal σ ds w
  | .label _, Q, σ, ds, w => Q .normal σ ds w
  | .region _ ops false, Q, σ, ds, w => vcOps P A ops Q ops.toList σ ds w
  | .region _ ops true, Q, σ, ds, w => match Region.lexB .any ops, okM (maskOf ops) ops.toList 0, chainM P (maskOf ops) ops.toList, nodefOps ops.toList && A.throws.isEmpty with
    | true, true, true, true => ∀ wd, Drew w wd → match anyM P (maskOf ops) ops.toList with
      | true => ∃ S : World → Prop, S wd ∧ vcP P A ops (maskOf ops) S wd (fun σ w => Q .normal σ ds w) ops.toList 0 σ wd
      | false => vcP P A ops (maskOf ops) (fun _ => True) wd (fun σ w => Q .normal σ ds w) ops.toList 0 σ wd
    | _, _, _, _ => match Region.noSelect ops, apartT ops, nodefOps ops.toList && okM (maskOf ops) ops.toList 0 with
      | true, true, true => ∀ wd, Drew w wd → ∃ S : World → Prop, S wd ∧ vcT P A ops (maskOf ops) S (fun ch w => Q (.panic ch) (forgetAll σ (writesOps ops.toList)) ds w) (fun σ w => Q .normal σ ds w) ops.size (Array.replicate ops.size false) σ wd
      | _, _, _ => False
  | .seq x y, Q, σ, ds, w => match lookupN (firstId y) A.cuts with
    | none => vc P A x (fun e σ ds w => match e with
        | .normal => vc P A y Q σ ds w
        | e => Q e σ ds w) σ ds w
    | some sl => match nodef x with
      | true => ∃ I : InvT (sl.map (·.2)), vc P A x (fun e σ ds w => match e with
          | .normal => ∃ n, appE sl I σ n w
          | e => Q e σ ds w) σ ds w ∧ AllI (sl.map (·.2)) I fun ss J => ∀ n w, J n w → vc P A y Q (putL (forgetAll σ (writes x)) sl ss) ds w
      | false => False
  | .cond c x y, Q, σ, ds, w => opt (ev σ c) fun s => match s with
    | .lb true => vc P A x Q σ ds w
    | .lb false => vc P A y Q σ ds w
    | .v (.bool b) => Br b (vc P A x Q (putT σ c (.lb true)) ds w) (vc P A y Q (putT σ c (.lb false)) ds w)
    | _ => False
  | .block id c, Q, σ, ds, w => vc P A c (fun e σ ds w => match e with
      | .exit i => if i = id then Q .normal σ ds w else Q (.exit i) σ ds w
      | e => Q e σ ds w) σ ds w
  | .loop c, Q, σ, ds, w => opt (lookupN (firstId c) A.loops) fun sl => match nodef c with
    | true => ∃ I : InvT (sl.map (·.2)), (∃ n, appE sl I σ n w) ∧
      AllI (sl.map (·.2)) I fun ss J => ∀ n w, J n w → vc P A c (fun e σ ds w => match e with
        | .normal => ∃ m, m < n ∧ appE sl I σ m w
        | e => Q e σ ds w) (putL (forgetAll σ (writes c)) sl ss) ds w
    | false => ∃ I : List Deferred → InvT (sl.map (·.2)), (∃ n, appE sl (I []) σ n w) ∧ ∀ es : List Deferred,
      AllI (sl.map (·.2)) (I es) fun ss J => ∀ n w, J n w → vc P A c (fun e σ ds' w => match e with
        | .normal => ∃ m, m < n ∧ ∃ es', ds' = es' ++ ds ∧ appE sl (I es') σ m w
        | e => Q e σ ds' w) (putL (forgetAll σ (writes c)) sl ss) (es ++ ds) w
  | .scope c, Q, σ, ds, w => vc P A c (fun e σ ds w => match e with
      | .goto _ => False
      | e => Q e σ ds w) σ ds w
  | .exit id, Q, σ, ds, w => Q (.exit id) σ ds w
  | .ret, Q, σ, ds, w => Q .ret σ ds w
  | .rangeFunc g ps as body, Q, σ, ds, w => opt (ev σ g) fun sg => opt (lookupN (firstId body) A.ranges) fun sl => match sg, nodef as && nodef body, decide (sl.map (·.1) = ps.toList) with
    | .v (.func f fs caps), true, true => ∀ (D l : Nat) (rec : Loop) (w1 : World), Opened w D l rec w1 →
      (AllK (sl.map (·.2)) fun ss => ∀ (w' : World) (R : Ending → World → Prop), LoopAt w' l rec .ready →
        vc P A as (fun e σ _ wa => match e with
          | .normal => LoopAt wa l rec .ready ∧ ∀ wb, Turned wa l wb → LoopAt wb l rec .busy → vc P A body (fun e _ _ wc => match e with
            | .normal => LoopAt wc l rec .busy ∧ ∀ wd, Turned wc l wd → LoopAt wd l rec .ready → R (.returned (.bool true)) wd
            | _ => False) σ [] wb
          | _ => False) (putL σ sl ss) [] w' → YieldsV P l (ss.map SV.val).toArray w' R) →
      DoesG P f fs #[.func (.yield l) #[] #[]] caps w1 fun e w2 => ∃ v, e = .returned v ∧ LoopAt w2 l rec .ready ∧ ∀ w3, Turned w2 l w3 → Q .normal σ (markOf D :: ds) w3
    | _, _, _ => False
  | _, _, _, _, _ => False

/-- What the results' slots hold. -/
def resVals (P : Program) (w : World) (σ : Env) : List ResultVar → (List SV → Prop) → Prop
  | [], F => F []
  | .tmp t :: r, F => opt (get σ t) fun s => resVals P w σ r fun ss => F (s :: ss)
  | .cell t T :: r, F => opt (get σ t) fun sp => match sp, isAggT P T with
    | .pt b o, some false => opt (kindOf P T) fun k => Ex k fun s => w.cell? ⟨b, o, none⟩ = some s.val ∧ resVals P w σ r fun ss => F (s :: ss)
    | .pt b o, some true => opt (leaves P 20 T) fun ks => opt (sizeO P T) fun sz => match decide (ks.length = sz) with
      | true => loadL w b o ks fun vs => resVals P w σ r fun ss => F (.v (.agg vs.toArray) :: ss)
      | false => False
    | _, _ => False
def tupOf : List SV → Value
  | [s] => s.val
  | ss => .tuple (ss.map SV.val).toArray
/-- A deferred call of a function. -/
def DoesD (P : Program) (f : FuncId) (args : Array Value) (u : FrameMode) (w : World) (R : Ending → FrameMode → World → Prop) : Prop := callableB P f = true ∧ CallsDIn Fence.wide 0 P f args u w R
/-- A frame leaves: its deferred calls, one after another. -/
def LeavesV (K : World → Prop) (Kp : List PanicEntry → World → Prop) (P : Program) : List Deferred → FrameMode → World → Prop
  | [], .returning, w => K w
  | [], .panicking ch, w => Kp ch w
  | [], .run, _ => False
  | d :: ds, u, w => u ≠ .run ∧ match d.target with
    | .collected D => w.heap[D]? = some (.deferred (some [])) ∧ ∀ w', Turned w D w' → LeavesV K Kp P ds u w'
    | .fn (.func f) caps => DoesD P f (d.args ++ caps) u w fun e u' w' => match e with
      | .returned _ => LeavesV K Kp P ds (settle u') w'
      | .panicked ch => LeavesV K Kp P ds (raised u' ch) w'
      | .outgrown => False
    | _ => False
def retQ (P : Program) (fn : Func) (R : Ending → World → Prop) : Exit → Env → List Deferred → World → Prop
  | .normal, σ, ds, w | .ret, σ, ds, w => LeavesV (fun w => resVals P w σ fn.results.toList fun ss => R (.returned (tupOf ss)) w) (fun ch w => R (.panicked ch) w) P ds .returning w
  | .panic ch, σ, ds, w => LeavesV (fun w => resVals P w σ fn.results.toList fun ss => R (.returned (tupOf ss)) w) (fun ch w => R (.panicked ch) w) P ds (.panicking ch) w
  | _, _, _, _ => False
def envOf (n : Nat) (ss : List SV) : Env := ss.map some ++ List.replicate (n - ss.length) none
end Go.Vc
