/- The intermediate form of operations, what each yields on symbolic values, and that the model's operation does so. -/
import Derived.Test.YtcmhpndhloplpaaPalA
import Derived.RangeFuncNested
import Derived.WalkLawsBesides
namespace Go.Pal
open Go.RowKit

inductive Opd where
  | t (i : Nat)
  | k (v : Value)
  | f (id : FuncId)

def Opd.ev (fr : Nat → SV) : Opd → SV
  | .t i => fr i
  | .k v => .v v
  | .f id => .v (.func (.func id) #[] #[])

def compOpd : Operand → Option Opd
  | .tmp t => some (.t t)
  | .const v => some (.k v)
  | .func f => some (.f f)
  | .global _ => none

/-- Operations that only compute, each as the model has it. -/
inductive POp where
  | bin (op : BinOp) (t : TypeId)
  | un (op : UnOp)
  | conv (src dst : TypeId)
  | idx (t : TypeId)
  | slcS (t : TypeId) (lo hi : Bool)
  | mki (t : TypeId)
  | tas (t asserted : TypeId) (ok : Bool)
def POp.sem : POp → List Value → Sem Value
  | .bin op t, [x, y] => do eqGuard op t (.tmp 0) (.tmp 0) x y; binOp op t x y
  | .un op, [x] => Op.unary op x
  | .conv s d, [x] => convert s d x
  | .idx t, [x, i] => Instr.index t x i
  | .slcS t false false, [x] => Instr.sliceAt t x none none none
  | .slcS t true false, [x, l] => Instr.sliceAt t x (some l) none none
  | .slcS t false true, [x, h] => Instr.sliceAt t x none (some h) none
  | .slcS t true true, [x, l, h] => Instr.sliceAt t x (some l) (some h) none
  | .mki t, [x] => Instr.makeInterface t x
  | .tas t a ok, [x] => Instr.typeAssert x t a ok
  | _, _ => stuck ""

inductive IOp where
  | mv (x : Opd)
  | pick (c a b : Opd)
  | bin (op : BinOp) (x y : Opd)
  | un (op : UnOp) (x : Opd)
  | conv (k : IntKind) (x : Opd)
  | box (t : TypeId) (x : Opd)
  | alloc (t : TypeId) (zs : List Value)
  | load (n : Nat) (agg : Bool) (x : Opd)
  | store (n : Nat) (x v : Opd)
  | faddr (off : Nat) (x : Opd)
  | iaddr (k : Nat) (x i : Opd)
  | fld (off n : Nat) (agg : Bool) (x : Opd)
  | bld (places : List (Nat × Nat)) (zs : List Value) (parts : List (Nat × Opd))
  | bsl (t : TypeId) (k len : Nat) (zs : List Value) (parts : List (Nat × Opd))
  | len (x : Opd)
  | lenS (x : Opd)
  | app (t : TypeId) (k bytes : Nat) (s x : Opd)
  | nilc (x : Opd)
  | ext (x : Opd) (i : Nat)
  | call (f : FuncId) (args : List Opd)
  | callv (x : Opd) (args : List Opd)
  | mm (mx : Bool) (x y : Opd)
  | slc (k : Nat) (x : Opd) (lo hi top : Option Opd)
  | mks (t : TypeId) (k bytes : Nat) (zs : List Value) (n : Opd)
  | aaddr (k len : Nat) (x i : Opd)
  | mkf (f : FuncId) (first caps : List Opd)
  | mkm
  | lkp (kt : TypeId) (z : Value) (ok : Bool) (x key : Opd)
  | mup (kt : TypeId) (m key v : Opd)
  | pur (p : POp) (xs : List Opd)
  | bslp (t : TypeId) (k len : Nat) (zs : List Value) (parts : List (Nat × Opd))

/-- A number fits its kind. -/
def inR : IntKind → Int → Prop
  | .i64, n => -9223372036854775808 ≤ n ∧ n ≤ 9223372036854775807
  | .i32, n => -2147483648 ≤ n ∧ n ≤ 2147483647
  | .i16, n => -32768 ≤ n ∧ n ≤ 32767
  | .i8, n => -128 ≤ n ∧ n ≤ 127
  | .u64, n => 0 ≤ n ∧ n ≤ 18446744073709551615
  | .u32, n => 0 ≤ n ∧ n ≤ 4294967295
  | .u16, n => 0 ≤ n ∧ n ≤ 65535
  | .u8, n => 0 ≤ n ∧ n ≤ 255

theorem wrap_inR {k : IntKind} {n : Int} (h : inR k n) : k.wrap n = n := by
  cases k <;> simp only [inR] at h <;> simp only [IntKind.wrap, IntKind.bits, IntKind.signed] <;> simp <;> omega

/-! ### Contracts -/

/-- What a block that is lent holds. -/
inductive LB where
  | cells (vs : List Value) (t : TypeId)
  | map (es : Array MapEntry) (clock : Nat)
def LB.obj : LB → Obj
  | .cells vs t => .cells vs.toArray t (0, 0)
  | .map es c => .map es c
def LB.one : LB → Prop
  | .cells vs _ => ∀ v ∈ vs, v.oneCell' = true
  | .map _ _ => True
def LB.alike : LB → LB → Prop
  | .cells _ _, .cells _ _ => True
  | .map _ _, .map _ _ => True
  | _, _ => False
/-- A block that is lent: its number, whether it may be changed, what it holds. -/
structure LE where
  b : Nat
  w : Bool
  lb : LB
/-- What those that may be changed hold now. -/
def LentTo (W : World) : List LE → List LB → Prop
  | [], ns => ns = []
  | le :: r, ns => match le.w with
    | true => match ns with
      | n :: ns' => W.heap[le.b]? = some n.obj ∧ n.one ∧ le.lb.alike n ∧ LentTo W r ns'
      | [] => False
    | false => LentTo W r ns
def lentW (ls : List LE) (b : Nat) : Prop := ∃ x ∈ ls, x.w = true ∧ x.b = b

/-! ### Two parties: who runs now may change what it holds, and make more -/

structure EnvStep (Hd : Nat → Prop) (G : Hp) (W : World) (Hd' : Nat → Prop) (G' : Hp) (W' : World) : Prop where
  beneath : Beneath ⟨W, Hd, []⟩ W'
  grow : Grow G G'
  sub : Sub G' W'
  newG : ∀ b o, G' b = some o → G b = some o ∨ Hd b ∨ W.heap.size ≤ b
  hd : ∀ b, Hd' b → (Hd b ∨ W.heap.size ≤ b) ∧ G' b = none ∧ b < W'.heap.size
abbrev JT := Nat → (Nat → Prop) → Hp → World → Prop
/-- What a party knows while the other one, which holds Hd, runs. -/
def Stable (J : JT) : Prop := ∀ k Hd G W Hd' G' W', J k Hd G W → EnvStep Hd G W Hd' G' W' → J k Hd' G' W'
/-- The rounds of the loop l, at the values Y one after the other. -/
def YieldOk (P : Program) (l : Nat) (Y : List (List Value)) (J Jx : JT) : Prop :=
  ∀ k args Hd G W, Y[k]? = some args → J k Hd G W → Sub G W → (∀ b, Hd b → G b = none ∧ b < W.heap.size) →
    ∃ fn tmps assign body, (Instr.yield l args.toArray).run P W = .ok (.round l fn tmps assign body) W ∧ RoundIn Fence.wide 0 P l fn tmps assign body W fun e W' =>
      ∃ st G', e = .returned (.bool (!st)) ∧ Grow G G' ∧ Sub G' W' ∧ (∀ b, Hd b → W'.heap[b]? = W.heap[b]? ∧ G' b = none) ∧ W.heap.size ≤ W'.heap.size ∧ (cond st Jx J) (k + 1) Hd G' W'
structure Env where
  l : Nat
  Y : List (List Value)
  J : JT
  Jx : JT
structure Env.Ok (P : Program) (e : Env) : Prop where
  st : Stable e.J
  stx : Stable e.Jx
  y : YieldOk P e.l e.Y e.J e.Jx

inductive PSpec where
  | fn (pre : List Value → Hp → Prop) (val : List Value → Value)
  | sca (pre : List Value → Hp → Prop) (post : List Value → Hp → Value → Prop)
  | rel (pre : List Value → Hp → Prop) (post : List Value → Value → Hp → Prop)
  | own (t : TypeId) (k : Nat) (pre : List Value → Hp → Prop) (post : List Value → Nat → List Value → Hp → Prop)
  | st (pre : List Value → List LE → Hp → Prop) (post : List Value → List LE → Value → List LB → Hp → Prop)
  | seq (pre : Nat → List Value → Hp → List (List Value) → Prop) (post : Bool → Value → Prop)

def Sound (P : Program) (f : FuncId) (sh : List Value → List Value) : PSpec → Prop
  | .fn pre val => ∀ args G W, Sub G W → pre args G → Calls P f (sh args).toArray W fun e W' => e = .returned (val args) ∧ Below W.heap.size W W'
  | .sca pre post => ∀ args G W, Sub G W → pre args G → Calls P f (sh args).toArray W fun e W' => ∃ v, e = .returned v ∧ post args G v ∧ Below W.heap.size W W'
  | .rel pre post => (∀ args v G G', Grow G G' → post args v G → post args v G') ∧ ∀ args G W, Sub G W → pre args G → Calls P f (sh args).toArray W fun e W' =>
      ∃ v G', e = .returned v ∧ post args v G' ∧ Grow G G' ∧ Sub G' W' ∧ (∀ b o, G' b = some o → G b = some o ∨ W.heap.size ≤ b) ∧ Below W.heap.size W W'
  | .own t k pre post => (∀ args n vs G G', Grow G G' → post args n vs G → post args n vs G') ∧ ∀ args G W, Sub G W → pre args G → Calls P f (sh args).toArray W fun e W' =>
      ∃ v n vs G', e = .returned v ∧ post args n vs G' ∧ (∃ a c, v = .slice a n c) ∧ W'.ownsRow W.heap.size t k v n vs ∧ (∀ u ∈ vs, u.oneCell' = true) ∧ (∀ b, blkOf v = some b → G' b = none) ∧
        Grow G G' ∧ Sub G' W' ∧ (∀ b o, G' b = some o → G b = some o ∨ W.heap.size ≤ b) ∧ Below W.heap.size W W'

  | .st pre post => (∀ args ls v ns G G', Grow G G' → post args ls v ns G → post args ls v ns G') ∧ ∀ args ls G W, Sub G W → (∀ x ∈ ls, W.heap[x.b]? = some x.lb.obj ∧ G x.b = none ∧ x.lb.one) → (ls.map (·.b)).Nodup → pre args ls G → Calls P f (sh args).toArray W fun e W' =>
      ∃ v ns G', e = .returned v ∧ post args ls v ns G' ∧ LentTo W' ls ns ∧ Grow G G' ∧ Sub G' W' ∧ (∀ b o, G' b = some o → G b = some o ∨ W.heap.size ≤ b) ∧ Beneath ⟨W, lentW ls, []⟩ W'

  | .seq pre post => ∀ (e : Env), e.Ok P → ∀ args G W Ys k, Sub G W → pre e.l args G Ys → (e.Y.drop k).take Ys.length = Ys → e.J k (fun _ => False) G W → Calls P f (sh args).toArray W fun en W' =>
      ∃ v st j G', en = .returned v ∧ post st v ∧ Grow G G' ∧ Sub G' W' ∧ (st = false → j = k + Ys.length) ∧ (cond st e.Jx e.J) j (fun _ => False) G' W'

/-- A published row. -/
structure PubRow (G : Hp) (a : Option Addr) (n c : Nat) (vs : List Value) : Prop where
  cap : n ≤ c
  some : n ≠ 0 → a = some ⟨ab a, ao a, none⟩
  cells : CellsAt G (ab a) (ao a) vs

def rowS (n : Nat) (vs : List Value) : PSpec := .rel (fun _ _ => True) (fun _ v G => ∃ a c, v = .slice a n c ∧ PubRow G a n c vs)
theorem PubRow.grow {G G' : Hp} {a : Option Addr} {n c : Nat} {vs : List Value} (hg : Grow G G') (h : PubRow G a n c vs) : PubRow G' a n c vs := ⟨h.cap, h.some, h.cells.grow hg⟩

/-- The function has a body of its own. -/
def HasBody (P : Program) (f : FuncId) : Prop := ∃ fn, P.funcs[f]? = some fn ∧ fn.body.isNone = false ∧ (fn.name == "runtime.NumGoroutine") = false

/-- A value is a function that keeps a contract. -/
def SoundFn (P : Program) (v : Value) (s : PSpec) : Prop :=
  ∃ g first cap, v = .func (.func g) first cap ∧ HasBody P g ∧ Sound P g (fun args => first.toList ++ args ++ cap.toList) s

/-- The contracts of the functions that are called. -/
structure Tab (P : Program) where
  get : FuncId → Option PSpec
  ok : ∀ f s, get f = some s → Sound P f id s ∧ HasBody P f

def Tab.nil (P : Program) : Tab P := ⟨fun _ => none, fun _ _ h => by cases h⟩
def Tab.cons {P : Program} (f : FuncId) (s : PSpec) (h : Sound P f id s) (hb : HasBody P f) (T : Tab P) : Tab P :=
  ⟨fun g => cond (Nat.beq g f) (some s) (T.get g), fun g s' e => by
    cases hg : Nat.beq g f with
    | true => rw [hg] at e; cases e; exact (Nat.eq_of_beq_eq_true hg) ▸ ⟨h, hb⟩
    | false => rw [hg] at e; exact T.ok g s' e⟩

/-! ### What an operation yields -/

inductive Res where
  | ok (sv : SV)
  | obl (φ : Prop) (r : Res)
  | ite (φ : Prop) (r s : Res)
  | rdk (b off n : Nat) (cont : List Value → Res)
  | eqk (l : List Value) (n : Nat) (cont : List Value → Res)
  | eqs (l : List S1) (n : Nat) (cont : List S1 → Res)
  | keyk (kt : TypeId) (kv : Value) (es : Array MapEntry) (cont : Option Nat → Res)
  | pur (s : Sem Value) (cont : Value → Res)
  | new (ob : OB) (sv : SV)
  | set (h : Nat) (ob : OB) (sv : SV)
  | app (hs : Option Nat) (n : Nat) (vs : List Value) (t : TypeId) (k : Nat)
  | call (s : PSpec) (args : List Value)
  | callv (H : Nat → Option OB) (v : Value) (args : List Value)
  | bad

/-- The value of a symbolic one without handles. -/
def S1.toVal : S1 → Option Value
  | .val v => some v
  | .sb b => some (.bool b)
  | _ => none
def toVals : List S1 → Option (List Value)
  | [] => some []
  | c :: cs => match c.toVal with
    | some v => (match toVals cs with
      | some vs => some (v :: vs)
      | none => none)
    | none => none
/-- Own blocks whose handle is known have a value. -/
def S1.toValH (H : Nat → Option OB) : S1 → Option Value
  | .val v => some v
  | .sb b => some (.bool b)
  | .row h _ => match H h with
    | some (.row (some v) _ _ _ _) => some v
    | _ => none
  | .ptr h off => match H h with
    | some (.cells (.pub b) _ _) => some (.pointer (some ⟨b, off, none⟩))
    | some (.cells (.named b) _ _) => some (.pointer (some ⟨b, off, none⟩))
    | _ => none
  | .mref h => match H h with
    | some (.map (.named b) _ _) => some (.map (some b))
    | some (.map (.pub b) _ _) => some (.map (some b))
    | _ => none
  | _ => none
def toValsH (H : Nat → Option OB) : List S1 → Option (List Value)
  | [] => some []
  | c :: cs => match c.toValH H with
    | some v => (match toValsH H cs with
      | some vs => some (v :: vs)
      | none => none)
    | none => none
def SV.toVal (H : Nat → Option OB) : SV → Option Value
  | .c x => x.toValH H
  | .agg cs => match toValsH H cs with
    | some vs => some (.agg vs.toArray)
    | none => none
def toVals2 (H : Nat → Option OB) : List SV → Option (List Value)
  | [] => some []
  | c :: cs => match c.toVal H with
    | some v => (match toVals2 H cs with
      | some vs => some (v :: vs)
      | none => none)
    | none => none

/-- The cells of a symbolic value. -/
def SV.cells : SV → List S1
  | .agg cs => cs
  | .c (.val (.agg cs)) => cs.toList.map .val
  | .c x => [x]

def SV.aggCells : SV → Option (List S1)
  | .agg cs => some cs
  | .c (.val (.agg cs)) => some (cs.toList.map .val)
  | _ => none

def S1.one : S1 → Bool
  | .val v => v.oneCell'
  | .any => false
  | .pos _ _ => false
  | _ => true
def allOne : List S1 → Bool
  | [] => true
  | c :: cs => cond c.one (allOne cs) false

def S1.of : Value → S1
  | .bool b => .sb b
  | v => .val v
def SV.of (v : Value) : SV := .c (S1.of v)
def SV.mk (agg : Bool) (cs : List S1) : SV := match agg with
  | true => .agg cs
  | false => match cs with
    | [x] => .c x
    | _ => .c .any

abbrev tt : SV := .v (.bool true)
abbrev ff : SV := .v (.bool false)

def binR (op : BinOp) : S1 → S1 → Res
  | .val (.int k a), .val (.int k' b) => cond (decide (k = k')) (match op with
    | .add => .obl (inR k (a + b)) (.ok (.v (.int k (a + b))))
    | .sub => .obl (inR k (a - b)) (.ok (.v (.int k (a - b))))
    | .mul => .obl (inR k (a * b)) (.ok (.v (.int k (a * b))))
    | .quo => .obl (0 < b ∧ 0 ≤ a ∧ inR k a) (.ok (.v (.int k (a / b))))
    | .rem => .obl (0 < b ∧ 0 ≤ a) (.ok (.v (.int k (a % b))))
    | .eql => .ite (a = b) (.ok tt) (.ok ff)
    | .neq => .ite (a = b) (.ok ff) (.ok tt)
    | .lss => .ite (a < b) (.ok tt) (.ok ff)
    | .leq => .ite (a ≤ b) (.ok tt) (.ok ff)
    | .gtr => .ite (b < a) (.ok tt) (.ok ff)
    | .geq => .ite (b ≤ a) (.ok tt) (.ok ff)
    | _ => .bad) .bad
  | _, _ => .bad

/-- The parts of a struct, laid over its zero cells. -/
def lay (places : List (Nat × Nat)) : List S1 → List (Nat × SV) → Option (List S1)
  | zs, [] => some zs
  | zs, (i, v) :: rest => match places[i]? with
    | some (off, size) => cond (Nat.beq v.cells.length size && Nat.ble (off + size) zs.length && allOne v.cells) (lay places (zs.take off ++ v.cells ++ zs.drop (off + size)) rest) none
    | none => none

def evParts (fr : Nat → SV) : List (Nat × Opd) → List (Nat × SV)
  | [] => []
  | (i, x) :: r => (i, x.ev fr) :: evParts fr r
def evArgs (fr : Nat → SV) : List Opd → List SV
  | [] => []
  | x :: r => x.ev fr :: evArgs fr r

/-- What stands behind a slice, as cells: an own row, or nil, or what is published. -/
def srcR (H : Nat → Option OB) (k : Nat) (x : SV) (cont : Nat → List Value → Res) : Res :=
  match x with
  | .c (.row h m) => match H h with
    | some (.row _ m' vs _ k') => cond (Nat.beq k' k) (.obl (m' = m) (cont m vs)) .bad
    | _ => .bad
  | .c (.val (.slice a m _)) => .obl (m ≠ 0 → a = some ⟨ab a, ao a, none⟩) (.rdk (ab a) (ao a) (m * k) fun us => .obl (∀ u ∈ us, u.oneCell' = true) (cont m us))
  | _ => .bad

def mapAt (es : Array MapEntry) (r : Option Nat) : Option (Nat × Value) := match r with
  | some i => some (i, ((es[i]?).map (·.val)).getD undef)
  | none => none
/-- Where the key stands among the entries. -/
structure KeyFind (P : Program) (kt : TypeId) (kv : Value) (es : Array MapEntry) (r : Option Nat) : Prop where
  ck : ∀ W e, (Instr.checkKey e 10000 kt kv).run P W = .ok () W
  find : ∀ W, (Instr.findKey kt kv es.toList).run P W = .ok (mapAt es r) W
  same : ∀ i, r = some i → Instr.sameBits 10000 (((es[i]?).map (·.key)).getD kv) kv = true
def lookV (z : Value) (ok : Bool) (es : Array MapEntry) (r : Option Nat) : Value := match mapAt es r with
  | some (_, v) => match ok with
    | true => .tuple #[v, .bool true]
    | false => v
  | none => match ok with
    | true => .tuple #[z, .bool false]
    | false => z
def putE (es : Array MapEntry) (clock : Nat) (kv vv : Value) (r : Option Nat) : Array MapEntry × Nat := match r with
  | some i => (es.modify i fun e => { e with key := kv, val := vv }, clock)
  | none => (es.push { key := kv, val := vv, born := clock }, clock + 1)
/-- A bound of a slice expression. -/
def bndR (fr : Nat → SV) (x : Option Opd) (d : Nat) (cont : Int → Res) : Res := match x with
  | none => cont d
  | some y => match y.ev fr with
    | .c (.val (.int _ i)) => cont i
    | _ => .bad
/-- A slice's start, cut. -/
def cutA (a : Option Addr) (l m k : Nat) : Option Addr := if m = l then a else a.map (·.add (l * k))

def ev (tab : FuncId → Option PSpec) (fr : Nat → SV) (H : Nat → Option OB) (hid : Nat) : IOp → Res
  | .mv x => .ok (x.ev fr)
  | .pick c a b => match c.ev fr with
    | .c (.val (.bool true)) => .ok (a.ev fr)
    | .c (.val (.bool false)) => .ok (b.ev fr)
    | _ => .bad
  | .bin op x y => match x.ev fr, y.ev fr with
    | .c a, .c b => binR op a b
    | _, _ => .bad
  | .un op x => match op, x.ev fr with
    | .not, .c (.sb b) => .ok (.c (.sb (!b)))
    | .not, .c (.val (.bool true)) => .ok ff
    | .not, .c (.val (.bool false)) => .ok tt
    | .neg, .c (.val (.int k n)) => .obl (inR k (-n)) (.ok (.v (.int k (-n))))
    | _, _ => .bad
  | .conv k x => match x.ev fr with
    | .c (.val (.int _ n)) => .obl (inR k n) (.ok (.v (.int k n)))
    | _ => .bad
  | .box t x => let cs := (x.ev fr).cells; cond (allOne cs) (.new (.cells .anon cs t) (.c (.ptr hid 0))) .bad
  | .alloc t zs => .new (.cells .anon (zs.map .val) t) (.c (.ptr hid 0))
  | .load n agg x => match x.ev fr with
    | .c (.ptr h off) => match H h with
      | some (.cells _ cs _) => let l := (cs.drop off).take n; cond (Nat.beq l.length n) (.ok (SV.mk agg l)) .bad
      | _ => .bad
    | .c (.rptr h off) => match H h with
      | some (.row _ _ vs _ _) => .eqk ((vs.drop off).take n) n fun cs => .ok (SV.mk agg (cs.map S1.of))
      | _ => .bad
    | .c (.ptrx h off) => match H h with
      | some (.cells _ cs _) => .eqs ((cs.drop off).take n) n fun ss => .ok (SV.mk agg ss)
      | _ => .bad
    | .c (.val (.pointer (some ⟨b, off, none⟩))) => .rdk b off n fun cs => .ok (SV.mk agg (cs.map S1.of))
    | _ => .bad
  | .store n x v => match x.ev fr with
    | .c (.ptr h off) => match H h with
      | some (.cells s cs t) => let ws := (v.ev fr).cells
        cond (s.own && allOne ws && Nat.beq ws.length n && Nat.ble (off + n) cs.length) (.set h (.cells s (cs.take off ++ ws ++ cs.drop (off + n)) t) (.c .any)) .bad
      | _ => .bad
    | .c (.ptrx h off) => match H h with
      | some (.cells s cs t) => let ws := (v.ev fr).cells
        cond (s.own && allOne ws && Nat.beq ws.length n) (.obl (off + n ≤ cs.length) (.set h (.cells s (cs.take off ++ ws ++ cs.drop (off + n)) t) (.c .any))) .bad
      | _ => .bad
    | .c (.rptr h off) => match H h with
      | some (.row none m vs t k) => let ws := (v.ev fr).cells
        match toVals ws with
        | some us => cond (allOne ws && Nat.beq us.length n) (.obl (off + n ≤ vs.length) (.set h (.row none m (vs.take off ++ us ++ vs.drop (off + n)) t k) (.c .any))) .bad
        | none => .bad
      | _ => .bad
    | _ => .bad
  | .faddr off x => match x.ev fr with
    | .c (.ptr h o) => .ok (.c (.ptr h (o + off)))
    | .c (.rptr h o) => .ok (.c (.rptr h (o + off)))
    | .c (.ptrx h o) => .ok (.c (.ptrx h (o + off)))
    | .c (.val (.pointer (some ⟨b, o, none⟩))) => .ok (.v (.pointer (some ⟨b, o + off, none⟩)))
    | _ => .bad
  | .iaddr k x i => match i.ev fr with
    | .c (.val (.int _ j)) => match x.ev fr with
      | .c (.val (.slice a n _)) => .obl (0 ≤ j ∧ j < (n : Int)) (.obl (a = some ⟨ab a, ao a, none⟩) (.ok (.v (.pointer (some ⟨ab a, ao a + j.toNat * k, none⟩)))))
      | .c (.row h n) => match H h with
        | some (.row _ m _ _ k') => cond (Nat.beq k' k) (.obl (0 ≤ j ∧ j < (n : Int)) (.obl (n = m) (.ok (.c (.rptr h (j.toNat * k)))))) .bad
        | _ => .bad
      | _ => .bad
    | _ => .bad
  | .fld off n agg x => match (x.ev fr).aggCells with
    | some cs => let l := (cs.drop off).take n; cond (Nat.beq l.length n) (.ok (SV.mk agg l)) .bad
    | none => .bad
  | .bld places zs parts => match lay places (zs.map .val) (evParts fr parts) with
    | some cs => .ok (.agg cs)
    | none => .bad
  | .bsl t k len zs parts => match lay ((List.range len).map fun i => (i * k, k)) (zs.map .val) (evParts fr parts) with
    | some cs => match toVals cs with
      | some vs => cond (allOne cs) (.new (.row none len vs t k) (.c (.row hid len))) .bad
      | none => .bad
    | none => .bad
  | .bslp t k len zs parts => match lay ((List.range len).map fun i => (i * k, k)) (zs.map .val) (evParts fr parts) with
    | some cs => match toVals cs with
      | some vs => cond (allOne cs) (.call (rowS len vs) []) .bad
      | none => .bad
    | none => .bad
  | .len x => match x.ev fr with
    | .c (.val (.slice _ n _)) => .ok (.v (.int .i64 n))
    | .c (.row _ n) => .ok (.v (.int .i64 n))
    | _ => .bad
  | .lenS x => match x.ev fr with
    | .c (.val (.string s)) => .ok (.v (.int .i64 s.size))
    | _ => .bad
  | .app t k bytes s x => match s.ev fr with
    | .c (.row h n) => match H h with
      | some (.row none n' vs t' k') => cond (Nat.beq k' k && Nat.beq t' t) (srcR H k (x.ev fr) fun m us => .obl (n' = n) (.obl ((n + m) * bytes ≤ 140737488355328) (.app (some h) (n + m) (vs ++ us) t k))) .bad
      | _ => .bad
    | .c (.val (.slice none 0 0)) => srcR H k (x.ev fr) fun m us => .obl (m * bytes ≤ 140737488355328) (.app none m us t k)
    | _ => .bad
  | .nilc x => match x.ev fr with
    | .c (.ptr h off) => .ok (.c (.ptr h off))
    | .c (.rptr h off) => .ok (.c (.rptr h off))
    | .c (.ptrx h off) => .ok (.c (.ptrx h off))
    | .c (.val (.pointer (some a))) => .ok (.v (.pointer (some a)))
    | _ => .bad
  | .ext x i => match x.ev fr with
    | .c (.val (.tuple vs)) => match vs.toList[i]? with
      | some v => .ok (SV.of v)
      | none => .bad
    | _ => .bad
  | .call f args => match toVals2 H (evArgs fr args) with
    | some vs => match tab f with
      | some s => .call s vs
      | none => .bad
    | none => .bad
  | .callv x args => match toVals2 H (evArgs fr args) with
    | some vs => match x.ev fr with
      | .c (.val v) => .callv H v vs
      | _ => .bad
    | none => .bad
  | .mm mx x y => match x.ev fr, y.ev fr with
    | .c (.val (.int k a)), .c (.val (.int _ b)) => match mx with
      | true => .ok (.v (.int k (max a b)))
      | false => .ok (.v (.int k (min a b)))
    | _, _ => .bad
  | .slc k x lo hi top => match (x.ev fr).toVal H with
    | some (.slice a n c) => bndR fr lo 0 fun l => bndR fr hi n fun h => bndR fr top c fun m =>
      .obl (0 ≤ l ∧ l ≤ h ∧ h ≤ m ∧ m ≤ (c : Int)) (.ok (.v (.slice (cutA a l.toNat m.toNat k) (h.toNat - l.toNat) (m.toNat - l.toNat))))
    | _ => .bad
  | .mks t k bytes zs n => match n.ev fr with
    | .c (.val (.int _ m)) => .obl (0 ≤ m ∧ (bytes : Int) * m ≤ 140737488355328) (.new (.row none m.toNat (List.replicate m.toNat zs).flatten t k) (.c (.row hid m.toNat)))
    | _ => .bad
  | .aaddr k len x i => match i.ev fr with
    | .c (.val (.int _ j)) => match x.ev fr with
      | .c (.ptr h o) => .obl (0 ≤ j ∧ j < (len : Int)) (.ok (.c (.ptrx h (o + j.toNat * k))))
      | .c (.ptrx h o) => .obl (0 ≤ j ∧ j < (len : Int)) (.ok (.c (.ptrx h (o + j.toNat * k))))
      | .c (.val (.pointer (some ⟨b, o, none⟩))) => .obl (0 ≤ j ∧ j < (len : Int)) (.ok (.v (.pointer (some ⟨b, o + j.toNat * k, none⟩))))
      | _ => .bad
    | _ => .bad
  | .mkf f first caps => match toVals2 H (evArgs fr first), toVals2 H (evArgs fr caps) with
    | some vs, some ws => .ok (.v (.func (.func f) vs.toArray ws.toArray))
    | _, _ => .bad
  | .mkm => .new (.map .anon #[] 0) (.c (.mref hid))
  | .lkp kt z ok x key => match (key.ev fr).toVal H with
    | some kv => match x.ev fr with
      | .c (.mref h) => match H h with
        | some (.map _ es _) => .keyk kt kv es fun r => .ok (SV.of (lookV z ok es r))
        | _ => .bad
      | .c (.val (.map none)) => .keyk kt kv #[] fun r => .ok (SV.of (lookV z ok #[] r))
      | _ => .bad
    | none => .bad
  | .mup kt m key v => match (key.ev fr).toVal H with
    | some kv => match (v.ev fr).toVal H with
      | some vv => match m.ev fr with
        | .c (.mref h) => match H h with
          | some (.map s es clock) => .keyk kt kv es fun r => .set h (.map s (putE es clock kv vv r).1 (putE es clock kv vv r).2) (.c .any)
          | _ => .bad
        | _ => .bad
      | none => .bad
    | none => .bad
  | .pur p xs => match toVals2 H (evArgs fr xs) with
    | some vs => .pur (p.sem vs) fun v => .ok (SV.of v)
    | none => .bad

/-- The forms in which something is asked: each has its own name, so that a proof can see which it is. -/
structure W (p : Prop) : Prop where
  out : p
structure IteP (φ A B : Prop) : Prop where
  t : φ → W A
  f : ¬ φ → W B
structure ForkP (b : Bool) (A B : Prop) : Prop where
  t : b = true → W A
  f : b = false → W B
structure OblP (φ A : Prop) : Prop where
  h : φ
  k : W A
structure RdP (G : Hp) (b off n : Nat) (A : List Value → Prop) : Prop where
  ex : ∃ cs : List Value, cs.length = n ∧ CellsAt G b off cs ∧ W (A cs)
structure EqP (l : List Value) (n : Nat) (A : List Value → Prop) : Prop where
  ex : ∃ cs : List Value, l = cs ∧ cs.length = n ∧ W (A cs)
structure EqsP (l : List S1) (n : Nat) (A : List S1 → Prop) : Prop where
  ex : ∃ cs : List S1, l = cs ∧ cs.length = n ∧ W (A cs)
structure KeyP (P : Program) (kt : TypeId) (kv : Value) (es : Array MapEntry) (A : Option Nat → Prop) : Prop where
  ex : ∃ r, KeyFind P kt kv es r ∧ W (A r)
/-- The operation yields a value, whatever the world is. -/
structure PurP (P : Program) (s : Sem Value) (A : Value → Prop) : Prop where
  ex : ∃ v, (∀ w, s.run P w = .ok v w) ∧ W (A v)
structure ScaP (pre : Prop) (post : Value → Prop) (A : Value → Prop) : Prop where
  h : pre
  k : ∀ v, post v → W (A v)
structure RelP (pre : Prop) (G : Hp) (post : Value → Hp → Prop) (A : Value → Hp → Prop) : Prop where
  h : pre
  k : ∀ v G', Grow G G' → post v G' → W (A v G')
structure OwnP (pre : Prop) (G : Hp) (post : Nat → List Value → Hp → Prop) (A : Nat → List Value → Hp → Prop) : Prop where
  h : pre
  k : ∀ n vs G', Grow G G' → post n vs G' → W (A n vs G')
/-- What is lent lies in own blocks, each known by its number. -/
def lendOk (H : Nat → Option OB) : List (Nat × LE) → Prop
  | [] => True
  | (h, le) :: r => (match le.lb with
    | .cells vs t => ∃ cs, H h = some (.cells (.named le.b) cs t) ∧ toValsH H cs = some vs
    | .map es c => H h = some (.map (.named le.b) es c)) ∧ lendOk H r
def LB.ob (b : Nat) : LB → OB
  | .cells vs t => .cells (.named b) (vs.map S1.of) t
  | .map es c => .map (.named b) es c
/-- What comes back. -/
def backU : List (Nat × LE) → List LB → List (Nat × Option OB)
  | [], _ => []
  | (h, le) :: r, ns => match le.w with
    | true => match ns with
      | n :: ns' => (h, some (n.ob le.b)) :: backU r ns'
      | [] => []
    | false => backU r ns
structure StP (H : Nat → Option OB) (pre : List LE → Prop) (G : Hp) (post : List LE → Value → List LB → Hp → Prop) (A : List (Nat × Option OB) → Value → Hp → Prop) : Prop where
  ex : ∃ hs : List (Nat × LE), lendOk H hs ∧ (hs.map (·.1)).Nodup ∧ pre (hs.map (·.2)) ∧ ∀ v ns G', Grow G G' → post (hs.map (·.2)) v ns G' → W (A (backU hs ns) v G')
structure FnvP (P : Program) (v : Value) (A : PSpec → Prop) : Prop where
  ex : ∃ s, SoundFn P v s ∧ W (A s)

/-- A truth value is known: one way for each. -/
def fork (sv : SV) (K : SV → Prop) : Prop :=
  match sv with
  | .c (.sb b) => ForkP b (K tt) (K ff)
  | sv => K sv

/-- What is asked so that K holds behind the operation: of its value, of the own blocks that turn, of what is published. -/
def denCall (hid : Nat) (Gr G : Hp) (K : SV → List (Nat × Option OB) → Hp → Prop) (args : List Value) : PSpec → Prop
  | .fn pre val => OblP (pre args Gr) (fork (SV.of (val args)) fun sv => K sv [] G)
  | .sca pre post => ScaP (pre args Gr) (post args Gr) fun v => fork (SV.of v) fun sv => K sv [] G
  | .rel pre post => RelP (pre args Gr) G (post args) fun v G' => fork (SV.of v) fun sv => K sv [] G'
  | .own t k pre post => OwnP (pre args Gr) G (post args) fun n vs G' => K (.c (.row hid n)) [(hid, some (.row none n vs t k))] G'
  | .st _ _ => False
  | .seq _ _ => False
def denCallv (H : Nat → Option OB) (hid : Nat) (Gr G : Hp) (K : SV → List (Nat × Option OB) → Hp → Prop) (args : List Value) : PSpec → Prop
  | .st pre post => StP H (fun ls => pre args ls Gr) G (post args) fun hu v G' => fork (SV.of v) fun sv => K sv hu G'
  | s => denCall hid Gr G K args s

def Res.den (P : Program) (hid : Nat) (Gr G : Hp) (K : SV → List (Nat × Option OB) → Hp → Prop) : Res → Prop
  | .ok sv => fork sv fun sv => K sv [] G
  | .obl φ r => OblP φ (r.den P hid Gr G K)
  | .ite φ r s => IteP φ (r.den P hid Gr G K) (s.den P hid Gr G K)
  | .rdk b off n cont => RdP Gr b off n fun cs => (cont cs).den P hid Gr G K
  | .eqk l n cont => EqP l n fun cs => (cont cs).den P hid Gr G K
  | .eqs l n cont => EqsP l n fun cs => (cont cs).den P hid Gr G K
  | .keyk kt kv es cont => KeyP P kt kv es fun r => (cont r).den P hid Gr G K
  | .pur s cont => PurP P s fun v => (cont v).den P hid Gr G K
  | .new ob sv => K sv [(hid, some ob)] G
  | .set h ob sv => K sv [(h, some ob)] G
  | .app hs n vs t k => match hs with
    | some h => K (.c (.row hid n)) [(h, none), (hid, some (.row none n vs t k))] G
    | none => K (.c (.row hid n)) [(hid, some (.row none n vs t k))] G
  | .call s args => denCall hid Gr G K args s
  | .callv H v args => FnvP P v fun s => denCallv H hid Gr G K args s
  | .bad => False

/-! ### From the model's operations -/

def compOpds : List Operand → Option (List Opd)
  | [] => some []
  | x :: xs => match compOpd x, compOpds xs with
    | some y, some ys => some (y :: ys)
    | _, _ => none
def compParts : List (Nat × Operand) → Option (List (Nat × Opd))
  | [] => some []
  | (i, x) :: xs => match compOpd x, compParts xs with
    | some y, some ys => some ((i, y) :: ys)
    | _, _ => none

def aggT (P : Program) (t : TypeId) : Option Bool :=
  match P.underlying t with
  | some (.struct _) => some true
  | some (.array _ _) => some true
  | some _ => some false
  | none => none
def szT (P : Program) (t : TypeId) : Option Nat := match P.info? t with
  | some i => some i.size
  | none => none
def byT (P : Program) (t : TypeId) : Option Nat := match P.info? t with
  | some i => some i.bytes
  | none => none
/-- The zero cells of a type, if they are as many as its size. -/
def zeroT (P : Program) (t : TypeId) : Option (List Value) := match P.info? t with
  | some i => match i.zero with
    | some z => cond (Nat.beq z.cells.size i.size && z.cells.toList.all (·.oneCell')) (some z.cells.toList) none
    | none => none
  | none => none
def elemT (P : Program) (t : TypeId) : Option TypeId := match P.underlying t with
  | some (.slice e) => some e
  | _ => none
def placesT (P : Program) (t : TypeId) : Option (List (Nat × Nat)) := match P.underlying t with
  | some (.struct fs) => fs.toList.mapM fun f => (szT P f.type).map fun n => (f.offset, n)
  | _ => none
def hasBodyB (P : Program) (f : FuncId) : Bool := match P.funcs[f]? with
  | some fn => !fn.body.isNone && !(fn.name == "runtime.NumGoroutine")
  | none => false

def compCall (P : Program) (c : Call) : Option IOp :=
  match c.callee with
  | .value (.func f) => match compOpds c.args.toList with
    | some as => some (.call f as)
    | none => none
  | .value x => match compOpd x, compOpds c.args.toList with
    | some y, some as => some (.callv y as)
    | _, _ => none
  | .builtin .len => match c.args.toList, c.argTypes.toList with
    | [x], [t] => match compOpd x, P.underlying t with
      | some y, some (.slice _) => some (.len y)
      | some y, some .string => some (.lenS y)
      | _, _ => none
    | _, _ => none
  | .builtin .max => match c.args.toList, c.argTypes.toList with
    | [x, y], [t, _] => match compOpd x, compOpd y, P.underlying t with
      | some x', some y', some (.int _) => some (.mm true x' y')
      | _, _, _ => none
    | _, _ => none
  | .builtin .min => match c.args.toList, c.argTypes.toList with
    | [x, y], [t, _] => match compOpd x, compOpd y, P.underlying t with
      | some x', some y', some (.int _) => some (.mm false x' y')
      | _, _, _ => none
    | _, _ => none
  | .builtin .append => match c.args.toList, c.argTypes.toList with
    | [s, x], [t, t'] => match compOpd s, compOpd x, elemT P t with
      | some s', some x', some e => match zeroT P e, byT P e with
        | some zs, some by' => cond (Nat.beq t t' && Nat.ble 1 zs.length && Nat.ble 1 by') (some (.app e zs.length by' s' x')) none
        | _, _ => none
      | _, _, _ => none
    | _, _ => none
  | _ => none

def compOpt : Option Operand → Option (Option Opd)
  | none => some none
  | some x => (compOpd x).map some
def sameOpd : Operand → Operand → Bool
  | .tmp a, .tmp b => Nat.beq a b
  | _, _ => false
theorem sameOpd_eq {a b : Operand} (h : sameOpd a b = true) : a = b := by
  cases a <;> cases b <;> first | (cases h; done) | (rw [Nat.eq_of_beq_eq_true h])
def arrT (P : Program) (t : TypeId) : Option (Nat × TypeId) := match P.underlying t with
  | some (.array n e) => some (n, e)
  | _ => none
def mapT (P : Program) (t : TypeId) : Option (TypeId × TypeId) := match P.underlying t with
  | some (.map k e) => some (k, e)
  | _ => none
def zeroV (P : Program) (t : TypeId) : Option Value := match P.info? t with
  | some i => i.zero
  | none => none
def topOk (hi top : Option Opd) : Bool := match top with
  | none => true
  | some _ => hi.isSome

def plainBin (P : Program) (op : BinOp) (t : TypeId) : Bool := match P.underlying t with
  | some (.int _) => (match op with
    | .add | .sub | .mul | .quo | .rem | .eql | .neq | .lss | .leq | .gtr | .geq => true
    | _ => false)
  | _ => false
def plainUn : UnOp → Bool
  | .not => true
  | .neg => true
  | _ => false
def compOp (P : Program) : Op → Option IOp
  | .move x => (compOpd x).map .mv
  | .assign x => (compOpd x).map .mv
  | .pick c a b => match compOpd c, compOpd a, compOpd b with
    | some c, some a, some b => some (.pick c a b)
    | _, _, _ => none
  | .binOp op t x y _ => match compOpd x, compOpd y with
    | some x, some y => cond (plainBin P op t) (some (.bin op x y)) (some (.pur (.bin op t) [x, y]))
    | _, _ => none
  | .unOp op _ x => match compOpd x with
    | some x => cond (plainUn op) (some (.un op x)) (some (.pur (.un op) [x]))
    | none => none
  | .convert src dst x => match compOpd x, P.underlying src, P.underlying dst with
    | some x, some (.int _), some (.int k) => some (.conv k x)
    | some x, some .string, some .string => some (.pur (.conv src dst) [x])
    | _, _, _ => none
  | .index t x i => match compOpd x, compOpd i with
    | some x, some i => some (.pur (.idx t) [x, i])
    | _, _ => none
  | .makeInterface t x => match compOpd x with
    | some x => some (.pur (.mki t) [x])
    | none => none
  | .typeAssert x t a ok => match compOpd x with
    | some x => some (.pur (.tas t a ok) [x])
    | none => none
  | .box t x => (compOpd x).map (.box t)
  | .alloc t => (zeroT P t).map (.alloc t)
  | .load t x => match compOpd x, szT P t, aggT P t with
    | some x, some n, some g => cond (g || Nat.beq n 1) (some (.load n g x)) none
    | _, _, _ => none
  | .store t x v => match compOpd x, compOpd v, szT P t with
    | some x, some v, some n => some (.store n x v)
    | _, _, _ => none
  | .fieldAddr s x i => match compOpd x, P.underlying s with
    | some x, some (.struct fs) => match fs[i]? with
      | some f => match szT P f.type with
        | some n => cond (Nat.ble 1 n) (some (.faddr f.offset x)) none
        | none => none
      | none => none
    | _, _ => none
  | .indexAddr t x i => match compOpd x, compOpd i with
    | some x, some i => match elemT P t with
      | some e => (szT P e).map fun k => .iaddr k x i
      | none => match arrT P t with
        | some (n, e) => match szT P e with
          | some k => cond (Nat.ble 1 k) (some (.aaddr k n x i)) none
          | none => none
        | none => none
    | _, _ => none
  | .slice t x lo hi mx => match compOpd x, compOpt lo, compOpt hi, compOpt mx with
    | some x, some lo, some hi, some mx => match elemT P t with
      | some e => match szT P e with
        | some k => cond (topOk hi mx) (some (.slc k x lo hi mx)) none
        | none => none
      | none => match mx with
        | none => match lo, hi with
          | none, none => some (.pur (.slcS t false false) [x])
          | some l, none => some (.pur (.slcS t true false) [x, l])
          | none, some h => some (.pur (.slcS t false true) [x, h])
          | some l, some h => some (.pur (.slcS t true true) [x, l, h])
        | some _ => none
    | _, _, _, _ => none
  | .makeSlice t n c => match compOpd n, elemT P t with
    | some n', some e => match zeroT P e, byT P e with
      | some zs, some by' => cond (sameOpd n c && Nat.ble 1 zs.length && Nat.ble 1 by') (some (.mks e zs.length by' zs n')) none
      | _, _ => none
    | _, _ => none
  | .makeMap _ none => some .mkm
  | .lookup t x k ok => match compOpd x, compOpd k, mapT P t with
    | some x, some k, some (kt, e) => match zeroV P e with
      | some z => some (.lkp kt z ok x k)
      | none => none
    | _, _, _ => none
  | .mapUpdate t m k v => match compOpd m, compOpd k, compOpd v, mapT P t with
    | some m, some k, some v, some (kt, _) => some (.mup kt m k v)
    | _, _, _, _ => none
  | .makeFunc (.func f) first caps => match compOpds first.toList, compOpds caps.toList with
    | some xs, some ys => some (.mkf f xs ys)
    | _, _ => none
  | .field s x i => match compOpd x, P.underlying s with
    | some x, some (.struct fs) => match fs[i]? with
      | some f => match szT P f.type, aggT P f.type with
        | some n, some g => cond (g || Nat.beq n 1) (some (.fld f.offset n g x)) none
        | _, _ => none
      | none => none
    | _, _ => none
  | .build t parts => match placesT P t, zeroT P t, compParts parts.toList with
    | some ps, some zs, some xs => some (.bld ps zs xs)
    | _, _, _ => none
  | .buildSlice t len parts => match elemT P t, compParts parts.toList with
    | some e, some xs => match zeroT P e with
      | some zs => cond (Nat.ble 1 zs.length && Nat.ble (len * zs.length) 16777216) (some (.bsl e zs.length len (List.replicate len zs).flatten xs)) none
      | none => none
    | _, _ => none
  | .nilCheck x => (compOpd x).map .nilc
  | .extract x i => (compOpd x).map (.ext · i)
  | .call c => compCall P c
  | _ => none

section
variable {w0 : Root} {W : World} {G0 G : Hp} {E : Nat → Value} {H : Nat → Option OB} {M : Nat → Prop}

/-- An own block is published. -/
theorem Sim.publish (hs : Sim w0 G0 E H G W) {h b : Nat} {ob ob' : OB} (hh : H h = some ob) (hp : ob.pub = none) (hb : ∀ c, blkOf (E h) = some c → c = b) (hok : ob'.ok w0 E W h) (hp' : ob'.pub = some (E h)) :
    ∃ G', Grow G G' ∧ (∀ c, blkOf (E h) = some c → G' c = W.heap[c]?) ∧ Sim w0 G0 E (upd H h (some ob')) G' W := by
  refine ⟨fun c => if blkOf (E h) = some c then W.heap[c]? else G c, ?_, ?_, ?_⟩
  · intro c o e
    show (if blkOf (E h) = some c then W.heap[c]? else G c) = some o
    split
    · exact hs.sub c o e
    · exact e
  · intro c e; simp [e]
  · have other : ∀ k ob2, upd H h (some ob') k = some ob2 → k ≠ h → H k = some ob2 := fun k ob2 e hne => by rwa [upd_other _ _ hne] at e
    refine ⟨hs.below, ?_, ?_, ?_, ?_, ?_, ?_⟩
    · intro c o e
      replace e : (if blkOf (E h) = some c then W.heap[c]? else G c) = some o := e
      split at e
      · exact e
      · exact hs.sub c o e
    · intro c o e
      replace e : (if blkOf (E h) = some c then W.heap[c]? else G c) = some o := e
      split at e
      · exact .inr (OB.blk (hs.own h ob hh) ‹_›).1
      · exact hs.newG c o e
    · intro k ob2 e
      by_cases hk : k = h
      · subst hk; rw [upd_same] at e; cases e; exact hok
      · exact hs.own k ob2 (other k ob2 e hk)
    · intro k ob2 v e e2
      by_cases hk : k = h
      · subst hk; rw [upd_same] at e; cases e
        rw [hp'] at e2; cases e2
        exact ⟨rfl, fun c hc => by simp [hc]⟩
      · obtain ⟨e3, e4⟩ := hs.pub k ob2 v (other k ob2 e hk) e2
        refine ⟨e3, fun c hc => ?_⟩
        show (if blkOf (E h) = some c then W.heap[c]? else G c) = _
        split
        · rfl
        · exact e4 c hc
    · intro k ob2 e e2 c hc
      by_cases hk : k = h
      · subst hk; rw [upd_same] at e; cases e; rw [hp'] at e2; cases e2
      · have e3 := other k ob2 e hk
        show (if blkOf (E h) = some c then W.heap[c]? else G c) = _
        rw [if_neg (fun e4 => hk (hs.inj h ob k ob2 c hh e3 hp e4 hc).symm)]
        exact hs.priv k ob2 e3 e2 c hc
    · intro k ob2 k' ob3 c e e2 e3 e4 e5
      by_cases hk : k = h <;> by_cases hk' : k' = h
      · rw [hk, hk']
      · subst hk; rw [upd_same] at e; cases e; rw [hp'] at e3; cases e3
      · subst hk'; exact hs.inj k ob2 k' ob c (other k ob2 e hk) hh e3 e4 e5
      · exact hs.inj k ob2 k' ob3 c (other k ob2 e hk) (other k' ob3 e2 hk') e3 e4 e5

end

/-- A row that is made for a call is published at once. -/
def altOp : IOp → IOp
  | .bsl t k len zs parts => .bslp t k len zs parts
  | o => o
def CompB (P : Program) (op : Op) (io : IOp) : Prop := compOp P op = some io ∨ ∃ io', compOp P op = some io' ∧ io = altOp io'
end Go.Pal
