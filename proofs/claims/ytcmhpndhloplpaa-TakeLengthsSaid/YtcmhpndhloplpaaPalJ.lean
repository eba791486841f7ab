/- The intermediate form of code, what is asked of it, and that this is enough. -/
import Derived.Test.YtcmhpndhloplpaaPalQ
import Derived.LoopNIn
import Derived.Scope
namespace Go.Pal
open Go.RowKit

inductive Out where
  | norm
  | exit (id : Nat)
  | ret

inductive IC where
  | skip
  | reg (base len : Nat) (ops : List IOper)
  | draw (base len : Nat) (ps ns : List Nat) (ops : List IOper)
  | seq (a b : IC)
  | cond (c : Opd) (a b : IC)
  | block (id : Nat) (a : IC)
  | loop (a : IC)
  | exit (id : Nat)
  | ret
  | range (g : Opd) (ps : List Nat) (a b : IC)

def condK (sv : SV) (f : Bool → Prop) : Prop := match sv with
  | .c (.val (.bool true)) => f true
  | .c (.val (.bool false)) => f false
  | .c (.sb b) => ForkP b (f true) (f false)
  | _ => False

/-- The invariant of a loop: a ghost, the frame and the own blocks by it, what is known of it, a measure. -/
structure Inv where
  α : Type
  fr : α → List (Nat × SV)
  H : α → List (Nat × OB)
  ok : α → Hp → Prop
  m : α → Nat

def frOf : List (Nat × SV) → Nat → SV
  | [], _ => .c .any
  | (i, sv) :: r, j => cond (Nat.beq j i) sv (frOf r j)
def HOf : List (Nat × OB) → Nat → Option OB
  | [], _ => none
  | (i, ob) :: r, j => cond (Nat.beq j i) (some ob) (HOf r j)

/-- A head tells own blocks by handles of its own: π says which was which; a nil slice may be told as an own row. -/
def lookP : List (Nat × Option Nat) → Nat → Option (Option Nat)
  | [], _ => none
  | (i, x) :: r, h => cond (Nat.beq h i) (some x) (lookP r h)
def renH (π : List (Nat × Option Nat)) (h : Nat) (f : Nat → S1) (z : Option S1) : Option S1 := match lookP π h with
  | none => some (f h)
  | some (some h') => some (f h')
  | some none => z
def nilN : Nat → Option S1
  | 0 => some (.val (.slice none 0 0))
  | _ => none
def S1.ren (π : List (Nat × Option Nat)) : S1 → Option S1
  | .row h n => renH π h (.row · n) (nilN n)
  | .ptr h o => renH π h (.ptr · o) none
  | .rptr h o => renH π h (.rptr · o) none
  | .mref h => renH π h .mref none
  | .ptrx h o => renH π h (.ptrx · o) none
  | x => some x
def renL (π : List (Nat × Option Nat)) : List S1 → Option (List S1)
  | [] => some []
  | c :: cs => match c.ren π with
    | some c' => (match renL π cs with
      | some cs' => some (c' :: cs')
      | none => none)
    | none => none
def SV.ren (π : List (Nat × Option Nat)) : SV → Option SV
  | .c x => match x.ren π with
    | some y => some (.c y)
    | none => none
  | .agg cs => match renL π cs with
    | some l => some (.agg l)
    | none => none
def OB.ren (π : List (Nat × Option Nat)) : OB → Option OB
  | .cells s cs t => match renL π cs with
    | some l => some (.cells s l t)
    | none => none
  | ob => some ob
def eqO {α : Type} : Option α → Option α → Prop
  | some a, some b => a = b
  | _, _ => False
def frV (π : List (Nat × Option Nat)) (σ : St) : List (Nat × SV) → Prop
  | [] => True
  | (i, sv) :: r => eqO (sv.ren π) (some (σ.fr i)) ∧ frV π σ r
def HV1 (π : List (Nat × Option Nat)) (σ : St) (h : Nat) (ob : OB) : Prop := match lookP π h with
  | none => eqO (ob.ren π) (σ.H h)
  | some (some h') => eqO (ob.ren π) (σ.H h')
  | some none => match ob with
    | .row none n vs _ _ => (n, vs) = (0, [])
    | _ => False
def HV (π : List (Nat × Option Nat)) (σ : St) : List (Nat × OB) → Prop
  | [] => True
  | (h, ob) :: r => HV1 π σ h ob ∧ HV π σ r
def tgt (π : List (Nat × Option Nat)) (h : Nat) : Option Nat := match lookP π h with
  | none => some h
  | some x => x
def tgtNe : Option Nat → Option Nat → Bool
  | some a, some b => !Nat.beq a b
  | _, _ => true
def injB (π : List (Nat × Option Nat)) : List (Nat × OB) → Bool
  | [] => true
  | (h, _) :: r => (r.all fun p => Nat.beq h p.1 || tgtNe (tgt π h) (tgt π p.1)) && injB π r
def avoid (π : List (Nat × Option Nat)) (pb : List Nat) : Bool := π.all fun p => !memN p.1 pb
structure HeadP (pb : List Nat) (σ : St) (fl : List (Nat × SV)) (hl : List (Nat × OB)) : Prop where
  ex : ∃ π, frV π σ fl ∧ HV π σ hl ∧ injB π hl = true ∧ avoid π pb = true
  pos : σ.fr POS = frOf fl POS

def mentS : S1 → List Nat
  | .ptr h _ | .rptr h _ | .row h _ | .mref h | .ptrx h _ => [h]
  | _ => []
def mentSV : SV → List Nat
  | .c x => mentS x
  | .agg cs => cs.foldr (fun c l => mentS c ++ l) []
def mentFr : List (Nat × SV) → List Nat
  | [] => []
  | (_, sv) :: r => mentSV sv ++ mentFr r

def S1.bd (b : Nat) : S1 → Bool
  | .ptr h _ | .rptr h _ | .row h _ | .mref h | .ptrx h _ => Nat.blt h b
  | _ => true
def allBd (b : Nat) : List S1 → Bool
  | [] => true
  | c :: cs => cond (c.bd b) (allBd b cs) false
def SV.bd (b : Nat) : SV → Bool
  | .c x => x.bd b
  | .agg cs => allBd b cs
def OB.bd (b : Nat) : OB → Bool
  | .cells _ cs _ => allBd b cs
  | .row .. => true
  | .map .. => true
def frBd (b : Nat) : List (Nat × SV) → Bool
  | [] => true
  | (_, sv) :: r => cond (sv.bd b) (frBd b r) false
def HBd (b : Nat) : List (Nat × OB) → Bool
  | [] => true
  | (h, ob) :: r => cond (Nat.blt h b && ob.bd b) (HBd b r) false

structure RoundP (pb : List Nat) (I : Inv) (x : I.α) (σ : St) : Prop where
  ex : ∃ x', HeadP pb σ (I.fr x') (I.H x') ∧ I.ok x' σ.G ∧ I.m x' < I.m x
structure LoopP (pb : List Nat) (σ : St) (bd : Nat) (A : (I : Inv) → I.α → Hp → Prop) : Prop where
  ex : ∃ I : Inv, (∃ x, HeadP pb σ (I.fr x) (I.H x) ∧ I.ok x σ.G) ∧ (∀ x, frBd bd (I.fr x) = true ∧ HBd bd (I.H x) = true) ∧ ∀ x G, Grow σ.G G → I.ok x G → W (A I x G)

def capLooks : IOp → List Nat
  | .mkf _ _ caps => looksL caps
  | _ => []

/-! ### Calls: of a loop's rounds; of an iterator, or a part of one -/

structure YC where
  l : Nat
  Y : List (List Value)
  /-- the handles that a head may not tell anew -/
  pb : List Nat
abbrev YC.no (pb : List Nat) : YC := ⟨0, [], pb⟩

structure YieldP (yc : YC) (k : Nat) (args : List Value) (G : Hp) (A : Bool → Hp → Prop) : Prop where
  m : yc.Y[k]? = some args
  t : ∀ G', Grow G G' → W (A true G')
  f : ∀ G', Grow G G' → W (A false G')
structure SeqP (yc : YC) (k : Nat) (pre : List (List Value) → Prop) (post : Bool → Value → Prop) (G : Hp) (A : Nat → Bool → Value → Hp → Prop) : Prop where
  ex : ∃ Ys, pre Ys ∧ (yc.Y.drop k).take Ys.length = Ys ∧ (∀ v G', Grow G G' → post false v → W (A (k + Ys.length) false v G')) ∧ ∀ j v G', Grow G G' → post true v → W (A j true v G')
inductive CallvP (P : Program) (l : Nat) (v : Value) (Ay : Prop) (Af : PSpec → Prop) : Prop
  | fn (s : PSpec) (h : SoundFn P v s) (k : W (Af s))
  | yl (h : v = .func (.yield l) #[] #[]) (k : W Ay)

def posK (sv : SV) (f : Nat → Prop) : Prop := match sv with
  | .c (.pos k false) => f k
  | _ => False
def specK (yc : YC) (dst : Option Nat) (fr : Nat → SV) (H : Nat → Option OB) (hid : Nat) (G : Hp) (K : St → Prop) (vs : List Value) (s : PSpec) : Prop := match s with
  | .seq pre post => posK (fr POS) fun k => SeqP yc k (pre yc.l vs G) post G fun j st v G' => fork (SV.of v) fun sv => appK dst (upd fr POS (.c (.pos j st))) H K sv [] G'
  | s => denCallv H hid G G (appK dst fr H K) vs s

def opF (P : Program) (tab : FuncId → Option PSpec) (yc : YC) (bd : Nat) (o : IOper) (σ : St) (K : St → Prop) : Prop := match o, σ with
  | ⟨dst, .callv x args, g, hid, _, _, _, _⟩, ⟨fr, H, G⟩ => guardF g fr fun run => match run with
    | true => match toVals2 H (evArgs fr args) with
      | some vs => match x.ev fr with
        | .c (.val v) => CallvP P yc.l v (posK (fr POS) fun k => YieldP yc k vs G fun b G' => appK dst (upd fr POS (.c (.pos (k + 1) (!b)))) H K (.v (.bool b)) [] G') (specK yc dst fr H hid G K vs)
        | _ => False
      | none => False
    | false => appK dst fr H K undefSV [] G
  | ⟨dst, .call f args, g, hid, _, _, _, _⟩, ⟨fr, H, G⟩ => guardF g fr fun run => match run with
    | true => match toVals2 H (evArgs fr args) with
      | some vs => match tab f with
        | some s => specK yc dst fr H hid G K vs s
        | none => False
      | none => False
    | false => appK dst fr H K undefSV [] G
  | o, ⟨fr, H, G⟩ => TF P tab bd G o ⟨fr, H, G⟩ K

def vcSeq (P : Program) (tab : FuncId → Option PSpec) (yc : YC) (bd : Nat) : List IOper → St → (St → Prop) → Prop
  | [], σ, K => K σ
  | o :: r, ⟨fr, H, G⟩, K => pubS fr H G (callLooks o.op) fun H' G' => namS fr H' (capLooks o.op) fun H' => opF P tab yc bd o ⟨fr, H', G'⟩ fun σ' => vcSeq P tab yc bd r σ' K

/-- The invariant of a loop over an iterator: the frame behind it; which round, the own blocks, what is known. -/
structure RInv where
  α : Type
  fr : List (Nat × SV)
  k : α → Nat
  H : α → List (Nat × OB)
  ok : α → Hp → Prop
structure RoundR (pb : List Nat) (I : RInv) (x : I.α) (σ : St) : Prop where
  ex : ∃ x', (∃ π, HV π σ (I.H x') ∧ injB π (I.H x') = true ∧ avoid π pb = true) ∧ I.ok x' σ.G ∧ I.k x' = I.k x + 1
structure ExitR (G : Hp) (A : Hp → Prop) : Prop where
  k : ∀ G', Grow G G' → W (A G')
structure RangeP (P : Program) (pb : List Nat) (σ : St) (bd np : Nat) (v : Value) (A : (I : RInv) → I.α → List Value → Hp → Prop) (B : (I : RInv) → I.α → Hp → Prop) : Prop where
  ex : ∃ (pre : Nat → List Value → Hp → List (List Value) → Prop) (post : Bool → Value → Prop) (Ys : List (List Value)) (I : RInv), SoundFn P v (.seq pre post) ∧ (∀ l, pre l [.func (.yield l) #[] #[]] σ.G Ys) ∧ (∀ y ∈ Ys, y.length = np) ∧
    (∃ x, I.k x = 0 ∧ HeadP pb σ I.fr (I.H x) ∧ I.ok x σ.G) ∧ (frBd bd I.fr = true ∧ ∀ x, HBd bd (I.H x) = true) ∧ (∀ x G G', Grow G G' → I.ok x G → I.ok x G') ∧
    (∀ x y G, Grow σ.G G → I.ok x G → Ys[I.k x]? = some y → W (A I x y G)) ∧ ∀ x G, Grow σ.G G → I.ok x G → I.k x = Ys.length → W (B I x G)

def updP (fr : Nat → SV) : List Nat → List Value → Nat → SV
  | p :: ps, y :: ys => updP (upd fr p (SV.of y)) ps ys
  | _, _ => fr

def noRange : IC → Bool
  | .seq a b => noRange a && noRange b
  | .cond _ a b => noRange a && noRange b
  | .block _ a => noRange a
  | .loop a => noRange a
  | .range .. => false
  | _ => true

def vc (P : Program) (tab : FuncId → Option PSpec) (yc : YC) : IC → Nat → St → (Out → Nat → St → Prop) → Prop
  | .skip, bd, σ, K => K .norm bd σ
  | .reg base len ops, bd, σ, K => cond (Nat.ble bd base) (vcSeq P tab yc base ops σ fun σ' => K .norm (base + len) σ') False
  | .draw base len ps ns ops, bd, ⟨fr, H, G⟩, K => cond (Nat.ble bd base) (pubS fr H G ps fun H' G' => namS fr H' ns fun H' => vcOps P tab base G' ops ⟨fr, H', G'⟩ fun σ' => K .norm (base + len) σ') False
  | .seq a b, bd, σ, K => vc P tab yc a bd σ fun o bd' σ' => match o with
    | .norm => vc P tab yc b bd' σ' K
    | .exit id => K (.exit id) bd' σ'
    | .ret => K .ret bd' σ'
  | .cond c a b, bd, σ, K => condK (c.ev σ.fr) fun t => match t with
    | true => vc P tab yc a bd σ K
    | false => vc P tab yc b bd σ K
  | .block id a, bd, σ, K => vc P tab yc a bd σ fun o bd' σ' => match o with
    | .exit i => cond (Nat.beq i id) (K .norm bd' σ') (K (.exit i) bd' σ')
    | .norm => K .norm bd' σ'
    | .ret => K .ret bd' σ'
  | .loop a, bd, σ, K => LoopP yc.pb σ bd fun I x G => vc P tab yc a bd ⟨frOf (I.fr x), HOf (I.H x), G⟩ fun o bd' σ' => match o with
        | .norm => RoundP yc.pb I x σ'
        | .exit id => K (.exit id) bd' σ'
        | .ret => K .ret bd' σ'
  | .exit id, bd, σ, K => K (.exit id) bd σ
  | .ret, bd, σ, K => K .ret bd σ
  | .range g ps a b, bd, ⟨fr, H, G⟩, K => match g.ev fr with
    | .c (.val v) => RangeP P yc.pb ⟨fr, H, G⟩ bd ps.length v (fun I x y G => vc P tab (.no (mentFr I.fr ++ yc.pb)) a bd ⟨updP (upd (frOf I.fr) POS (.c .any)) ps y, HOf (I.H x), G⟩ fun o bd' σ' => match o with
        | .norm => vc P tab (.no (mentFr I.fr ++ yc.pb)) b bd' σ' fun o bd2 σ2 => match o with
          | .norm => RoundR (mentFr I.fr ++ yc.pb) I x σ2
          | .exit id => ExitR σ2.G fun G => K (.exit id) bd2 ⟨frOf I.fr, σ2.H, G⟩
          | .ret => ExitR σ2.G fun G => K .ret bd2 ⟨frOf I.fr, σ2.H, G⟩
        | _ => False) (fun I x G => K .norm bd ⟨frOf I.fr, HOf (I.H x), G⟩)
    | _ => False

/-! ### From the model's code -/

def lookI : List (Nat × IOper) → Nat → Option IOper
  | [], _ => none
  | (j, o) :: r, i => cond (Nat.beq i j) (some o) (lookI r i)
def addN (l : List Nat) (x : Nat) : List Nat := cond (memN x l) l (x :: l)
/-- All that an operation waits for. -/
def cloOf (acc : List (Nat × IOper)) (ds : List Nat) : List Nat :=
  ds.foldl (fun l d => match lookI acc d with
    | some o => o.deps.foldl addN (addN l d)
    | none => addN l d) []
def IOp.makes : IOp → Bool
  | .box .. => true
  | .alloc .. => true
  | .bsl .. => true
  | .bslp .. => true
  | .mks .. => true
  | .mkm => true
  | .app .. => true
  | .call .. => true
  | .callv .. => true
  | _ => false
def IOp.noG : IOp → Bool
  | .load .. => false
  | .app .. => false
  | .call .. => false
  | .callv .. => false
  | .bslp .. => false
  | _ => true
def drawn (b i : Nat) (loc : Bool) (acc : List (Nat × IOper)) (io : IOper) (ds : List Nat) : IOper :=
  let cl := cloOf acc ds
  { io with
    al := some ((cl.filter fun d => match lookI acc d with
      | some o => o.op.makes
      | none => true).map (b + ·)),
    early := io.op.noG || cl.all fun d => match lookI acc d with
      | some o => !o.op.isCall
      | none => true,
    deps := cl,
    loc := loc }
/-- Some operation beside it looks at memory. -/
def locOf (ops : Array Oper) (i : Nat) (io : IOper) : Bool := io.op.mod && (match io.op with
  | .app .. => true
  | _ => false) && (match (Region.before ops)[i]? with
  | some b => (List.range i).any fun j => !Nat.testBit b j && (match ops[j]? with
    | some o => match o.op with
      | .load .. => true
      | .call .. => true
      | _ => false
    | none => false)
  | none => false)
/-- What the operation yields is given to a call of the region. -/
def givenOn (ops : Array Oper) (dst : Option Nat) : Bool := match dst with
  | some d => ops.any fun o => match o.op with
    | .call c => (match c.callee with
      | .value _ => c.args.any fun x => match x with
        | .tmp t => Nat.beq t d
        | _ => false
      | _ => false)
    | _ => false
  | none => false
def altO (ops : Array Oper) (io : IOper) : IOper := cond (givenOn ops io.dst) { io with op := altOp io.op } io
def mkDraw (P : Program) (nt : Nat) (ops : Array Oper) (b : Nat) : List Oper → Nat → List (Nat × IOper) → Option (List (Nat × IOper))
  | [], _, _ => some []
  | o :: r, i, acc => match compOper P nt ops o (b + i) with
    | some io => match mkDraw P nt ops b r (i + 1) ((i, drawn b i (locOf ops i io) acc (altO ops io) (depsOf o)) :: acc) with
      | some l => some ((i, drawn b i (locOf ops i io) acc (altO ops io) (depsOf o)) :: l)
      | none => none
    | none => none
def waitsOk (ops : Array Oper) (all : List (Nat × IOper)) (p : Nat × IOper) : Bool := match ops[p.1]? with
  | some o => let ds := depsOf o
    ds.all (Nat.blt · p.1) && p.2.deps.all fun a => memN a ds || all.any fun q => memN q.1 ds && memN a q.2.deps
  | none => false
def strip (o : IOper) : IOper := { o with deps := [] }
/-- The slots of what calls will be given, as far as they are filled ahead of the region. -/
def traceT (all : List IOper) : Nat → Nat → List Nat → List Nat
  | 0, _, acc => acc
  | f + 1, t, acc => match all.find? fun o => dstEq o.dst (some t) with
    | some o => match o.op with
      | .mv _ | .pick .. | .load .. | .faddr .. | .fld .. | .bld .. | .nilc _ | .ext .. => o.op.looks.foldl (fun acc t => traceT all f t acc) acc
      | _ => acc
    | none => addN acc t
def pubSlots (all : List IOper) : List Nat := all.foldl (fun acc o => (callLooks o.op).foldl (fun acc t => traceT all 8 t acc) acc) []

def compDraw (P : Program) (nt : Nat) (ops : Array Oper) (b : Nat) : Option IC := match mkDraw P nt ops b ops.toList 0 [] with
  | some all => cond (P.follows .mixedOrders && pairsOk b all && all.all (waitsOk ops all)) (some (.draw b all.length (pubSlots (all.map (·.2))) ((all.map fun p => capLooks p.2.op).flatten) (all.map fun p => strip p.2))) none
  | none => none

def compC (P : Program) (nt : Nat) : Code → Nat → Option (IC × Nat)
  | .skip, b => some (.skip, b)
  | .region _ ops false, b => match compList P nt ops ops.toList b with
    | some l => some (.reg b l.length l, b + l.length)
    | none => none
  | .region _ ops true, b => match compDraw P nt ops b with
    | some ic => some (ic, b + ops.size)
    | none => none
  | .seq x y, b => match compC P nt x b with
    | some (x', b') => match compC P nt y b' with
      | some (y', b2) => some (.seq x' y', b2)
      | none => none
    | none => none
  | .cond c x y, b => match compOpd c, compC P nt x b with
    | some c', some (x', b') => match compC P nt y b' with
      | some (y', b2) => some (.cond c' x' y', b2)
      | none => none
    | _, _ => none
  | .block id x, b => match compC P nt x b with
    | some (x', b') => some (.block id x', b')
    | none => none
  | .loop x, b => match compC P nt x b with
    | some (x', b') => some (.loop x', b')
    | none => none
  | .exit id, b => some (.exit id, b)
  | .ret, b => some (.ret, b)
  | .label _, b => some (.skip, b)
  | .scope x, b => compC P nt x b
  | .rangeFunc g ps x y, b => match compOpd g, compC P nt x b with
    | some g', some (x', b') => match compC P nt y b' with
      | some (y', b2) => cond (noRange x' && noRange y' && ps.toList.all (fun p => Nat.blt p nt && Nat.blt p 1000000)) (some (.range g' ps.toList x' y', b2)) none
      | none => none
    | _, _ => none
  | _, _ => none

section
variable {P : Program} {w0 : Root} {G0 : Hp} {n : Nat}

theorem Sat.mono {M M' : Nat → Prop} {E : Nat → Value} {σ : St} {a : Act} {W : World} (h : Sat w0 G0 n M E σ a W) (hm : ∀ k, M k → M' k) : Sat w0 G0 n M' E σ a W :=
  ⟨h.sim, fun i => SV.ment_mono hm (h.mfr i), fun k ob e => ⟨hm k (h.mH k ob e).1, OB.ment_mono hm (h.mH k ob e).2⟩, h.fr, h.size, h.defers⟩

theorem compList_len {nt : Nat} {ops : Array Oper} : ∀ {l : List Oper} {b : Nat} {xs : List IOper}, compList P nt ops l b = some xs → xs.length = l.length
  | [], _, _, h => by cases h; rfl
  | o :: r, b, xs, h => by
    simp only [compList] at h
    split at h
    · cases h; simp [compList_len ‹_›]
    · cases h

theorem compOper_spec {nt : Nat} {ops : Array Oper} {o : Oper} {b : Nat} {io : IOper} (h : compOper P nt ops o b = some io) : compOp P o.op = some io.op ∧ compGuard ops o = some io.guard ∧ o.dst = io.dst ∧ dstOk nt io.dst = true ∧ io.hid = b := by
  unfold compOper at h
  split at h
  · cases hc : dstOk nt o.dst with
    | false => rw [hc] at h; cases h
    | true => rw [hc] at h; cases h; exact ⟨‹_›, ‹_›, rfl, hc, rfl⟩
  · cases h

theorem mkDraw_spec {nt : Nat} {ops : Array Oper} {b : Nat} : ∀ {l : List Oper} {i : Nat} {acc xs : List (Nat × IOper)}, mkDraw P nt ops b l i acc = some xs →
    xs.length = l.length ∧ (∀ p ∈ xs, ∃ o, i ≤ p.1 ∧ l[p.1 - i]? = some o ∧ OpOk P nt ops o p.2 ∧ p.2.hid = b + p.1) ∧ ∀ j, j < l.length → ∃ io, (i + j, io) ∈ xs
  | [], i, acc, xs, h => by
    cases h
    exact ⟨rfl, fun p hp => (by cases hp), fun j hj => (by simp at hj)⟩
  | o :: r, i, acc, xs, h => by
    simp only [mkDraw] at h
    split at h
    case h_2 => cases h
    rename_i io hio
    split at h
    case h_2 => cases h
    rename_i l hl
    cases h
    obtain ⟨h1, h2, h3⟩ := mkDraw_spec hl
    obtain ⟨c1, c2, c3, c4, c5⟩ := compOper_spec hio
    refine ⟨by simp [h1], ?_, ?_⟩
    · intro p hp
      rcases List.mem_cons.1 hp with rfl | hp
      · refine ⟨o, Nat.le_refl _, by simp, ?_, ?_⟩
        · unfold altO
          cases givenOn ops io.dst with
          | true => exact ⟨.inr ⟨io.op, c1, rfl⟩, c2, c3, c4⟩
          | false => exact ⟨.inl c1, c2, c3, c4⟩
        · unfold altO
          cases givenOn ops io.dst <;> exact c5
      · obtain ⟨o', k1, k2, k3, k4⟩ := h2 p hp
        refine ⟨o', by omega, ?_, k3, k4⟩
        rw [show p.1 - i = (p.1 - (i + 1)) + 1 by omega, List.getElem?_cons_succ]
        exact k2
    · intro j hj
      cases j with
      | zero => exact ⟨_, by simp; exact .inl rfl⟩
      | succ j =>
        obtain ⟨io', h⟩ := h3 j (by simpa using hj)
        exact ⟨io', by rw [show i + (j + 1) = i + 1 + j by omega]; simp [h]⟩

theorem vcOps_strip {tab : FuncId → Option PSpec} {bd : Nat} {B : Hp} : ∀ {l : List IOper} {σ : St} {K : St → Prop}, vcOps P tab bd B (l.map strip) σ K → vcOps P tab bd B l σ K
  | [], _, _, h => h
  | o :: r, σ, K, h => by
    simp only [List.map_cons, vcOps, TF_eq] at h ⊢
    have e : (fun σ' => vcOps P tab bd B (r.map strip) σ' K) = fun σ' => vcOps P tab bd B (r.map strip) σ' K := rfl
    have m : ∀ {σ : St} {K1 K2 : St → Prop}, (∀ σ, K1 σ → K2 σ) → TI P tab bd B o σ K1 → TI P tab bd B o σ K2 := fun {σ K1 K2} hk h => by
      unfold TI at *
      rw [guardK_iff] at *
      obtain ⟨b, hb, h⟩ := h
      refine ⟨b, hb, ?_⟩
      cases b with
      | true => exact den_mono (fun sv hu G' => hk _) h
      | false => exact hk _ h
    exact pubO_mono (fun σ h => m (fun σ' h => vcOps_strip h) h) h

theorem compDraw_spec {nt : Nat} {ops : Array Oper} {b : Nat} {ic : IC} (h : compDraw P nt ops b = some ic) :
    ∃ all ps ns, ic = .draw b all.length ps ns (all.map fun p => strip p.2) ∧ P.follows .mixedOrders = true ∧ Draw P nt b ops all ∧ all.length = ops.size ∧ ∀ p ∈ all, p.2.hid = b + p.1 ∧ p.1 < ops.size := by
  unfold compDraw at h
  split at h
  case h_2 => cases h
  rename_i all hall
  cases hc : (P.follows .mixedOrders && pairsOk b all && all.all (waitsOk ops all)) with
  | false => rw [hc] at h; cases h
  | true =>
    rw [hc] at h; cases h
    simp only [Bool.and_eq_true, List.all_eq_true] at hc
    obtain ⟨⟨hf, hp⟩, hw⟩ := hc
    obtain ⟨h1, h2, h3⟩ := mkDraw_spec hall
    refine ⟨all, _, _, rfl, hf, ⟨?_, ?_, pairsOk_spec hp⟩, by simpa using h1, ?_⟩
    · intro i io hi
      obtain ⟨o, _, k2, k3, _⟩ := h2 _ hi
      have ho : ops[i]? = some o := by simpa using k2
      have hwi := hw _ hi
      simp only [waitsOk, ho, Bool.and_eq_true, Bool.not_eq_true', List.all_eq_true, Bool.or_eq_true, List.any_eq_true] at hwi
      refine ⟨o, ho, k3, fun a ha => by simpa using hwi.1 a ha, fun a ha => ?_⟩
      rcases hwi.2 a ha with h | ⟨q, hq, h1, h2⟩
      · exact .inl (memN_iff.1 h)
      · exact .inr ⟨q, hq, memN_iff.1 h1, memN_iff.1 h2⟩
    · intro i hi
      obtain ⟨io, h⟩ := h3 i (by simpa using hi)
      exact ⟨io, by simpa using h⟩
    · intro p hp
      obtain ⟨o, _, k2, _, k4⟩ := h2 p hp
      refine ⟨k4, ?_⟩
      have := (List.getElem?_eq_some_iff.1 k2).1
      simpa using this

/-- The handles' values, as the head tells them. -/
def En (E : Nat → Value) (π : List (Nat × Option Nat)) (h : Nat) : Value := match lookP π h with
  | none => E h
  | some (some h') => E h'
  | some none => .slice none 0 0
theorem En_tgt {E : Nat → Value} {π : List (Nat × Option Nat)} {h h' : Nat} (e : tgt π h = some h') : En E π h = E h' := by
  unfold tgt at e
  unfold En
  split at e
  · rename_i e'; rw [e']; cases e; rfl
  · rename_i e'; rw [e', e]
theorem En_nil {E : Nat → Value} {π : List (Nat × Option Nat)} {h : Nat} (e : tgt π h = none) : En E π h = .slice none 0 0 := by
  unfold tgt at e
  unfold En
  split at e
  · cases e
  · rename_i e'; rw [e', e]
theorem renH_some {π : List (Nat × Option Nat)} {h : Nat} {f : Nat → S1} {z : Option S1} {y : S1} (e : renH π h f z = some y) : (∃ h', tgt π h = some h' ∧ y = f h') ∨ (tgt π h = none ∧ z = some y) := by
  unfold renH at e
  unfold tgt
  split at e
  · rename_i e'; rw [e']; cases e; exact .inl ⟨h, rfl, rfl⟩
  · rename_i h' e'; rw [e']; cases e; exact .inl ⟨h', rfl, rfl⟩
  · rename_i e'; rw [e']; exact .inr ⟨rfl, e⟩
theorem S1.ren_rel {E : Nat → Value} {π : List (Nat × Option Nat)} {x y : S1} {v : Value} (e : x.ren π = some y) (h : y.rel E v) : x.rel (En E π) v := by
  cases x with
  | any => trivial
  | val u => cases e; exact h
  | sb b => cases e; exact h
  | pos => trivial
  | row k n =>
    simp only [S1.ren] at e
    rcases renH_some e with ⟨h', e1, rfl⟩ | ⟨e1, e2⟩
    · simp only [S1.rel, En_tgt e1]; exact h
    · simp only [S1.rel, En_nil e1]
      cases n with
      | zero => cases e2; exact ⟨h, none, 0, rfl⟩
      | succ n => cases e2
  | ptr k n =>
    simp only [S1.ren] at e
    rcases renH_some e with ⟨h', e1, rfl⟩ | ⟨e1, e2⟩
    · simp only [S1.rel, En_tgt e1]; exact h
    · cases e2
  | rptr k n =>
    simp only [S1.ren] at e
    rcases renH_some e with ⟨h', e1, rfl⟩ | ⟨e1, e2⟩
    · simp only [S1.rel, En_tgt e1]; exact h
    · cases e2
  | mref k =>
    simp only [S1.ren] at e
    rcases renH_some e with ⟨h', e1, rfl⟩ | ⟨e1, e2⟩
    · simp only [S1.rel, En_tgt e1]; exact h
    · cases e2
  | ptrx k n =>
    simp only [S1.ren] at e
    rcases renH_some e with ⟨h', e1, rfl⟩ | ⟨e1, e2⟩
    · simp only [S1.rel, En_tgt e1]; exact h
    · cases e2
theorem renL_rel {E : Nat → Value} {π : List (Nat × Option Nat)} : ∀ {cs ds : List S1} {vs : List Value}, renL π cs = some ds → relL E ds vs → relL (En E π) cs vs
  | [], ds, vs, e, h => by cases e; cases vs <;> first | trivial | exact h.elim
  | c :: cs, ds, vs, e, h => by
    simp only [renL] at e
    split at e
    · rename_i c' hc
      split at e
      · rename_i cs' hcs
        cases e
        cases vs with
        | nil => exact h.elim
        | cons v vs => exact ⟨S1.ren_rel hc h.1, renL_rel hcs h.2⟩
      · cases e
    · cases e
theorem SV.ren_rel {E : Nat → Value} {π : List (Nat × Option Nat)} {x y : SV} {v : Value} (e : x.ren π = some y) (h : y.rel E v) : x.rel (En E π) v := by
  cases x with
  | c x =>
    simp only [SV.ren] at e
    split at e
    · rename_i y' hy; cases e; exact S1.ren_rel hy h
    · cases e
  | agg cs =>
    simp only [SV.ren] at e
    split at e
    · rename_i l hl
      cases e
      obtain ⟨vs, e, h⟩ := h
      exact ⟨vs, e, renL_rel hl h⟩
    · cases e
theorem OB.ok_ren {r : Root} {E : Nat → Value} {W : World} {π : List (Nat × Option Nat)} {h h' : Nat} {ob ob' : OB} (e : ob.ren π = some ob') (ho : ob'.ok r E W h') (ht : tgt π h = some h') : ob.ok r (En E π) W h ∧ ob.pub = ob'.pub := by
  have hE := En_tgt (E := E) ht
  cases ob with
  | cells s cs t =>
    simp only [OB.ren] at e
    split at e
    · rename_i l hl
      cases e
      obtain ⟨b, vs, h1, h2, h3, h4, h5⟩ := ho
      exact ⟨⟨b, vs, hE.trans h1, h2, h3, renL_rel hl h4, h5⟩, rfl⟩
    · cases e
  | row p n vs t k => cases e; refine ⟨?_, rfl⟩; simp only [OB.ok, hE]; exact ho
  | map s es c => cases e; refine ⟨?_, rfl⟩; simp only [OB.ok, hE]; exact ho
theorem eqO_some {α : Type} {a b : Option α} (h : eqO a b) : ∃ x, a = some x ∧ b = some x := by
  cases a <;> cases b <;> first | exact h.elim | (cases h; exact ⟨_, rfl, rfl⟩)
theorem frV_look {π : List (Nat × Option Nat)} {σ : St} : ∀ {l : List (Nat × SV)} {i : Nat}, frV π σ l → frOf l i = .c .any ∨ (frOf l i).ren π = some (σ.fr i)
  | [], _, _ => .inl rfl
  | (j, sv) :: r, i, h => by
    simp only [frOf]
    cases hb : Nat.beq i j with
    | true =>
      have := Nat.eq_of_beq_eq_true hb; subst this
      obtain ⟨x, e1, e2⟩ := eqO_some h.1
      exact .inr (e1.trans e2.symm)
    | false => exact frV_look h.2
theorem HV_look {π : List (Nat × Option Nat)} {σ : St} : ∀ {l : List (Nat × OB)} {h : Nat} {ob : OB}, HV π σ l → HOf l h = some ob → (∃ p ∈ l, p.1 = h) ∧ ((∃ h' ob', tgt π h = some h' ∧ σ.H h' = some ob' ∧ ob.ren π = some ob') ∨ (tgt π h = none ∧ ∃ t k, ob = .row none 0 [] t k))
  | [], _, _, _, e => by cases e
  | (j, ob') :: r, h, ob, hv, e => by
    simp only [HOf] at e
    cases hb : Nat.beq h j with
    | true =>
      rw [hb] at e
      have := Nat.eq_of_beq_eq_true hb; subst this; cases e
      refine ⟨⟨(h, ob'), by simp, rfl⟩, ?_⟩
      have h1 := hv.1
      unfold HV1 at h1
      unfold tgt
      split at h1
      · rename_i e'; rw [e']; obtain ⟨x, e1, e2⟩ := eqO_some h1; exact .inl ⟨h, x, rfl, e2, e1⟩
      · rename_i h' e'; rw [e']; obtain ⟨x, e1, e2⟩ := eqO_some h1; exact .inl ⟨h', x, rfl, e2, e1⟩
      · rename_i e'
        rw [e']
        split at h1
        · injection h1 with h1 h2; subst h1 h2; exact .inr ⟨rfl, _, _, rfl⟩
        · exact h1.elim
    | false =>
      rw [hb] at e
      obtain ⟨⟨p, h1, h2⟩, h3⟩ := HV_look hv.2 e
      exact ⟨⟨p, by simp [h1], h2⟩, h3⟩
theorem injB_spec {π : List (Nat × Option Nat)} : ∀ {l : List (Nat × OB)}, injB π l = true → ∀ p ∈ l, ∀ q ∈ l, ∀ a, tgt π p.1 = some a → tgt π q.1 = some a → p.1 = q.1
  | [], _, p, hp, _, _, _, _, _ => by cases hp
  | x :: r, h, p, hp, q, hq, a, e1, e2 => by
    obtain ⟨xh, xo⟩ := x
    simp only [injB, Bool.and_eq_true, List.all_eq_true, Bool.or_eq_true] at h
    have key : ∀ q ∈ r, ∀ a, tgt π xh = some a → tgt π q.1 = some a → xh = q.1 := fun q hq a e1 e2 => by
      rcases h.1 q hq with h1 | h1
      · exact Nat.eq_of_beq_eq_true h1
      · rw [e1, e2] at h1; simp [tgtNe] at h1
    rcases List.mem_cons.1 hp with rfl | hp' <;> rcases List.mem_cons.1 hq with rfl | hq'
    · rfl
    · exact key q hq' a e1 e2
    · exact (key p hp' a e2 e1).symm
    · exact injB_spec h.2 p hp' q hq' a e1 e2
theorem avoid_spec {π : List (Nat × Option Nat)} {pb : List Nat} (h : avoid π pb = true) {k : Nat} (hk : k ∈ pb) : lookP π k = none := by
  unfold avoid at h
  induction π with
  | nil => rfl
  | cons p r ih =>
    simp only [List.all_cons, Bool.and_eq_true] at h
    simp only [lookP]
    cases hb : Nat.beq k p.1 with
    | true =>
      have := Nat.eq_of_beq_eq_true hb; subst this
      have := memN_iff.2 hk
      rw [this] at h; simp at h
    | false => exact ih h.2

/-- Own blocks told by other handles. -/
theorem Sim.ren {r : Root} {G0 G : Hp} {E : Nat → Value} {σ : St} {W : World} {π : List (Nat × Option Nat)} {hl : List (Nat × OB)} (hs : Sim r G0 E σ.H G W) (hv : HV π σ hl) (hi : injB π hl = true) :
    Sim r G0 (En E π) (HOf hl) G W ∧ ∀ h ob b, HOf hl h = some ob → blkOf (En E π h) = some b → ∃ h' ob', σ.H h' = some ob' ∧ blkOf (E h') = some b := by
  have hb : ∀ h ob b, HOf hl h = some ob → blkOf (En E π h) = some b → ∃ h' ob', tgt π h = some h' ∧ σ.H h' = some ob' ∧ ob.ren π = some ob' ∧ blkOf (E h') = some b := fun h ob b e e2 => by
    obtain ⟨_, h3 | ⟨h3, _⟩⟩ := HV_look hv e
    · obtain ⟨h', ob', k1, k2, k3⟩ := h3
      rw [En_tgt k1] at e2
      exact ⟨h', ob', k1, k2, k3, e2⟩
    · rw [En_nil h3] at e2; cases e2
  refine ⟨⟨hs.below, hs.sub, hs.newG, ?_, ?_, ?_, ?_⟩, fun h ob b e e2 => let ⟨h', ob', _, k2, _, k4⟩ := hb h ob b e e2; ⟨h', ob', k2, k4⟩⟩
  · intro h ob e
    obtain ⟨_, ⟨h', ob', k1, k2, k3⟩ | ⟨k1, t, k, rfl⟩⟩ := HV_look hv e
    · exact (OB.ok_ren k3 (hs.own h' ob' k2) k1).1
    · refine ⟨?_, (fun v hv => by cases hv), fun b hb => ?_⟩
      · rw [En_nil k1]; exact ⟨by simp, .inl ⟨rfl, rfl⟩⟩
      · rw [En_nil k1] at hb; cases hb
  · intro h ob v e e2
    obtain ⟨_, ⟨h', ob', k1, k2, k3⟩ | ⟨k1, t, k, rfl⟩⟩ := HV_look hv e
    · have := (OB.ok_ren k3 (hs.own h' ob' k2) k1).2
      rw [this] at e2
      rw [En_tgt k1]
      exact hs.pub h' ob' v k2 e2
    · cases e2
  · intro h ob e e2 b e3
    obtain ⟨h', ob', k1, k2, k3, k4⟩ := hb h ob b e e3
    have := (OB.ok_ren k3 (hs.own h' ob' k2) k1).2
    rw [this] at e2
    exact hs.priv h' ob' k2 e2 b k4
  · intro h ob h2 ob2 b e e2 e3 e4 e5
    obtain ⟨h', ob', k1, k2, k3, k4⟩ := hb h ob b e e4
    obtain ⟨h2', ob2', l1, l2, l3, l4⟩ := hb h2 ob2 b e2 e5
    have hp := (OB.ok_ren k3 (hs.own h' ob' k2) k1).2
    rw [hp] at e3
    have := hs.inj h' ob' h2' ob2' b k2 l2 e3 k4 l4
    subst this
    obtain ⟨⟨p, hp1, rfl⟩, _⟩ := HV_look hv e
    obtain ⟨⟨q, hq1, rfl⟩, _⟩ := HV_look hv e2
    exact injB_spec hi p hp1 q hq1 h' k1 l1

theorem S1.bd_ment {b : Nat} {x : S1} (h : x.bd b = true) : x.ment (· < b) := by
  cases x <;> first | trivial | (simpa [S1.bd, S1.ment] using h)
theorem allBd_ment {b : Nat} : ∀ {cs : List S1}, allBd b cs = true → ∀ c ∈ cs, c.ment (· < b)
  | [], _, _, h => by cases h
  | c :: cs, h, x, hx => by
    simp only [allBd] at h
    cases hb : c.bd b with
    | false => rw [hb] at h; cases h
    | true =>
      rw [hb] at h
      rcases List.mem_cons.1 hx with rfl | hx
      · exact S1.bd_ment hb
      · exact allBd_ment h x hx
theorem SV.bd_ment {b : Nat} {x : SV} (h : x.bd b = true) : x.ment (· < b) := by
  cases x with
  | c x => exact S1.bd_ment h
  | agg cs => exact allBd_ment h
theorem frBd_ment {b : Nat} : ∀ {l : List (Nat × SV)}, frBd b l = true → ∀ i, (frOf l i).ment (· < b)
  | [], _, _ => trivial
  | (j, sv) :: r, h, i => by
    simp only [frBd] at h
    cases hb : sv.bd b with
    | false => rw [hb] at h; cases h
    | true =>
      rw [hb] at h
      simp only [frOf]
      cases Nat.beq i j with
      | true => exact SV.bd_ment hb
      | false => exact frBd_ment h i
theorem HBd_ment {b : Nat} : ∀ {l : List (Nat × OB)}, HBd b l = true → ∀ i ob, HOf l i = some ob → i < b ∧ ob.ment (· < b)
  | [], _, _, _, e => by cases e
  | (j, ob') :: r, h, i, ob, e => by
    simp only [HBd] at h
    cases hb : (Nat.blt j b && ob'.bd b) with
    | false => rw [hb] at h; cases h
    | true =>
      rw [hb] at h
      simp only [HOf] at e
      cases hi : Nat.beq i j with
      | false => rw [hi] at e; exact HBd_ment h i ob e
      | true =>
        rw [hi] at e
        cases e
        have := Nat.eq_of_beq_eq_true hi; subst this
        rw [Bool.and_eq_true] at hb
        refine ⟨by simpa using hb.1, ?_⟩
        cases ob' with
        | cells p cs t => exact allBd_ment hb.2
        | row => trivial
        | map => trivial

def exitOf : Out → Exit
  | .norm => .normal
  | .exit id => .exit id
  | .ret => .ret

theorem stepR_scope {P : Program} {b : Frame} {a : Act} {k : List Item} {cs : List Frame} {w : World} {c : Code} : step P (lone (b.atR a (.code (.scope c) :: k)) cs w) = .next (lone (b.atR a (.code c :: .inScope c :: k)) cs w) :=
  step_lone_go (by simp [stepG, stepG.exec, Frame.atR])
theorem stepR_inScope {P : Program} {b : Frame} {a : Act} {k : List Item} {cs : List Frame} {w : World} {c : Code} : step P (lone (b.atR a (.inScope c :: k)) cs w) = .next (lone (b.atR a k) cs w) :=
  step_lone_go (by simp [stepG, stepG.exec, Frame.atR])
theorem wpIn_scope {P : Program} {F : Fence} {nn : Nat} {Q : Exit → Act → World → Prop} {a : Act} {w : World} {c : Code} (h : c.wpIn F nn P (Exit.noGoto Q) a w) : (Code.scope c).wpIn F nn P Q a w := by
  intro b k cs hro hb hr
  have h0 : (lone (b.atR a (.code (.scope c) :: k)) cs w).fenced P F := fenced_calm hb hr rfl
  obtain ⟨e, a₁, w₁, hq, harr⟩ := h b (.inScope c :: k) cs hro hb hr
  cases e with
  | normal => exact ⟨.normal, a₁, w₁, hq, .head h0 stepR_scope (StepsIn.trans harr (.one (fenced_calm hb hr rfl) stepR_inScope))⟩
  | exit id =>
    have hx : exitTo id (.inScope c :: k) = exitTo id k := by simp [exitTo]
    exact ⟨.exit id, a₁, w₁, hq, fun k' hk => .head h0 stepR_scope (harr.1 k' (by rw [hx]; exact hk)),
      fun hr' hk => let ⟨k₁, h1, h2⟩ := harr.2 hr' (by rw [hx]; exact hk); ⟨k₁, h1, .head h0 stepR_scope h2⟩⟩
  | goto l => exact hq.elim
  | ret => exact ⟨_, a₁, w₁, hq, .of_steps (.one h0 stepR_scope) harr⟩
  | panic ch => exact ⟨_, a₁, w₁, hq, .of_steps (.one h0 stepR_scope) harr⟩
  | outgrown => exact ⟨_, a₁, w₁, hq, .of_steps (.one h0 stepR_scope) harr⟩

theorem compC_le {P : Program} {nt : Nat} : ∀ (c : Code) {ic : IC} {b b2 : Nat}, compC P nt c b = some (ic, b2) → b ≤ b2 := by
  intro c
  induction c with
  | skip => intro ic b b2 h; cases h; exact Nat.le_refl _
  | region id ops draw =>
    intro ic b b2 h
    cases draw with
    | true =>
      simp only [compC] at h
      split at h
      · cases h; exact Nat.le_add_right _ _
      · cases h
    | false =>
      simp only [compC] at h
      split at h
      · cases h; exact Nat.le_add_right _ _
      · cases h
  | seq x y ihx ihy =>
    intro ic b b2 h
    simp only [compC] at h
    split at h
    · split at h
      · cases h; exact Nat.le_trans (ihx ‹_›) (ihy ‹_›)
      · cases h
    · cases h
  | cond q x y ihx ihy =>
    intro ic b b2 h
    simp only [compC] at h
    split at h
    · split at h
      · cases h; exact Nat.le_trans (ihx ‹_›) (ihy ‹_›)
      · cases h
    · cases h
  | block id x ih =>
    intro ic b b2 h
    simp only [compC] at h
    split at h
    · cases h; exact ih ‹_›
    · cases h
  | loop x ih =>
    intro ic b b2 h
    simp only [compC] at h
    split at h
    · cases h; exact ih ‹_›
    · cases h
  | exit id => intro ic b b2 h; cases h; exact Nat.le_refl _
  | ret => intro ic b b2 h; cases h; exact Nat.le_refl _
  | label l => intro ic b b2 h; cases h; exact Nat.le_refl _
  | scope x ih => intro ic b b2 h; exact ih h
  | rangeFunc g ps x y ihx ihy =>
    intro ic b b2 h
    simp only [compC] at h
    split at h
    · split at h
      · rename_i g' x' b' _ hx _ y' b3 hy
        cases hc : (noRange x' && noRange y' && ps.toList.all (fun p => Nat.blt p nt && Nat.blt p 1000000)) with
        | false => rw [hc] at h; cases h
        | true => rw [hc] at h; cases h; exact Nat.le_trans (ihx hx) (ihy hy)
      · cases h
    · cases h
  | _ => intros; simp [compC] at *

end
end Go.Pal
