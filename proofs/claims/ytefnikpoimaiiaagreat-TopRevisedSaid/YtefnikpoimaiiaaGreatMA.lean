/- The ghost heap, symbolic values, own blocks, and what it is for a world to fit a symbolic state: no program is spoken of. The intermediate form of operations, what each yields on symbolic values, and that the model's operation does so. Each operation of the model does what its intermediate form yields on symbolic values. Runs of the model's entries, as the intermediate form needs them. Each operation, on symbolic values: the plain ones. Each operation, on symbolic values: those that look at memory, make it or write it; calls. Each operation, on symbolic values: indexes, literals, append, calls; and all together. -/
import Derived.WalkKit
import Derived.OrdersIn
import Derived.Below
import Derived.Laws.AppendOwn
import Derived.RangeFuncNested
import Derived.WalkLawsBesides
set_option linter.unusedSimpArgs false
set_option linter.unusedVariables false
namespace Go.Pal
open Go.RowKit
abbrev Hp:=Nat→Option Obj

def Grow (G G':Hp):Prop:=∀ b o,G b = some o→G' b = some o
def Sub (G:Hp) (W:World):Prop:=∀ b o,G b = some o→W.heap[b]? = some o

theorem Grow.refl (G:Hp):Grow G G:=fun _ _ h=>h
theorem Grow.trans {G G' G'':Hp} (h:Grow G G') (h':Grow G' G''):Grow G G'':=fun b o e=>h' b o (h b o e)
theorem Sub.grow {G G':Hp} {W:World} (h:Grow G G') (h':Sub G' W):Sub G W:=fun b o e=>h' b o (h b o e)

def rd1 (G:Hp) (b off:Nat):Option Value :=
 match G b with
 | some (.cells c _ _)=>c[off]?
 | _=>none
def CellsAt (G:Hp) (b off:Nat) (cs:List Value):Prop:=∀ j v,cs[j]? = some v→rd1 G b (off + j) = some v

theorem rd1_grow {G G':Hp} (h:Grow G G') {b off:Nat} {v:Value} (e:rd1 G b off = some v):rd1 G' b off = some v:=by
 unfold rd1 at *
 cases hg:G b with
 | none=>simp [hg] at e
 | some o=>rw [h b o hg];simpa [hg] using e
theorem CellsAt.grow {G G':Hp} (h:Grow G G') {b off:Nat} {cs:List Value} (e:CellsAt G b off cs):CellsAt G' b off cs :=
 fun j v hj=>rd1_grow h (e j v hj)
theorem CellsAt.eq {G:Hp} {b off:Nat} {cs cs':List Value} (h:CellsAt G b off cs) (h':CellsAt G b off cs') (hl:cs.length = cs'.length):cs = cs':=by
 apply List.ext_getElem hl
 intro i h1 h2
 have a:=h i _ (List.getElem?_eq_getElem h1)
 have b:=h' i _ (List.getElem?_eq_getElem h2)
 rw [a] at b
 exact Option.some.inj b
theorem rd1_cell {G:Hp} {W:World} (h:Sub G W) {b off:Nat} {v:Value} (e:rd1 G b off = some v):W.cell? ⟨b,off,none⟩ = some v:=by
 unfold rd1 at e
 unfold World.cell?
 cases hg:G b with
 | none=>simp [hg] at e
 | some o=>rw [show W.heap[(⟨b,off,none⟩:Addr).block]? = some o from h b o hg];cases o<;>simp_all

def ab (a:Option Addr):Nat:=(a.getD default).block
def ao (a:Option Addr):Nat:=(a.getD default).off
@[simp] theorem ab_some (b off:Nat):ab (some ⟨b,off,none⟩) = b:=rfl
@[simp] theorem ao_some (b off:Nat):ao (some ⟨b,off,none⟩) = off:=rfl
structure SlR {α:Type} (k:Nat) (R:Hp→List Value→α→Prop) (G:Hp) (a:Option Addr) (n c:Nat) (l:List α):Prop where
 len:l.length = n
 cap:n≤c
 some:n≠0→a = some ⟨ab a,ao a,none⟩
 at_:∀ i (h:i < l.length), ∃ cs,cs.length = k∧CellsAt G (ab a) (ao a + i * k) cs∧R G cs l[i]

theorem SlR.grow {α:Type} {k:Nat} {R:Hp→List Value→α→Prop} {G G':Hp} {a:Option Addr} {n c:Nat} {l:List α} (hR:∀ cs x,R G cs x→R G' cs x) (h:SlR k R G a n c l) (g:Grow G G'):SlR k R G' a n c l :=
 ⟨h.len,h.cap,h.some,fun i hi=>let ⟨cs,h1,h2,h3⟩:=h.at_ i hi;⟨cs,h1,h2.grow g,hR _ _ h3⟩⟩

/-! ### Symbolic values -/

inductive S1 where
 | any
 | val (v:Value)
 | sb (b:Bool)
 | ptr (h off:Nat)
 | rptr (h off:Nat)
 | row (h n:Nat)
 | mref (h:Nat)
 | ptrx (h off:Nat)
 | pre (h n:Nat)
 | pos (k:Nat) (st:Bool)

inductive SV where
 | c (x:S1)
 | agg (cs:List S1)

abbrev SV.v (v:Value):SV:=.c (.val v)

def S1.rel (E:Nat→Value):S1→Value→Prop
 | .any,_=>True
 | .val v,x=>x = v
 | .sb b,x=>x = .bool b
 | .ptr h off,x=>∃ b,E h = .pointer (some ⟨b,0,none⟩)∧x = .pointer (some ⟨b,off,none⟩)
 | .rptr h off,x=>∃ b n c,E h = .slice (some ⟨b,0,none⟩) n c∧x = .pointer (some ⟨b,off,none⟩)
 | .row h n,x=>x = E h∧∃ a c,E h = .slice a n c
 | .mref h,x=>x = E h∧∃ b,E h = .map (some b)
 | .ptrx h off,x=>∃ b,E h = .pointer (some ⟨b,0,none⟩)∧x = .pointer (some ⟨b,off,none⟩)
 | .pre h n,x=>∃ b m c,E h = .slice (some ⟨b,0,none⟩) m c∧x = .slice (some ⟨b,0,none⟩) n c
 | .pos _ _,_=>True

def relL (E:Nat→Value):List S1→List Value→Prop
 | [],[]=>True
 | c :: cs,v :: vs=>c.rel E v∧relL E cs vs
 | _,_=>False

def SV.rel (E:Nat→Value):SV→Value→Prop
 | .c x,v=>x.rel E v
 | .agg cs,v=>∃ vs:List Value,v = .agg vs.toArray∧relL E cs vs

theorem relL_len {E:Nat→Value}:∀ {cs:List S1} {vs:List Value},relL E cs vs→cs.length = vs.length
 | [],[],_=>rfl
 | _ :: _,_ :: _,h=>by simp [relL_len h.2]
 | [],_ :: _,h=>h.elim
 | _ :: _,[],h=>h.elim

theorem relL_vals (E:Nat→Value):∀ vs:List Value,relL E (vs.map .val) vs
 | []=>trivial
 | _ :: vs=>⟨rfl,relL_vals E vs⟩
theorem relL_drop {E:Nat→Value}:∀ (n:Nat) {cs:List S1} {vs:List Value},relL E cs vs→relL E (cs.drop n) (vs.drop n)
 | 0,_,_,h=>h
 | _ + 1,[],[],_=>trivial
 | n + 1,_ :: _,_ :: _,h=>relL_drop n h.2
 | _ + 1,[],_ :: _,h=>h.elim
 | _ + 1,_ :: _,[],h=>h.elim
theorem relL_take {E:Nat→Value}:∀ (n:Nat) {cs:List S1} {vs:List Value},relL E cs vs→relL E (cs.take n) (vs.take n)
 | 0,_,_,_=>trivial
 | _ + 1,[],[],_=>trivial
 | n + 1,_ :: _,_ :: _,h=>⟨h.1,relL_take n h.2⟩
 | _ + 1,[],_ :: _,h=>h.elim
 | _ + 1,_ :: _,[],h=>h.elim
theorem relL_append {E:Nat→Value}:∀ {cs ds:List S1} {vs ws:List Value},relL E cs vs→relL E ds ws→relL E (cs++ds) (vs++ws)
 | [],_,[],_,_,h=>h
 | _ :: _,_,_ :: _,_,h,h'=>⟨h.1,relL_append h.2 h'⟩
 | [],_,_ :: _,_,h,_=>h.elim
 | _ :: _,_,[],_,h,_=>h.elim
def S1.ment (M:Nat→Prop):S1→Prop
 | .ptr h _ | .rptr h _ | .row h _ | .mref h | .ptrx h _ | .pre h _=>M h
 | _=>True
def SV.ment (M:Nat→Prop):SV→Prop
 | .c x=>x.ment M
 | .agg cs=>∀ c∈cs,c.ment M

/-! ### Own blocks -/
structure Root where
 w:World
 ln:Nat→Prop
 ds:List Deferred
def Root.mine (r:Root) (b:Nat):Prop:=r.w.heap.size≤b∨r.ln b
def Root.of (w:World):Root:=⟨w,fun _=>False,[]⟩

structure Beneath (r:Root) (W:World):Prop where
 os:W.os = r.w.os
 tape:W.tape = r.w.tape
 output:W.output = r.w.output
 size:r.w.heap.size≤W.heap.size
 block:∀ k,k < r.w.heap.size→¬ r.ln k→W.heap[k]? = r.w.heap[k]?
theorem Beneath.refl (r:Root):Beneath r r.w:=⟨rfl,rfl,rfl,Nat.le_refl _,fun _ _ _=>rfl⟩
theorem Beneath.trans {r:Root} {W W':World} (h:Beneath r W) (hB:Below W.heap.size W W'):Beneath r W' :=
 ⟨hB.os.trans h.os,hB.tape.trans h.tape,hB.output.trans h.output,Nat.le_trans h.size hB.size,fun k hk hn=>(hB.block k (Nat.lt_of_lt_of_le hk h.size)).trans (h.block k hk hn)⟩
theorem Beneath.below {w W:World} (h:Beneath (Root.of w) W):Below w.heap.size w W:=⟨h.os,h.tape,h.output,h.size,fun k hk=>h.block k hk id⟩
theorem Beneath.mine_new {r:Root} {W:World} (h:Beneath r W) {b:Nat} (hb:W.heap.size≤b):r.mine b:=.inl (Nat.le_trans h.size hb)
inductive Nm where
 | anon
 | named (b:Nat)
 | pub (b:Nat)
def Nm.at_:Nm→Nat→Prop
 | .anon,_=>True
 | .named b',b=>b' = b
 | .pub b',b=>b' = b
def Nm.own:Nm→Bool
 | .pub _=>false
 | _=>true

inductive OB where
 | cells (s:Nm) (cs:List S1) (t:TypeId)
 | row (p:Option Value) (n:Nat) (vs:List Value) (t:TypeId) (k:Nat)
 | map (s:Nm) (es:Array MapEntry) (clock:Nat)
 | xrow (b n cap:Nat) (vs rest:List Value) (t:TypeId) (k:Nat)
 | heap (p:Hp)

def blkOf:Value→Option Nat
 | .pointer (some a)=>some a.block
 | .slice (some a) _ _=>some a.block
 | .map r=>r
 | _=>none
def OB.has (ob:OB) (v:Value) (b:Nat):Prop:=match ob with
 | .heap p=>∃ o,p b = some o
 | _=>blkOf v = some b

def Nm.val:Nm→Option Value
 | .pub b=>some (.pointer (some ⟨b,0,none⟩))
 | _=>none
theorem Nm.val_own {s:Nm} (h:s.own = true):s.val = none:=by cases s<;>first | rfl | cases h
def OB.pub:OB→Option Value
 | .cells s _ _=>s.val
 | .row p _ _ _ _=>p
 | .map _ _ _=>none
 | .xrow ..=>none
 | .heap _=>none

def OB.ment (M:Nat→Prop):OB→Prop
 | .cells _ cs _=>∀ c∈cs,c.ment M
 | .row ..=>True
 | .map ..=>True
 | .xrow ..=>True
 | .heap _=>True

def OB.ok (r:Root) (E:Nat→Value) (W:World) (h:Nat):OB→Prop
 | .cells s cs t=>∃ b vs,E h = .pointer (some ⟨b,0,none⟩)∧r.mine b∧W.heap[b]? = some (.cells vs.toArray t (0,0))∧relL E cs vs∧(∀ v∈vs,v.oneCell' = true)∧s.at_ b
 | .row _ n vs t k=>W.ownsRow 0 t k (E h) n vs∧(∀ v∈vs,v.oneCell' = true)∧∀ b,blkOf (E h) = some b→r.mine b
 | .map s es clock=>∃ b,E h = .map (some b)∧r.mine b∧W.heap[b]? = some (.map es clock)∧s.at_ b
 | .xrow b n cap vs rest t k=>E h = .slice (some ⟨b,0,none⟩) n cap∧r.mine b∧W.heap[b]? = some (.cells (vs++rest).toArray t (0,0))∧vs.length = n * k∧rest.length = (cap - n) * k∧n≤cap∧cap≤maxLen∧∀ v∈vs,v.oneCell' = true
 | .heap p=>∀ b o,p b = some o→r.mine b∧W.heap[b]? = some o

def Nm.num:Nm→Option Nat
 | .anon=>none
 | .named b=>some b
 | .pub b=>some b
def OB.name:OB→Option Value
 | .cells s _ _=>match s.num with
  | some b=>some (.pointer (some ⟨b,0,none⟩))
  | none=>none
 | .row p _ _ _ _=>p
 | .map s _ _=>match s.num with
  | some b=>some (.map (some b))
  | none=>none
 | .xrow b n cap _ _ _ _=>some (.slice (some ⟨b,0,none⟩) n cap)
 | .heap _=>none
structure St where
 fr:Nat→SV
 H:Nat→Option OB
 G:Hp
abbrev POS:Nat:=1000000

def upd {α:Type} (f:Nat→α) (i:Nat) (x:α):Nat→α:=fun j=>cond (Nat.beq j i) x (f j)
theorem upd_same {α:Type} (f:Nat→α) (i:Nat) (x:α):upd f i x i = x:=by
 have:Nat.beq i i = true:=Nat.beq_refl i
 simp [upd,this]
theorem upd_other {α:Type} (f:Nat→α) {i j:Nat} (x:α) (h:j≠i):upd f i x j = f j:=by
 have:Nat.beq j i = false:=by
  cases hb:Nat.beq j i with
  | false=>rfl
  | true=>exact absurd (Nat.eq_of_beq_eq_true hb) h
 simp [upd,this]
theorem upd_comm {α:Type} (f:Nat→α) {i j:Nat} (x y:α) (h:i≠j):upd (upd f i x) j y = upd (upd f j y) i x:=by
 funext k
 by_cases hi:k = i
 ·subst hi;rw [upd_other _ _ h,upd_same,upd_same]
 ·by_cases hj:k = j
  ·subst hj;rw [upd_same,upd_other _ _ hi,upd_same]
  ·rw [upd_other _ _ hj,upd_other _ _ hi,upd_other _ _ hi,upd_other _ _ hj]
structure Sim (w0:Root) (G0:Hp) (E:Nat→Value) (H:Nat→Option OB) (G:Hp) (W:World):Prop where
 below:Beneath w0 W
 sub:Sub G W
 newG:∀ b o,G b = some o→G0 b = some o∨w0.mine b
 own:∀ h ob,H h = some ob→ob.ok w0 E W h
 pub:∀ h ob v,H h = some ob→ob.pub = some v→E h = v∧∀ b,blkOf v = some b→G b = W.heap[b]?
 priv:∀ h ob,H h = some ob→ob.pub = none→∀ b,ob.has (E h) b→G b = none
 inj:∀ h ob h' ob' b,H h = some ob→H h' = some ob'→ob.pub = none→ob.has (E h) b→ob'.has (E h') b→h = h'
theorem Sim.turn {w0:Root} {G0 G G':Hp} {E:Nat→Value} {H:Nat→Option OB} {W W':World} (h:Sim w0 G0 E H G W) {p p':Hp} (h0:H 0 = some (.heap p)) (hB:Beneath ⟨W,fun b=>∃ o,p b = some o,[]⟩ W')
  (hp':∀ b o,p' b = some o→W'.heap[b]? = some o∧G' b = none∧((∃ o,p b = some o)∨W.heap.size≤b)) (hg:Grow G G') (hs:Sub G' W') (hn:∀ b o,G' b = some o→G b = some o∨(∃ o,p b = some o)∨W.heap.size≤b) (hlow:∀ h ob b,H h = some ob→ob.has (E h) b→b < W.heap.size)
  (hkeep:∀ h ob W',H h = some ob→ob.ok w0 E W h→(∀ b,ob.has (E h) b→W'.heap[b]? = W.heap[b]?)→ob.ok w0 E W' h) (hmine:∀ b o,p b = some o→w0.mine b) (hhp:∀ (v:Value) (b:Nat) (ob:OB) (u:Value),ob.pub = some u→(ob.has v b↔blkOf v = some b)):Sim w0 G0 E (fun i=>cond (Nat.beq i 0) (some (.heap p')) (H i)) G' W':=by
 have hne:∀ {i ob},(fun i=>cond (Nat.beq i 0) (some (OB.heap p')) (H i)) i = some ob→i≠0→H i = some ob:=fun {i ob} e hi=>by
  have:Nat.beq i 0 = false:=by
   cases hb:Nat.beq i 0 with
   | false=>rfl
   | true=>exact absurd (Nat.eq_of_beq_eq_true hb) hi
  simpa [this] using e
 have hat:∀ {i ob},(fun i=>cond (Nat.beq i 0) (some (OB.heap p')) (H i)) i = some ob→i = 0→ob = .heap p':=fun {i ob} e hi=>by
  subst hi
  have e:some (OB.heap p') = some ob:=e
  cases e;rfl
 have off:∀ {i ob b},H i = some ob→i≠0→ob.has (E i) b→¬ ∃ o,p b = some o:=fun {i ob b} e hi hb hp=>hi (h.inj 0 _ i ob b h0 e rfl hp hb).symm
 have same:∀ {i ob b},H i = some ob→i≠0→ob.has (E i) b→W'.heap[b]? = W.heap[b]?:=fun {i ob b} e hi hb=>hB.block b (hlow i ob b e hb) (off e hi hb)
 refine ⟨⟨hB.os.trans h.below.os,hB.tape.trans h.below.tape,hB.output.trans h.below.output,Nat.le_trans h.below.size hB.size,fun k hk hl=>?_⟩,hs, ?_, ?_, ?_, ?_, ?_⟩
 ·refine (hB.block k (Nat.lt_of_lt_of_le hk h.below.size) (fun ⟨o,hp⟩=>?_)).trans (h.below.block k hk hl)
  rcases hmine k o hp with h1 | h1
  ·omega
  ·exact hl h1
 ·intro b o e
  rcases hn b o e with h1 | ⟨o',h1⟩ | h1
  ·exact h.newG b o h1
  ·exact .inr (hmine b o' h1)
  ·exact .inr (h.below.mine_new h1)
 ·intro i ob e
  by_cases hi:i = 0
  ·have:=hat e hi;subst this
   intro b o hb
   obtain ⟨q1,_,q3⟩:=hp' b o hb
   exact ⟨q3.elim (fun ⟨o',q⟩=>hmine b o' q) (fun q=>h.below.mine_new q),q1⟩
  ·have e':=hne e hi
   exact hkeep i ob W' e' (h.own i ob e') (fun b hb=>same e' hi hb)
 ·intro i ob v e e2
  by_cases hi:i = 0
  ·have:=hat e hi;subst this;cases e2
  ·have e':=hne e hi
   obtain ⟨e3,e4⟩:=h.pub i ob v e' e2
   refine ⟨e3,fun b hb=>?_⟩
   have hb':ob.has (E i) b:=(hhp _ _ _ _ e2).2 (by rw [e3];exact hb)
   rw [same e' hi hb']
   have e5:=e4 b hb
   have hlt:=hlow i ob b e' hb'
   rw [Array.getElem?_eq_getElem hlt] at e5 ⊢
   exact hg b _ e5
 ·intro i ob e e2 b hb
  by_cases hi:i = 0
  ·have:=hat e hi;subst this
   obtain ⟨o,ho⟩:=hb
   exact (hp' b o ho).2.1
  ·have e':=hne e hi
   have hG:=h.priv i ob e' e2 b hb
   cases hG':G' b with
   | none=>rfl
   | some o =>
    rcases hn b o hG' with h1 | h1 | h1
    ·rw [hG] at h1;cases h1
    ·exact (off e' hi hb h1).elim
    ·have:=hlow i ob b e' hb;omega
 ·intro i ob j ob' b e e2 e3 hb hb'
  by_cases hi:i = 0<;>by_cases hj:j = 0
  ·rw [hi,hj]
  ·have:=hat e hi;subst this
   have e2':=hne e2 hj
   obtain ⟨o,ho⟩:=hb
   rcases (hp' b o ho).2.2 with h1 | h1
   ·exact (off e2' hj hb' h1).elim
   ·have:=hlow j ob' b e2' hb';omega
  ·have:=hat e2 hj;subst this
   have e':=hne e hi
   obtain ⟨o,ho⟩:=hb'
   rcases (hp' b o ho).2.2 with h1 | h1
   ·exact (off e' hi hb h1).elim
   ·have:=hlow i ob b e' hb;omega
  ·exact h.inj i ob j ob' b (hne e hi) (hne e2 hj) e3 hb hb'

structure Sat (w0:Root) (G0:Hp) (n:Nat) (M:Nat→Prop) (E:Nat→Value) (σ:St) (a:Act) (W:World):Prop where
 sim:Sim w0 G0 E σ.H σ.G W
 mfr:∀ i,(σ.fr i).ment M
 mH:∀ h ob, σ.H h = some ob→M h∧ob.ment M
 fr:∀ i,(σ.fr i).rel E (a.tmps.getD i undef)
 size:a.tmps.size = n
 defers:a.defers = w0.ds

section
variable {w0:Root} {W W':World} {G0 G G':Hp} {E:Nat→Value} {H:Nat→Option OB}

theorem OB.has_pub {ob:OB} {v u:Value} {b:Nat} (hp:ob.pub = some u):ob.has v b↔blkOf v = some b:=by
 cases ob with
 | heap p=>cases hp
 | _=>exact Iff.rfl
theorem OB.blk {ob:OB} {h:Nat} (ho:ob.ok w0 E W h) {b:Nat} (hb:ob.has (E h) b):w0.mine b∧b < W.heap.size:=by
 cases ob with
 | heap p =>
  obtain ⟨o,ho'⟩:=hb
  obtain ⟨h1,h2⟩:=ho b o ho'
  exact ⟨h1,(Array.getElem?_eq_some_iff.1 h2).1⟩
 | cells s cs t =>
  obtain ⟨b',vs,e,hb',hw,_⟩:=ho
  replace hb:blkOf (E h) = some b:=hb
  rw [e] at hb;simp only [blkOf,Option.some.injEq] at hb;subst hb
  exact ⟨hb',(Array.getElem?_eq_some_iff.1 hw).1⟩
 | row p n vs t k =>
  obtain ⟨ho,_,hm⟩:=ho
  replace hb:blkOf (E h) = some b:=hb
  refine ⟨hm b hb, ?_⟩
  rcases ho.2 with ⟨e,_⟩ | ⟨g,cap,cur,e,_,hw,_⟩
  ·rw [e] at hb;cases hb
  ·rw [e] at hb;cases hb;exact (Array.getElem?_eq_some_iff.1 hw).1
 | map s es clock =>
  obtain ⟨b',e,hb',hw,_⟩:=ho
  replace hb:blkOf (E h) = some b:=hb
  rw [e] at hb;simp only [blkOf,Option.some.injEq] at hb;subst hb
  exact ⟨hb',(Array.getElem?_eq_some_iff.1 hw).1⟩
 | xrow b' n cap vs rest t k =>
  obtain ⟨e,hb',hw,_⟩:=ho
  replace hb:blkOf (E h) = some b:=hb
  rw [e] at hb;simp only [blkOf,Option.some.injEq] at hb;subst hb
  exact ⟨hb',(Array.getElem?_eq_some_iff.1 hw).1⟩
theorem OB.ok_kept {ob:OB} {h:Nat} (ho:ob.ok w0 E W h) (hk:∀ b,ob.has (E h) b→W'.heap[b]? = W.heap[b]?):ob.ok w0 E W' h:=by
 cases ob with
 | heap p=>exact fun b o e=>⟨(ho b o e).1,(hk b ⟨o,e⟩).trans (ho b o e).2⟩
 | cells s cs t =>
  obtain ⟨b',vs,e,hb',hw,hr⟩:=ho
  exact ⟨b',vs,e,hb',by rw [hk b' (show blkOf (E h) = _ by rw [e];rfl)];exact hw,hr⟩
 | row p n vs t k =>
  obtain ⟨ho,hc,hm⟩:=ho
  refine ⟨⟨ho.1, ?_⟩,hc,hm⟩
  rcases ho.2 with hn | ⟨g,cap,cur,e,hb,hg,rest⟩
  ·exact .inl hn
  ·exact .inr ⟨g,cap,cur,e,hb,by rw [hk g (show blkOf (E h) = _ by rw [e];rfl)];exact hg,rest⟩
 | map s es clock =>
  obtain ⟨b',e,hb',hw,hr⟩:=ho
  exact ⟨b',e,hb',by rw [hk b' (show blkOf (E h) = _ by rw [e];rfl)];exact hw,hr⟩
 | xrow b' n cap vs rest t k =>
  obtain ⟨e,hb',hw,hr⟩:=ho
  exact ⟨e,hb',by rw [hk b' (show blkOf (E h) = _ by rw [e];rfl)];exact hw,hr⟩
theorem OB.xrow_own {b n cap:Nat} {vs rest:List Value} {t:TypeId} {k h:Nat} (ho:(OB.xrow b n cap vs rest t k).ok w0 E W h):W.ownsRow 0 t k (E h) n vs∧(∀ v∈vs,v.oneCell' = true)∧∀ b,blkOf (E h) = some b→w0.mine b:=by
 obtain ⟨e,hb',hw,h1,h2,h3,h4,h5⟩:=ho
 refine ⟨⟨h1, .inr ⟨b,cap,_,e,Nat.zero_le _,hw,h3,h4, ?_, ?_⟩⟩,h5,fun b' hb=>?_⟩
 ·simp only [List.size_toArray,List.length_append,h1,h2, ← Nat.add_mul]
  congr 1;omega
 ·rw [← h1];simp
 ·rw [e] at hb;simp only [blkOf,Option.some.injEq] at hb;subst hb;exact hb'
theorem Sim.keep (h:Sim w0 G0 E H G W) (hB:Below W.heap.size W W'):Sim w0 G0 E H G W':=by
 have hlt:∀ h1 ob b,H h1 = some ob→ob.has (E h1) b→W'.heap[b]? = W.heap[b]?:=fun h1 ob b e hb =>
  hB.block b (OB.blk (h.own h1 ob e) hb).2
 refine ⟨h.below.trans hB, ?_,h.newG,fun h1 ob e=>OB.ok_kept (h.own h1 ob e) (fun b hb=>hlt h1 ob b e hb), ?_,h.priv,h.inj⟩
 ·intro b o e
  have:=h.sub b o e
  rw [hB.block b (Array.getElem?_eq_some_iff.1 this).1];exact this
 ·intro h1 ob v e1 e2
  obtain ⟨e3,e4⟩:=h.pub h1 ob v e1 e2
  refine ⟨e3,fun b hb=>?_⟩
  rw [hlt h1 ob b e1 ((OB.has_pub e2).2 (by rw [e3];exact hb))];exact e4 b hb
theorem Sim.grow (h:Sim w0 G0 E H G W) (hg:Grow G G') (hs:Sub G' W) (hn:∀ b o,G' b = some o→G b = some o∨(w0.mine b∧∀ h1 ob,H h1 = some ob→¬ ob.has (E h1) b)):Sim w0 G0 E H G' W:=by
 refine ⟨h.below,hs, ?_,h.own, ?_, ?_,h.inj⟩
 ·intro b o e
  rcases hn b o e with e' | ⟨e',_⟩
  ·exact h.newG b o e'
  ·exact .inr e'
 ·intro h1 ob v e1 e2
  obtain ⟨e3,e4⟩:=h.pub h1 ob v e1 e2
  refine ⟨e3,fun b hb=>?_⟩
  have hb':ob.has (E h1) b:=(OB.has_pub e2).2 (by rw [e3];exact hb)
  have hlt:=(OB.blk (h.own h1 ob e1) hb').2
  have e5:=e4 b hb
  rw [Array.getElem?_eq_getElem hlt] at e5 ⊢
  exact hg b _ e5
 ·intro h1 ob e1 e2 b hb
  cases hG:G' b with
  | none=>rfl
  | some o =>
   rcases hn b o hG with e' | ⟨_,e'⟩
   ·have:=h.priv h1 ob e1 e2 b hb;rw [this] at e';cases e'
   ·exact (e' h1 ob e1 hb).elim

theorem Sim.name (h:Sim w0 G0 E H G W) {i:Nat} {ob:OB} {v:Value} (hi:H i = some ob) (hn:ob.name = some v):E i = v:=by
 cases ob with
 | cells s cs t =>
  obtain ⟨b,vs,e,_,_,_,_,hat⟩:=h.own i _ hi
  rw [e]
  cases s<;>simp only [OB.name,Nm.num,Nm.at_] at hn hat<;>first | (cases hn;done) | (cases hn;rw [hat])
 | row p n vs t k =>
  simp only [OB.name] at hn
  exact (h.pub i _ v hi hn).1
 | map s es clock =>
  obtain ⟨b,e,_,_,hat⟩:=h.own i _ hi
  rw [e]
  cases s<;>simp only [OB.name,Nm.num,Nm.at_] at hn hat<;>first | (cases hn;done) | (cases hn;rw [hat])
 | xrow b n cap vs rest t k =>
  cases hn
  exact (h.own i _ hi).1
 | heap p=>cases hn
theorem Sim.drop {H':Nat→Option OB} (h:Sim w0 G0 E H G W) (hH:∀ i ob,H' i = some ob→H i = some ob):Sim w0 G0 E H' G W :=
 ⟨h.below,h.sub,h.newG,fun i ob e=>h.own i ob (hH i ob e),fun i ob v e=>h.pub i ob v (hH i ob e),fun i ob e=>h.priv i ob (hH i ob e),fun i ob i' ob' b e e'=>h.inj i ob i' ob' b (hH i ob e) (hH i' ob' e')⟩

end
def Agree (M:Nat→Prop) (E E':Nat→Value):Prop:=∀ k,M k→E' k = E k
theorem Agree.refl (M:Nat→Prop) (E:Nat→Value):Agree M E E:=fun _ _=>rfl
theorem Agree.upd {M:Nat→Prop} (E:Nat→Value) {h:Nat} (v:Value) (hh:¬ M h):Agree M E (upd E h v):=fun k hk=>upd_other E v (fun e=>hh (e ▸ hk))

theorem S1.rel_agree {E E':Nat→Value} {M:Nat→Prop} {x:S1} {y:Value} (hr:x.rel E y) (hm:x.ment M) (hh:Agree M E E'):x.rel E' y:=by
 cases x with
 | any=>trivial
 | val _=>exact hr
 | sb _=>exact hr
 | ptr k o=>simp only [S1.rel,hh k hm];exact hr
 | rptr k o=>simp only [S1.rel,hh k hm];exact hr
 | row k n=>simp only [S1.rel,hh k hm];exact hr
 | mref k=>simp only [S1.rel,hh k hm];exact hr
 | ptrx k o=>simp only [S1.rel,hh k hm];exact hr
 | pre k n=>simp only [S1.rel,hh k hm];exact hr
 | pos _ _=>trivial
theorem relL_agree {E E':Nat→Value} {M:Nat→Prop} (hh:Agree M E E'):∀ {cs:List S1} {vs:List Value},relL E cs vs→(∀ c∈cs,c.ment M)→relL E' cs vs
 | [],[],_,_=>trivial
 | _ :: _,_ :: _,hr,hm=>⟨S1.rel_agree hr.1 (hm _ (by simp)) hh,relL_agree hh hr.2 (fun c hc=>hm c (by simp [hc]))⟩
 | [],_ :: _,hr,_=>hr.elim
 | _ :: _,[],hr,_=>hr.elim
theorem SV.rel_agree {E E':Nat→Value} {M:Nat→Prop} {x:SV} {y:Value} (hr:x.rel E y) (hm:x.ment M) (hh:Agree M E E'):x.rel E' y:=by
 cases x with
 | c x=>exact S1.rel_agree hr hm hh
 | agg cs=>obtain ⟨vs,e,hr⟩:=hr;exact ⟨vs,e,relL_agree hh hr hm⟩
theorem OB.ok_agree {r:Root} {E E':Nat→Value} {W:World} {M:Nat→Prop} {k:Nat} {ob:OB} (ho:ob.ok r E W k) (hm:ob.ment M) (hk:M k) (hh:Agree M E E'):ob.ok r E' W k:=by
 cases ob with
 | cells s cs t =>
  obtain ⟨b,vs,e,h1,h2,h3,h4⟩:=ho
  exact ⟨b,vs,by rw [hh k hk];exact e,h1,h2,relL_agree hh h3 hm,h4⟩
 | row p n vs t k'=>simp only [OB.ok,hh k hk];exact ho
 | map s es clock=>simp only [OB.ok,hh k hk];exact ho
 | xrow b n cap vs rest t k'=>simp only [OB.ok,hh k hk];exact ho
 | heap p=>exact ho

theorem S1.ment_mono {M M':Nat→Prop} (h:∀ k,M k→M' k) {x:S1} (hx:x.ment M):x.ment M':=by cases x<;>first | trivial | exact h _ hx
theorem SV.ment_mono {M M':Nat→Prop} (h:∀ k,M k→M' k) {x:SV} (hx:x.ment M):x.ment M':=by
 cases x with
 | c x=>exact S1.ment_mono h hx
 | agg cs=>exact fun c hc=>S1.ment_mono h (hx c hc)
theorem OB.ment_mono {M M':Nat→Prop} (h:∀ k,M k→M' k) {x:OB} (hx:x.ment M):x.ment M':=by
 cases x with
 | cells s cs t=>exact fun c hc=>S1.ment_mono h (hx c hc)
 | row=>trivial
 | map=>trivial
 | xrow=>trivial
 | heap=>trivial
theorem Sim.new' {w0:Root} {W W':World} {G0 G:Hp} {E:Nat→Value} {H:Nat→Option OB} {M:Nat→Prop} (h:Sim w0 G0 E H G W) (row:Option Nat) (hg:W.grownBy W' row)
  (hrow:∀ r,row = some r→w0.mine r∧G r = none∧∀ k ob,H k = some ob→¬ ob.has (E k) r) {i:Nat} {v:Value} {ob:OB}
  (hi:¬ M i) (hm:∀ k ob',H k = some ob'→M k∧ob'.ment M)
  (hok:ob.ok w0 (upd E i v) W' i) (hp:ob.pub = none) (hnew:∀ b,ob.has v b→W.heap.size≤b∨row = some b):Sim w0 G0 (upd E i v) (upd H i (some ob)) G W':=by
 have hne:∀ k ob',H k = some ob'→k≠i:=fun k ob' e e'=>hi (e' ▸ (hm k ob' e).1)
 have other:∀ k ob2,H k = some ob2→∀ b2,ob2.has (E k) b2→W'.heap[b2]? = W.heap[b2]?:=fun k ob2 e b2 e2 =>
  hg.block b2 (OB.blk (h.own k ob2 e) e2).2 (fun hb=>(hrow b2 hb.symm).2.2 k ob2 e e2)
 refine ⟨⟨hg.os.trans h.below.os,hg.tape.trans h.below.tape,hg.output.trans h.below.output,Nat.le_trans h.below.size hg.size,fun k hlt hn=>(hg.block k (Nat.lt_of_lt_of_le hlt h.below.size) (fun e=>(hrow k e.symm).1.elim (by omega) hn)).trans (h.below.block k hlt hn)⟩, ?_,h.newG, ?_, ?_, ?_, ?_⟩
 ·intro k o e
  have h1:=h.sub k o e
  rw [hg.block k (Array.getElem?_eq_some_iff.1 h1).1 (fun e2=>by have:=(hrow k e2.symm).2.1;rw [this] at e;cases e)];exact h1
 ·intro k ob' e
  by_cases hk:k = i
  ·subst hk;rw [upd_same] at e;cases e;exact hok
  ·rw [upd_other _ _ hk] at e
   exact OB.ok_agree (OB.ok_kept (h.own k ob' e) (other k ob' e)) (hm k ob' e).2 (hm k ob' e).1 (Agree.upd E v hi)
 ·intro k ob' u e e'
  by_cases hk:k = i
  ·subst hk;rw [upd_same] at e;cases e;rw [hp] at e';cases e'
  ·rw [upd_other _ _ hk] at e ⊢
   obtain ⟨e3,e4⟩:=h.pub k ob' u e e'
   exact ⟨e3,fun b hb=>by rw [other k ob' e b ((OB.has_pub e').2 (by rw [e3];exact hb))];exact e4 b hb⟩
 ·intro k ob' e e' b hb
  by_cases hk:k = i
  ·subst hk
   rw [upd_same] at hb e;cases e
   cases hG:G b with
   | none=>rfl
   | some o =>
    have h1:=(Array.getElem?_eq_some_iff.1 (h.sub b o hG)).1
    rcases hnew b hb with h2 | h2
    ·omega
    ·have:=(hrow b h2).2.1;rw [this] at hG;cases hG
  ·rw [upd_other _ _ hk] at e hb
   exact h.priv k ob' e e' b hb
 ·intro k ob' k' ob2 b e e2 e3 e4 e5
  have low:∀ j oj,H j = some oj→oj.has (E j) b→b < W.heap.size∧row≠some b:=fun j oj ej eb=>⟨(OB.blk (h.own j oj ej) eb).2,fun e=>(hrow b e).2.2 j oj ej eb⟩
  have no:ob.has v b→∀ j oj,H j = some oj→oj.has (E j) b→False:=fun ev j oj ej eb=>by
   have h1:=low j oj ej eb
   rcases hnew b ev with h2 | h2
   ·omega
   ·exact h1.2 h2
  by_cases hk:k = i<;>by_cases hk':k' = i
  ·rw [hk,hk']
  ·subst hk;rw [upd_same] at e4 e;cases e;rw [upd_other _ _ hk'] at e2 e5
   exact (no e4 k' ob2 e2 e5).elim
  ·subst hk';rw [upd_same] at e5 e2;cases e2;rw [upd_other _ _ hk] at e e4
   exact (no e5 k ob' e e4).elim
  ·rw [upd_other _ _ hk] at e e4;rw [upd_other _ _ hk'] at e2 e5
   exact h.inj k ob' k' ob2 b e e2 e3 e4 e5

theorem Sim.new {w0:Root} {W W':World} {G0 G:Hp} {E:Nat→Value} {H:Nat→Option OB} {M:Nat→Prop} (h:Sim w0 G0 E H G W) (hB:Below W.heap.size W W') {i:Nat} {v:Value} {ob:OB}
  (hi:¬ M i) (hm:∀ k ob',H k = some ob'→M k∧ob'.ment M)
  (hok:ob.ok w0 (upd E i v) W' i) (hp:ob.pub = none) (hnew:∀ b,ob.has v b→W.heap.size≤b):Sim w0 G0 (upd E i v) (upd H i (some ob)) G W' :=
 h.new' none ⟨hB.os,hB.tape,hB.output,hB.size,fun k hk _=>hB.block k hk⟩ (fun r e=>by cases e) hi hm hok hp (fun b hb=>.inl (hnew b hb))
theorem Sim.set {w0:Root} {W W':World} {G0 G:Hp} {E:Nat→Value} {H:Nat→Option OB} (h:Sim w0 G0 E H G W) {i b:Nat} {ob:OB} (hi:H i = some ob) (hp:ob.pub = none) (hb:ob.has (E i) b)
  (hW:W'.os = W.os∧W'.tape = W.tape∧W'.output = W.output∧W.heap.size≤W'.heap.size) (hk:∀ k,k < W.heap.size→k≠b→W'.heap[k]? = W.heap[k]?)
  {ob':OB} (hok:ob'.ok w0 E W' i) (hp':ob'.pub = none) (hhas:∀ b',ob'.has (E i) b'→ob.has (E i) b':=by exact fun _ h=>h):Sim w0 G0 E (upd H i (some ob')) G W':=by
 have hbl:=OB.blk (h.own i ob hi) hb
 have other:∀ k ob2,H k = some ob2→k≠i→∀ b2,ob2.has (E k) b2→W'.heap[b2]? = W.heap[b2]?:=fun k ob2 e hne b2 e2 =>
  hk b2 (OB.blk (h.own k ob2 e) e2).2 (fun hbb=>hne (h.inj i ob k ob2 b hi e hp hb (hbb ▸ e2)).symm)
 refine ⟨⟨hW.1.trans h.below.os,hW.2.1.trans h.below.tape,hW.2.2.1.trans h.below.output,Nat.le_trans h.below.size hW.2.2.2,fun k hlt hn=>(hk k (Nat.lt_of_lt_of_le hlt h.below.size) (fun e=>hbl.1.elim (by omega) (e ▸ hn))).trans (h.below.block k hlt hn)⟩, ?_,h.newG, ?_, ?_, ?_, ?_⟩
 ·intro k o e
  have h1:=h.sub k o e
  have hne:k≠b:=fun e2=>by have:=h.priv i ob hi hp b hb;rw [← e2,e] at this;cases this
  rw [hk k (Array.getElem?_eq_some_iff.1 h1).1 hne];exact h1
 ·intro k ob2 e
  by_cases hki:k = i
  ·subst hki;rw [upd_same] at e;cases e;exact hok
  ·rw [upd_other _ _ hki] at e
   exact OB.ok_kept (h.own k ob2 e) (other k ob2 e hki)
 ·intro k ob2 v e e2
  by_cases hki:k = i
  ·subst hki;rw [upd_same] at e;cases e;rw [hp'] at e2;cases e2
  ·rw [upd_other _ _ hki] at e
   obtain ⟨e3,e4⟩:=h.pub k ob2 v e e2
   exact ⟨e3,fun b2 hb2=>by rw [other k ob2 e hki b2 ((OB.has_pub e2).2 (by rw [e3];exact hb2))];exact e4 b2 hb2⟩
 ·intro k ob2 e e2
  by_cases hki:k = i
  ·subst hki;rw [upd_same] at e;cases e;exact fun b hb=>h.priv k ob hi hp b (hhas b hb)
  ·rw [upd_other _ _ hki] at e;exact h.priv k ob2 e e2
 ·intro k ob2 k' ob3 b2 e e2 e3 e4 e5
  by_cases hki:k = i<;>by_cases hki':k' = i
  ·rw [hki,hki']
  ·subst hki;rw [upd_same] at e;cases e;rw [upd_other _ _ hki'] at e2;exact h.inj k ob k' ob3 b2 hi e2 hp (hhas b2 e4) e5
  ·subst hki';rw [upd_same] at e2;cases e2;rw [upd_other _ _ hki] at e;exact h.inj k ob2 k' ob b2 e hi e3 e4 (hhas b2 e5)
  ·rw [upd_other _ _ hki] at e;rw [upd_other _ _ hki'] at e2;exact h.inj k ob2 k' ob3 b2 e e2 e3 e4 e5

theorem heap_has {p:Hp} {b0:Nat} {o':Obj} {v:Value} {b:Nat} (h:OB.has (.heap (upd p b0 (some o'))) v b):b = b0∨OB.has (.heap p) v b:=by
 obtain ⟨o,ho⟩:=h
 by_cases hb:b = b0
 ·exact .inl hb
 ·rw [upd_other _ _ hb] at ho;exact .inr ⟨o,ho⟩
theorem Sim.heapNew {w0:Root} {W W':World} {G0 G:Hp} {E:Nat→Value} {H:Nat→Option OB} (h:Sim w0 G0 E H G W) {i:Nat} {p:Hp} {o':Obj} (hi:H i = some (.heap p)) (hB:Below W.heap.size W W') (hw:W'.heap[W.heap.size]? = some o') :
  Sim w0 G0 E (upd H i (some (.heap (upd p W.heap.size (some o'))))) G W':=by
 have h':=h.keep hB
 have back:∀ k ob2,upd H i (some (.heap (upd p W.heap.size (some o')))) k = some ob2→(k = i∧ob2 = .heap (upd p W.heap.size (some o')))∨(k≠i∧H k = some ob2):=fun k ob2 e=>by
  by_cases hk:k = i
  ·subst hk;rw [upd_same] at e;cases e;exact .inl ⟨rfl,rfl⟩
  ·rw [upd_other _ _ hk] at e;exact .inr ⟨hk,e⟩
 have low:∀ k ob2,H k = some ob2→¬ ob2.has (E k) W.heap.size:=fun k ob2 e hb=>Nat.lt_irrefl _ (OB.blk (h.own k ob2 e) hb).2
 refine ⟨h'.below,h'.sub,h'.newG, ?_, ?_, ?_, ?_⟩
 ·intro k ob2 e
  rcases back k ob2 e with ⟨rfl,rfl⟩ | ⟨_,e⟩
  ·intro b o ho
   by_cases hb:b = W.heap.size
   ·subst hb;rw [upd_same] at ho;cases ho;exact ⟨.inl h.below.size,hw⟩
   ·rw [upd_other _ _ hb] at ho;exact h'.own k _ hi b o ho
  ·exact h'.own k ob2 e
 ·intro k ob2 v e e2
  rcases back k ob2 e with ⟨rfl,rfl⟩ | ⟨_,e⟩
  ·cases e2
  ·exact h'.pub k ob2 v e e2
 ·intro k ob2 e e2 b hb
  rcases back k ob2 e with ⟨rfl,rfl⟩ | ⟨_,e⟩
  ·rcases heap_has hb with rfl | hb
   ·cases hG:G W.heap.size with
    | none=>rfl
    | some o=>exact absurd (Array.getElem?_eq_some_iff.1 (h.sub _ o hG)).1 (Nat.lt_irrefl _)
   ·exact h'.priv k _ hi rfl b hb
  ·exact h'.priv k ob2 e e2 b hb
 ·intro k ob2 k' ob3 b e e2 e3 e4 e5
  rcases back k ob2 e with ⟨q1,q2⟩ | ⟨n1,f1⟩<;>rcases back k' ob3 e2 with ⟨q3,q4⟩ | ⟨n2,f2⟩
  ·rw [q1,q3]
  ·subst q1;subst q2
   rcases heap_has e4 with rfl | e4
   ·exact (low k' ob3 f2 e5).elim
   ·exact h'.inj k _ k' ob3 b hi f2 rfl e4 e5
  ·subst q3;subst q4
   rcases heap_has e5 with rfl | e5
   ·exact (low k ob2 f1 e4).elim
   ·exact h'.inj k ob2 k' _ b f1 hi e3 e4 e5
  ·exact h'.inj k ob2 k' ob3 b f1 f2 e3 e4 e5
theorem Sim.heapPub {w0:Root} {W:World} {G0 G:Hp} {E:Nat→Value} {H:Nat→Option OB} (h:Sim w0 G0 E H G W) {i:Nat} {p:Hp} (hi:H i = some (.heap p)) :
  ∃ G',Grow G G'∧(∀ b o,p b = some o→G' b = some o)∧Sim w0 G0 E (upd H i none) G' W:=by
 have hG:∀ b o,p b = some o→G b = none:=fun b o e=>h.priv i _ hi rfl b ⟨o,e⟩
 have hd:Sim w0 G0 E (upd H i none) G W:=h.drop fun k ob e=>by
  by_cases hk:k = i
  ·subst hk;rw [upd_same] at e;cases e
  ·rw [upd_other _ _ hk] at e;exact e
 have hg:Grow G fun b=>match p b with
   | some o=>some o
   | none=>G b:=fun b o e=>by
  show (match p b with
   | some o=>some o
   | none=>G b) = some o
  cases hp:p b with
  | none=>exact e
  | some o'=>rw [hG b o' hp] at e;cases e
 refine ⟨_,hg,fun b o e=>by rw [e],hd.grow hg ?_ ?_⟩
 ·intro b o e
  replace e:(match p b with
   | some o=>some o
   | none=>G b) = some o:=e
  cases hp:p b with
  | none=>rw [hp] at e;exact h.sub b o e
  | some o'=>rw [hp] at e;cases e;exact (h.own i _ hi b o hp).2
 ·intro b o e
  replace e:(match p b with
   | some o=>some o
   | none=>G b) = some o:=e
  cases hp:p b with
  | none=>rw [hp] at e;exact .inl e
  | some o' =>
   refine .inr ⟨(h.own i _ hi b o' hp).1,fun k ob e2 e3=>?_⟩
   by_cases hk:k = i
   ·subst hk;rw [upd_same] at e2;cases e2
   ·rw [upd_other _ _ hk] at e2;exact hk (h.inj i _ k ob b hi e2 rfl ⟨o',hp⟩ e3).symm

theorem Sim.mapPub {w0:Root} {W:World} {G0 G:Hp} {E:Nat→Value} {H:Nat→Option OB} (h:Sim w0 G0 E H G W) {i:Nat} {s:Nm} {es:Array MapEntry} {c:Nat} (hi:H i = some (.map s es c)) :
  ∃ b G',E i = .map (some b)∧Grow G G'∧G' b = some (.map es c)∧Sim w0 G0 E (upd H i none) G' W:=by
 obtain ⟨b,e1,e2,e3,_⟩:=h.own i _ hi
 have hb:blkOf (E i) = some b:=by rw [e1];rfl
 have hG:G b = none:=h.priv i _ hi rfl b hb
 have hd:Sim w0 G0 E (upd H i none) G W:=h.drop fun k ob e=>by
  by_cases hk:k = i
  ·subst hk;rw [upd_same] at e;cases e
  ·rw [upd_other _ _ hk] at e;exact e
 have hg:Grow G (upd G b (some (.map es c))):=fun k o e=>by
  rw [upd_other _ _ fun hk=>by subst hk;rw [hG] at e;cases e];exact e
 refine ⟨b,_,e1,hg,upd_same _ _ _,hd.grow hg ?_ ?_⟩
 ·intro k o e
  by_cases hk:k = b
  ·subst hk;rw [upd_same] at e;cases e;exact e3
  ·rw [upd_other _ _ hk] at e;exact h.sub k o e
 ·intro k o e
  by_cases hk:k = b
  ·subst hk
   refine .inr ⟨e2,fun j ob e4 e5=>?_⟩
   by_cases hj:j = i
   ·subst hj;rw [upd_same] at e4;cases e4
   ·rw [upd_other _ _ hj] at e4
    exact hj (h.inj i _ j ob k hi e4 rfl hb e5).symm
  ·rw [upd_other _ _ hk] at e;exact .inl e
end Go.Pal

namespace Go.Pal
open Go.RowKit

inductive Opd where
 | t (i:Nat)
 | k (v:Value)
 | f (id:FuncId)

def Opd.ev (fr:Nat→SV):Opd→SV
 | .t i=>fr i
 | .k v=>.v v
 | .f id=>.v (.func (.func id) #[] #[])

def compOpd:Operand→Option Opd
 | .tmp t=>some (.t t)
 | .const v=>some (.k v)
 | .func f=>some (.f f)
 | .global _=>none
inductive POp where
 | bin (op:BinOp) (t:TypeId)
 | un (op:UnOp)
 | conv (src dst:TypeId)
 | idx (t:TypeId)
 | slcS (t:TypeId) (lo hi:Bool)
 | mki (t:TypeId)
 | tas (t asserted:TypeId) (ok:Bool)
def POp.sem:POp→List Value→Sem Value
 | .bin op t,[x,y]=>do eqGuard op t (.tmp 0) (.tmp 0) x y;binOp op t x y
 | .un op,[x]=>Op.unary op x
 | .conv s d,[x]=>convert s d x
 | .idx t,[x,i]=>Instr.index t x i
 | .slcS t false false,[x]=>Instr.sliceAt t x none none none
 | .slcS t true false,[x,l]=>Instr.sliceAt t x (some l) none none
 | .slcS t false true,[x,h]=>Instr.sliceAt t x none (some h) none
 | .slcS t true true,[x,l,h]=>Instr.sliceAt t x (some l) (some h) none
 | .mki t,[x]=>Instr.makeInterface t x
 | .tas t a ok,[x]=>Instr.typeAssert x t a ok
 | _, _ => stuck ""

inductive IOp where
 | mv (x:Opd)
 | pick (c a b:Opd)
 | bin (op:BinOp) (x y:Opd)
 | un (op:UnOp) (x:Opd)
 | conv (k:IntKind) (x:Opd)
 | box (t:TypeId) (x:Opd)
 | alloc (t:TypeId) (zs:List Value)
 | load (n:Nat) (agg:Bool) (x:Opd)
 | store (n:Nat) (x v:Opd)
 | faddr (off:Nat) (x:Opd)
 | iaddr (k:Nat) (x i:Opd)
 | fld (off n:Nat) (agg:Bool) (x:Opd)
 | bld (places:List (Nat × Nat)) (zs:List Value) (parts:List (Nat × Opd))
 | bsl (t:TypeId) (k len:Nat) (zs:List Value) (parts:List (Nat × Opd))
 | len (x:Opd)
 | lenS (x:Opd)
 | app (t:TypeId) (k bytes:Nat) (s x:Opd)
 | nilc (x:Opd)
 | ext (x:Opd) (i:Nat)
 | call (f:FuncId) (args:List Opd)
 | callv (x:Opd) (args:List Opd)
 | mm (mx:Bool) (x y:Opd)
 | slc (k:Nat) (x:Opd) (lo hi top:Option Opd)
 | mks (t:TypeId) (k bytes:Nat) (zs:List Value) (n:Opd)
 | aaddr (k len:Nat) (x i:Opd)
 | mkf (f:FuncId) (first caps:List Opd)
 | mkm
 | lkp (kt:TypeId) (z:Value) (ok:Bool) (x key:Opd)
 | mup (kt:TypeId) (m key v:Opd)
 | pur (p:POp) (xs:List Opd)
 | bslp (t:TypeId) (k len:Nat) (zs:List Value) (parts:List (Nat × Opd))
 | mksp (t:TypeId) (k bytes:Nat) (zs:List Value) (n:Opd)
 | bslx (t:TypeId) (k len:Nat) (zs:List Value) (parts:List (Nat × Opd))
 | apph (t:TypeId) (k bytes:Nat) (s x:Opd)
 | s2b (t:TypeId) (x:Opd)
 | cut (f:FuncId) (s:Opd) (args:List Opd)
 | cap (x:Opd)
 | clr (zs:List Value) (x:Opd)
 | appz (t:TypeId) (k bytes:Nat) (zs:List Value) (s n:Opd)
 | cpy (k:Nat) (d s:Opd)
 | rng (x:Opd)
 | nxt (x:Opd)
 | ety (x:Opd)
 | lenM (x:Opd)
 | del (kt:TypeId) (m key:Opd)
 | bxh (t:TypeId) (x:Opd)
 | mkmh
 | bslh (t:TypeId) (k len:Nat) (zs:List Value) (parts:List (Nat × Opd))
def inR:IntKind→Int→Prop
 | .i64,n=>-9223372036854775808≤n∧n≤9223372036854775807
 | .i32,n=>-2147483648≤n∧n≤2147483647
 | .i16,n=>-32768≤n∧n≤32767
 | .i8,n=>-128≤n∧n≤127
 | .u64,n=>0≤n∧n≤18446744073709551615
 | .u32,n=>0≤n∧n≤4294967295
 | .u16,n=>0≤n∧n≤65535
 | .u8,n=>0≤n∧n≤255

theorem wrap_inR {k:IntKind} {n:Int} (h:inR k n):k.wrap n = n:=by
 cases k<;>simp only [inR] at h<;>simp only [IntKind.wrap,IntKind.bits,IntKind.signed]<;>simp<;>omega

/-! ### Contracts -/
inductive LB where
 | cells (vs:List Value) (t:TypeId)
 | map (es:Array MapEntry) (clock:Nat)
 | row (n0 n cap:Nat) (vs rest:List Value) (t:TypeId) (k:Nat)
def LB.obj:LB→Obj
 | .cells vs t=>.cells vs.toArray t (0,0)
 | .map es c=>.map es c
 | .row _ _ _ vs rest t _=>.cells (vs++rest).toArray t (0,0)
def LB.one:LB→Prop
 | .cells vs _=>∀ v∈vs,v.oneCell' = true
 | .map _ _=>True
 | .row n0 n cap vs rest _ k=>n0≤n∧vs.length = n * k∧rest.length = (cap - n) * k∧n≤cap∧cap≤maxLen∧∀ v∈vs,v.oneCell' = true
def LB.alike:LB→LB→Prop
 | .cells _ _, .cells _ _=>True
 | .map _ _, .map _ _=>True
 | .row n0 n cap _ _ t k, .row n0' n' cap' _ _ t' k'=>n0' = n0∧n' = n∧cap' = cap∧t' = t∧k' = k
 | _,_=>False
structure LE where
 b:Nat
 w:Bool
 lb:LB
def LentTo (W:World):List LE→List LB→Prop
 | [],ns=>ns = []
 | le :: r,ns=>match le.w with
  | true=>match ns with
   | n :: ns'=>W.heap[le.b]? = some n.obj∧n.one∧le.lb.alike n∧LentTo W r ns'
   | []=>False
  | false=>LentTo W r ns
def lentW (ls:List LE) (b:Nat):Prop:=∃ x∈ls,x.w = true∧x.b = b

/-! ### Two parties: who runs now may change what it holds,and make more -/

structure EnvStep (Hd:Nat→Prop) (G:Hp) (W:World) (Hd':Nat→Prop) (G':Hp) (W':World):Prop where
 beneath:Beneath ⟨W,Hd,[]⟩ W'
 grow:Grow G G'
 sub:Sub G' W'
 newG:∀ b o,G' b = some o→G b = some o∨Hd b∨W.heap.size≤b
 hd:∀ b,Hd' b→(Hd b∨W.heap.size≤b)∧G' b = none∧b < W'.heap.size
abbrev JT:=Nat→(Nat→Prop)→Hp→World→Prop
def Stable (J:JT):Prop:=∀ k Hd G W Hd' G' W',J k Hd G W→EnvStep Hd G W Hd' G' W'→J k Hd' G' W'
def YieldOk (P:Program) (l:Nat) (Y:List (List Value)) (J Jx:JT):Prop :=
 ∀ k args Hd G W,Y[k]? = some args→J k Hd G W→Sub G W→(∀ b,Hd b→G b = none∧b < W.heap.size) →
  ∃ fn tmps assign body,(Instr.yield l args.toArray).run P W = .ok (.round l fn tmps assign body) W∧RoundIn Fence.wide 0 P l fn tmps assign body W fun e W' =>
   ∃ st G',e = .returned (.bool (!st))∧Grow G G'∧Sub G' W'∧(∀ b,Hd b→W'.heap[b]? = W.heap[b]?∧G' b = none)∧W.heap.size≤W'.heap.size∧(cond st Jx J) (k + 1) Hd G' W'
structure Env where
 l:Nat
 Y:List (List Value)
 J:JT
 Jx:JT
 pn:Option (TypeId × (St→Prop))
structure Env.Ok (P:Program) (e:Env):Prop where
 st:Stable e.J
 stx:Stable e.Jx
 y:YieldOk P e.l e.Y e.J e.Jx

inductive PSpec where
 | fn (pre:List Value→Hp→Prop) (val:List Value→Value)
 | sca (pre:List Value→Hp→Prop) (post:List Value→Hp→Value→Prop)
 | rel (pre:List Value→Hp→Prop) (post:List Value→Value→Hp→Prop)
 | own (t:TypeId) (k:Nat) (pre:List Value→Hp→Prop) (post:List Value→Nat→List Value→Hp→Prop)
 | st (pre:List Value→List LE→Hp→Prop) (post:List Value→List LE→Value→List LB→Hp→Prop)
 | seq (pre:Nat→List Value→Hp→List (List Value)→Prop) (post:Bool→Value→Prop)
 | hp (pre:List Value→Hp→Hp→Prop) (post:List Value→Hp→Value→Hp→Hp→Prop)
 | cut (t:TypeId) (k:Nat) (pre:Nat→List Value→List Value→Prop) (res:Nat→List Value→List Value→Nat × List Value)

def Sound (P:Program) (f:FuncId) (sh:List Value→List Value):PSpec→Prop
 | .fn pre val=>∀ args G W,Sub G W→pre args G→Calls P f (sh args).toArray W fun e W'=>e = .returned (val args)∧Below W.heap.size W W'
 | .sca pre post=>∀ args G W,Sub G W→pre args G→Calls P f (sh args).toArray W fun e W'=>∃ v,e = .returned v∧post args G v∧Below W.heap.size W W'
 | .rel pre post=>(∀ args v G G',Grow G G'→post args v G→post args v G')∧∀ args G W,Sub G W→pre args G→Calls P f (sh args).toArray W fun e W' =>
   ∃ v G',e = .returned v∧post args v G'∧Grow G G'∧Sub G' W'∧(∀ b o,G' b = some o→G b = some o∨W.heap.size≤b)∧Below W.heap.size W W'
 | .own t k pre post=>(∀ args n vs G G',Grow G G'→post args n vs G→post args n vs G')∧∀ args G W,Sub G W→pre args G→Calls P f (sh args).toArray W fun e W' =>
   ∃ v n vs G',e = .returned v∧post args n vs G'∧(∃ a c,v = .slice a n c)∧W'.ownsRow W.heap.size t k v n vs∧(∀ u∈vs,u.oneCell' = true)∧(∀ b,blkOf v = some b→G' b = none) ∧
    Grow G G'∧Sub G' W'∧(∀ b o,G' b = some o→G b = some o∨W.heap.size≤b)∧Below W.heap.size W W'

 | .st pre post=>(∀ args ls v ns G G',Grow G G'→post args ls v ns G→post args ls v ns G')∧∀ args ls G W,Sub G W→(∀ x∈ls,W.heap[x.b]? = some x.lb.obj∧G x.b = none∧x.lb.one)→(ls.map (·.b)).Nodup→pre args ls G→Calls P f (sh args).toArray W fun e W' =>
   ∃ v ns G',e = .returned v∧post args ls v ns G'∧LentTo W' ls ns∧Grow G G'∧Sub G' W'∧(∀ b o,G' b = some o→G b = some o∨W.heap.size≤b)∧Beneath ⟨W,lentW ls,[]⟩ W'

 | .hp pre post=>(∀ args p v p' G G',Grow G G'→post args p v p' G→post args p v p' G')∧∀ args p G W,Sub G W→(∀ b o,p b = some o→W.heap[b]? = some o∧G b = none)→pre args p G→Calls P f (sh args).toArray W fun e W' =>
   ∃ v p' G',e = .returned v∧post args p v p' G'∧(∀ b o,p' b = some o→W'.heap[b]? = some o∧G' b = none∧((∃ o,p b = some o)∨W.heap.size≤b))∧Grow G G'∧Sub G' W'∧(∀ b o,G' b = some o→G b = some o∨(∃ o,p b = some o)∨W.heap.size≤b)∧Beneath ⟨W,fun b=>∃ o,p b = some o,[]⟩ W'
 | .cut t k pre res=>∀ v n vs us W,W.ownsRow 0 t k v n vs→(∀ u∈vs,u.oneCell' = true)→pre n vs us→Calls P f (sh (v :: us)).toArray W fun e W' =>
   ∃ v',e = .returned v'∧W'.ownsRow 0 t k v' (res n vs us).1 (res n vs us).2∧(∀ u∈(res n vs us).2,u.oneCell' = true)∧W.grownBy W' v.ownBlock∧∀ g,v'.ownBlock = some g→W.heap.size≤g∨v.ownBlock = some g
 | .seq pre post=>∀ (e:Env),e.Ok P→∀ args G W Ys k,Sub G W→pre e.l args G Ys→(e.Y.drop k).take Ys.length = Ys→e.J k (fun _=>False) G W→Calls P f (sh args).toArray W fun en W' =>
   ∃ v st j G',en = .returned v∧post st v∧Grow G G'∧Sub G' W'∧(st = false→j = k + Ys.length)∧(cond st e.Jx e.J) j (fun _=>False) G' W'
structure PubRow (G:Hp) (a:Option Addr) (n c:Nat) (vs:List Value):Prop where
 cap:n≤c
 some:n≠0→a = some ⟨ab a,ao a,none⟩
 cells:CellsAt G (ab a) (ao a) vs

def rowS (n:Nat) (vs:List Value):PSpec:=.rel (fun _ _=>True) (fun _ v G=>∃ a c,v = .slice a n c∧PubRow G a n c vs)
def rowX (n:Nat) (vs:List Value):PSpec:=.rel (fun _ _=>True) (fun _ v G=>∃ a,v = .slice a n n∧PubRow G a n n vs)
theorem PubRow.grow {G G':Hp} {a:Option Addr} {n c:Nat} {vs:List Value} (hg:Grow G G') (h:PubRow G a n c vs):PubRow G' a n c vs:=⟨h.cap,h.some,h.cells.grow hg⟩
def HasBody (P : Program) (f : FuncId) : Prop := ∃ fn, P.funcs[f]? = some fn ∧ fn.body.isNone = false ∧ (fn.name == "runtime.NumGoroutine") = false
def SoundFn (P:Program) (v:Value) (s:PSpec):Prop :=
 ∃ g first cap,v = .func (.func g) first cap∧HasBody P g∧Sound P g (fun args=>first.toList++args++cap.toList) s
structure Tab (P:Program) where
 get:FuncId→Option PSpec
 ok:∀ f s,get f = some s→Sound P f id s∧HasBody P f

def Tab.nil (P:Program):Tab P:=⟨fun _=>none,fun _ _ h=>by cases h⟩
def Tab.cons {P:Program} (f:FuncId) (s:PSpec) (h:Sound P f id s) (hb:HasBody P f) (T:Tab P):Tab P :=
 ⟨fun g=>cond (Nat.beq g f) (some s) (T.get g),fun g s' e=>by
  cases hg:Nat.beq g f with
  | true=>rw [hg] at e;cases e;exact (Nat.eq_of_beq_eq_true hg) ▸ ⟨h,hb⟩
  | false=>rw [hg] at e;exact T.ok g s' e⟩

/-! ### What an operation yields -/

inductive Res where
 | ok (sv:SV)
 | obl (φ:Prop) (r:Res)
 | ite (φ:Prop) (r s:Res)
 | rdk (b off n:Nat) (cont:List Value→Res)
 | rdm (b:Nat) (cont:Array MapEntry→Res)
 | rdh (p:Hp) (b off n:Nat) (cont:List Value→Res)
 | eqk (l:List Value) (n:Nat) (cont:List Value→Res)
 | eqs (l:List S1) (n:Nat) (cont:List S1→Res)
 | keyk (kt:TypeId) (kv:Value) (es:Array MapEntry) (cont:Option Nat→Res)
 | pur (s:Sem Value) (cont:Value→Res)
 | new (ob:OB) (sv:SV)
 | set (h:Nat) (ob:OB) (sv:SV)
 | app (hs:Option Nat) (n:Nat) (vs:List Value) (t:TypeId) (k:Nat)
 | hpk (p:Hp) (b:Nat) (cont:List Value→TypeId→Res)
 | appn (p:Hp) (n:Nat) (vs:List Value) (t:TypeId) (k:Nat)
 | newh (p:Hp) (u:Nat→Value) (o:Obj)
 | give (h n:Nat) (vs:List Value)
 | call (s:PSpec) (args:List Value)
 | callv (H:Nat→Option OB) (v:Value) (args:List Value)
 | bad
def S1.toVal:S1→Option Value
 | .val v=>some v
 | .sb b=>some (.bool b)
 | _=>none
def toVals:List S1→Option (List Value)
 | []=>some []
 | c :: cs=>match c.toVal with
  | some v=>(match toVals cs with
   | some vs=>some (v :: vs)
   | none=>none)
  | none=>none
def S1.toValH (H:Nat→Option OB):S1→Option Value
 | .val v=>some v
 | .sb b=>some (.bool b)
 | .row h _=>match H h with
  | some (.row (some v) _ _ _ _)=>some v
  | some (.xrow b n cap _ _ _ _)=>some (.slice (some ⟨b,0,none⟩) n cap)
  | _=>none
 | .pre h n=>match H h with
  | some (.xrow b _ cap _ _ _ _)=>some (.slice (some ⟨b,0,none⟩) n cap)
  | _=>none
 | .ptr h off=>match H h with
  | some (.cells (.pub b) _ _)=>some (.pointer (some ⟨b,off,none⟩))
  | some (.cells (.named b) _ _)=>some (.pointer (some ⟨b,off,none⟩))
  | _=>none
 | .mref h=>match H h with
  | some (.map (.named b) _ _)=>some (.map (some b))
  | some (.map (.pub b) _ _)=>some (.map (some b))
  | _=>none
 | _=>none
def toValsH (H:Nat→Option OB):List S1→Option (List Value)
 | []=>some []
 | c :: cs=>match c.toValH H with
  | some v=>(match toValsH H cs with
   | some vs=>some (v :: vs)
   | none=>none)
  | none=>none
def SV.toVal (H:Nat→Option OB):SV→Option Value
 | .c x=>x.toValH H
 | .agg cs=>match toValsH H cs with
  | some vs=>some (.agg vs.toArray)
  | none=>none
def toVals2 (H:Nat→Option OB):List SV→Option (List Value)
 | []=>some []
 | c :: cs=>match c.toVal H with
  | some v=>(match toVals2 H cs with
   | some vs=>some (v :: vs)
   | none=>none)
  | none=>none
def SV.cells:SV→List S1
 | .agg cs=>cs
 | .c (.val (.agg cs))=>cs.toList.map .val
 | .c x=>[x]

def SV.aggCells:SV→Option (List S1)
 | .agg cs=>some cs
 | .c (.val (.agg cs))=>some (cs.toList.map .val)
 | _=>none

def S1.one:S1→Bool
 | .val v=>v.oneCell'
 | .any=>false
 | .pos _ _=>false
 | _=>true
def allOne:List S1→Bool
 | []=>true
 | c :: cs=>cond c.one (allOne cs) false

def S1.of:Value→S1
 | .bool b=>.sb b
 | v=>.val v
def SV.of (v:Value):SV:=.c (S1.of v)
def SV.mk (agg:Bool) (cs:List S1):SV:=match agg with
 | true=>.agg cs
 | false=>match cs with
  | [x]=>.c x
  | _=>.c .any

abbrev tt:SV:=.v (.bool true)
abbrev ff:SV:=.v (.bool false)

def binR (op:BinOp):S1→S1→Res
 | .val (.int k a), .val (.int k' b)=>cond (decide (k = k')) (match op with
  | .add=>.obl (inR k (a + b)) (.ok (.v (.int k (a + b))))
  | .sub=>.obl (inR k (a - b)) (.ok (.v (.int k (a - b))))
  | .mul=>.obl (inR k (a * b)) (.ok (.v (.int k (a * b))))
  | .quo=>.obl (0 < b∧0≤a∧inR k a) (.ok (.v (.int k (a / b))))
  | .rem=>.obl (0 < b∧0≤a) (.ok (.v (.int k (a % b))))
  | .eql=>.ite (a = b) (.ok tt) (.ok ff)
  | .neq=>.ite (a = b) (.ok ff) (.ok tt)
  | .lss=>.ite (a < b) (.ok tt) (.ok ff)
  | .leq=>.ite (a≤b) (.ok tt) (.ok ff)
  | .gtr=>.ite (b < a) (.ok tt) (.ok ff)
  | .geq=>.ite (b≤a) (.ok tt) (.ok ff)
  | _=>.bad) .bad
 | _,_=>.bad

def overAt:List S1→List S1→List S1
 | [],cs=>cs
 | u :: us,_ :: cs=>u :: overAt us cs
 | u :: us,[]=>u :: us
def putAt:Nat→List S1→List S1→List S1
 | 0,us,cs=>overAt us cs
 | n + 1,us,c :: cs=>c :: putAt n us cs
 | _ + 1,us,[]=>us
def lay (places:List (Nat × Nat)):List S1→List (Nat × SV)→Option (List S1)
 | zs,[]=>some zs
 | zs,(i,v) :: rest=>match places[i]? with
  | some (off,size)=>cond (Nat.beq v.cells.length size && Nat.ble (off + size) zs.length && allOne v.cells) (lay places (putAt off v.cells zs) rest) none
  | none=>none
theorem overAt_eq:∀ {us cs:List S1},us.length≤cs.length→overAt us cs = us++cs.drop us.length
 | [],_,_=>rfl
 | u :: us,[],h=>by simp at h
 | u :: us,c :: cs,h=>by
  show u :: overAt us cs = u :: (us++cs.drop us.length)
  rw [overAt_eq (by simpa using h)]
theorem putAt_eq:∀ {n:Nat} {us cs:List S1},n + us.length≤cs.length→putAt n us cs = cs.take n++us++cs.drop (n + us.length)
 | 0,us,cs,h=>by
  show overAt us cs = _
  rw [overAt_eq (by omega)];simp
 | n + 1,us,[],h=>by simp at h
 | n + 1,us,c :: cs,h=>by
  show c :: putAt n us cs = _
  rw [putAt_eq (by simp only [List.length_cons] at h;omega)]
  rw [show n + 1 + us.length = (n + us.length) + 1 by omega]
  simp
theorem lay_cons {places:List (Nat × Nat)} {zs:List S1} {i:Nat} {v:SV} {rest:List (Nat × SV)}:lay places zs ((i,v) :: rest) = match places[i]? with
  | some (off,size)=>cond (Nat.beq v.cells.length size && Nat.ble (off + size) zs.length && allOne v.cells) (lay places (zs.take off++v.cells++zs.drop (off + size)) rest) none
  | none=>none:=by
 simp only [lay]
 split
 ·rename_i off size _
  cases hc:(Nat.beq v.cells.length size && Nat.ble (off + size) zs.length && allOne v.cells) with
  | false=>rfl
  | true =>
   simp only [Bool.and_eq_true] at hc
   have h1:=Nat.eq_of_beq_eq_true hc.1.1
   have h2:=Nat.le_of_ble_eq_true hc.1.2
   subst h1
   rw [putAt_eq h2]
 ·rfl

def evParts (fr:Nat→SV):List (Nat × Opd)→List (Nat × SV)
 | []=>[]
 | (i,x) :: r=>(i,x.ev fr) :: evParts fr r
def evArgs (fr:Nat→SV):List Opd→List SV
 | []=>[]
 | x :: r=>x.ev fr :: evArgs fr r
def srcR (H:Nat→Option OB) (k:Nat) (x:SV) (cont:Nat→List Value→Res):Res :=
 match x with
 | .c (.row h m)=>match H h with
  | some (.row _ m' vs _ k')=>cond (Nat.beq k' k) (.obl (m' = m) (cont m vs)) .bad
  | some (.xrow _ m' _ vs _ _ k')=>cond (Nat.beq k' k) (.obl (m' = m) (cont m vs)) .bad
  | _=>.bad
 | .c (.val (.slice a m _))=>match H 0 with
  | some (.heap p)=>.obl (m≠0→a = some ⟨ab a,ao a,none⟩) (.rdh p (ab a) (ao a) (m * k) fun us=>.obl (∀ u∈us,u.oneCell' = true) (cont m us))
  | _=>.obl (m≠0→a = some ⟨ab a,ao a,none⟩) (.rdk (ab a) (ao a) (m * k) fun us=>.obl (∀ u∈us,u.oneCell' = true) (cont m us))
 | _=>.bad

def mapAt (es:Array MapEntry) (r:Option Nat):Option (Nat × Value):=match r with
 | some i=>some (i,((es[i]?).map (·.val)).getD undef)
 | none=>none
structure KeyFind (P:Program) (kt:TypeId) (kv:Value) (es:Array MapEntry) (r:Option Nat):Prop where
 ck:∀ W e,(Instr.checkKey e 10000 kt kv).run P W = .ok () W
 find:∀ W,(Instr.findKey kt kv es.toList).run P W = .ok (mapAt es r) W
 same:∀ i,r = some i→Instr.sameBits 10000 (((es[i]?).map (·.key)).getD kv) kv = true
def mapIs (o:Option Obj):Prop:=∃ es c,o = some (.map es c)
def mapEs (o:Option Obj):Array MapEntry:=match o with
 | some (.map es _)=>es
 | _=>#[]
def mapCk (o:Option Obj):Nat:=match o with
 | some (.map _ c)=>c
 | _=>0
def lookV (z:Value) (ok:Bool) (es:Array MapEntry) (r:Option Nat):Value:=match mapAt es r with
 | some (_,v)=>match ok with
  | true=>.tuple #[v, .bool true]
  | false=>v
 | none=>match ok with
  | true=>.tuple #[z, .bool false]
  | false=>z
def putE (es:Array MapEntry) (clock:Nat) (kv vv:Value) (r:Option Nat):Array MapEntry × Nat:=match r with
 | some i=>(es.modify i fun e=>{ e with key:=kv,val:=vv },clock)
 | none=>(es.push { key:=kv,val:=vv,born:=clock },clock + 1)
def delE (es:Array MapEntry) (r:Option Nat):Array MapEntry:=match r with
 | some i=>es.eraseIdxIfInBounds i
 | none=>es
def bndR (fr:Nat→SV) (x:Option Opd) (d:Nat) (cont:Int→Res):Res:=match x with
 | none=>cont d
 | some y=>match y.ev fr with
  | .c (.val (.int _ i))=>cont i
  | _=>.bad
def cutA (a:Option Addr) (l m k:Nat):Option Addr:=if m = l then a else a.map (·.add (l * k))
def objsL (H:Nat→Option OB):List SV→List (Nat × Obj)
 | []=>[]
 | sv :: r=>match sv with
  | .c (.row h _)=>(match H h with
   | some (.xrow b _ _ vs rest t _)=>(b, .cells (vs++rest).toArray t (0,0)) :: objsL H r
   | _=>objsL H r)
  | .c (.pre h _)=>(match H h with
   | some (.xrow b _ _ vs rest t _)=>(b, .cells (vs++rest).toArray t (0,0)) :: objsL H r
   | _=>objsL H r)
  | _=>objsL H r
def PSpec.lend (os:List (Nat × Obj)) (s:PSpec):PSpec:=match os with
 | []=>s
 | o :: r=>match s with
  | .fn pre val=>.fn (fun args G=>∀ G1,Grow G G1→(∀ x∈o :: r,G1 x.1 = some x.2)→pre args G1) val
  | .sca pre post=>.sca (fun args G=>∀ G1,Grow G G1→(∀ x∈o :: r,G1 x.1 = some x.2)→pre args G1) (fun args G v=>∃ G1,Grow G G1∧(∀ x∈o :: r,G1 x.1 = some x.2)∧post args G1 v)
  | s=>s
def Over (p G G1:Hp):Prop:=Grow G G1∧(∀ b o,p b = some o→G1 b = some o)∧∀ b o,G1 b = some o→G b = some o∨p b = some o
def PSpec.lendH (H:Nat→Option OB) (s:PSpec):PSpec:=match H 0 with
 | some (.heap p)=>(match s with
  | .fn pre val=>.fn (fun args G=>∀ G1,Over p G G1→pre args G1) val
  | .sca pre post=>.sca (fun args G=>∀ G1,Over p G G1→pre args G1) (fun args G v=>∃ G1,Over p G G1∧post args G1 v)
  | .hp pre post=>.rel (fun args G=>pre args p G∧∀ v p' G',post args p v p' G'→p' = p) (fun args v G'=>post args p v p G')
  | s=>s)
 | _=>s
def ev (tab:FuncId→Option PSpec) (fr:Nat→SV) (H:Nat→Option OB) (hid:Nat):IOp→Res
 | .mv x=>.ok (x.ev fr)
 | .pick c a b=>match c.ev fr with
  | .c (.val (.bool true))=>.ok (a.ev fr)
  | .c (.val (.bool false))=>.ok (b.ev fr)
  | _=>.bad
 | .bin op x y=>match x.ev fr,y.ev fr with
  | .c a, .c b=>binR op a b
  | _,_=>.bad
 | .un op x=>match op,x.ev fr with
  | .not, .c (.sb b)=>.ok (.c (.sb (!b)))
  | .not, .c (.val (.bool true))=>.ok ff
  | .not, .c (.val (.bool false))=>.ok tt
  | .neg, .c (.val (.int k n))=>.obl (inR k (-n)) (.ok (.v (.int k (-n))))
  | _,_=>.bad
 | .conv k x=>match x.ev fr with
  | .c (.val (.int _ n))=>.obl (inR k n) (.ok (.v (.int k n)))
  | _=>.bad
 | .box t x=>let cs:=(x.ev fr).cells;cond (allOne cs) (.new (.cells .anon cs t) (.c (.ptr hid 0))) .bad
 | .alloc t zs=>.new (.cells .anon (zs.map .val) t) (.c (.ptr hid 0))
 | .load n agg x=>match x.ev fr with
  | .c (.ptr h off)=>match H h with
   | some (.cells _ cs _)=>let l:=(cs.drop off).take n;cond (Nat.beq l.length n) (.ok (SV.mk agg l)) .bad
   | _=>.bad
  | .c (.rptr h off)=>match H h with
   | some (.row _ _ vs _ _)=>.eqk ((vs.drop off).take n) n fun cs=>.ok (SV.mk agg (cs.map S1.of))
   | some (.xrow _ _ _ vs _ _ _)=>.eqk ((vs.drop off).take n) n fun cs=>.ok (SV.mk agg (cs.map S1.of))
   | _=>.bad
  | .c (.ptrx h off)=>match H h with
   | some (.cells _ cs _)=>.eqs ((cs.drop off).take n) n fun ss=>.ok (SV.mk agg ss)
   | _=>.bad
  | .c (.val (.pointer (some ⟨b,off,none⟩)))=>match H 0 with
   | some (.heap p)=>.rdh p b off n fun cs=>.ok (SV.mk agg (cs.map S1.of))
   | _=>.rdk b off n fun cs=>.ok (SV.mk agg (cs.map S1.of))
  | _=>.bad
 | .store n x v=>match x.ev fr with
  | .c (.ptr h off)=>match H h with
   | some (.cells s cs t)=>let ws:=(v.ev fr).cells
    cond (s.own && allOne ws && Nat.beq ws.length n && Nat.ble (off + n) cs.length) (.set h (.cells s (cs.take off++ws++cs.drop (off + n)) t) (.c .any)) .bad
   | _=>.bad
  | .c (.ptrx h off)=>match H h with
   | some (.cells s cs t)=>let ws:=(v.ev fr).cells
    cond (s.own && allOne ws && Nat.beq ws.length n) (.obl (off + n≤cs.length) (.set h (.cells s (cs.take off++ws++cs.drop (off + n)) t) (.c .any))) .bad
   | _=>.bad
  | .c (.rptr h off)=>match H h with
   | some (.row none m vs t k)=>let ws:=(v.ev fr).cells
    match toVals ws with
    | some us=>cond (allOne ws && Nat.beq us.length n) (.obl (off + n≤vs.length) (.set h (.row none m (vs.take off++us++vs.drop (off + n)) t k) (.c .any))) .bad
    | none=>.bad
   | some (.xrow b m cap vs rest t k)=>let ws:=(v.ev fr).cells
    match toVals ws with
    | some us=>cond (allOne ws && Nat.beq us.length n) (.obl (off + n≤vs.length) (.set h (.xrow b m cap (vs.take off++us++vs.drop (off + n)) rest t k) (.c .any))) .bad
    | none=>.bad
   | _=>.bad
  | .c (.val (.pointer (some ⟨b,off,none⟩)))=>match H 0 with
   | some (.heap p)=>match toVals (v.ev fr).cells with
    | some us=>cond (allOne (v.ev fr).cells && Nat.beq us.length n) (.hpk p b fun cs t=>.obl (off + n≤cs.length) (.set 0 (.heap (upd p b (some (.cells (cs.take off++us++cs.drop (off + n)).toArray t (0,0))))) (.c .any))) .bad
    | none=>.bad
   | _=>.bad
  | _=>.bad
 | .faddr off x=>match x.ev fr with
  | .c (.ptr h o)=>.ok (.c (.ptr h (o + off)))
  | .c (.rptr h o)=>.ok (.c (.rptr h (o + off)))
  | .c (.ptrx h o)=>.ok (.c (.ptrx h (o + off)))
  | .c (.val (.pointer (some ⟨b,o,none⟩)))=>.ok (.v (.pointer (some ⟨b,o + off,none⟩)))
  | _=>.bad
 | .iaddr k x i=>match i.ev fr with
  | .c (.val (.int _ j))=>match x.ev fr with
   | .c (.val (.slice a n _))=>.obl (0≤j∧j < (n:Int)) (.obl (a = some ⟨ab a,ao a,none⟩) (.ok (.v (.pointer (some ⟨ab a,ao a + j.toNat * k,none⟩)))))
   | .c (.row h n)=>match H h with
    | some (.row _ m _ _ k')=>cond (Nat.beq k' k) (.obl (0≤j∧j < (n:Int)) (.obl (n = m) (.ok (.c (.rptr h (j.toNat * k)))))) .bad
    | some (.xrow _ m _ _ _ _ k')=>cond (Nat.beq k' k) (.obl (0≤j∧j < (n:Int)) (.obl (n = m) (.ok (.c (.rptr h (j.toNat * k)))))) .bad
    | _=>.bad
   | _=>.bad
  | _=>.bad
 | .fld off n agg x=>match (x.ev fr).aggCells with
  | some cs=>let l:=(cs.drop off).take n;cond (Nat.beq l.length n) (.ok (SV.mk agg l)) .bad
  | none=>.bad
 | .bld places zs parts=>match lay places (zs.map .val) (evParts fr parts) with
  | some cs=>.ok (.agg cs)
  | none=>.bad
 | .bsl t k len zs parts=>match lay ((List.range len).map fun i=>(i * k,k)) (zs.map .val) (evParts fr parts) with
  | some cs=>match toVals cs with
   | some vs=>cond (allOne cs) (.new (.row none len vs t k) (.c (.row hid len))) .bad
   | none=>.bad
  | none=>.bad
 | .bslp t k len zs parts=>match lay ((List.range len).map fun i=>(i * k,k)) (zs.map .val) (evParts fr parts) with
  | some cs=>match toVals cs with
   | some vs=>cond (allOne cs) (.call (rowS len vs) []) .bad
   | none=>.bad
  | none=>.bad
 | .bslx t k len zs parts=>match lay ((List.range len).map fun i=>(i * k,k)) (zs.map .val) (evParts fr parts) with
  | some cs=>match toVals cs with
   | some vs=>cond (allOne cs) (.call (rowX len vs) []) .bad
   | none=>.bad
  | none=>.bad
 | .len x=>match x.ev fr with
  | .c (.val (.slice _ n _))=>.ok (.v (.int .i64 n))
  | .c (.row _ n)=>.ok (.v (.int .i64 n))
  | .c (.pre _ n)=>.ok (.v (.int .i64 n))
  | _=>.bad
 | .lenS x=>match x.ev fr with
  | .c (.val (.string s))=>.ok (.v (.int .i64 s.size))
  | _=>.bad
 | .app t k bytes s x=>match s.ev fr with
  | .c (.row h n)=>match H h with
   | some (.row none n' vs t' k')=>cond (Nat.beq k' k && Nat.beq t' t) (srcR H k (x.ev fr) fun m us=>.obl (n' = n) (.obl ((n + m) * bytes≤140737488355328) (.app (some h) (n + m) (vs++us) t k))) .bad
   | some (.xrow b n' cap vs rest t' k')=>cond (Nat.beq k' k && Nat.beq t' t) (srcR H k (x.ev fr) fun m us=>.obl (n' = n) (.obl ((n + m) * bytes≤140737488355328∧m≠0) (.ite (((n + m:Nat):Int)≤(cap:Int)) (.set h (.xrow b n cap vs (us++rest.drop (m * k)) t k) (.c (.pre h (n + m)))) (.new (.row none (n + m) (vs++us) t k) (.c (.row hid (n + m))))))) .bad
   | _=>.bad
  | .c (.val (.slice none 0 0))=>srcR H k (x.ev fr) fun m us=>.obl (m * bytes≤140737488355328) (.app none m us t k)
  | .c (.val (.slice a n c))=>.obl (a = some ⟨ab a,ao a,none⟩) (.rdk (ab a) (ao a) (n * k) fun vs=>.obl (∀ u∈vs,u.oneCell' = true) (srcR H k (x.ev fr) fun m us=>.obl ((n + m) * bytes≤140737488355328∧m≠0∧c < n + m) (.app none (n + m) (vs++us) t k)))
  | _=>.bad
 | .apph t k bytes s x=>match H 0 with
  | some (.heap p)=>match s.ev fr with
   | .c (.val (.slice none 0 0))=>srcR H k (x.ev fr) fun m us=>.obl (m * bytes≤140737488355328∧m≠0) (.appn p m us t k)
   | .c (.val (.slice a n c))=>.hpk p (ab a) fun cs t'=>.obl (t' = t∧a = some ⟨ab a,0,none⟩∧cs.length = c * k∧n≤c∧c≤maxLen∧∀ u∈cs.take (n * k),u.oneCell' = true) (srcR H k (x.ev fr) fun m us=>.obl ((n + m) * bytes≤140737488355328∧(m≠0∨n≤c)) (.ite (((n + m:Nat):Int)≤(c:Int)) (.set 0 (.heap (upd p (ab a) (some (.cells (cs.take (n * k)++us++cs.drop ((n + m) * k)).toArray t (0,0))))) (.v (.slice a (n + m) c))) (.appn p (n + m) (cs.take (n * k)++us) t k)))
   | _=>.bad
  | _=>.bad
 | .s2b t x=>match x.ev fr with
  | .c (.val (.string s))=>.call (rowS s.size (s.data.toList.map fun b=>.int .u8 (b.toNat:Int))) []
  | _=>.bad
 | .cap x=>match x.ev fr with
  | .c (.val (.slice _ _ c))=>.ok (.v (.int .i64 c))
  | _=>.bad
 | .clr zs x=>match H 0 with
  | some (.heap p)=>match x.ev fr with
   | .c (.val (.slice a n _))=>.hpk p (ab a) fun cs t=>.obl (n≠0∧a = some ⟨ab a,ao a,none⟩∧ao a + n * zs.length≤cs.length) (.set 0 (.heap (upd p (ab a) (some (.cells (cs.take (ao a)++(Builtin.zeroCells zs.toArray n).toList++cs.drop (ao a + n * zs.length)).toArray t (0,0))))) (.c .any))
   | _=>.bad
  | _=>.bad
 | .appz t k bytes zs s x=>match H 0 with
  | some (.heap p)=>match s.ev fr,x.ev fr with
   | .c (.val (.slice a n c)), .c (.val (.int _ m))=>.hpk p (ab a) fun cs t'=>.obl (t' = t∧a = some ⟨ab a,0,none⟩∧cs.length = c * k∧n≤c∧0 < m∧c < n + m.toNat∧(n + m.toNat) * bytes≤140737488355328) (.appn p (n + m.toNat) (cs.take (n * k)++(Builtin.zeroCells zs.toArray m.toNat).toList) t k)
   | _,_=>.bad
  | _=>.bad
 | .cpy k d s=>match H 0 with
  | some (.heap p)=>match d.ev fr,s.ev fr with
   | .c (.val (.slice a n _)), .c (.val (.slice a' m _))=>.obl (m≠0∧a' = some ⟨ab a',ao a',none⟩) (.rdh p (ab a') (ao a') (min m n * k) fun us=>.obl (∀ u∈us,u.oneCell' = true) (.hpk p (ab a) fun cs t=>.obl (a = some ⟨ab a,ao a,none⟩∧ao a + min m n * k≤cs.length) (.set 0 (.heap (upd p (ab a) (some (.cells (cs.take (ao a)++us++cs.drop (ao a + min m n * k)).toArray t (0,0))))) (.v (.int .i64 (min m n:Nat))))))
   | _,_=>.bad
  | _=>.bad
 | .cut f s args=>match s.ev fr with
  | .c (.row h n)=>match H h with
   | some (.row none n' vs t k)=>match toVals2 H (evArgs fr args) with
    | some us=>match tab f with
     | some (.cut t' k' pre res)=>cond (Nat.beq t' t && Nat.beq k' k) (.obl (n' = n∧pre n vs us) (.give h (res n vs us).1 (res n vs us).2)) .bad
     | _=>.bad
    | none=>.bad
   | _=>.bad
  | _=>.bad
 | .nilc x=>match x.ev fr with
  | .c (.ptr h off)=>.ok (.c (.ptr h off))
  | .c (.rptr h off)=>.ok (.c (.rptr h off))
  | .c (.ptrx h off)=>.ok (.c (.ptrx h off))
  | .c (.val (.pointer (some a)))=>.ok (.v (.pointer (some a)))
  | _=>.bad
 | .ext x i=>match x.ev fr with
  | .c (.val (.tuple vs))=>match vs.toList[i]? with
   | some v=>.ok (SV.of v)
   | none=>.bad
  | _=>.bad
 | .call f args=>match toVals2 H (evArgs fr args) with
  | some vs=>match tab f with
   | some s=>.call ((s.lend (objsL H (evArgs fr args))).lendH H) vs
   | none=>.bad
  | none=>.bad
 | .callv x args=>match toVals2 H (evArgs fr args) with
  | some vs=>match x.ev fr with
   | .c (.val v)=>.callv H v vs
   | _=>.bad
  | none=>.bad
 | .mm mx x y=>match x.ev fr,y.ev fr with
  | .c (.val (.int k a)), .c (.val (.int _ b))=>match mx with
   | true=>.ok (.v (.int k (max a b)))
   | false=>.ok (.v (.int k (min a b)))
  | _,_=>.bad
 | .slc k x lo hi top=>match (x.ev fr).toVal H with
  | some (.slice a n c)=>bndR fr lo 0 fun l=>bndR fr hi n fun h=>bndR fr top c fun m =>
   .obl (0≤l∧l≤h∧h≤m∧m≤(c:Int)) (.ok (.v (.slice (cutA a l.toNat m.toNat k) (h.toNat - l.toNat) (m.toNat - l.toNat))))
  | _=>.bad
 | .mks t k bytes zs n=>match n.ev fr with
  | .c (.val (.int _ m))=>.obl (0≤m∧(bytes:Int) * m≤140737488355328) (.new (.row none m.toNat (List.replicate m.toNat zs).flatten t k) (.c (.row hid m.toNat)))
  | _=>.bad
 | .mksp t k bytes zs n=>match n.ev fr with
  | .c (.val (.int _ m))=>.obl (0≤m∧(bytes:Int) * m≤140737488355328) (.call (rowS m.toNat (List.replicate m.toNat zs).flatten) [])
  | _=>.bad
 | .aaddr k len x i=>match i.ev fr with
  | .c (.val (.int _ j))=>match x.ev fr with
   | .c (.ptr h o)=>.obl (0≤j∧j < (len:Int)) (.ok (.c (.ptrx h (o + j.toNat * k))))
   | .c (.ptrx h o)=>.obl (0≤j∧j < (len:Int)) (.ok (.c (.ptrx h (o + j.toNat * k))))
   | .c (.val (.pointer (some ⟨b,o,none⟩)))=>.obl (0≤j∧j < (len:Int)) (.ok (.v (.pointer (some ⟨b,o + j.toNat * k,none⟩))))
   | _=>.bad
  | _=>.bad
 | .mkf f first caps=>match toVals2 H (evArgs fr first),toVals2 H (evArgs fr caps) with
  | some vs,some ws=>.ok (.v (.func (.func f) vs.toArray ws.toArray))
  | _,_=>.bad
 | .mkm=>.new (.map .anon #[] 0) (.c (.mref hid))
 | .lkp kt z ok x key=>match (key.ev fr).toVal H with
  | some kv=>match x.ev fr with
   | .c (.mref h)=>match H h with
    | some (.map _ es _)=>.keyk kt kv es fun r=>.ok (SV.of (lookV z ok es r))
    | _=>.bad
   | .c (.val (.map none))=>.keyk kt kv #[] fun r=>.ok (SV.of (lookV z ok #[] r))
   | .c (.val (.map (some b)))=>match H 0 with
    | some (.heap p)=>.obl (mapIs (p b)) (.keyk kt kv (mapEs (p b)) fun r=>.ok (SV.of (lookV z ok (mapEs (p b)) r)))
    | _=>.rdm b fun es=>.keyk kt kv es fun r=>.ok (SV.of (lookV z ok es r))
   | _=>.bad
  | none=>.bad
 | .mup kt m key v=>match (key.ev fr).toVal H with
  | some kv=>match (v.ev fr).toVal H with
   | some vv=>match m.ev fr with
    | .c (.mref h)=>match H h with
     | some (.map s es clock)=>.keyk kt kv es fun r=>.set h (.map s (putE es clock kv vv r).1 (putE es clock kv vv r).2) (.c .any)
     | _=>.bad
    | .c (.val (.map (some b)))=>match H 0 with
     | some (.heap p)=>.obl (mapIs (p b)) (.keyk kt kv (mapEs (p b)) fun r=>.set 0 (.heap (upd p b (some (.map (putE (mapEs (p b)) (mapCk (p b)) kv vv r).1 (putE (mapEs (p b)) (mapCk (p b)) kv vv r).2)))) (.c .any))
     | _=>.bad
    | _=>.bad
   | none=>.bad
  | none=>.bad
 | .pur p xs=>match toVals2 H (evArgs fr xs) with
  | some vs=>.pur (p.sem vs) fun v=>.ok (SV.of v)
  | none=>.bad
 | .lenM x=>match x.ev fr with
  | .c (.mref h)=>match H h with
   | some (.map _ es _)=>.ok (.v (.int .i64 es.size))
   | _=>.bad
  | .c (.val (.map (some b)))=>match H 0 with
   | some (.heap p)=>.obl (mapIs (p b)) (.ok (.v (.int .i64 (mapEs (p b)).size)))
   | _=>.rdm b fun es=>.ok (.v (.int .i64 es.size))
  | _=>.bad
 | .bxh t x=>match H 0 with
  | some (.heap p)=>match toVals (x.ev fr).cells with
   | some vs=>cond (allOne (x.ev fr).cells) (.newh p (fun b=>.pointer (some ⟨b,0,none⟩)) (.cells vs.toArray t (0,0))) .bad
   | none=>.bad
  | _=>.bad
 | .mkmh=>match H 0 with
  | some (.heap p)=>.newh p (fun b=>.map (some b)) (.map #[] 0)
  | _=>.bad
 | .bslh t k len zs parts=>match H 0 with
  | some (.heap p)=>match lay ((List.range len).map fun i=>(i * k,k)) (zs.map .val) (evParts fr parts) with
   | some cs=>match toVals cs with
    | some vs=>cond (allOne cs) (.newh p (fun b=>.slice (some ⟨b,0,none⟩) len len) (.cells vs.toArray t (0,0))) .bad
    | none=>.bad
   | none=>.bad
  | _=>.bad
 | .rng _=>.bad
 | .nxt _=>.bad
 | .ety _=>.bad
 | .del kt m key=>match (key.ev fr).toVal H with
  | some kv=>match m.ev fr with
   | .c (.val (.map (some b)))=>match H 0 with
    | some (.heap p)=>.obl (mapIs (p b)) (.keyk kt kv (mapEs (p b)) fun r=>.set 0 (.heap (upd p b (some (.map (delE (mapEs (p b)) r) (mapCk (p b)))))) (.c .any))
    | _=>.bad
   | _=>.bad
  | none=>.bad
structure W (p:Prop):Prop where
 out:p
structure IteP (φ A B:Prop):Prop where
 t:φ→W A
 f:¬ φ→W B
structure ForkP (b:Bool) (A B:Prop):Prop where
 t:b = true→W A
 f:b = false→W B
structure OblP (φ A:Prop):Prop where
 h:φ
 k:W A
structure RdP (G:Hp) (b off n:Nat) (A:List Value→Prop):Prop where
 ex:∃ cs:List Value,cs.length = n∧CellsAt G b off cs∧W (A cs)
structure RdmP (G:Hp) (b:Nat) (A:Array MapEntry→Prop):Prop where
 ex:∃ es c,G b = some (.map es c)∧W (A es)
def Disj (p G:Hp):Prop:=∀ b o,p b = some o→G b = none
def RdH (p G:Hp) (b off n:Nat) (cs:List Value):Prop:=cs.length = n∧(CellsAt G b off cs∨∃ (ds:List Value) (t:TypeId),p b = some (.cells ds.toArray t (0,0))∧cs = (ds.drop off).take n)
structure RdhP (p G:Hp) (b off n:Nat) (A:List Value→Prop):Prop where
 ex:∃ cs:List Value,RdH p G b off n cs∧(Disj p G→W (A cs))
theorem RdH.uniq {p G:Hp} {b off n:Nat} {cs cs':List Value} (h:RdH p G b off n cs) (h':RdH p G b off n cs') (d:Disj p G):cs' = cs:=by
 obtain ⟨hl,h⟩:=h
 obtain ⟨hl',h'⟩:=h'
 have no:∀ {us:List Value} {ds:List Value} {t:TypeId},CellsAt G b off us→p b = some (.cells ds.toArray t (0,0))→us = []:=fun {us ds t} h1 h2=>by
  cases us with
  | nil=>rfl
  | cons u r =>
   have:=h1 0 u rfl
   unfold rd1 at this
   rw [d b _ h2] at this
   cases this
 rcases h with h | ⟨ds,t,h1,h2⟩<;>rcases h' with h' | ⟨ds',t',h1',h2'⟩
 ·exact h'.eq h (by omega)
 ·have:=no h h1';subst this
  exact List.eq_nil_of_length_eq_zero (by simp at hl;omega)
 ·have:=no h' h1;subst this
  exact (List.eq_nil_of_length_eq_zero (by simp at hl';omega)).symm
 ·rw [h1] at h1'
  injection h1' with e
  injection e with e1 e2
  have:ds = ds':=congrArg Array.toList e1
  subst this
  rw [h2,h2']
theorem RdH.grow {p G G':Hp} {b off n:Nat} {cs:List Value} (h:RdH p G b off n cs) (g:Grow G G'):RdH p G' b off n cs:=⟨h.1,h.2.imp (fun h=>h.grow g) id⟩
theorem Disj.anti {p G G':Hp} (h:Disj p G') (g:Grow G G'):Disj p G:=fun b o e=>by
 cases hg:G b with
 | none=>rfl
 | some o'=>have:=h b o e;rw [g b o' hg] at this;cases this
structure EqP (l:List Value) (n:Nat) (A:List Value→Prop):Prop where
 ex:∃ cs:List Value,l = cs∧cs.length = n∧W (A cs)
structure EqsP (l:List S1) (n:Nat) (A:List S1→Prop):Prop where
 ex:∃ cs:List S1,l = cs∧cs.length = n∧W (A cs)
structure KeyP (P:Program) (kt:TypeId) (kv:Value) (es:Array MapEntry) (A:Option Nat→Prop):Prop where
 ex:∃ r,KeyFind P kt kv es r∧W (A r)
structure HpkP (p:Hp) (b:Nat) (A:List Value→TypeId→Prop):Prop where
 ex:∃ cs t,p b = some (.cells cs.toArray t (0,0))∧W (A cs t)
structure AppnP (p:Hp) (n k:Nat) (A:Nat→Nat→List Value→Prop):Prop where
 k:∀ b cap rest,p b = none→n≤cap→cap≤maxLen→rest.length = (cap - n) * k→W (A b cap rest)
structure NewhP (p:Hp) (A:Nat→Prop):Prop where
 k:∀ b,p b = none→W (A b)
abbrev heapAdd (p:Hp) (b:Nat) (vs rest:List Value) (t:TypeId):OB:=.heap (upd p b (some (.cells (vs++rest).toArray t (0,0))))
structure RngP (p:Hp) (m:Nat) (A:Nat→Hp→Prop):Prop where
 ex:∃ es c,p m = some (.map es c)∧∀ b,p b = none→W (A b (upd p b (some (.mapIter (some m) c #[] c))))
structure NxtP (p:Hp) (r:Nat) (A:Value→Hp→Prop):Prop where
 ex:∃ (m since:Nat) (seen:Array Nat) (c0:Nat) (es:Array MapEntry) (clock:Nat),p r = some (.mapIter (some m) since seen c0)∧p m = some (.map es clock)∧(∀ x∈es.toList,x.born < since)∧since≤c0 ∧
  ((∀ e∈es.toList,seen.contains e.born = true)→W (A (.tuple #[.bool false]) p)) ∧
  ∀ e∈es.toList,seen.contains e.born = false→W (A (.tuple #[.bool true,e.key,e.val]) (upd p r (some (.mapIter (some m) since (seen.push e.born) clock))))
structure EtyP (p:Hp) (r:Nat) (A:Value→Prop):Prop where
 ex:∃ (m since:Nat) (seen:Array Nat) (es:Array MapEntry) (clock:Nat) (e:MapEntry),p r = some (.mapIter (some m) since (seen.push e.born) clock)∧p m = some (.map es clock)∧e∈es.toList∧(es.toList.map (·.born)).Nodup∧W (A (.tuple #[e.key,e.val]))
structure PurP (P:Program) (s:Sem Value) (A:Value→Prop):Prop where
 ex:∃ v,(∀ w,s.run P w = .ok v w)∧W (A v)
structure ScaP (pre:Prop) (post:Value→Prop) (A:Value→Prop):Prop where
 h:pre
 k:∀ v,post v→W (A v)
structure RelP (pre:Prop) (G:Hp) (post:Value→Hp→Prop) (A:Value→Hp→Prop):Prop where
 h:pre
 k:∀ v G',Grow G G'→post v G'→W (A v G')
structure OwnP (pre:Prop) (G:Hp) (post:Nat→List Value→Hp→Prop) (A:Nat→List Value→Hp→Prop):Prop where
 h:pre
 k:∀ n vs G',Grow G G'→post n vs G'→W (A n vs G')
def lendOk (H:Nat→Option OB):List (Nat × LE)→Prop
 | []=>True
 | (h,le) :: r=>(match le.lb with
  | .cells vs t=>∃ cs,H h = some (.cells (.named le.b) cs t)∧toValsH H cs = some vs
  | .map es c=>H h = some (.map (.named le.b) es c)
  | .row n0 n cap vs rest t k=>match H h with
   | some (.heap p)=>le.w = false∧p le.b = some (.cells (vs++rest).toArray t (0,0))∧LB.one (.row n0 n cap vs rest t k)
   | ob=>∃ vs0 rest0,ob = some (.xrow le.b n0 cap vs0 rest0 t k)∧vs0++rest0 = vs++rest∧LB.one (.row n0 n cap vs rest t k))∧lendOk H r
def LB.ob (b:Nat):LB→OB
 | .cells vs t=>.cells (.named b) (vs.map S1.of) t
 | .map es c=>.map (.named b) es c
 | .row n0 _ cap vs rest t k=>.xrow b n0 cap ((vs++rest).take (n0 * k)) ((vs++rest).drop (n0 * k)) t k
def backU:List (Nat × LE)→List LB→List (Nat × Option OB)
 | [],_=>[]
 | (h,le) :: r,ns=>match le.w with
  | true=>match ns with
   | n :: ns'=>(h,some (n.ob le.b)) :: backU r ns'
   | []=>[]
  | false=>backU r ns
structure StP (H:Nat→Option OB) (pre:List LE→Prop) (G:Hp) (post:List LE→Value→List LB→Hp→Prop) (A:List (Nat × Option OB)→Value→Hp→Prop):Prop where
 ex:∃ hs:List (Nat × LE),lendOk H hs∧(hs.map (·.1)).Nodup∧pre (hs.map (·.2))∧∀ v ns G',Grow G G'→post (hs.map (·.2)) v ns G'→W (A (backU hs ns) v G')
structure HpcP (pre:Prop) (G:Hp) (post:Value→Hp→Hp→Prop) (A:Value→Hp→Hp→Prop):Prop where
 h:pre
 k:∀ v p' G',Grow G G'→post v p' G'→W (A v p' G')
structure GiveP (G:Hp) (n:Nat) (vs:List Value) (A:Option Addr→Nat→Hp→Prop):Prop where
 k:∀ a c G',Grow G G'→PubRow G' a n c vs→W (A a c G')
structure FnvP (P:Program) (v:Value) (A:PSpec→Prop):Prop where
 ex:∃ s,SoundFn P v s∧W (A s)
def fork (sv:SV) (K:SV→Prop):Prop :=
 match sv with
 | .c (.sb b)=>ForkP b (K tt) (K ff)
 | sv=>K sv
def denCall (hid:Nat) (Gr G:Hp) (K:SV→List (Nat × Option OB)→Hp→Prop) (args:List Value):PSpec→Prop
 | .fn pre val=>OblP (pre args Gr) (fork (SV.of (val args)) fun sv=>K sv [] G)
 | .sca pre post=>ScaP (pre args Gr) (post args Gr) fun v=>fork (SV.of v) fun sv=>K sv [] G
 | .rel pre post=>RelP (pre args Gr) G (post args) fun v G'=>fork (SV.of v) fun sv=>K sv [] G'
 | .own t k pre post=>OwnP (pre args Gr) G (post args) fun n vs G'=>K (.c (.row hid n)) [(hid,some (.row none n vs t k))] G'
 | .st _ _=>False
 | .seq _ _=>False
 | .cut _ _ _ _=>False
 | .hp _ _=>False
def denCallv (H:Nat→Option OB) (hid:Nat) (Gr G:Hp) (K:SV→List (Nat × Option OB)→Hp→Prop) (args:List Value):PSpec→Prop
 | .st pre post=>StP H (fun ls=>pre args ls Gr) G (post args) fun hu v G'=>fork (SV.of v) fun sv=>K sv hu G'
 | .hp pre post=>match H 0 with
  | some (.heap p)=>HpcP (pre args p Gr) G (post args p) fun v p' G'=>fork (SV.of v) fun sv=>K sv [(0,some (.heap p'))] G'
  | _=>False
 | s=>denCall hid Gr G K args s

def Res.den (P:Program) (hid:Nat) (Gr G:Hp) (K:SV→List (Nat × Option OB)→Hp→Prop):Res→Prop
 | .ok sv=>fork sv fun sv=>K sv [] G
 | .obl φ r=>OblP φ (r.den P hid Gr G K)
 | .ite φ r s=>IteP φ (r.den P hid Gr G K) (s.den P hid Gr G K)
 | .rdk b off n cont=>RdP Gr b off n fun cs=>(cont cs).den P hid Gr G K
 | .rdm b cont=>RdmP Gr b fun es=>(cont es).den P hid Gr G K
 | .rdh p b off n cont=>RdhP p Gr b off n fun cs=>(cont cs).den P hid Gr G K
 | .eqk l n cont=>EqP l n fun cs=>(cont cs).den P hid Gr G K
 | .eqs l n cont=>EqsP l n fun cs=>(cont cs).den P hid Gr G K
 | .keyk kt kv es cont=>KeyP P kt kv es fun r=>(cont r).den P hid Gr G K
 | .pur s cont=>PurP P s fun v=>(cont v).den P hid Gr G K
 | .new ob sv=>K sv [(hid,some ob)] G
 | .set h ob sv=>K sv [(h,some ob)] G
 | .app hs n vs t k=>match hs with
  | some h=>K (.c (.row hid n)) [(h,none),(hid,some (.row none n vs t k))] G
  | none=>K (.c (.row hid n)) [(hid,some (.row none n vs t k))] G
 | .hpk p b cont=>HpkP p b fun cs t=>(cont cs t).den P hid Gr G K
 | .appn p n vs t k=>AppnP p n k fun b cap rest=>K (.v (.slice (some ⟨b,0,none⟩) n cap)) [(0,some (heapAdd p b vs rest t))] G
 | .newh p u o=>NewhP p fun b=>K (.v (u b)) [(0,some (.heap (upd p b (some o))))] G
 | .give h n vs=>GiveP G n vs fun a c G'=>K (.v (.slice a n c)) [(h,none)] G'
 | .call s args=>denCall hid Gr G K args s
 | .callv H v args=>FnvP P v fun s=>denCallv H hid Gr G K args s
 | .bad=>False

/-! ### From the model's operations -/

def compOpds:List Operand→Option (List Opd)
 | []=>some []
 | x :: xs=>match compOpd x,compOpds xs with
  | some y,some ys=>some (y :: ys)
  | _,_=>none
def compParts:List (Nat × Operand)→Option (List (Nat × Opd))
 | []=>some []
 | (i,x) :: xs=>match compOpd x,compParts xs with
  | some y,some ys=>some ((i,y) :: ys)
  | _,_=>none

def aggT (P:Program) (t:TypeId):Option Bool :=
 match P.underlying t with
 | some (.struct _)=>some true
 | some (.array _ _)=>some true
 | some _=>some false
 | none=>none
def szT (P:Program) (t:TypeId):Option Nat:=match P.info? t with
 | some i=>some i.size
 | none=>none
def byT (P:Program) (t:TypeId):Option Nat:=match P.info? t with
 | some i=>some i.bytes
 | none=>none
def zeroT (P:Program) (t:TypeId):Option (List Value):=match P.info? t with
 | some i=>match i.zero with
  | some z=>cond (Nat.beq z.cells.size i.size && z.cells.toList.all (·.oneCell')) (some z.cells.toList) none
  | none=>none
 | none=>none
def elemT (P:Program) (t:TypeId):Option TypeId:=match P.underlying t with
 | some (.slice e)=>some e
 | _=>none
def placesT (P:Program) (t:TypeId):Option (List (Nat × Nat)):=match P.underlying t with
 | some (.struct fs)=>fs.toList.mapM fun f=>(szT P f.type).map fun n=>(f.offset,n)
 | some (.array len e)=>(szT P e).map fun n=>(List.range len).map fun i=>(i * n,n)
 | _=>none
def hasBodyB (P:Program) (f:FuncId):Bool:=match P.funcs[f]? with
 | some fn => !fn.body.isNone && !(fn.name == "runtime.NumGoroutine")
 | none=>false

def compCall (P:Program) (c:Call):Option IOp :=
 match c.callee with
 | .value (.func f)=>match compOpds c.args.toList with
  | some as=>some (.call f as)
  | none=>none
 | .value x=>match compOpd x,compOpds c.args.toList with
  | some y,some as=>some (.callv y as)
  | _,_=>none
 | .builtin .len=>match c.args.toList,c.argTypes.toList with
  | [x],[t]=>match compOpd x,P.underlying t with
   | some y,some (.slice _)=>some (.len y)
   | some y,some .string=>some (.lenS y)
   | some y,some (.map _ _)=>some (.lenM y)
   | _,_=>none
  | _,_=>none
 | .builtin .max=>match c.args.toList,c.argTypes.toList with
  | [x,y],[t,_]=>match compOpd x,compOpd y,P.underlying t with
   | some x',some y',some (.int _)=>some (.mm true x' y')
   | _,_,_=>none
  | _,_=>none
 | .builtin .min=>match c.args.toList,c.argTypes.toList with
  | [x,y],[t,_]=>match compOpd x,compOpd y,P.underlying t with
   | some x',some y',some (.int _)=>some (.mm false x' y')
   | _,_,_=>none
  | _,_=>none
 | .builtin .cap=>match c.args.toList,c.argTypes.toList with
  | [x],[t]=>match compOpd x,P.underlying t with
   | some y,some (.slice _)=>some (.cap y)
   | _,_=>none
  | _,_=>none
 | .builtin .clear=>match c.args.toList,c.argTypes.toList with
  | [x],[t]=>match compOpd x,elemT P t with
   | some y,some e=>match zeroT P e with
    | some zs=>some (.clr zs y)
    | none=>none
   | _,_=>none
  | _,_=>none
 | .builtin .copy=>match c.args.toList,c.argTypes.toList with
  | [d,s],[t,_]=>match compOpd d,compOpd s,elemT P t with
   | some d',some s',some e=>match szT P e with
    | some k=>some (.cpy k d' s')
    | none=>none
   | _,_,_=>none
  | _,_=>none
 | .builtin .delete=>match c.args.toList,c.argTypes.toList with
  | [m,k],[t,_]=>match compOpd m,compOpd k,(match P.underlying t with | some (.map kt _)=>some kt | _=>none) with
   | some m',some k',some kt=>some (.del kt m' k')
   | _,_,_=>none
  | _,_=>none
 | .builtin .append=>match c.args.toList,c.argTypes.toList with
  | [s,x],[t,t']=>match compOpd s,compOpd x,elemT P t with
   | some s',some x',some e=>match zeroT P e,byT P e with
    | some zs,some by'=>cond (Nat.beq t t' && Nat.ble 1 zs.length && Nat.ble 1 by') (some (.app e zs.length by' s' x')) (match P.underlying t' with
     | some (.int _)=>cond (Nat.ble 1 zs.length && Nat.ble 1 by') (some (.appz e zs.length by' zs s' x')) none
     | _=>none)
    | _,_=>none
   | _,_,_=>none
  | _,_=>none
 | _=>none

def compOpt:Option Operand→Option (Option Opd)
 | none=>some none
 | some x=>(compOpd x).map some
def sameOpd:Operand→Operand→Bool
 | .tmp a, .tmp b=>Nat.beq a b
 | .const (.int .i64 a), .const (.int .i64 b)=>decide (a = b)
 | _,_=>false
theorem sameOpd_eq {a b:Operand} (h:sameOpd a b = true):a = b:=by
 unfold sameOpd at h
 split at h
 ·rw [Nat.eq_of_beq_eq_true h]
 ·rw [of_decide_eq_true h]
 ·cases h
def arrT (P:Program) (t:TypeId):Option (Nat × TypeId):=match P.underlying t with
 | some (.array n e)=>some (n,e)
 | _=>none
def mapT (P:Program) (t:TypeId):Option (TypeId × TypeId):=match P.underlying t with
 | some (.map k e)=>some (k,e)
 | _=>none
def zeroV (P:Program) (t:TypeId):Option Value:=match P.info? t with
 | some i=>i.zero
 | none=>none
def topOk (hi top:Option Opd):Bool:=match top with
 | none=>true
 | some _=>hi.isSome

def plainBin (P:Program) (op:BinOp) (t:TypeId):Bool:=match P.underlying t with
 | some (.int _)=>(match op with
  | .add | .sub | .mul | .quo | .rem | .eql | .neq | .lss | .leq | .gtr | .geq=>true
  | _=>false)
 | _=>false
def plainUn:UnOp→Bool
 | .not=>true
 | .neg=>true
 | _=>false
def compOp (P:Program):Op→Option IOp
 | .move x=>(compOpd x).map .mv
 | .assign x=>(compOpd x).map .mv
 | .pick c a b=>match compOpd c,compOpd a,compOpd b with
  | some c,some a,some b=>some (.pick c a b)
  | _,_,_=>none
 | .binOp op t x y _=>match compOpd x,compOpd y with
  | some x,some y=>cond (plainBin P op t) (some (.bin op x y)) (some (.pur (.bin op t) [x,y]))
  | _,_=>none
 | .unOp op _ x=>match compOpd x with
  | some x=>cond (plainUn op) (some (.un op x)) (some (.pur (.un op) [x]))
  | none=>none
 | .convert src dst x=>match compOpd x,P.underlying src,P.underlying dst with
  | some x,some (.int _),some (.int k)=>some (.conv k x)
  | some x,some .string,some .string=>some (.pur (.conv src dst) [x])
  | some x,some .string,some (.slice e)=>match P.underlying e with
   | some (.int .u8)=>some (.s2b e x)
   | _=>none
  | _,_,_=>none
 | .index t x i=>match compOpd x,compOpd i with
  | some x,some i=>some (.pur (.idx t) [x,i])
  | _,_=>none
 | .makeInterface t x=>match compOpd x with
  | some x=>some (.pur (.mki t) [x])
  | none=>none
 | .typeAssert x t a ok=>match compOpd x with
  | some x=>some (.pur (.tas t a ok) [x])
  | none=>none
 | .box t x=>(compOpd x).map (.box t)
 | .alloc t=>(zeroT P t).map (.alloc t)
 | .load t x=>match compOpd x,szT P t,aggT P t with
  | some x,some n,some g=>cond (g || Nat.beq n 1) (some (.load n g x)) none
  | _,_,_=>none
 | .store t x v=>match compOpd x,compOpd v,szT P t with
  | some x,some v,some n=>some (.store n x v)
  | _,_,_=>none
 | .fieldAddr s x i=>match compOpd x,P.underlying s with
  | some x,some (.struct fs)=>match fs[i]? with
   | some f=>match szT P f.type with
    | some n=>cond (Nat.ble 1 n) (some (.faddr f.offset x)) none
    | none=>none
   | none=>none
  | _,_=>none
 | .indexAddr t x i=>match compOpd x,compOpd i with
  | some x,some i=>match elemT P t with
   | some e=>(szT P e).map fun k=>.iaddr k x i
   | none=>match arrT P t with
    | some (n,e)=>match szT P e with
     | some k=>cond (Nat.ble 1 k) (some (.aaddr k n x i)) none
     | none=>none
    | none=>none
  | _,_=>none
 | .slice t x lo hi mx=>match compOpd x,compOpt lo,compOpt hi,compOpt mx with
  | some x,some lo,some hi,some mx=>match elemT P t with
   | some e=>match szT P e with
    | some k=>cond (topOk hi mx) (some (.slc k x lo hi mx)) none
    | none=>none
   | none=>match mx with
    | none=>match lo,hi with
     | none,none=>some (.pur (.slcS t false false) [x])
     | some l,none=>some (.pur (.slcS t true false) [x,l])
     | none,some h=>some (.pur (.slcS t false true) [x,h])
     | some l,some h=>some (.pur (.slcS t true true) [x,l,h])
    | some _=>none
  | _,_,_,_=>none
 | .makeSlice t n c=>match compOpd n,elemT P t with
  | some n',some e=>match zeroT P e,byT P e with
   | some zs,some by'=>cond (sameOpd n c && Nat.ble 1 zs.length && Nat.ble 1 by') (some (.mks e zs.length by' zs n')) none
   | _,_=>none
  | _,_=>none
 | .makeMap _ none=>some .mkm
 | .lookup t x k ok=>match compOpd x,compOpd k,mapT P t with
  | some x,some k,some (kt,e)=>match zeroV P e with
   | some z=>some (.lkp kt z ok x k)
   | none=>none
  | _,_,_=>none
 | .mapUpdate t m k v=>match compOpd m,compOpd k,compOpd v,mapT P t with
  | some m,some k,some v,some (kt,_)=>some (.mup kt m k v)
  | _,_,_,_=>none
 | .insert t m k v=>match compOpd m,compOpd k,compOpd v,mapT P t with
  | some m,some k,some v,some (kt,_)=>some (.mup kt m k v)
  | _,_,_,_=>none
 | .range t x=>match compOpd x,mapT P t with
  | some x,some _=>some (.rng x)
  | _,_=>none
 | .next x false=>(compOpd x).map .nxt
 | .entry x=>(compOpd x).map .ety
 | .makeFunc (.func f) first caps=>match compOpds first.toList,compOpds caps.toList with
  | some xs,some ys=>some (.mkf f xs ys)
  | _,_=>none
 | .field s x i=>match compOpd x,P.underlying s with
  | some x,some (.struct fs)=>match fs[i]? with
   | some f=>match szT P f.type,aggT P f.type with
    | some n,some g=>cond (g || Nat.beq n 1) (some (.fld f.offset n g x)) none
    | _,_=>none
   | none=>none
  | _,_=>none
 | .build t parts=>match placesT P t,zeroT P t,compParts parts.toList with
  | some ps,some zs,some xs=>some (.bld ps zs xs)
  | _,_,_=>none
 | .buildSlice t len parts=>match elemT P t,compParts parts.toList with
  | some e,some xs=>match zeroT P e with
   | some zs=>cond (Nat.ble 1 zs.length && Nat.ble (len * zs.length) 16777216) (some (.bsl e zs.length len (List.replicate len zs).flatten xs)) none
   | none=>none
  | _,_=>none
 | .nilCheck x=>(compOpd x).map .nilc
 | .extract x i=>(compOpd x).map (.ext · i)
 | .call c=>compCall P c
 /- never reached: nothing follows from it -/
 | .panic _=>some (.lenS (.k (.bool true)))
 | _=>none

section
variable {w0:Root} {W:World} {G0 G:Hp} {E:Nat→Value} {H:Nat→Option OB} {M:Nat→Prop}
theorem Sim.publish (hs:Sim w0 G0 E H G W) {h b:Nat} {ob ob':OB} (hh:H h = some ob) (hp:ob.pub = none) (hb:∀ c,blkOf (E h) = some c→c = b) (hok:ob'.ok w0 E W h) (hp':ob'.pub = some (E h)) (hhas:∀ c,ob.has (E h) c↔blkOf (E h) = some c:=by exact fun _=>Iff.rfl) :
  ∃ G',Grow G G'∧(∀ c,blkOf (E h) = some c→G' c = W.heap[c]?)∧Sim w0 G0 E (upd H h (some ob')) G' W:=by
 refine ⟨fun c=>if blkOf (E h) = some c then W.heap[c]? else G c, ?_, ?_, ?_⟩
 ·intro c o e
  show (if blkOf (E h) = some c then W.heap[c]? else G c) = some o
  split
  ·exact hs.sub c o e
  ·exact e
 ·intro c e;simp [e]
 ·have other:∀ k ob2,upd H h (some ob') k = some ob2→k≠h→H k = some ob2:=fun k ob2 e hne=>by rwa [upd_other _ _ hne] at e
  refine ⟨hs.below, ?_, ?_, ?_, ?_, ?_, ?_⟩
  ·intro c o e
   replace e:(if blkOf (E h) = some c then W.heap[c]? else G c) = some o:=e
   split at e
   ·exact e
   ·exact hs.sub c o e
  ·intro c o e
   replace e:(if blkOf (E h) = some c then W.heap[c]? else G c) = some o:=e
   split at e
   ·exact .inr (OB.blk (hs.own h ob hh) ((hhas c).2 ‹_›)).1
   ·exact hs.newG c o e
  ·intro k ob2 e
   by_cases hk:k = h
   ·subst hk;rw [upd_same] at e;cases e;exact hok
   ·exact hs.own k ob2 (other k ob2 e hk)
  ·intro k ob2 v e e2
   by_cases hk:k = h
   ·subst hk;rw [upd_same] at e;cases e
    rw [hp'] at e2;cases e2
    exact ⟨rfl,fun c hc=>by simp [hc]⟩
   ·obtain ⟨e3,e4⟩:=hs.pub k ob2 v (other k ob2 e hk) e2
    refine ⟨e3,fun c hc=>?_⟩
    show (if blkOf (E h) = some c then W.heap[c]? else G c) = _
    split
    ·rfl
    ·exact e4 c hc
  ·intro k ob2 e e2 c hc
   by_cases hk:k = h
   ·subst hk;rw [upd_same] at e;cases e;rw [hp'] at e2;cases e2
   ·have e3:=other k ob2 e hk
    show (if blkOf (E h) = some c then W.heap[c]? else G c) = _
    rw [if_neg (fun e4=>hk (hs.inj h ob k ob2 c hh e3 hp ((hhas c).2 e4) hc).symm)]
    exact hs.priv k ob2 e3 e2 c hc
  ·intro k ob2 k' ob3 c e e2 e3 e4 e5
   by_cases hk:k = h<;>by_cases hk':k' = h
   ·rw [hk,hk']
   ·subst hk;rw [upd_same] at e;cases e;rw [hp'] at e3;cases e3
   ·subst hk';rw [upd_same] at e2;cases e2;exact hs.inj k ob2 k' ob c (other k ob2 e hk) hh e3 e4 ((hhas c).2 ((OB.has_pub hp').1 e5))
   ·exact hs.inj k ob2 k' ob3 c (other k ob2 e hk) (other k' ob3 e2 hk') e3 e4 e5

end
def altOp:IOp→IOp
 | .bsl t k len zs parts=>.bslp t k len zs parts
 | .mks t k bytes zs n=>.mksp t k bytes zs n
 | o=>o
def altCall:IOp→IOp
 | .call f args=>.callv (.f f) args
 | o=>o
def altHp:IOp→IOp
 | .app t k bytes s x=>.apph t k bytes s x
 | .box t x=>.bxh t x
 | .mkm=>.mkmh
 | .bsl t k len zs parts=>.bslh t k len zs parts
 | o=>o
def altCut:IOp→IOp
 | .call f (s :: args)=>.cut f s args
 | .bsl t k len zs parts=>.bslx t k len zs parts
 | o=>o
def CompB (P:Program) (op:Op) (io:IOp):Prop:=compOp P op = some io∨(∃ io',compOp P op = some io'∧io = altOp io')∨(∃ io',compOp P op = some io'∧io = altCall io')∨(∃ io',compOp P op = some io'∧io = altHp io')∨∃ io',compOp P op = some io'∧io = altCut io'
end Go.Pal

namespace Go.Pal
open Go.RowKit
def FW (r:Option Nat):Fence:={ Fence.wide with round:=r }

theorem callsIn_FW {r:Option Nat} {n:Nat} {P:Program} {f:FuncId} {args:Array Value} {w:World} {R:Ending→World→Prop} (h:Calls P f args w R):CallsIn (FW r) n P f args w R :=
 (callsIn_wide (n:=n)).2 h

section
variable {P:Program} {o:Oper} {a:Act} {W W':World} {rd:Option Nat} {nn:Nat} {Q:Exit→Act→World→Prop} {R:Value→World→Prop}

theorem wp_of_run {v:Value} (hnd:∀ c,o.op≠.defer c) (h:(execOp a.eval o).run P W = .ok (.value v) W') (hp:R v W') :
  o.wpIn (FW rd) nn P a W (fun a' W'=>∃ v,a' = a.put o.dst v∧R v W') Q:=by
 refine ⟨fun _ _=>trivial, ?_⟩
 rw [Oper.semAt_eq _ _ _ hnd,h]
 exact ⟨v,rfl,hp⟩
theorem wp_of_skip (hnd:∀ c,o.op≠.defer c) (h:(execOp a.eval o).run P W = .ok .skip W') (hp:R undef W') :
  o.wpIn (FW rd) nn P a W (fun a' W'=>∃ v,a' = a.put o.dst v∧R v W') Q:=by
 refine ⟨fun _ _=>trivial, ?_⟩
 rw [Oper.semAt_eq _ _ _ hnd,h]
 exact ⟨undef,rfl,hp⟩
theorem wp_of_enter {f:FuncId} {args:Array Value} (hnd:∀ c,o.op≠.defer c) (h:(execOp a.eval o).run P W = .ok (.enter f args) W) (hc:Calls P f args W fun e W'=>∃ v,e = .returned v∧R v W') :
  o.wpIn (FW rd) nn P a W (fun a' W'=>∃ v,a' = a.put o.dst v∧R v W') Q:=by
 refine ⟨fun _ _=>trivial, ?_⟩
 rw [Oper.semAt_eq _ _ _ hnd,h,Oper.uponIn_enter]
 refine ⟨fun h=>by simp [FW,Fence.wide] at h,callsIn_FW (hc.mono ?_)⟩
 rintro e w' ⟨v,rfl,hr⟩
 exact ⟨v,rfl,hr⟩
end

def updH (H:Nat→Option OB):List (Nat × Option OB)→Nat→Option OB
 | []=>H
 | (h,ob) :: r=>updH (upd H h ob) r
def OpPost (w0:Root) (G0:Hp) (M:Nat→Prop) (E:Nat→Value) (H:Nat→Option OB) (hid:Nat) (K:SV→List (Nat × Option OB)→Hp→Prop) (v:Value) (W':World):Prop :=
 ∃ sv hu G' E',K sv hu G'∧sv.rel E' v∧sv.ment (fun k=>M k∨k = hid)∧Agree M E E'∧Sim w0 G0 E' (updH H hu) G' W'∧(∀ h ob,updH H hu h = some ob→(M h∨h = hid)∧ob.ment (fun k=>M k∨k = hid))

theorem fork_elim {E:Nat→Value} {M:Nat→Prop} {sv:SV} {v:Value} {K:SV→Prop} (h:fork sv K) (hr:sv.rel E v) (hm:sv.ment M):∃ sv',K sv'∧sv'.rel E v∧sv'.ment M:=by
 unfold fork at h
 split at h
 ·rename_i b
  have hr:v = .bool b:=hr
  cases b
  ·exact ⟨ff,(h.f rfl).out,hr,trivial⟩
  ·exact ⟨tt,(h.t rfl).out,hr,trivial⟩
 ·exact ⟨sv,h,hr,hm⟩

section
variable {w0:Root} {W W':World} {G0 Gr G:Hp} {M:Nat→Prop} {E:Nat→Value} {H Hv:Nat→Option OB} {hid:Nat} {K:SV→List (Nat × Option OB)→Hp→Prop}

theorem OpPost.quiet (hs:Sim w0 G0 E H G W') (mH:∀ h ob,H h = some ob→M h∧ob.ment M) {sv:SV} {v:Value} (hk:fork sv fun sv=>K sv [] G) (hr:sv.rel E v) (hm:sv.ment M):OpPost w0 G0 M E H hid K v W' :=
 let ⟨sv',hk,hr,hm⟩:=fork_elim hk hr hm
 ⟨sv',[],G,E,hk,hr,SV.ment_mono (fun _ h=>.inl h) hm,Agree.refl _ _,hs,fun h ob e=>⟨.inl (mH h ob e).1,OB.ment_mono (fun _ h=>.inl h) (mH h ob e).2⟩⟩
theorem OpPost.new (hs:Sim w0 G0 E H G W) (mH:∀ h ob,H h = some ob→M h∧ob.ment M) (hh:¬ M hid) (hB:Below W.heap.size W W') {ob:OB} {sv:SV} {v u:Value} (hk:K sv [(hid,some ob)] G)
  (hok:ob.ok w0 (upd E hid u) W' hid) (hom:ob.ment M) (hp:ob.pub = none) (hnew:∀ b,ob.has u b→W.heap.size≤b) (hr:sv.rel (upd E hid u) v) (hm:sv.ment (fun k=>M k∨k = hid)):OpPost w0 G0 M E H hid K v W':=by
 refine ⟨sv,_,G,upd E hid u,hk,hr,hm,Agree.upd E u hh,hs.new hB hh mH hok hp hnew, ?_⟩
 intro h ob' e
 simp only [updH] at e
 by_cases hk:h = hid
 ·subst hk;rw [upd_same] at e;cases e;exact ⟨.inr rfl,OB.ment_mono (fun _ h=>.inl h) hom⟩
 ·rw [upd_other _ _ hk] at e;exact ⟨.inl (mH h ob' e).1,OB.ment_mono (fun _ h=>.inl h) (mH h ob' e).2⟩
end

section
variable {fr:Nat→SV} {E:Nat→Value} {M:Nat→Prop} {a:Act}

theorem opd_rel (hfr:∀ i,(fr i).rel E (a.tmps.getD i undef)):∀ {x:Operand} {y:Opd},compOpd x = some y→(y.ev fr).rel E (a.eval x)
 | .tmp t,y,h=>by cases h;exact hfr t
 | .const v,y,h=>by cases h;rfl
 | .func f,y,h=>by cases h;rfl
 | .global _,_,h=>by cases h
theorem opd_ment (mfr:∀ i,(fr i).ment M) (y:Opd):(y.ev fr).ment M:=by cases y<;>first | exact mfr _ | trivial

theorem S1.toValH_rel {H:Nat→Option OB} (hpub:∀ h ob v,H h = some ob→ob.name = some v→E h = v) {x:S1} {v w:Value} (hr:x.rel E w) (hv:x.toValH H = some v):w = v:=by
 cases x with
 | any=>cases hv
 | pos=>cases hv
 | val u=>cases hv;exact hr
 | sb b=>cases hv;exact hr
 | rptr h off=>cases hv
 | ptrx h off=>cases hv
 | row h n =>
  simp only [S1.toValH] at hv
  split at hv
  ·rename_i hH
   cases hv
   rw [hr.1];exact hpub _ _ _ hH rfl
  ·rename_i hH
   cases hv
   rw [hr.1];exact hpub _ _ _ hH rfl
  ·cases hv
 | pre h n =>
  simp only [S1.toValH] at hv
  obtain ⟨b,m,c,e1,e2⟩:=hr
  split at hv
  ·rename_i hH
   cases hv
   have:=hpub _ _ _ hH rfl
   rw [e1] at this;cases this
   exact e2
  ·cases hv
 | ptr h off =>
  simp only [S1.toValH] at hv
  obtain ⟨b,e1,e2⟩:=hr
  split at hv
  ·rename_i hH
   cases hv
   have:=hpub _ _ _ hH rfl
   rw [e1] at this;cases this
   exact e2
  ·rename_i hH
   cases hv
   have:=hpub _ _ _ hH rfl
   rw [e1] at this;cases this
   exact e2
  ·cases hv
 | mref h =>
  simp only [S1.toValH] at hv
  split at hv
  ·rename_i hH
   cases hv
   rw [hr.1];exact hpub _ _ _ hH rfl
  ·rename_i hH
   cases hv
   rw [hr.1];exact hpub _ _ _ hH rfl
  ·cases hv
theorem toValsH_rel {H:Nat→Option OB} (hpub:∀ h ob v,H h = some ob→ob.name = some v→E h = v):∀ {cs:List S1} {us ws:List Value},relL E cs ws→toValsH H cs = some us→ws = us
 | [],us,[],_,h=>by cases h;rfl
 | [],_,_ :: _,hr,_=>hr.elim
 | _ :: _,_,[],hr,_=>hr.elim
 | c :: cs,us,w :: ws,hr,h=>by
  simp only [toValsH] at h
  split at h
  ·rename_i u hu
   split at h
   ·rename_i us' hus
    cases h
    rw [toValsH_rel hpub hr.2 hus,S1.toValH_rel hpub hr.1 hu]
   ·cases h
  ·cases h

theorem opds_rel (hfr:∀ i,(fr i).rel E (a.tmps.getD i undef)) {H:Nat→Option OB} (hpub:∀ h ob v,H h = some ob→ob.name = some v→E h = v) :
  ∀ {xs:List Operand} {ys:List Opd} {vs:List Value},compOpds xs = some ys→toVals2 H (evArgs fr ys) = some vs→xs.map a.eval = vs
 | [],ys,vs,h,h'=>by cases h;cases h';rfl
 | x :: xs,ys,vs,h,h'=>by
  simp only [compOpds] at h
  split at h
  ·rename_i y ys' h1 h2
   cases h
   simp only [evArgs,toVals2] at h'
   split at h'
   ·rename_i v hv
    split at h'
    ·rename_i vs' hvs
     cases h'
     have hr:=opd_rel hfr h1
     simp only [List.map_cons,opds_rel hfr hpub h2 hvs,List.cons.injEq,and_true]
     generalize y.ev fr = sv at hr hv
     cases sv with
     | c x=>exact S1.toValH_rel hpub hr hv
     | agg cs =>
      simp only [SV.toVal] at hv
      split at hv
      ·rename_i us hus
       cases hv
       obtain ⟨ws,e,hr⟩:=hr
       rw [e,toValsH_rel hpub hr hus]
      ·cases hv
    ·cases h'
   ·cases h'
  ·cases h
end
end Go.Pal

namespace Go.Pal
open Go.RowKit
section
variable {P:Program} {W:World}

theorem run_isAgg' {t:TypeId} {g:Bool} (h:aggT P t = some g):(isAgg t).run P W = .ok g W:=by
 unfold aggT at h
 cases hu:P.underlying t with
 | none=>simp [hu] at h
 | some d=>cases d<;>simp [hu] at h<;>subst h<;>simp [isAgg,run_underlying hu]
theorem run_sizeOf' {t:TypeId} {n:Nat} (h:szT P t = some n):(sizeOf t).run P W = .ok n W:=by
 unfold szT at h
 cases hu:P.info? t with
 | none=>simp [hu] at h
 | some d=>simp [hu] at h;subst h;simp [sizeOf,typeInfo,hu]
theorem run_zero' {t:TypeId} {zs:List Value} (h:zeroT P t = some zs):∃ z i,P.info? t = some i∧i.zero = some z∧z.cells.toList = zs∧zs.length = i.size∧(∀ v∈zs,v.oneCell' = true)∧(zeroValue t).run P W = .ok z W:=by
 unfold zeroT at h
 cases hu:P.info? t with
 | none=>simp [hu] at h
 | some i =>
  simp only [hu] at h
  cases hz:i.zero with
  | none=>simp [hz] at h
  | some z =>
   simp only [hz] at h
   cases hc:(Nat.beq z.cells.size i.size && z.cells.toList.all (·.oneCell')) with
   | false=>rw [hc] at h;cases h
   | true =>
    rw [hc] at h
    simp only [cond_true,Option.some.injEq] at h
    subst h
    rw [Bool.and_eq_true] at hc
    have h1:z.cells.size = i.size:=Nat.eq_of_beq_eq_true hc.1
    refine ⟨z,i,rfl,hz,rfl,by simpa using h1,fun v hv=>List.all_eq_true.1 hc.2 v hv, ?_⟩
    simp [zeroValue,typeInfo,hu,hz]

def mkV (g:Bool) (cs:List Value):Value:=match g with
 | true=>.agg cs.toArray
 | false=>cs.headD undef

theorem run_loadAt' {t:TypeId} {n:Nat} {g:Bool} (hn:szT P t = some n) (hg:aggT P t = some g) (hgn:g = true∨n = 1) {b off:Nat} {cs:List Value} (hl:cs.length = n)
  (hc:∀ j v,cs[j]? = some v→W.cell? ⟨b,off + j,none⟩ = some v):(Instr.loadAt t (.pointer (some ⟨b,off,none⟩))).run P W = .ok (mkV g cs) W:=by
 have h1:=run_isAgg' (W:=W) hg
 have h2:=run_sizeOf' (W:=W) hn
 cases g with
 | true =>
  have h3:=run_loadCells_list (P:=P) W ⟨b,off,none⟩ cs (fun j v hj=>by rw [Addr.add_lit];exact hc j v hj)
  rw [hl] at h3
  simp [Instr.loadAt,Instr.sureAddr,loadVar,h1,h2,h3,mkV]
 | false =>
  have hn1:n = 1:=by simpa using hgn
  rw [hn1] at hl
  match cs,hl with
  | [v],_ =>
   have h3:=hc 0 v rfl
   simp only [Nat.add_zero] at h3
   simp [Instr.loadAt,Instr.sureAddr,loadVar,h1,h3,mkV]

theorem mkV_rel {E:Nat→Value} {g:Bool} {n:Nat} (hgn:g = true∨n = 1) {cs:List S1} {vs:List Value} (hl:vs.length = n) (hr:relL E cs vs):(SV.mk g cs).rel E (mkV g vs):=by
 cases g with
 | true=>exact ⟨vs,rfl,hr⟩
 | false =>
  have hn1:n = 1:=by simpa using hgn
  rw [hn1] at hl
  match vs,hl,cs,hr with
  | [v],_,[c],hr=>exact hr.1
  | [v],_,[],hr=>exact hr.elim
  | [v],_,_ :: _ :: _,hr=>exact hr.2.elim
theorem SV.mk_ment {M:Nat→Prop} {g:Bool} {cs:List S1} (h:∀ c∈cs,c.ment M):(SV.mk g cs).ment M:=by
 cases g with
 | true=>exact h
 | false =>
  match cs,h with
  | [],_=>trivial
  | [x],h=>exact h x (by simp)
  | _ :: _ :: _,_=>trivial
theorem S1.of_rel (E:Nat→Value) (v:Value):(S1.of v).rel E v:=by cases v<;>rfl
theorem S1.of_ment (M:Nat→Prop) (v:Value):(S1.of v).ment M:=by cases v<;>trivial
theorem relL_of (E:Nat→Value):∀ vs:List Value,relL E (vs.map S1.of) vs
 | []=>trivial
 | v :: vs=>⟨S1.of_rel E v,relL_of E vs⟩
theorem SV.cells_rel {E:Nat→Value} {sv:SV} {v:Value} (h:sv.rel E v) (h1:allOne sv.cells = true):relL E sv.cells v.cells.toList:=by
 cases sv with
 | agg cs=>obtain ⟨vs,rfl,hr⟩:=h;simpa [SV.cells,Value.cells] using hr
 | c x =>
  cases x with
  | any=>simp [SV.cells,allOne,S1.one] at h1
  | pos=>simp [SV.cells,allOne,S1.one] at h1
  | val u =>
   have hu:v = u:=h
   subst hu
   cases v<;>first | exact ⟨rfl,trivial⟩ | exact relL_vals E _
  | sb b=>cases h;exact ⟨rfl,trivial⟩
  | ptr k o=>obtain ⟨b,e1,e2⟩:=h;subst e2;exact ⟨⟨b,e1,rfl⟩,trivial⟩
  | ptrx k o=>obtain ⟨b,e1,e2⟩:=h;subst e2;exact ⟨⟨b,e1,rfl⟩,trivial⟩
  | pre k o=>obtain ⟨b,n,c,e1,e2⟩:=h;subst e2;exact ⟨⟨b,n,c,e1,rfl⟩,trivial⟩
  | rptr k o=>obtain ⟨b,n,c,e1,e2⟩:=h;subst e2;exact ⟨⟨b,n,c,e1,rfl⟩,trivial⟩
  | row k n=>obtain ⟨e1,a,c,e2⟩:=h;rw [e1,e2];exact ⟨⟨e2.symm,a,c,e2⟩,trivial⟩
  | mref k=>obtain ⟨e1,b,e2⟩:=h;rw [e1,e2];exact ⟨⟨e2.symm,b,e2⟩,trivial⟩
theorem SV.cells_ment {M:Nat→Prop} {sv:SV} (h:sv.ment M):∀ c∈sv.cells,c.ment M:=by
 cases sv with
 | agg cs=>exact h
 | c x =>
  cases x with
  | val u=>cases u<;>simp [SV.cells,S1.ment]
  | _=>simp [SV.cells];exact h
theorem allOne_rel {E:Nat→Value}:∀ {cs:List S1} {vs:List Value},relL E cs vs→allOne cs = true→∀ v∈vs,v.oneCell' = true
 | [],[],_,_,v,hv=>by cases hv
 | c :: cs,u :: vs,hr,h,v,hv=>by
  simp only [allOne] at h
  cases hc:c.one with
  | false=>rw [hc] at h;cases h
  | true =>
   rw [hc] at h
   rcases List.mem_cons.1 hv with rfl | hv
   ·have hr:=hr.1
    cases c with
    | any=>simp [S1.one] at hc
    | pos=>simp [S1.one] at hc
    | val w=>cases hr;exact hc
    | sb b=>cases hr;rfl
    | ptr k o=>obtain ⟨_,_,e⟩:=hr;rw [e];rfl
    | ptrx k o=>obtain ⟨_,_,e⟩:=hr;rw [e];rfl
    | pre k o=>obtain ⟨_,_,_,_,e⟩:=hr;rw [e];rfl
    | rptr k o=>obtain ⟨_,_,_,_,e⟩:=hr;rw [e];rfl
    | row k n=>obtain ⟨e,_,_,e'⟩:=hr;rw [e,e'];rfl
    | mref k=>obtain ⟨e,_,e'⟩:=hr;rw [e,e'];rfl
   ·exact allOne_rel hr.2 h v hv
theorem toVals_rel {E:Nat→Value}:∀ {cs:List S1} {us vs:List Value},relL E cs vs→toVals cs = some us→vs = us
 | [],us,[],_,h=>by cases h;rfl
 | c :: cs,us,v :: vs,hr,h=>by
  simp only [toVals] at h
  split at h
  ·rename_i u hu
   split at h
   ·rename_i us' hus
    cases h
    rw [toVals_rel hr.2 hus]
    congr 1
    have hc:=hr.1
    cases c<;>simp only [S1.toVal] at hu<;>first | (cases hu;exact hc) | cases hu
   ·cases h
  ·cases h
 | [],_,_ :: _,hr,_=>hr.elim
 | _ :: _,_,[],hr,_=>hr.elim

theorem run_storeAt' {t:TypeId} {n:Nat} (hn:szT P t = some n) {b off:Nat} {v:Value} {cur:Array Value} {et:TypeId} (hl:v.cells.toList.length = n) (hw:W.heap[b]? = some (.cells cur et (0,0)))
  (hfit:off + n≤cur.size) (h1:∀ u∈v.cells.toList,u.oneCell' = true) :
  (Instr.storeAt t (.pointer (some ⟨b,off,none⟩)) v).run P W = .ok () (W.setRow b (cur.toList.take off++v.cells.toList++cur.toList.drop (off + n)).toArray):=by
 have h2:=run_sizeOf' (W:=W) hn
 have h3:=run_storeCells_at P b off et v.cells.toList 0 cur W hw (by rw [hl];omega) h1
 simp only [Nat.add_zero,hl] at h3
 have h4:v.cells.size = n:=by simpa using hl
 simp [Instr.storeAt,Instr.sureAddr,storeVar,h2,h3,h4]

end
end Go.Pal

namespace Go.Pal
open Go.RowKit

structure Ctx (w0:Root) (G0 Gr G:Hp) (M:Nat→Prop) (E:Nat→Value) (H Hv:Nat→Option OB) (hid:Nat) (fr:Nat→SV) (a:Act) (W:World):Prop where
 rfr:∀ i,(fr i).rel E (a.tmps.getD i undef)
 mfr:∀ i,(fr i).ment M
 sim:Sim w0 G0 E H G W
 mH:∀ h ob,H h = some ob→M h∧ob.ment M
 fresh:¬ M hid
 view:∀ h ob,Hv h = some ob→H h = some ob
 gr:Grow Gr G

theorem Ctx.disj {w0:Root} {G0 Gr G:Hp} {M:Nat→Prop} {E:Nat→Value} {H Hv:Nat→Option OB} {hid:Nat} {fr:Nat→SV} {a:Act} {W:World} (C:Ctx w0 G0 Gr G M E H Hv hid fr a W) {p:Hp} (h:Hv 0 = some (.heap p)):Disj p Gr:=fun b o e=>by
 have h1:=C.sim.priv 0 _ (C.view _ _ h) rfl b ⟨o,e⟩
 cases hg:Gr b with
 | none=>rfl
 | some o'=>rw [C.gr b o' hg] at h1;cases h1
theorem Ctx.rdh_cells {w0:Root} {G0 Gr G:Hp} {M:Nat→Prop} {E:Nat→Value} {H Hv:Nat→Option OB} {hid:Nat} {fr:Nat→SV} {a:Act} {W:World} (C:Ctx w0 G0 Gr G M E H Hv hid fr a W) {p:Hp} (h:Hv 0 = some (.heap p)) {b off n:Nat} {cs:List Value} (hc:RdH p Gr b off n cs):∀ j v,cs[j]? = some v→W.cell? ⟨b,off + j,none⟩ = some v:=by
 intro j v hj
 rcases hc.2 with hc | ⟨ds,t,h1,rfl⟩
 ·exact rd1_cell C.sim.sub (rd1_grow C.gr (hc j v hj))
 ·have hw:=(C.sim.own 0 _ (C.view _ _ h) b _ h1).2
  rw [List.getElem?_take] at hj
  split at hj
  ·rw [List.getElem?_drop] at hj
   simp [World.cell?,hw,hj]
  ·cases hj

section
variable {P:Program} {o:Oper} {a:Act} {W:World} {rd:Option Nat} {nn:Nat} {Q:Exit→Act→World→Prop}
variable {w0:Root} {G0 Gr G:Hp} {M:Nat→Prop} {E:Nat→Value} {H Hv:Nat→Option OB} {hid:Nat} {K:SV→List (Nat × Option OB)→Hp→Prop} {fr:Nat→SV} {tab:FuncId→Option PSpec}

def Goal (P:Program) (o:Oper) (a:Act) (W:World) (rd:Option Nat) (nn:Nat) (Q:Exit→Act→World→Prop) (w0:Root) (G0:Hp) (M:Nat→Prop) (E:Nat→Value) (H:Nat→Option OB) (hid:Nat) (K:SV→List (Nat × Option OB)→Hp→Prop):Prop :=
 o.wpIn (FW rd) nn P a W (fun a' W'=>∃ v,a' = a.put o.dst v∧OpPost w0 G0 M E H hid K v W') Q
theorem Ctx.quiet (C:Ctx w0 G0 Gr G M E H Hv hid fr a W) {v:Value} {sv:SV} (hnd:∀ c,o.op≠.defer c) (h:(execOp a.eval o).run P W = .ok (.value v) W) (hk:fork sv fun sv=>K sv [] G) (hr:sv.rel E v) (hm:sv.ment M) :
  Goal P o a W rd nn Q w0 G0 M E H hid K:=wp_of_run hnd h (OpPost.quiet C.sim C.mH hk hr hm)

theorem op_mv (C:Ctx w0 G0 Gr G M E H Hv hid fr a W) {x:Operand} {y:Opd} (hx:compOpd x = some y) (hop:o.op = .move x∨o.op = .assign x) (hd:(ev tab fr Hv hid (.mv y)).den P hid Gr G K):Goal P o a W rd nn Q w0 G0 M E H hid K:=by
 refine C.quiet (v:=a.eval x) (by rcases hop with h | h<;>simp [h]) ?_ hd (opd_rel C.rfr hx) (opd_ment C.mfr y)
 rcases hop with h | h<;>simp [execOp,h]

theorem op_pick (C:Ctx w0 G0 Gr G M E H Hv hid fr a W) {c x z:Operand} {c' x' z':Opd} (hc:compOpd c = some c') (hx:compOpd x = some x') (hz:compOpd z = some z') (hop:o.op = .pick c x z)
  (hd:(ev tab fr Hv hid (.pick c' x' z')).den P hid Gr G K):Goal P o a W rd nn Q w0 G0 M E H hid K:=by
 have rc:=opd_rel C.rfr hc
 simp only [ev] at hd
 split at hd
 ·rename_i e
  rw [e] at rc
  have rc:a.eval c = .bool true:=rc
  exact C.quiet (by simp [hop]) (by simp [execOp,hop,rc,asBool]) hd (opd_rel C.rfr hx) (opd_ment C.mfr x')
 ·rename_i e
  rw [e] at rc
  have rc:a.eval c = .bool false:=rc
  exact C.quiet (by simp [hop]) (by simp [execOp,hop,rc,asBool]) hd (opd_rel C.rfr hz) (opd_ment C.mfr z')
 ·exact hd.elim

theorem op_bin (C:Ctx w0 G0 Gr G M E H Hv hid fr a W) {op:BinOp} {t t':TypeId} {x z:Operand} {x' z':Opd} (hx:compOpd x = some x') (hz:compOpd z = some z') (hop:o.op = .binOp op t x z t')
  (hd:(ev tab fr Hv hid (.bin op x' z')).den P hid Gr G K):Goal P o a W rd nn Q w0 G0 M E H hid K:=by
 have rx:=opd_rel C.rfr hx
 have rz:=opd_rel C.rfr hz
 simp only [ev] at hd
 split at hd
 case h_2=>exact hd.elim
 rename_i s1 s2 e1 e2
 rw [e1] at rx;rw [e2] at rz
 unfold binR at hd
 split at hd
 case h_2=>exact hd.elim
 rename_i k m k' n
 have rx:a.eval x = .int k m:=rx
 have rz:a.eval z = .int k' n:=rz
 cases hk:decide (k = k') with
 | false=>rw [hk] at hd;exact hd.elim
 | true =>
  rw [hk] at hd
  have hk:=of_decide_eq_true hk
  subst hk
  have step:∀ {v:Value} {sv:SV},(binOp op t (.int k m) (.int k n)).run P W = .ok v W→(fork sv fun sv=>K sv [] G)→sv.rel E v→sv.ment M→Goal P o a W rd nn Q w0 G0 M E H hid K:=fun {v sv} h1 h2 h3 h4 =>
   C.quiet (by simp [hop]) (by simp [execOp,hop,rx,rz,eqGuard_at_int,h1]) h2 h3 h4
  have vr:∀ v:Value,(SV.v v).rel E v:=fun _=>rfl
  cases op<;>simp only [cond_true] at hd<;>first | exact hd.elim | skip
  case add=>exact step (by rw [binOp_add];simp [Op.intArith,wrap_inR hd.h]) hd.k.out (vr _) trivial
  case sub=>exact step (by rw [binOp_sub];simp [Op.intArith,wrap_inR hd.h]) hd.k.out (vr _) trivial
  case mul=>exact step (by rw [binOp_mul];simp [Op.intArith,wrap_inR hd.h]) hd.k.out (vr _) trivial
  case quo =>
   obtain ⟨⟨h1,h2,h3⟩,⟨hd⟩⟩:=hd
   have hn:n≠0:=by omega
   have h4:inR k (m / n):=by
    have a1:0≤m / n:=Int.ediv_nonneg h2 (by omega)
    have a2:m / n≤m:=Int.ediv_le_self n h2
    cases k<;>simp only [inR] at h3 ⊢<;>omega
   exact step (by rw [binOp_quo];simp [Op.intDiv,hn,Int.tdiv_eq_ediv_of_nonneg h2,wrap_inR h4]) hd (vr _) trivial
  case rem =>
   obtain ⟨⟨h1,h2⟩,⟨hd⟩⟩:=hd
   have hn:n≠0:=by omega
   exact step (by rw [binOp_rem];simp [Op.intDiv,hn,Int.tmod_eq_emod_of_nonneg h2]) hd (vr _) trivial
  case eql =>
   rw [binOp_eql] at step
   by_cases h:m = n
   ·exact step (v:=.bool true) (by simp [h]) (hd.t h).out rfl trivial
   ·exact step (v:=.bool false) (by simp [h]) (hd.f h).out rfl trivial
  case neq =>
   rw [binOp_neq] at step
   by_cases h:m = n
   ·exact step (v:=.bool false) (by simp [h]) (hd.t h).out rfl trivial
   ·exact step (v:=.bool true) (by simp [h]) (hd.f h).out rfl trivial
  case lss =>
   rw [binOp_lss] at step
   by_cases h:m < n
   ·exact step (v:=.bool true) (by simp [h]) (hd.t h).out rfl trivial
   ·exact step (v:=.bool false) (by simp [h]) (hd.f h).out rfl trivial
  case leq =>
   rw [binOp_leq] at step
   by_cases h:m≤n
   ·exact step (v:=.bool true) (by simp [h]) (hd.t h).out rfl trivial
   ·exact step (v:=.bool false) (by simp [h]) (hd.f h).out rfl trivial
  case gtr =>
   rw [binOp_gtr] at step
   by_cases h:n < m
   ·exact step (v:=.bool true) (by simp [h]) (hd.t h).out rfl trivial
   ·exact step (v:=.bool false) (by simp [h]) (hd.f h).out rfl trivial
  case geq =>
   rw [binOp_geq] at step
   by_cases h:n≤m
   ·exact step (v:=.bool true) (by simp [h]) (hd.t h).out rfl trivial
   ·exact step (v:=.bool false) (by simp [h]) (hd.f h).out rfl trivial

theorem op_un (C:Ctx w0 G0 Gr G M E H Hv hid fr a W) {op:UnOp} {t:TypeId} {x:Operand} {x':Opd} (hx:compOpd x = some x') (hop:o.op = .unOp op t x)
  (hd:(ev tab fr Hv hid (.un op x')).den P hid Gr G K):Goal P o a W rd nn Q w0 G0 M E H hid K:=by
 have rx:=opd_rel C.rfr hx
 simp only [ev] at hd
 split at hd
 case h_5=>exact hd.elim
 ·rename_i b e
  rw [e] at rx
  have rx:a.eval x = .bool b:=rx
  exact C.quiet (v:=.bool !b) (by simp [hop]) (by simp [execOp,hop,rx,Op.unary]) hd rfl trivial
 ·rename_i e
  rw [e] at rx
  have rx:a.eval x = .bool true:=rx
  exact C.quiet (v:=.bool false) (by simp [hop]) (by simp [execOp,hop,rx,Op.unary]) hd rfl trivial
 ·rename_i e
  rw [e] at rx
  have rx:a.eval x = .bool false:=rx
  exact C.quiet (v:=.bool true) (by simp [hop]) (by simp [execOp,hop,rx,Op.unary]) hd rfl trivial
 ·rename_i k n e
  rw [e] at rx
  have rx:a.eval x = .int k n:=rx
  have h1:=hd.h
  exact C.quiet (v:=.int k (-n)) (by simp [hop]) (by simp [execOp,hop,rx,Op.unary,Op.intArith,wrap_inR h1]) hd.k.out rfl trivial

theorem op_conv (C:Ctx w0 G0 Gr G M E H Hv hid fr a W) {s t:TypeId} {k k':IntKind} {x:Operand} {x':Opd} (hx:compOpd x = some x') (hs:P.underlying s = some (.int k')) (ht:P.underlying t = some (.int k)) (hop:o.op = .convert s t x)
  (hd:(ev tab fr Hv hid (.conv k x')).den P hid Gr G K):Goal P o a W rd nn Q w0 G0 M E H hid K:=by
 have rx:=opd_rel C.rfr hx
 simp only [ev] at hd
 split at hd
 case h_2=>exact hd.elim
 rename_i q n e
 rw [e] at rx
 have rx:a.eval x = .int q n:=rx
 have h1:=hd.h
 exact C.quiet (v:=.int k n) (by simp [hop]) (by simp [execOp,hop,rx,convert,run_underlying hs,run_underlying ht,Conv.intToInt,wrap_inR h1]) hd.k.out rfl trivial

theorem op_faddr (C:Ctx w0 G0 Gr G M E H Hv hid fr a W) {s:TypeId} {fs:Array Field} {i n:Nat} {f:Field} {x:Operand} {x':Opd} (hx:compOpd x = some x') (hs:P.underlying s = some (.struct fs)) (hf:fs[i]? = some f) (hn:szT P f.type = some n) (hn1:1≤n)
  (hop:o.op = .fieldAddr s x i) (hd:(ev tab fr Hv hid (.faddr f.offset x')).den P hid Gr G K):Goal P o a W rd nn Q w0 G0 M E H hid K:=by
 have rx:=opd_rel C.rfr hx
 have hm:=opd_ment C.mfr x'
 have h2:=run_sizeOf' (W:=W) hn
 have run:∀ b off,a.eval x = .pointer (some ⟨b,off,none⟩)→(execOp a.eval o).run P W = .ok (.value (.pointer (some ⟨b,off + f.offset,none⟩))) W:=fun b off e=>by
  have:¬ n = 0:=by omega
  simp [execOp,hop,e,Instr.fieldAt,run_underlying hs,hf,Instr.sureAddr,fieldPlace,h2,this,Addr.add_lit]
 simp only [ev] at hd
 split at hd
 case h_5=>exact hd.elim
 case h_3 =>
  rename_i h off e
  rw [e] at rx hm
  obtain ⟨b,e1,e2⟩:=rx
  exact C.quiet (by simp [hop]) (run b off e2) hd ⟨b,e1,rfl⟩ hm
 ·rename_i h off e
  rw [e] at rx hm
  obtain ⟨b,e1,e2⟩:=rx
  exact C.quiet (by simp [hop]) (run b off e2) hd ⟨b,e1,rfl⟩ hm
 ·rename_i h off e
  rw [e] at rx hm
  obtain ⟨b,m,c,e1,e2⟩:=rx
  exact C.quiet (by simp [hop]) (run b off e2) hd ⟨b,m,c,e1,rfl⟩ hm
 ·rename_i b off e
  rw [e] at rx
  exact C.quiet (by simp [hop]) (run b off rx) hd rfl trivial

end
end Go.Pal

namespace Go.Pal
open Go.RowKit

theorem ownsRow_cells {W:World} {base:Nat} {t:TypeId} {k n c b:Nat} {v:Value} {vs:List Value} (h:W.ownsRow base t k v n vs) (e:v = .slice (some ⟨b,0,none⟩) n c) :
  ∃ cap cur,c = cap∧W.heap[b]? = some (.cells cur t (0,0))∧base≤b∧n≤cap∧cap≤maxLen∧cur.size = cap * k∧cur.toList.take vs.length = vs:=by
 rcases h.2 with ⟨e',_⟩ | ⟨g,cap,cur,e',hb,hg,r⟩
 ·rw [e] at e';cases e'
 ·rw [e] at e';cases e'
  exact ⟨c,cur,rfl,hg,hb,r.1,r.2.1,r.2.2.1,by rw [h.1];exact r.2.2.2⟩

theorem splice_take {vs cur us:List Value} {off n:Nat} (h:cur.take vs.length = vs) (hn:us.length = n) (hf:off + n≤vs.length) :
  (cur.take off++us++cur.drop (off + n)).take (vs.take off++us++vs.drop (off + n)).length = vs.take off++us++vs.drop (off + n):=by
 obtain ⟨rest,rfl⟩:∃ rest,cur = vs++rest:=⟨cur.drop vs.length,by conv=>lhs;rw [← List.take_append_drop vs.length cur,h]⟩
 have h1:(vs++rest).take off = vs.take off:=List.take_append_of_le_length (by omega)
 have h2:(vs++rest).drop (off + n) = vs.drop (off + n)++rest:=List.drop_append_of_le_length (by omega)
 rw [h1,h2, ← List.append_assoc]
 exact List.take_left

section
variable {P:Program} {o:Oper} {a:Act} {W:World} {rd:Option Nat} {nn:Nat} {Q:Exit→Act→World→Prop}
variable {w0:Root} {G0 Gr G:Hp} {M:Nat→Prop} {E:Nat→Value} {H Hv:Nat→Option OB} {hid:Nat} {K:SV→List (Nat × Option OB)→Hp→Prop} {fr:Nat→SV} {tab:FuncId→Option PSpec}

theorem op_load (C:Ctx w0 G0 Gr G M E H Hv hid fr a W) {t:TypeId} {n:Nat} {g:Bool} {x:Operand} {x':Opd} (hx:compOpd x = some x') (hn:szT P t = some n) (hg:aggT P t = some g) (hgn:g = true∨n = 1)
  (hop:o.op = .load t x) (hd:(ev tab fr Hv hid (.load n g x')).den P hid Gr G K):Goal P o a W rd nn Q w0 G0 M E H hid K:=by
 have rx:=opd_rel C.rfr hx
 have run:∀ b off (cs:List Value),a.eval x = .pointer (some ⟨b,off,none⟩)→cs.length = n→(∀ j v,cs[j]? = some v→W.cell? ⟨b,off + j,none⟩ = some v)→(execOp a.eval o).run P W = .ok (.value (mkV g cs)) W:=fun b off cs e h1 h2=>by
  simp [execOp,hop,e,run_loadAt' hn hg hgn h1 h2]
 simp only [ev] at hd
 split at hd
 case h_5=>exact hd.elim
 case h_3 =>
  rename_i h off e
  rw [e] at rx
  obtain ⟨b,e1,e2⟩:=rx
  split at hd
  case h_2=>exact hd.elim
  rename_i p cs ty hH
  have hH':=C.view _ _ hH
  obtain ⟨b',vs,e3,hb',hw,hr,h1,hat⟩:=C.sim.own _ _ hH'
  rw [e1] at e3;cases e3
  obtain ⟨ss,hss,hl,⟨hd⟩⟩:=hd
  have hr2:=relL_take n (relL_drop off hr)
  rw [hss] at hr2
  have hlen:=relL_len hr2
  refine C.quiet (by simp [hop]) (run b off ((vs.drop off).take n) e2 (by omega) ?_) hd (mkV_rel hgn (by omega) hr2) (SV.mk_ment fun c hc=>(C.mH _ _ hH').2 c (List.mem_of_mem_drop (List.mem_of_mem_take (hss ▸ hc))))
  intro j v hj
  have:vs[off + j]? = some v:=by
   rw [List.getElem?_take] at hj
   split at hj
   ·rwa [List.getElem?_drop] at hj
   ·cases hj
  simp [World.cell?,hw,this]
 ·-- an own variable
  rename_i h off e
  rw [e] at rx
  obtain ⟨b,e1,e2⟩:=rx
  split at hd
  case h_2=>exact hd.elim
  rename_i p cs ty hH
  have hH':=C.view _ _ hH
  obtain ⟨b',vs,e3,hb',hw,hr,h1,hat⟩:=C.sim.own _ _ hH'
  rw [e1] at e3;cases e3
  cases hl:Nat.beq ((cs.drop off).take n).length n with
  | false=>simp only [hl] at hd;exact hd.elim
  | true =>
   simp only [hl,cond_true] at hd
   have hl:=Nat.eq_of_beq_eq_true hl
   have hr2:=relL_take n (relL_drop off hr)
   have hlen:=relL_len hr2
   refine C.quiet (by simp [hop]) (run b off ((vs.drop off).take n) e2 (by omega) ?_) hd (mkV_rel hgn (by omega) hr2) (SV.mk_ment fun c hc=>(C.mH _ _ hH').2 c (List.mem_of_mem_drop (List.mem_of_mem_take hc)))
   intro j v hj
   have:vs[off + j]? = some v:=by
    rw [List.getElem?_take] at hj
    split at hj
    ·rwa [List.getElem?_drop] at hj
    ·cases hj
   simp [World.cell?,hw,this]
 ·rename_i h off e
  rw [e] at rx
  obtain ⟨b,m,c,e1,e2⟩:=rx
  have both:∀ (m':Nat) (vs:List Value) (ty:TypeId) (k:Nat),W.ownsRow 0 ty k (E h) m' vs→(EqP ((vs.drop off).take n) n fun cs=>fork (SV.mk g (cs.map S1.of)) fun sv=>K sv [] G)→Goal P o a W rd nn Q w0 G0 M E H hid K:=fun m' vs ty k hown hd=>by
   obtain ⟨cs,hcs,hl,⟨hd⟩⟩:=hd
   have em:m = m':=by
    rcases hown.2 with ⟨e',_⟩ | ⟨g,cap,cur,e',_⟩<;>rw [e1] at e'<;>cases e';rfl
   subst em
   obtain ⟨cap,cur,_,hw,_,_,_,_,htake⟩:=ownsRow_cells hown e1
   refine C.quiet (by simp [hop]) (run b off cs e2 hl ?_) hd (mkV_rel hgn hl (relL_of E cs)) (SV.mk_ment fun c hc=>by
    obtain ⟨v,_,rfl⟩:=List.mem_map.1 hc;exact S1.of_ment M v)
   intro j v hj
   rw [← hcs,List.getElem?_take] at hj
   split at hj
   ·rw [List.getElem?_drop, ← htake,List.getElem?_take] at hj
    split at hj
    ·simp [World.cell?,hw];simpa using hj
    ·cases hj
   ·cases hj
  split at hd
  case h_3=>exact hd.elim
  ·rename_i p m' vs ty k hH
   exact both m' vs ty k (C.sim.own _ _ (C.view _ _ hH)).1 hd
  ·rename_i b' m' cap vs rest ty k hH
   exact both m' vs ty k (OB.xrow_own (C.sim.own _ _ (C.view _ _ hH))).1 hd
 ·rename_i b off e
  rw [e] at rx
  have plain:(RdP Gr b off n fun cs=>fork (SV.mk g (cs.map S1.of)) fun sv=>K sv [] G)→Goal P o a W rd nn Q w0 G0 M E H hid K:=fun hd=>by
   obtain ⟨cs,hl,hc,⟨hd⟩⟩:=hd
   refine C.quiet (by simp [hop]) (run b off cs rx hl ?_) hd (mkV_rel hgn hl (relL_of E cs)) (SV.mk_ment fun c hc=>by
    obtain ⟨v,_,rfl⟩:=List.mem_map.1 hc;exact S1.of_ment M v)
   exact fun j v hj=>rd1_cell C.sim.sub (rd1_grow C.gr (hc j v hj))
  split at hd
  ·rename_i p hH
   obtain ⟨cs,hc,hd⟩:=hd
   refine C.quiet (by simp [hop]) (run b off cs rx hc.1 (C.rdh_cells hH hc)) (hd (C.disj hH)).out (mkV_rel hgn hc.1 (relL_of E cs)) (SV.mk_ment fun c hc=>by
    obtain ⟨v,_,rfl⟩:=List.mem_map.1 hc;exact S1.of_ment M v)
  ·exact plain hd

theorem op_box (C:Ctx w0 G0 Gr G M E H Hv hid fr a W) {t:TypeId} {x:Operand} {x':Opd} (hx:compOpd x = some x') (hop:o.op = .box t x)
  (hd:(ev tab fr Hv hid (.box t x')).den P hid Gr G K):Goal P o a W rd nn Q w0 G0 M E H hid K:=by
 have rx:=opd_rel C.rfr hx
 simp only [ev] at hd
 cases h1:allOne (x'.ev fr).cells with
 | false=>rw [h1] at hd;exact hd.elim
 | true =>
  rw [h1] at hd
  have hr:=SV.cells_rel rx h1
  refine wp_of_run (W':=W.alloc (.cells (a.eval x).cells t)) (v:=.pointer (some ⟨W.heap.size,0,none⟩)) (by simp [hop]) (by simp [execOp,hop,Instr.box,newVar,newRow]) ?_
  refine OpPost.new C.sim C.mH C.fresh ((Below.refl _ _).alloc (Nat.le_refl _) _) hd (u:=.pointer (some ⟨W.heap.size,0,none⟩)) ?_ ?_ rfl ?_ ?_ (.inr rfl)
  ·refine ⟨W.heap.size,(a.eval x).cells.toList,by rw [upd_same], .inl C.sim.below.size, ?_,relL_agree (Agree.upd E _ C.fresh) hr (SV.cells_ment (opd_ment C.mfr x')),allOne_rel hr h1,trivial⟩
   rw [heap_alloc_new]
  ·exact SV.cells_ment (opd_ment C.mfr x')
  ·intro b hb;simp [OB.has,blkOf] at hb;omega
  ·exact ⟨W.heap.size,by rw [upd_same],rfl⟩

theorem op_alloc (C:Ctx w0 G0 Gr G M E H Hv hid fr a W) {t:TypeId} {zs:List Value} (hz:zeroT P t = some zs) (hop:o.op = .alloc t)
  (hd:(ev tab fr Hv hid (.alloc t zs)).den P hid Gr G K):Goal P o a W rd nn Q w0 G0 M E H hid K:=by
 obtain ⟨z,i,_,_,hzs,_,h1,hrun⟩:=run_zero' (W:=W) hz
 refine wp_of_run (W':=W.alloc (.cells z.cells t)) (v:=.pointer (some ⟨W.heap.size,0,none⟩)) (by simp [hop]) (by simp [execOp,hop,Instr.alloc,hrun,newVar,newRow]) ?_
 refine OpPost.new C.sim C.mH C.fresh ((Below.refl _ _).alloc (Nat.le_refl _) _) hd (u:=.pointer (some ⟨W.heap.size,0,none⟩)) ?_ ?_ rfl ?_ ?_ (.inr rfl)
 ·refine ⟨W.heap.size,zs,by rw [upd_same], .inl C.sim.below.size, ?_,relL_vals _ _,h1,trivial⟩
  rw [heap_alloc_new, ← hzs]
 ·intro c hc;obtain ⟨v,_,rfl⟩:=List.mem_map.1 hc;trivial
 ·intro b hb;simp [OB.has,blkOf] at hb;omega
 ·exact ⟨W.heap.size,by rw [upd_same],rfl⟩
theorem OpPost.set (C:Ctx w0 G0 Gr G M E H Hv hid fr a W) {i b:Nat} {ob ob':OB} {cs:Array Value} (hi:H i = some ob) (hp:ob.pub = none) (hb:ob.has (E i) b) (hk:K (.c .any) [(i,some ob')] G)
  (hok:ob'.ok w0 E (W.setRow b cs) i) (hp':ob'.pub = none) (hm:ob'.ment M) (hhas:∀ b',ob'.has (E i) b'→ob.has (E i) b':=by exact fun _ h=>h):OpPost w0 G0 M E H hid K undef (W.setRow b cs):=by
 refine ⟨.c .any,_,G,E,hk,trivial,trivial,Agree.refl _ _,C.sim.set (W':=W.setRow b cs) hi hp hb ⟨rfl,rfl,rfl,by simp⟩ (fun k _ hk=>setRow_other W b k cs hk) hok hp' hhas, ?_⟩
 intro h ob2 e
 simp only [updH] at e
 by_cases hhi:h = i
 ·subst hhi;rw [upd_same] at e;cases e;exact ⟨.inl (C.mH _ _ hi).1,OB.ment_mono (fun _ h=>.inl h) hm⟩
 ·rw [upd_other _ _ hhi] at e;exact ⟨.inl (C.mH h ob2 e).1,OB.ment_mono (fun _ h=>.inl h) (C.mH h ob2 e).2⟩

theorem op_store (C:Ctx w0 G0 Gr G M E H Hv hid fr a W) {t:TypeId} {n:Nat} {x z:Operand} {x' z':Opd} (hx:compOpd x = some x') (hz:compOpd z = some z') (hn:szT P t = some n)
  (hop:o.op = .store t x z) (hd:(ev tab fr Hv hid (.store n x' z')).den P hid Gr G K):Goal P o a W rd nn Q w0 G0 M E H hid K:=by
 have rx:=opd_rel C.rfr hx
 have rz:=opd_rel C.rfr hz
 have mz:=opd_ment C.mfr z'
 simp only [ev] at hd
 split at hd
 case h_5=>exact hd.elim
 case h_4 =>
  rename_i b off e
  rw [e] at rx
  have rx:a.eval x = .pointer (some ⟨b,off,none⟩):=rx
  split at hd
  case h_2=>exact hd.elim
  rename_i p hH
  have hH':=C.view _ _ hH
  split at hd
  case h_2=>exact hd.elim
  rename_i us hus
  cases hc:(allOne (z'.ev fr).cells && Nat.beq us.length n) with
  | false=>rw [hc] at hd;exact hd.elim
  | true =>
   rw [hc] at hd
   obtain ⟨cs,ty,hp,⟨hfit,⟨hd⟩⟩⟩:=hd
   simp only [Bool.and_eq_true] at hc
   obtain ⟨c1,c2⟩:=hc
   have c2:=Nat.eq_of_beq_eq_true c2
   have rc:=SV.cells_rel rz c1
   have hone:=allOne_rel rc c1
   have hzu:=toVals_rel rc hus
   obtain ⟨hmine,hw⟩:=C.sim.own _ _ hH' _ _ hp
   have hrun:=run_storeAt' (P:=P) (W:=W) hn (b:=b) (off:=off) (v:=a.eval z) (by rw [hzu];exact c2) hw (by simp;omega) hone
   refine wp_of_skip (by simp [hop]) (by simp [execOp,hop,rx,hrun];rfl) ?_
   refine OpPost.set (i:=0) (b:=b) C hH' rfl ⟨_,hp⟩ hd ?_ rfl trivial (fun b' h'=>?_)
   ·intro b' o' ho'
    by_cases hb':b' = b
    ·subst hb'
     rw [upd_same] at ho';cases ho'
     refine ⟨hmine, ?_⟩
     rw [setRow_heap W _ _ _ ty (0,0) hw,hzu];simp [List.append_assoc]
    ·rw [upd_other _ _ hb'] at ho'
     obtain ⟨q1,q2⟩:=C.sim.own _ _ hH' _ _ ho'
     exact ⟨q1,(setRow_other W _ _ _ hb').trans q2⟩
   ·obtain ⟨o',ho'⟩:=h'
    by_cases hb':b' = b
    ·subst hb';exact ⟨_,hp⟩
    ·rw [upd_other _ _ hb'] at ho';exact ⟨o',ho'⟩
 case h_2 =>
  rename_i h off e
  rw [e] at rx
  obtain ⟨b,e1,e2⟩:=rx
  split at hd
  case h_2=>exact hd.elim
  rename_i s cs ty hH
  have hH':=C.view _ _ hH
  obtain ⟨b',vs,e3,hb',hw,hr,h1,hat⟩:=C.sim.own _ _ hH'
  rw [e1] at e3;cases e3
  cases hc:(s.own && allOne (z'.ev fr).cells && Nat.beq (z'.ev fr).cells.length n) with
  | false=>simp only [hc] at hd;exact hd.elim
  | true =>
   simp only [hc,cond_true] at hd
   simp only [Bool.and_eq_true] at hc
   obtain ⟨⟨c0,c1⟩,c2⟩:=hc
   obtain ⟨c3,⟨hd⟩⟩:=hd
   have c2:=Nat.eq_of_beq_eq_true c2
   have rc:=SV.cells_rel rz c1
   have hl1:=relL_len rc
   have hl2:=relL_len hr
   have hone:=allOne_rel rc c1
   have hrun:=run_storeAt' (P:=P) (W:=W) hn (b:=b) (off:=off) (v:=a.eval z) (by omega) hw (by simp;omega) hone
   refine wp_of_skip (by simp [hop]) (by simp [execOp,hop,e2,hrun];rfl) ?_
   refine OpPost.set C hH' (Nm.val_own c0) (by rw [e1];rfl) hd ?_ (Nm.val_own c0) ?_
   ·refine ⟨b,vs.take off++(a.eval z).cells.toList++vs.drop (off + n),e1,hb', ?_,relL_append (relL_append (relL_take off hr) rc) (relL_drop (off + n) hr), ?_,hat⟩
    ·rw [setRow_heap W b _ _ ty (0,0) hw];simp [List.append_assoc]
    ·intro v hv
     rcases List.mem_append.1 hv with hv | hv
     ·rcases List.mem_append.1 hv with hv | hv
      ·exact h1 v (List.mem_of_mem_take hv)
      ·exact hone v hv
     ·exact h1 v (List.mem_of_mem_drop hv)
   ·intro c hc
    rcases List.mem_append.1 hc with hc | hc
    ·rcases List.mem_append.1 hc with hc | hc
     ·exact (C.mH _ _ hH').2 c (List.mem_of_mem_take hc)
     ·exact SV.cells_ment mz c hc
    ·exact (C.mH _ _ hH').2 c (List.mem_of_mem_drop hc)
 ·rename_i h off e
  rw [e] at rx
  obtain ⟨b,e1,e2⟩:=rx
  split at hd
  case h_2=>exact hd.elim
  rename_i s cs ty hH
  have hH':=C.view _ _ hH
  obtain ⟨b',vs,e3,hb',hw,hr,h1,hat⟩:=C.sim.own _ _ hH'
  rw [e1] at e3;cases e3
  cases hc:(s.own && allOne (z'.ev fr).cells && Nat.beq (z'.ev fr).cells.length n && Nat.ble (off + n) cs.length) with
  | false=>simp only [hc] at hd;exact hd.elim
  | true =>
   simp only [hc,cond_true] at hd
   simp only [Bool.and_eq_true] at hc
   obtain ⟨⟨⟨c0,c1⟩,c2⟩,c3⟩:=hc
   have c2:=Nat.eq_of_beq_eq_true c2
   have c3:=Nat.le_of_ble_eq_true c3
   have rc:=SV.cells_rel rz c1
   have hl1:=relL_len rc
   have hl2:=relL_len hr
   have hone:=allOne_rel rc c1
   have hrun:=run_storeAt' (P:=P) (W:=W) hn (b:=b) (off:=off) (v:=a.eval z) (by omega) hw (by simp;omega) hone
   refine wp_of_skip (by simp [hop]) (by simp [execOp,hop,e2,hrun];rfl) ?_
   refine OpPost.set C hH' (Nm.val_own c0) (by rw [e1];rfl) hd ?_ (Nm.val_own c0) ?_
   ·refine ⟨b,vs.take off++(a.eval z).cells.toList++vs.drop (off + n),e1,hb', ?_,relL_append (relL_append (relL_take off hr) rc) (relL_drop (off + n) hr), ?_,hat⟩
    ·rw [setRow_heap W b _ _ ty (0,0) hw];simp [List.append_assoc]
    ·intro v hv
     rcases List.mem_append.1 hv with hv | hv
     ·rcases List.mem_append.1 hv with hv | hv
      ·exact h1 v (List.mem_of_mem_take hv)
      ·exact hone v hv
     ·exact h1 v (List.mem_of_mem_drop hv)
   ·intro c hc
    rcases List.mem_append.1 hc with hc | hc
    ·rcases List.mem_append.1 hc with hc | hc
     ·exact (C.mH _ _ hH').2 c (List.mem_of_mem_take hc)
     ·exact SV.cells_ment mz c hc
    ·exact (C.mH _ _ hH').2 c (List.mem_of_mem_drop hc)
 ·rename_i h off e
  rw [e] at rx
  obtain ⟨b,m,c,e1,e2⟩:=rx
  split at hd
  case h_3=>exact hd.elim
  rotate_left
  ·rename_i b0 m' cap vs rest ty k hH
   have hH':=C.view _ _ hH
   obtain ⟨f1,f2,f3,f4,f5,f6,f7,f8⟩:=C.sim.own _ _ hH'
   rw [e1] at f1;cases f1
   split at hd
   case h_2=>exact hd.elim
   rename_i us hus
   cases hc:(allOne (z'.ev fr).cells && Nat.beq us.length n) with
   | false=>simp only [hc] at hd;exact hd.elim
   | true =>
    simp only [hc,cond_true] at hd
    obtain ⟨hfit,⟨hd⟩⟩:=hd
    simp only [Bool.and_eq_true] at hc
    obtain ⟨c1,c2⟩:=hc
    have c2:=Nat.eq_of_beq_eq_true c2
    have rc:=SV.cells_rel rz c1
    have hone:=allOne_rel rc c1
    have hzu:=toVals_rel rc hus
    have hrun:=run_storeAt' (P:=P) (W:=W) hn (b:=b) (off:=off) (v:=a.eval z) (by rw [hzu];exact c2) f3 (by simp;omega) hone
    refine wp_of_skip (by simp [hop]) (by simp [execOp,hop,e2,hrun];rfl) ?_
    refine OpPost.set C hH' rfl (by rw [e1];rfl) hd ?_ rfl trivial
    have e4:((vs++rest).take off++us++(vs++rest).drop (off + n)) = (vs.take off++us++vs.drop (off + n))++rest:=by
     rw [List.take_append_of_le_length (by omega),List.drop_append_of_le_length (by omega)];simp [List.append_assoc]
    refine ⟨e1,f2, ?_, ?_,f5,f6,f7, ?_⟩
    ·rw [setRow_heap W b _ _ ty (0,0) f3, ← e4,hzu];simp [List.append_assoc]
    ·simp only [List.length_append,List.length_take,List.length_drop];omega
    ·intro v hv
     rcases List.mem_append.1 hv with hv | hv
     ·rcases List.mem_append.1 hv with hv | hv
      ·exact f8 v (List.mem_of_mem_take hv)
      ·exact hone v (by rw [hzu];exact hv)
     ·exact f8 v (List.mem_of_mem_drop hv)
  rename_i m' vs ty k hH
  have hH':=C.view _ _ hH
  obtain ⟨hown,h1,hmine⟩:=C.sim.own _ _ hH'
  split at hd
  case h_2=>exact hd.elim
  rename_i us hus
  cases hc:(allOne (z'.ev fr).cells && Nat.beq us.length n) with
  | false=>simp only [hc] at hd;exact hd.elim
  | true =>
   simp only [hc,cond_true] at hd
   obtain ⟨hfit,⟨hd⟩⟩:=hd
   simp only [Bool.and_eq_true] at hc
   obtain ⟨c1,c2⟩:=hc
   have c2:=Nat.eq_of_beq_eq_true c2
   have rc:=SV.cells_rel rz c1
   have hone:=allOne_rel rc c1
   have hzu:=toVals_rel rc hus
   have em:m = m':=by
    rcases hown.2 with ⟨e',_⟩ | ⟨g,cap,cur,e',_⟩<;>rw [e1] at e'<;>cases e';rfl
   subst em
   obtain ⟨cap,cur,ec,hw,hbb,hnc,hcm,hcs,htake⟩:=ownsRow_cells hown e1
   have hlen:vs.length≤cur.size:=by
    have:=congrArg List.length htake
    simp at this;omega
   have hrun:=run_storeAt' (P:=P) (W:=W) hn (b:=b) (off:=off) (v:=a.eval z) (by rw [hzu];exact c2) hw (by omega) hone
   refine wp_of_skip (by simp [hop]) (by simp [execOp,hop,e2,hrun];rfl) ?_
   refine OpPost.set C hH' rfl (by rw [e1];rfl) hd ?_ rfl trivial
   refine ⟨⟨?_, .inr ⟨b,c,_,e1,hbb,setRow_heap W b _ _ ty (0,0) hw,by omega,by omega, ?_, ?_⟩⟩, ?_,hmine⟩
   ·have:=hown.1
    simp only [List.length_append,List.length_take,List.length_drop];omega
   ·have:(a.eval z).cells.toList.length = n:=by rw [hzu];exact c2
    have h2:(a.eval z).cells.size = n:=by simpa using this
    subst ec
    simp only [List.size_toArray,List.length_append,List.length_take,List.length_drop,Array.length_toList];omega
   ·have e6:=splice_take htake c2 hfit
    have e7:(vs.take off++us++vs.drop (off + n)).length = m * k:=by
     have:=hown.1
     simp only [List.length_append,List.length_take,List.length_drop];omega
    rw [e7] at e6
    rw [hzu];simpa [List.append_assoc] using e6
   ·intro v hv
    rcases List.mem_append.1 hv with hv | hv
    ·rcases List.mem_append.1 hv with hv | hv
     ·exact h1 v (List.mem_of_mem_take hv)
     ·exact hone v (by rw [hzu];exact hv)
    ·exact h1 v (List.mem_of_mem_drop hv)

end
end Go.Pal

namespace Go.Pal
open Go.RowKit
theorem foldl_splice:∀ (us:List Value) (k off:Nat) (cs:Array Value),off + k + us.length≤cs.size →
  ((us.zipIdx k).foldl (fun cs p=>cs.setIfInBounds (off + p.2) p.1) cs).toList = cs.toList.take (off + k)++us++cs.toList.drop (off + k + us.length)
 | [],k,off,cs,_=>by simp
 | u :: us,k,off,cs,h=>by
  simp only [List.zipIdx_cons,List.foldl_cons]
  rw [foldl_splice us (k + 1) off _ (by simp at h ⊢;omega)]
  have e:=list_seg_step cs.toList (off + k) u us (by simp at h ⊢;omega)
  simpa [Array.toList_setIfInBounds,Nat.add_assoc,Nat.add_comm 1] using e

theorem fill_lay {E:Nat→Value} {places:List (Nat × Nat)} {place:Nat→Option (Nat × Nat)} (hp:∀ i p,places[i]? = some p→place i = some p):∀ {ps:List (Nat × SV)} {vs:List (Nat × Value)} {zs cs:List S1} {zv:Array Value},
  (∀ (i:Nat) (p:Nat × SV) (q:Nat × Value),ps[i]? = some p→vs[i]? = some q→p.1 = q.1∧p.2.rel E q.2)→ps.length = vs.length→relL E zs zv.toList→lay places zs ps = some cs →
   ∃ cv,Instr.fill place zv vs = some cv∧relL E cs cv.toList
 | [],[],zs,cs,zv,_,_,hz,h=>by cases h;exact ⟨zv,rfl,hz⟩
 | [],_ :: _,_,_,_,_,hl,_,_=>by simp at hl
 | _ :: _,[],_,_,_,_,hl,_,_=>by simp at hl
 | (i,sv) :: ps,(i',v) :: vs,zs,cs,zv,hr,hl,hz,h=>by
  obtain ⟨e0,r0⟩:=hr 0 (i,sv) (i',v) rfl rfl
  simp only at e0 r0
  subst e0
  rw [lay_cons] at h
  split at h
  case h_2=>cases h
  rename_i off size hpl
  cases hc:(Nat.beq sv.cells.length size && Nat.ble (off + size) zs.length && allOne sv.cells) with
  | false=>rw [hc] at h;cases h
  | true =>
   rw [hc] at h
   simp only [Bool.and_eq_true] at hc
   obtain ⟨⟨c1,c2⟩,c3⟩:=hc
   have c1:=Nat.eq_of_beq_eq_true c1
   have c2:=Nat.le_of_ble_eq_true c2
   have rc:=SV.cells_rel r0 c3
   have l1:=relL_len rc
   have l2:=relL_len hz
   have hsz:v.cells.size = size:=by simpa using (show v.cells.toList.length = size by omega)
   have hzs:zv.toList.length = zv.size:=by simp
   have hsp:=foldl_splice v.cells.toList 0 off zv (by simp only [Array.length_toList] at l1 ⊢;omega)
   have key:((v.cells.zipIdx).foldl (fun cs p=>cs.setIfInBounds (off + p.2) p.1) zv).toList = zv.toList.take off++v.cells.toList++zv.toList.drop (off + size):=by
    rw [← Array.foldl_toList,Array.toList_zipIdx]
    rw [hsp];simp only [Nat.add_zero,Array.length_toList,hsz]
   obtain ⟨cv,f1,f2⟩:=fill_lay (E:=E) hp (ps:=ps) (vs:=vs) (zs:=zs.take off++sv.cells++zs.drop (off + size)) (cs:=cs) (zv:=(v.cells.zipIdx).foldl (fun cs p=>cs.setIfInBounds (off + p.2) p.1) zv)
    (fun j p q h1 h2=>hr (j + 1) p q (by simpa using h1) (by simpa using h2)) (by simpa using hl)
    (by rw [key];exact relL_append (relL_append (relL_take off hz) rc) (relL_drop _ hz)) h
   refine ⟨cv, ?_,f2⟩
   simp only [Instr.fill,hp _ _ hpl]
   rw [if_neg]
   ·exact f1
   ·simp;omega

theorem parts_rel {fr:Nat→SV} {E:Nat→Value} {a:Act} (hfr:∀ i,(fr i).rel E (a.tmps.getD i undef)):∀ {xs:List (Nat × Operand)} {ys:List (Nat × Opd)},compParts xs = some ys →
  (∀ (i:Nat) (p:Nat × SV) (q:Nat × Value),(evParts fr ys)[i]? = some p→(xs.map fun x=>(x.1,a.eval x.2))[i]? = some q→p.1 = q.1∧p.2.rel E q.2)∧(evParts fr ys).length = (xs.map fun x=>(x.1,a.eval x.2)).length
 | [],ys,h=>by cases h;exact ⟨fun i p q h1=>by simp [evParts] at h1,rfl⟩
 | (i,x) :: xs,ys,h=>by
  simp only [compParts] at h
  split at h
  case h_2=>cases h
  rename_i y ys' h1 h2
  cases h
  obtain ⟨ih1,ih2⟩:=parts_rel hfr h2
  refine ⟨fun j p q e1 e2=>?_,by simp [evParts,ih2]⟩
  cases j with
  | zero=>simp [evParts] at e1 e2;subst e1;subst e2;exact ⟨rfl,opd_rel hfr h1⟩
  | succ j=>exact ih1 j p q (by simpa [evParts] using e1) (by simpa using e2)

theorem lay_ment {M:Nat→Prop} {places:List (Nat × Nat)}:∀ {ps:List (Nat × SV)} {zs cs:List S1},(∀ p∈ps,p.2.ment M)→(∀ c∈zs,c.ment M)→lay places zs ps = some cs→∀ c∈cs,c.ment M
 | [],zs,cs,_,hz,h=>by cases h;exact hz
 | (i,sv) :: ps,zs,cs,hp,hz,h=>by
  rw [lay_cons] at h
  split at h
  case h_2=>cases h
  rename_i off size hpl
  cases hc:(Nat.beq sv.cells.length size && Nat.ble (off + size) zs.length && allOne sv.cells) with
  | false=>rw [hc] at h;cases h
  | true =>
   rw [hc] at h
   refine lay_ment (fun p hm=>hp p (by simp [hm])) (fun c hm=>?_) h
   rcases List.mem_append.1 hm with hm | hm
   ·rcases List.mem_append.1 hm with hm | hm
    ·exact hz c (List.mem_of_mem_take hm)
    ·exact SV.cells_ment (hp (i,sv) (by simp)) c hm
   ·exact hz c (List.mem_of_mem_drop hm)
theorem evParts_ment {fr:Nat→SV} {M:Nat→Prop} (mfr:∀ i,(fr i).ment M):∀ (ys:List (Nat × Opd)), ∀ p∈evParts fr ys,p.2.ment M
 | [],_,h=>by cases h
 | (i,y) :: ys,p,h=>by
  rcases List.mem_cons.1 h with rfl | h
  ·exact opd_ment mfr y
  ·exact evParts_ment mfr ys p h

section
variable {P:Program} {o:Oper} {a:Act} {W:World} {rd:Option Nat} {nn:Nat} {Q:Exit→Act→World→Prop}
variable {w0:Root} {G0 Gr G:Hp} {M:Nat→Prop} {E:Nat→Value} {H Hv:Nat→Option OB} {hid:Nat} {K:SV→List (Nat × Option OB)→Hp→Prop} {fr:Nat→SV} {tab:FuncId→Option PSpec}

theorem op_iaddr (C:Ctx w0 G0 Gr G M E H Hv hid fr a W) {t e:TypeId} {k:Nat} {x i:Operand} {x' i':Opd} (hx:compOpd x = some x') (hi:compOpd i = some i') (ht:P.underlying t = some (.slice e)) (hk:szT P e = some k)
  (hop:o.op = .indexAddr t x i) (hd:(ev tab fr Hv hid (.iaddr k x' i')).den P hid Gr G K):Goal P o a W rd nn Q w0 G0 M E H hid K:=by
 have rx:=opd_rel C.rfr hx
 have mx:=opd_ment C.mfr x'
 have ri:=opd_rel C.rfr hi
 have h2:=run_sizeOf' (W:=W) hk
 simp only [ev] at hd
 split at hd
 case h_2=>exact hd.elim
 rename_i q j ei
 rw [ei] at ri
 have ri:a.eval i = .int q j:=ri
 have run:∀ b off n c,a.eval x = .slice (some ⟨b,off,none⟩) n c→0≤j→j < (n:Int)→(execOp a.eval o).run P W = .ok (.value (.pointer (some ⟨b,off + j.toNat * k,none⟩))) W:=fun b off n c e1 h3 h4=>by
  simp [execOp,hop,e1,ri,Instr.indexAt,asIntOf,run_underlying ht,h2,h3,h4,Addr.add_lit]
 split at hd
 case h_3=>exact hd.elim
 ·rename_i ad n c ex
  rw [ex] at rx
  have rx:a.eval x = .slice ad n c:=rx
  obtain ⟨⟨h3,h4⟩,⟨h5,⟨hd⟩⟩⟩:=hd
  rw [h5] at rx
  exact C.quiet (by simp [hop]) (run _ _ n c rx h3 h4) hd rfl trivial
 ·rename_i h n ex
  rw [ex] at rx mx
  split at hd
  case h_3=>exact hd.elim
  ·rename_i p m vs ty k' hH
   have hH':=C.view _ _ hH
   obtain ⟨hown,h1,hmine⟩:=C.sim.own _ _ hH'
   cases hc:Nat.beq k' k with
   | false=>simp only [hc] at hd;exact hd.elim
   | true =>
    simp only [hc,cond_true] at hd
    obtain ⟨⟨h3,h4⟩,⟨h5,⟨hd⟩⟩⟩:=hd
    subst h5
    obtain ⟨rx,ad,c,e1⟩:=rx
    rcases hown.2 with ⟨e',hn0⟩ | ⟨g,cap,cur,e',_⟩
    ·omega
    ·rw [e'] at e1;cases e1
     rw [e'] at rx
     refine C.quiet (by simp [hop]) (run g 0 n c rx h3 h4) hd ⟨g,n,c,e',by simp⟩ mx
  ·rename_i b0 m cap vs rest ty k' hH
   have hH':=C.view _ _ hH
   obtain ⟨e',_⟩:=C.sim.own _ _ hH'
   cases hc:Nat.beq k' k with
   | false=>simp only [hc] at hd;exact hd.elim
   | true =>
    simp only [hc,cond_true] at hd
    obtain ⟨⟨h3,h4⟩,⟨h5,⟨hd⟩⟩⟩:=hd
    subst h5
    obtain ⟨rx,ad,c,e1⟩:=rx
    rw [e'] at rx
    refine C.quiet (by simp [hop]) (run b0 0 n cap rx h3 h4) hd ⟨b0,n,cap,e',by simp⟩ mx

theorem op_fld (C:Ctx w0 G0 Gr G M E H Hv hid fr a W) {s:TypeId} {fs:Array Field} {i n:Nat} {f:Field} {g:Bool} {x:Operand} {x':Opd} (hx:compOpd x = some x') (hs:P.underlying s = some (.struct fs)) (hf:fs[i]? = some f)
  (hn:szT P f.type = some n) (hg:aggT P f.type = some g) (hgn:g = true∨n = 1) (hop:o.op = .field s x i) (hd:(ev tab fr Hv hid (.fld f.offset n g x')).den P hid Gr G K):Goal P o a W rd nn Q w0 G0 M E H hid K:=by
 have rx:=opd_rel C.rfr hx
 have mx:=opd_ment C.mfr x'
 simp only [ev] at hd
 split at hd
 case h_2=>exact hd.elim
 rename_i cs ecs
 have hag:∃ vs:List Value,a.eval x = .agg vs.toArray∧relL E cs vs∧(∀ c∈cs,c.ment M):=by
  generalize x'.ev fr = sv at *
  unfold SV.aggCells at ecs
  split at ecs
  ·cases ecs;obtain ⟨vs,e,hr⟩:=rx;exact ⟨vs,e,hr,mx⟩
  ·rename_i us
   cases ecs
   have rx:a.eval x = .agg us:=rx
   exact ⟨us.toList,by simpa using rx,relL_vals E _,fun c hc=>by obtain ⟨v,_,rfl⟩:=List.mem_map.1 hc;trivial⟩
  ·cases ecs
 obtain ⟨vs,e1,hr,hm⟩:=hag
 cases hl:Nat.beq ((cs.drop f.offset).take n).length n with
 | false=>simp only [hl] at hd;exact hd.elim
 | true =>
  simp only [hl,cond_true] at hd
  have hl:=Nat.eq_of_beq_eq_true hl
  have hr2:=relL_take n (relL_drop f.offset hr)
  have hlen:=relL_len hr2
  refine C.quiet (v:=mkV g ((vs.drop f.offset).take n)) (by simp [hop]) ?_ hd (mkV_rel hgn (by omega) hr2) (SV.mk_ment fun c hc=>hm c (List.mem_of_mem_drop (List.mem_of_mem_take hc)))
  have h1:=run_isAgg' (W:=W) hg
  have h2:=run_sizeOf' (W:=W) hn
  cases g with
  | true =>
   have:vs.toArray.extract f.offset (f.offset + n) = ((vs.drop f.offset).take n).toArray:=by simp
   simp [execOp,hop,e1,Instr.field,run_underlying hs,hf,asAgg,part,h1,h2,mkV]
  | false =>
   have hn1:n = 1:=by simpa using hgn
   subst hn1
   have h3:∃ v,vs[f.offset]? = some v:=by
    cases h:vs[f.offset]? with
    | some v=>exact ⟨v,rfl⟩
    | none=>have:=List.getElem?_eq_none_iff.1 h;simp only [List.length_take,List.length_drop] at hlen hl;omega
   obtain ⟨v,h3⟩:=h3
   have h4:(vs.drop f.offset).take 1 = [v]:=by
    have hlt:=(List.getElem?_eq_some_iff.1 h3).1
    rw [List.drop_eq_getElem_cons hlt]
    simp [(List.getElem?_eq_some_iff.1 h3).2]
   simp [execOp,hop,e1,Instr.field,run_underlying hs,hf,asAgg,part,h1,h3,h4,mkV]

theorem run_mapM_places {fs:List Field} {ps:List (Nat × Nat)} (h:fs.mapM (fun f=>(szT P f.type).map fun n=>(f.offset,n)) = some ps):(fs.mapM fun f=>(do pure (f.offset, ← sizeOf f.type):Sem (Nat × Nat))).run P W = .ok ps W:=by
 induction fs generalizing ps with
 | nil=>simp at h;subst h;simp
 | cons f fs ih =>
  simp only [List.mapM_cons,Option.bind_eq_bind,Option.bind_eq_some_iff,Option.pure_def,Option.some.injEq] at h
  obtain ⟨p,hp,ps',hps,rfl⟩:=h
  cases hn:szT P f.type with
  | none=>simp [hn] at hp
  | some n =>
   simp [hn] at hp
   subst hp
   have ih':=ih hps
   simp only [bind_pure_comp] at ih'
   simp [List.mapM_cons,run_sizeOf' hn,ih',Result.andThen]

theorem op_bld (C:Ctx w0 G0 Gr G M E H Hv hid fr a W) {t:TypeId} {ps:List (Nat × Nat)} {zs:List Value} {parts:Array (Nat × Operand)} {xs:List (Nat × Opd)} (hp:placesT P t = some ps) (hz:zeroT P t = some zs) (hxs:compParts parts.toList = some xs)
  (hop:o.op = .build t parts) (hd:(ev tab fr Hv hid (.bld ps zs xs)).den P hid Gr G K):Goal P o a W rd nn Q w0 G0 M E H hid K:=by
 simp only [ev] at hd
 split at hd
 case h_2=>exact hd.elim
 rename_i cs hlay
 obtain ⟨z,i,_,_,hzs,_,h1,hrun⟩:=run_zero' (W:=W) hz
 obtain ⟨pr,pl⟩:=parts_rel C.rfr hxs
 unfold placesT at hp
 split at hp
 case h_3=>cases hp
 rotate_left
 ·rename_i len e hu
  cases hn:szT P e with
  | none=>simp [hn] at hp
  | some n =>
   simp only [hn,Option.map_some,Option.some.injEq] at hp
   subst hp
   obtain ⟨cv,f1,f2⟩:=fill_lay (E:=E) (place:=fun i=>some (i * n,n)) (fun i p h=>by
    rw [List.getElem?_map] at h
    cases hr:(List.range len)[i]? with
    | none=>rw [hr] at h;cases h
    | some j =>
     rw [hr] at h
     obtain ⟨hj,e⟩:=List.getElem?_eq_some_iff.1 hr
     rw [List.getElem_range] at e
     subst e
     exact h) pr pl (zv:=z.cells) (by rw [hzs];exact relL_vals E zs) hlay
   refine C.quiet (v:=.agg cv) (by simp [hop]) ?_ hd ⟨cv.toList,by simp,f2⟩ (lay_ment (evParts_ment C.mfr xs) (fun c hc=>by obtain ⟨v,_,rfl⟩:=List.mem_map.1 hc;trivial) hlay)
   have hf:(parts.map fun x=>(x.1,a.eval x.2)).toList = parts.toList.map fun x=>(x.1,a.eval x.2):=by simp
   simp only [execOp,hop]
   simp [Instr.build,hrun,run_underlying hu,run_sizeOf' hn,Result.andThen,f1]
 rename_i fs hu
 obtain ⟨cv,f1,f2⟩:=fill_lay (E:=E) (place:=(ps.toArray[·]?)) (fun i p h=>by simpa using h) pr pl (zv:=z.cells) (by rw [hzs];exact relL_vals E zs) hlay
 refine C.quiet (v:=.agg cv) (by simp [hop]) ?_ hd ⟨cv.toList,by simp,f2⟩ (lay_ment (evParts_ment C.mfr xs) (fun c hc=>by obtain ⟨v,_,rfl⟩:=List.mem_map.1 hc;trivial) hlay)
 have hm:=run_mapM_places (W:=W) hp
 have hm':(fs.mapM fun f=>(do pure (f.offset, ← sizeOf f.type):Sem (Nat × Nat))).run P W = .ok ps.toArray W:=by
  rw [Array.mapM_eq_mapM_toList]
  simp only [Functor.map,Sem.run_bind',hm]
  rfl
 have hf:(parts.map fun x=>(x.1,a.eval x.2)).toList = parts.toList.map fun x=>(x.1,a.eval x.2):=by simp
 simp only [bind_pure_comp] at hm'
 simp only [List.getElem?_toArray] at f1
 simp only [execOp,hop]
 simp [Instr.build,hrun,run_underlying hu,hm',Result.andThen,f1]


theorem lay_len {places:List (Nat × Nat)}:∀ {ps:List (Nat × SV)} {zs cs:List S1},lay places zs ps = some cs→cs.length = zs.length
 | [],zs,cs,h=>by cases h;rfl
 | (i,sv) :: ps,zs,cs,h=>by
  rw [lay_cons] at h
  split at h
  case h_2=>cases h
  rename_i off size hpl
  cases hc:(Nat.beq sv.cells.length size && Nat.ble (off + size) zs.length && allOne sv.cells) with
  | false=>rw [hc] at h;cases h
  | true =>
   rw [hc] at h
   simp only [Bool.and_eq_true] at hc
   have c1:=Nat.eq_of_beq_eq_true hc.1.1
   have c2:=Nat.le_of_ble_eq_true hc.1.2
   rw [lay_len h]
   simp only [List.length_append,List.length_take,List.length_drop];omega

theorem zeros_flat (z:Array Value) (len:Nat) (hz:0 < z.size):((Array.range (len * z.size)).map (fun i=>z[i % z.size]!)).toList = (List.replicate len z.toList).flatten:=by
 induction len with
 | zero=>simp
 | succ len ih =>
  rw [List.replicate_succ',List.flatten_append, ← ih,Nat.succ_mul]
  simp only [Array.toList_map,Array.toList_range,List.flatten_cons,List.flatten_nil,List.append_nil]
  rw [List.range_add,List.map_append,List.map_map]
  congr 1
  apply List.ext_getElem (by simp)
  intro i h1 h2
  simp at h1
  simp [Nat.mul_add_mod_self_right,Nat.add_comm,Nat.mod_eq_of_lt h1,h1]
theorem bsl_run (C:Ctx w0 G0 Gr G M E H Hv hid fr a W) {t e:TypeId} {len:Nat} {zs:List Value} {parts:Array (Nat × Operand)} {xs:List (Nat × Opd)} (ht:P.underlying t = some (.slice e)) (hz:zeroT P e = some zs) (hxs:compParts parts.toList = some xs)
  (hk:1≤zs.length) (hle:len * zs.length≤16777216) (hop:o.op = .buildSlice t len parts) {cs:List S1} {vs:List Value} (hlay:lay ((List.range len).map fun i=>(i * zs.length,zs.length)) ((List.replicate len zs).flatten.map .val) (evParts fr xs) = some cs) (hvs:toVals cs = some vs) (h1:allOne cs = true) :
  (execOp a.eval o).run P W = .ok (.value (.slice (some ⟨W.heap.size,0,none⟩) len len)) (W.alloc (.cells vs.toArray e))∧vs.length = len * zs.length∧∀ v∈vs,v.oneCell' = true:=by
 obtain ⟨z,i,hi,hiz,hzs,hsz,hone,hrun⟩:=run_zero' (W:=W) hz
 obtain ⟨pr,pl⟩:=parts_rel C.rfr hxs
 have hzz:z.cells.size = zs.length:=by rw [← hzs];simp
 have hflat:=zeros_flat z.cells len (by omega)
 rw [hzs] at hflat
 obtain ⟨cv,f1,f2⟩:=fill_lay (E:=E) (place:=fun i=>some (i * zs.length,zs.length)) (fun i p h=>by
  rw [List.getElem?_map,Option.map_eq_some_iff] at h
  obtain ⟨j,hj,rfl⟩:=h
  have:=(List.getElem?_eq_some_iff.1 hj).2
  simp at this;rw [this]) pr pl (zv:=(Array.range (len * z.cells.size)).map (fun i=>z.cells[i % z.cells.size]!)) (by rw [hflat];exact relL_vals E _) hlay
 have hcv:cv.toList = vs:=toVals_rel f2 hvs
 have hlen:vs.length = len * zs.length:=by
  have e1:=lay_len hlay
  have e2:=relL_len f2
  rw [hcv] at e2
  simp [List.length_flatten] at e1
  omega
 have hcv2:cv = vs.toArray:=by rw [← hcv]
 refine ⟨?_,hlen,by rw [← hcv];exact allOne_rel f2 h1⟩
 rw [← hcv2]
 have hpm:(parts.map fun x=>(x.1,a.eval x.2)).toList = parts.toList.map fun x=>(x.1,a.eval x.2):=by simp
 have hb:(Instr.buildSlice t len (parts.map fun (i,x)=>(i,a.eval x))).run P W = .ok (.slice (some ⟨W.heap.size,0,none⟩) len len) (W.alloc (.cells cv e)):=by
  rw [hzz] at f1
  have hsize:i.size = zs.length:=hsz.symm
  by_cases h0:len * zs.length = 0
  ·have hl0:len = 0:=by
    rcases Nat.mul_eq_zero.1 h0 with h | h
    ·exact h
    ·omega
   subst hl0
   simp only [Nat.zero_mul] at f1
   simp [Instr.buildSlice,run_underlying ht,sizeOf,typeInfo,hi,hsize,newRow]
   have f1':Instr.fill (fun i=>some (i * zs.length,zs.length)) #[] (parts.toList.map fun x=>(x.1,a.eval x.2)) = some cv:=by simpa [Array.range_zero'] using f1
   rw [show (Array.map (fun _=>default) (Array.range 0):Array Value) = #[] from by simp [Array.range_zero'],f1']
   simp
  ·have hgt:¬ (len * zs.length > 2 ^ 24):=by omega
   simp [Instr.buildSlice,run_underlying ht,sizeOf,typeInfo,hi,hsize,hgt,h0,hrun,hzz]
   simp [f1,newRow]
 simp [execOp,hop,hb]
theorem op_bslG (C:Ctx w0 G0 Gr G M E H Hv hid fr a W) {t e:TypeId} {len:Nat} {zs:List Value} {parts:Array (Nat × Operand)} {xs:List (Nat × Opd)} (ht:P.underlying t = some (.slice e)) (hz:zeroT P e = some zs) (hxs:compParts parts.toList = some xs)
  (hk:1≤zs.length) (hle:len * zs.length≤16777216) (hop:o.op = .buildSlice t len parts) (hd:(ev tab fr Hv hid (.bsl e zs.length len (List.replicate len zs).flatten xs)).den P hid Gr G K):o.wpIn (FW rd) nn P a W (fun a' W'=>∃ v,a' = a.put o.dst v∧OpPost w0 G0 M E H hid K v W'∧∃ ad,v = .slice ad len len) Q:=by
 simp only [ev] at hd
 split at hd
 case h_2=>exact hd.elim
 rename_i cs hlay
 split at hd
 case h_2=>exact hd.elim
 rename_i vs hvs
 cases h1:allOne cs with
 | false=>rw [h1] at hd;exact hd.elim
 | true =>
  rw [h1] at hd
  obtain ⟨hrun,hlen,hone⟩:=bsl_run C ht hz hxs hk hle hop hlay hvs h1
  have hn:len≤len * zs.length:=Nat.le_mul_of_pos_right _ hk
  refine wp_of_run (W':=W.alloc (.cells vs.toArray e)) (v:=.slice (some ⟨W.heap.size,0,none⟩) len len) (by simp [hop]) hrun ?_
  have hown:(W.alloc (.cells vs.toArray e)).ownsRow 0 e zs.length (.slice (some ⟨W.heap.size,0,none⟩) len len) len vs:=by
   refine ⟨hlen, .inr ⟨W.heap.size,len,vs.toArray,rfl,Nat.zero_le _,heap_alloc_new W _,Nat.le_refl _,by unfold maxLen;omega, ?_, ?_⟩⟩
   ·simpa using hlen
   ·rw [← hlen];simp
  refine ⟨?_,_,rfl⟩
  refine OpPost.new C.sim C.mH C.fresh ((Below.refl _ _).alloc (Nat.le_refl _) _) hd (u:=.slice (some ⟨W.heap.size,0,none⟩) len len) ?_ trivial rfl ?_ ?_ (.inr rfl)
  ·refine ⟨by rw [upd_same];exact hown,hone, ?_⟩
   intro b hb;rw [upd_same] at hb;simp only [blkOf,Option.some.injEq] at hb;subst hb;exact .inl C.sim.below.size
  ·intro b hb;simp [OB.has,blkOf] at hb;omega
  ·exact ⟨by rw [upd_same],_,_,upd_same _ _ _⟩

theorem op_bsl (C:Ctx w0 G0 Gr G M E H Hv hid fr a W) {t e:TypeId} {len:Nat} {zs:List Value} {parts:Array (Nat × Operand)} {xs:List (Nat × Opd)} (ht:P.underlying t = some (.slice e)) (hz:zeroT P e = some zs) (hxs:compParts parts.toList = some xs)
  (hk:1≤zs.length) (hle:len * zs.length≤16777216) (hop:o.op = .buildSlice t len parts) (hd:(ev tab fr Hv hid (.bsl e zs.length len (List.replicate len zs).flatten xs)).den P hid Gr G K):Goal P o a W rd nn Q w0 G0 M E H hid K :=
 Oper.wpIn_mono (fun _ _ ⟨v,h1,h2,_⟩=>⟨v,h1,h2⟩) (op_bslG C ht hz hxs hk hle hop hd)

theorem op_len (C:Ctx w0 G0 Gr G M E H Hv hid fr a W) {t e:TypeId} {x:Operand} {x':Opd} (hx:compOpd x = some x') (ht:P.underlying t = some (.slice e))
  (hop:o.op = .call { callee:=.builtin .len,args:=#[x],argTypes:=#[t] }) (hd:(ev tab fr Hv hid (.len x')).den P hid Gr G K):Goal P o a W rd nn Q w0 G0 M E H hid K:=by
 have rx:=opd_rel C.rfr hx
 have run:∀ ad n c,a.eval x = .slice ad n c→(execOp a.eval o).run P W = .ok (.value (.int .i64 n)) W:=fun ad n c e=>by
  simp [execOp,hop,resolve,invoke,builtin,e,Builtin.len_,run_underlying ht,goInt]
 simp only [ev] at hd
 split at hd
 case h_4=>exact hd.elim
 ·rename_i ad n c ex
  rw [ex] at rx
  exact C.quiet (by simp [hop]) (run ad n c rx) hd rfl trivial
 ·rename_i h n ex
  rw [ex] at rx
  obtain ⟨e1,ad,c,e2⟩:=rx
  exact C.quiet (by simp [hop]) (run ad n c (e1.trans e2)) hd rfl trivial
 ·rename_i h n ex
  rw [ex] at rx
  obtain ⟨b,m,c,e1,e2⟩:=rx
  exact C.quiet (by simp [hop]) (run _ n c e2) hd rfl trivial
theorem op_lenS (C:Ctx w0 G0 Gr G M E H Hv hid fr a W) {t:TypeId} {x:Operand} {x':Opd} (hx:compOpd x = some x') (ht:P.underlying t = some .string)
  (hop:o.op = .call { callee:=.builtin .len,args:=#[x],argTypes:=#[t] }) (hd:(ev tab fr Hv hid (.lenS x')).den P hid Gr G K):Goal P o a W rd nn Q w0 G0 M E H hid K:=by
 have rx:=opd_rel C.rfr hx
 simp only [ev] at hd
 split at hd
 case h_2=>exact hd.elim
 rename_i s ex
 rw [ex] at rx
 have rx:a.eval x = .string s:=rx
 exact C.quiet (v:=.int .i64 s.size) (by simp [hop]) (by simp [execOp,hop,resolve,invoke,builtin,rx,Builtin.len_,run_underlying ht,goInt]) hd rfl trivial

theorem run_append_none' (base:Nat) (t ty e:TypeId) (i:TypeInfo) (size:Nat) (ht:P.underlying t = some (.slice e)) (hi:P.info? e = some i) (v:Value) (n c:Nat) (xs:List Value) (hown:W.ownsRow base e size v n xs) :
  (Builtin.append_ #[t,t] ty #[v, .slice none 0 c]).run P W = .ok v W:=by
 rcases hown.2 with ⟨rfl,rfl⟩ | ⟨g,cap,cur,rfl,hb,hg,hn,r⟩
 ·simp [Builtin.append_,run_underlying ht,sizeOf,typeInfo,hi,Builtin.lenOf,Builtin.firstCells]
 ·simp [Builtin.append_,run_underlying ht,sizeOf,typeInfo,hi,Builtin.lenOf,Builtin.firstCells,hn,storeCells]
theorem srcR_sound (C:Ctx w0 G0 Gr G M E H Hv hid fr a W) {k:Nat} {x:Operand} {x':Opd} (hx:compOpd x = some x') {cont:Nat→List Value→Res} (hd:(srcR Hv k (x'.ev fr) cont).den P hid Gr G K) :
    ∃ ad m c us,a.eval x = .slice ad m c∧us.length = m * k∧(ad = none→m = 0)∧(∀ b,ad = some b→∀ j u,us[j]? = some u→W.cell? (b.add j) = some u)∧(∀ u∈us,u.oneCell' = true)∧(cont m us).den P hid Gr G K:=by
  have rx:=opd_rel C.rfr hx
  unfold srcR at hd
  split at hd
  case h_3=>exact hd.elim
  · rename_i h m ex
    rw [ex] at rx
    have both:∀ (m':Nat) (vs:List Value) (ty:TypeId) (k':Nat),W.ownsRow 0 ty k' (E h) m' vs→(∀ u∈vs,u.oneCell' = true)→(cond (Nat.beq k' k) (Res.obl (m' = m) (cont m vs)) .bad).den P hid Gr G K→∃ ad m c us,a.eval x = .slice ad m c∧us.length = m * k∧(ad = none→m = 0)∧(∀ b,ad = some b→∀ j u,us[j]? = some u→W.cell? (b.add j) = some u)∧(∀ u∈us,u.oneCell' = true)∧(cont m us).den P hid Gr G K:=fun m' vs ty k' hown h1 hd2=>by
     cases hc:Nat.beq k' k with
     | false=>simp only [hc] at hd2;exact hd2.elim
     | true =>
      simp only [hc,cond_true] at hd2
      obtain ⟨e0,⟨hd3⟩⟩:=hd2
      subst e0
      have hk:=Nat.eq_of_beq_eq_true hc
      subst hk
      obtain ⟨e1,ad,c,e2⟩:=rx
      refine ⟨ad,m',c,vs,e1.trans e2,hown.1, ?_, ?_,h1,hd3⟩
      · intro e3
        rcases hown.2 with ⟨_,e5⟩ | ⟨g,cap,cur,e',_⟩
        · exact e5
        · rw [e'] at e2;cases e2;cases e3
      · intro b e3 j u hj
        rcases hown.2 with ⟨e4,_⟩ | ⟨g,cap,cur,e',_⟩
        · rw [e4] at e2;cases e2;cases e3
        · have e'':=e'
          rw [e2] at e';cases e';cases e3
          exact hown.cells (g:=g) (by rw [e''];rfl) j u hj
    split at hd
    case h_3=>exact hd.elim
    · rename_i p m' vs ty k' hH
      obtain ⟨hown,h1,hmine⟩:=C.sim.own _ _ (C.view _ _ hH)
      exact both m' vs ty k' hown h1 hd
    · rename_i b0 m' cap vs rest ty k' hH
      obtain ⟨hown,h1,hmine⟩:=OB.xrow_own (C.sim.own _ _ (C.view _ _ hH))
      exact both m' vs ty k' hown h1 hd
  · rename_i ad m c ex
    rw [ex] at rx
    have:(m≠0→ad = some ⟨ab ad,ao ad,none⟩)∧∃ us:List Value,us.length = m * k∧(∀ j v,us[j]? = some v→W.cell? ⟨ab ad,ao ad + j,none⟩ = some v)∧(∀ u∈us,u.oneCell' = true)∧(cont m us).den P hid Gr G K:=by
      split at hd
      · rename_i p hH
        obtain ⟨h1,⟨us,hc,hd⟩⟩:=hd
        obtain ⟨h2,⟨hd⟩⟩:=(hd (C.disj hH)).out
        exact ⟨h1,us,hc.1,C.rdh_cells hH hc,h2,hd⟩
      · obtain ⟨h1,⟨us,hl,hc,⟨h2,⟨hd⟩⟩⟩⟩:=hd
        exact ⟨h1,us,hl,fun j v hj=>rd1_cell C.sim.sub (rd1_grow C.gr (hc j v hj)),h2,hd⟩
    obtain ⟨h1,us,hl,hc,h2,hd⟩:=this
    refine ⟨ad,m,c,us,rx,hl,fun e=>?_,fun b e j u hj=>?_,h2,hd⟩
    · by_cases hm:m = 0
      · exact hm
      · rw [e] at h1;exact absurd (h1 hm) (by simp)
    · have hm:m≠0:=fun hm=>by rw [hm,Nat.zero_mul] at hl;have:=List.eq_nil_of_length_eq_zero hl;subst this;simp at hj
      have h1:=h1 hm
      rw [h1] at e;cases e
      rw [Addr.add_lit]
      exact hc j u hj


theorem run_app (base:Nat) (t ty e:TypeId) (i:TypeInfo) (z:Value) (size bytes:Nat) (ht:P.underlying t = some (.slice e)) (hi:P.info? e = some i) (hz:i.zero = some z)
  (hsize:i.size = size) (hby:i.bytes = bytes) (hzs:z.cells.size = size) (hsz:0 < size) (v:Value) (n:Nat) (xs:List Value) (hown:W.ownsRow base e size v n xs)
  (b:Addr) (m c:Nat) (news:List Value) (hl:news.length = m * size) (hnews:∀ j u,news[j]? = some u→W.cell? (b.add j) = some u) (h1:∀ u∈news,u.oneCell' = true)
  (h63:n + m≤maxLen) (hbytes:(n + m) * bytes≤140737488355328) (hbase:base≤W.heap.size) :
  ∃ v' W',(Builtin.append_ #[t,t] ty #[v, .slice (some b) m c]).run P W = .ok v' W'∧W'.ownsRow base e size v' (n + m) (xs++news)∧W.grownBy W' v.ownBlock∧(∀ g,v'.ownBlock = some g→W.heap.size≤g∨v.ownBlock = some g):=by
 obtain ⟨v',W',hr,ho,hg,hnil⟩:=run_append_own (P:=P) W base t ty e i z size bytes ht hi hz hsize hby hzs hsz v n xs hown b m c news hl hnews h1 h63 hbytes hbase
 refine ⟨v',W',hr,ho,hg, ?_⟩
 have big:n + m≤9223372036854775807:=by unfold maxLen at h63;omega
 subst hsize;subst hby
 rcases hown.2 with ⟨rfl,rfl⟩ | ⟨g,cap,cur,rfl,_,hgc,hnc,hcm,hcs,htake⟩
 ·by_cases hm:m = 0
  ·have:=hnil.2 ⟨rfl,hm⟩
   rw [this];intro g e;simp [Value.ownBlock] at e
  ·have h2:=run_append_nil (P:=P) W t ty e i z ht hi hz b m c news hl hnews (by omega) (by omega) (by simp only [Nat.zero_add] at hbytes;omega)
   rw [h2] at hr
   cases hr
   intro g e;simp [Value.ownBlock] at e;omega
 ·by_cases hroom:n + m≤cap
  ·have hfit:n * i.size + news.length≤cur.size:=by rw [hl,hcs, ← Nat.add_mul];exact Nat.mul_le_mul_right _ hroom
   have h2:=run_append_room (P:=P) W t ty e i ht hi g n cap cur hgc b m c news hl hnews h1 hroom hfit
   rw [h2] at hr
   cases hr
   intro g e;exact .inr e
  ·have h2:=run_append_grow (P:=P) W t ty e i z ht hi hz ⟨g,0,none⟩ n cap xs hown.1 (hown.cells (g:=g) rfl) b m c news hl hnews (by omega) (by omega) (growslice_fits (by omega) hbytes)
   rw [h2] at hr
   cases hr
   intro g e;simp [Value.ownBlock] at e;omega

theorem blk_own {v:Value} (h:∃ a n c,v = .slice a n c):blkOf v = v.ownBlock:=by
 obtain ⟨a,n,c,rfl⟩:=h
 cases a<;>rfl
theorem run_grow (t ty e:TypeId) (i:TypeInfo) (z:Value) (size bytes:Nat) (ht:P.underlying t = some (.slice e)) (hi:P.info? e = some i) (hz:i.zero = some z)
  (hsize:i.size = size) (hby:i.bytes = bytes) (hzs:z.cells.size = size) (hsz:0 < size)
  (v:Value) (n cap:Nat) (olds:List Value) (hv:(v = .slice none 0 0∧n = 0∧cap = 0)∨∃ b,v = .slice (some b) n cap∧∀ j u,olds[j]? = some u→W.cell? (b.add j) = some u) (hlo:olds.length = n * size)
  (a:Addr) (m c:Nat) (news:List Value) (hl:news.length = m * size) (hnews:∀ j u,news[j]? = some u→W.cell? (a.add j) = some u)
  (hg:cap < n + m) (h63:n + m≤maxLen) (hbytes:(n + m) * bytes≤140737488355328) :
  ∃ cap' rest,n + m≤cap'∧cap'≤maxLen∧rest.length = (cap' - (n + m)) * size∧(Builtin.append_ #[t,t] ty #[v, .slice (some a) m c]).run P W = .ok (.slice (some ⟨W.heap.size,0,none⟩) (n + m) cap') (W.drew.alloc (.cells (olds++news++rest).toArray e)):=by
 have hsmall:n + m≤9223372036854775807:=by unfold maxLen at h63;omega
 subst hsize;subst hby
 refine ⟨grownCap W (n + m) cap e,(Builtin.zeroCells z.cells (grownCap W (n + m) cap e - (n + m))).toList,grownCap_ge W (n + m) cap e,grownCap_le_maxLen W (n + m) cap e h63, ?_, ?_⟩
 ·rw [Array.length_toList,size_zeroCells,hzs]
 ·rcases hv with ⟨rfl,rfl,rfl⟩ | ⟨b,rfl,holds⟩
  ·have:olds = []:=List.eq_nil_of_length_eq_zero (by simpa using hlo)
   subst this
   have hr:=run_append_nil (P:=P) W t ty e i z ht hi hz a m c news hl hnews (by omega) (by omega) (by simp only [Nat.zero_add] at hbytes;omega)
   simp only [Nat.zero_add]
   rw [hr]
   congr 2
   congr 1
   apply Array.ext'
   simp
  ·have hr:=run_append_grow (P:=P) W t ty e i z ht hi hz b n cap olds hlo holds a m c news hl hnews hg (by omega) (growslice_fits hg hbytes)
   rw [hr]
   congr 2
   congr 1
   apply Array.ext'
   simp
theorem owns_grown {W:World} {e:TypeId} {size n cap:Nat} {vs rest:List Value} (hl:vs.length = n * size) (h1:n≤cap) (h2:cap≤maxLen) (h3:rest.length = (cap - n) * size) :
  (W.drew.alloc (.cells (vs++rest).toArray e)).ownsRow 0 e size (.slice (some ⟨W.heap.size,0,none⟩) n cap) n vs:=by
 refine ⟨hl, .inr ⟨W.heap.size,cap,_,rfl,Nat.zero_le _,heap_alloc_new W.drew _,h1,h2, ?_, ?_⟩⟩
 ·simp only [List.size_toArray,List.length_append,hl,h3, ← Nat.add_mul]
  congr 1;omega
 ·rw [← hl];simp

theorem op_app (C:Ctx w0 G0 Gr G M E H Hv hid fr a W) {t e:TypeId} {zs:List Value} {by':Nat} {s x:Operand} {s' x':Opd} (hss:compOpd s = some s') (hx:compOpd x = some x') (ht:P.underlying t = some (.slice e)) (hz:zeroT P e = some zs)
  (hb:byT P e = some by') (hk:1≤zs.length) (hb1:1≤by') (hop:o.op = .call { callee:=.builtin .append,args:=#[s,x],argTypes:=#[t,t] }) (hd:(ev tab fr Hv hid (.app e zs.length by' s' x')).den P hid Gr G K):Goal P o a W rd nn Q w0 G0 M E H hid K:=by
 have rs:=opd_rel C.rfr hss
 obtain ⟨z,i,hi,hiz,hzs,hsz,_,_⟩:=run_zero' (W:=W) hz
 have hby:i.bytes = by':=by unfold byT at hb;rw [hi] at hb;simpa using hb
 have hzz:z.cells.size = zs.length:=by rw [← hzs];simp
 -- the run,whatever stands at the two places
 have main:∀ (v:Value) (n:Nat) (vs:List Value),a.eval s = v→W.ownsRow 0 e zs.length v n vs→(∀ u∈vs,u.oneCell' = true) →
   ∀ ad m c us,a.eval x = .slice ad m c→us.length = m * zs.length→(ad = none→m = 0)→(∀ b,ad = some b→∀ j u,us[j]? = some u→W.cell? (b.add j) = some u)→(∀ u∈us,u.oneCell' = true)→(n + m) * by'≤140737488355328 →
   ∃ v' W',(execOp a.eval o).run P W = .ok (.value v') W'∧W'.ownsRow 0 e zs.length v' (n + m) (vs++us)∧W.grownBy W' v.ownBlock∧(∀ g,v'.ownBlock = some g→W.heap.size≤g∨v.ownBlock = some g):=by
  intro v n vs e1 hown h1 ad m c us e2 hl hn hc h2 hbytes
  have hle:n + m≤140737488355328:=Nat.le_trans (Nat.le_mul_of_pos_right _ hb1) hbytes
  cases ad with
  | none =>
   have hm:=hn rfl
   subst hm
   have:us = []:=List.eq_nil_of_length_eq_zero (by simpa using hl)
   subst this
   refine ⟨v,W, ?_,by simpa using hown,⟨rfl,rfl,rfl,Nat.le_refl _,fun _ _ _=>rfl⟩,fun g e=>.inr e⟩
   have hr:=run_append_none' (P:=P) (W:=W) 0 t o.type e i zs.length ht hi v n c vs hown
   simp [execOp,hop,resolve,invoke,builtin,e1,e2,hr]
  | some b =>
   obtain ⟨v',W',hr,ho,hg,hn'⟩:=run_app (P:=P) (W:=W) 0 t o.type e i z zs.length by' ht hi hiz hsz.symm hby hzz (by omega) v n vs hown b m c us hl (hc b rfl) h2 (by unfold maxLen;omega) hbytes (Nat.zero_le _)
   exact ⟨v',W',by simp [execOp,hop,resolve,invoke,builtin,e1,e2,hr],ho,hg,hn'⟩
 have sl:∀ {W':World} {v':Value} {n:Nat} {vs:List Value},W'.ownsRow 0 e zs.length v' n vs→∃ a c,v' = .slice a n c:=fun {W' v' n vs} ho=>by
  rcases ho.2 with ⟨rfl,rfl⟩ | ⟨g,cap,cur,rfl,_⟩
  ·exact ⟨_,_,rfl⟩
  ·exact ⟨_,_,rfl⟩
 have hnd:∀ c,o.op≠.defer c:=by simp [hop]
 simp only [ev] at hd
 split at hd
 case h_4=>exact hd.elim
 case h_3 =>
  rename_i a0 n c0 _ es
  rw [es] at rs
  have rs:a.eval s = .slice a0 n c0:=rs
  obtain ⟨ea,⟨hd⟩⟩:=hd
  obtain ⟨vs,hvl,hvc,⟨hd⟩⟩:=hd
  obtain ⟨hone,⟨hd⟩⟩:=hd
  obtain ⟨ad,m,c,us,e2,hl,hn,hcc,h2,⟨⟨hbytes,hm0,hcap⟩,⟨hd⟩⟩⟩:=srcR_sound C hx hd
  obtain ⟨b,rfl⟩:∃ b,ad = some b:=by
   cases ad with
   | none=>exact absurd (hn rfl) hm0
   | some b=>exact ⟨b,rfl⟩
  have hle:n + m≤140737488355328:=Nat.le_trans (Nat.le_mul_of_pos_right _ hb1) hbytes
  obtain ⟨cap',rest,g1,g2,g3,hr⟩:=run_grow (P:=P) (W:=W) t o.type e i z zs.length by' ht hi hiz hsz.symm hby hzz (by omega) (.slice a0 n c0) n c0 vs (.inr ⟨_,by rw [← ea],fun j u hj=>by
   rw [Addr.add_lit]
   exact rd1_cell C.sim.sub (rd1_grow C.gr (hvc j u hj))⟩) hvl b m c us hl (hcc b rfl) hcap (by unfold maxLen;omega) hbytes
  have hlen:(vs++us).length = (n + m) * zs.length:=by rw [List.length_append,hvl,hl,Nat.add_mul]
  refine wp_of_run hnd (v:=.slice (some ⟨W.heap.size,0,none⟩) (n + m) cap') (W':=W.drew.alloc (.cells (vs++us++rest).toArray e)) (by simp [execOp,hop,resolve,invoke,builtin,rs,e2,hr]) ?_
  refine OpPost.new (W':=W.drew.alloc (.cells (vs++us++rest).toArray e)) C.sim C.mH C.fresh ⟨rfl,rfl,rfl,by simp,fun k hk=>heap_alloc_old W.drew _ hk⟩ hd (u:=.slice (some ⟨W.heap.size,0,none⟩) (n + m) cap') ⟨by rw [upd_same];exact owns_grown hlen g1 g2 g3,fun u hu=>(List.mem_append.1 hu).elim (hone u) (h2 u),fun b hb=>by
   rw [upd_same] at hb
   simp only [blkOf,Option.some.injEq] at hb
   subst hb
   exact .inl C.sim.below.size⟩ trivial rfl (fun b hb=>by simp [OB.has,blkOf] at hb;omega) ⟨by rw [upd_same],_,_,upd_same _ _ _⟩ (.inr rfl)
 ·rename_i h n es
  rw [es] at rs
  split at hd
  case h_3=>exact hd.elim
  rotate_left
  ·rename_i b0 n' cap vs rest ty k' hH
   have hH':=C.view _ _ hH
   have hok:=C.sim.own _ _ hH'
   obtain ⟨hown,h1,hmine⟩:=OB.xrow_own hok
   obtain ⟨f1,f2,f3,f4,f5,f6,f7,f8⟩:=hok
   cases hc:Nat.beq k' zs.length && Nat.beq ty e with
   | false=>simp only [hc] at hd;exact hd.elim
   | true =>
    simp only [hc,cond_true] at hd
    rw [Bool.and_eq_true] at hc
    have hk':=Nat.eq_of_beq_eq_true hc.1
    have ht':=Nat.eq_of_beq_eq_true hc.2
    subst hk';subst ht'
    obtain ⟨ad,m,c,us,e2,hl,hn,hcc,h2,⟨e3,⟨⟨hbytes,hm0⟩,hd⟩⟩⟩:=srcR_sound C hx hd
    have hd:=hd.out
    subst e3
    obtain ⟨b,rfl⟩:∃ b,ad = some b:=by
     cases ad with
     | none=>exact absurd (hn rfl) hm0
     | some b=>exact ⟨b,rfl⟩
    have hle:n' + m≤140737488355328:=Nat.le_trans (Nat.le_mul_of_pos_right _ hb1) hbytes
    have ev0:a.eval s = .slice (some ⟨b0,0,none⟩) n' cap:=rs.1.trans f1
    have hone:∀ u∈vs++us,u.oneCell' = true:=fun u hu=>(List.mem_append.1 hu).elim (h1 u) (h2 u)
    by_cases hroom:n' + m≤cap
    ·have hd:=(hd.t (by omega)).out
     have hr:=run_append_room (P:=P) W t o.type ty i ht hi b0 n' cap _ f3 b m c us (by rw [← hsz];exact hl) (hcc b rfl) h2 hroom (by
      rw [← hsz,hl, ← Nat.add_mul]
      simp only [List.size_toArray,List.length_append,f4,f5, ← Nat.add_mul]
      exact Nat.mul_le_mul_right _ (by omega))
     have e4:((vs++rest).toArray.toList.take (n' * i.size)++us++(vs++rest).toArray.toList.drop (n' * i.size + us.length)).toArray = (vs++(us++rest.drop (m * zs.length))).toArray:=by
      rw [← hsz, ← f4]
      congr 1
      have:us.length = m * zs.length:=hl
      rw [this]
      simp [List.append_assoc,List.drop_append]
     rw [e4] at hr
     refine wp_of_run hnd (v:=.slice (some ⟨b0,0,none⟩) (n' + m) cap) (W':=W.setRow b0 (vs++(us++rest.drop (m * zs.length))).toArray) (by simp [execOp,hop,resolve,invoke,builtin,ev0,e2,hr]) ?_
     refine ⟨.c (.pre h (n' + m)),_,G,E,hd,⟨b0,n',cap,f1,rfl⟩, .inl (C.mH _ _ hH').1,Agree.refl _ _,C.sim.set (W':=W.setRow b0 (vs++(us++rest.drop (m * zs.length))).toArray) (ob':=.xrow b0 n' cap vs (us++rest.drop (m * zs.length)) ty zs.length) hH' rfl (by rw [f1];rfl) ⟨rfl,rfl,rfl,by simp⟩ (fun k _ hk=>setRow_other W b0 k _ hk) ⟨f1,f2,setRow_heap W b0 _ _ ty (0,0) f3,f4, ?_,f6,f7,h1⟩ rfl, ?_⟩
     ·have hle2:m * zs.length≤(cap - n') * zs.length:=Nat.mul_le_mul_right _ (by omega)
      simp only [List.length_append,List.length_drop,hl,f5]
      omega
     ·intro k ob2 e
      simp only [updH] at e
      by_cases hhi:k = h
      ·subst hhi;rw [upd_same] at e;cases e;exact ⟨.inl (C.mH _ _ hH').1,trivial⟩
      ·rw [upd_other _ _ hhi] at e;exact ⟨.inl (C.mH k ob2 e).1,OB.ment_mono (fun _ h=>.inl h) (C.mH k ob2 e).2⟩
    ·have hd:=(hd.f (by omega)).out
     obtain ⟨v',W',hr,ho,hg,hnw⟩:=run_app (P:=P) (W:=W) 0 t o.type ty i z zs.length by' ht hi hiz hsz.symm hby hzz (by omega) _ n' vs (f1 ▸ hown) b m c us hl (hcc b rfl) h2 (by unfold maxLen;omega) hbytes (Nat.zero_le _)
     have h3:=run_append_grow (P:=P) W t o.type ty i z ht hi hiz ⟨b0,0,none⟩ n' cap vs (by rw [f4,hsz]) ((f1 ▸ hown:W.ownsRow 0 ty zs.length (.slice (some ⟨b0,0,none⟩) n' cap) n' vs).cells (g:=b0) rfl) b m c us (by rw [← hsz];exact hl) (hcc b rfl) (by omega) (by omega) (growslice_fits (by omega) (by rw [hby];exact hbytes))
     rw [h3] at hr
     cases hr
     refine wp_of_run hnd (v:=.slice (some ⟨W.heap.size,0,none⟩) (n' + m) (grownCap W (n' + m) cap ty)) (W':=W.drew.alloc (.cells (vs.toArray++us.toArray++Builtin.zeroCells z.cells (grownCap W (n' + m) cap ty - (n' + m))) ty)) (by simp [execOp,hop,resolve,invoke,builtin,ev0,e2,h3]) ?_
     refine OpPost.new (W':=W.drew.alloc (.cells (vs.toArray++us.toArray++Builtin.zeroCells z.cells (grownCap W (n' + m) cap ty - (n' + m))) ty)) C.sim C.mH C.fresh ⟨rfl,rfl,rfl,by simp,fun k hk=>heap_alloc_old W.drew _ hk⟩ hd ⟨by rw [upd_same];exact ho,hone,fun b' hb'=>?_⟩ trivial rfl (fun b' hb'=>?_) ⟨by rw [upd_same],_,_,upd_same _ _ _⟩ (.inr rfl)
     ·rw [upd_same] at hb'
      simp only [blkOf,Option.some.injEq] at hb'
      subst hb'
      exact .inl C.sim.below.size
     ·simp only [OB.has,blkOf,Option.some.injEq] at hb';omega
  rename_i n' vs ty k' hH
  have hH':=C.view _ _ hH
  obtain ⟨hown,h1,hmine⟩:=C.sim.own _ _ hH'
  cases hc:Nat.beq k' zs.length && Nat.beq ty e with
  | false=>simp only [hc] at hd;exact hd.elim
  | true =>
   simp only [hc,cond_true] at hd
   rw [Bool.and_eq_true] at hc
   have hk':=Nat.eq_of_beq_eq_true hc.1
   have ht':=Nat.eq_of_beq_eq_true hc.2
   subst hk';subst ht'
   obtain ⟨ad,m,c,us,e2,hl,hn,hcc,h2,⟨e3,⟨hbytes,⟨hd⟩⟩⟩⟩:=srcR_sound C hx hd
   subst e3
   obtain ⟨v',W',hr,ho,hg,hnw⟩:=main (E h) n' vs rs.1 hown h1 ad m c us e2 hl hn hcc h2 hbytes
   refine wp_of_run hnd hr ?_
   obtain ⟨a',c',ev'⟩:=sl ho
   have hbl:blkOf v' = v'.ownBlock:=blk_own ⟨_,_,_,ev'⟩
   obtain ⟨a0,c0,e0⟩:=sl hown
   have hbl0:blkOf (E h) = (E h).ownBlock:=blk_own ⟨_,_,_,e0⟩
   have hH1:∀ k ob,upd H h none k = some ob→H k = some ob∧k≠h:=fun k ob e=>by
    by_cases hkh:k = h
    ·subst hkh;rw [upd_same] at e;cases e
    ·rw [upd_other _ _ hkh] at e;exact ⟨e,hkh⟩
   have hs1:Sim w0 G0 E (upd H h none) G W:=C.sim.drop (fun k ob e=>(hH1 k ob e).1)
   have hm1:∀ k ob,upd H h none k = some ob→M k∧ob.ment M:=fun k ob e=>C.mH k ob (hH1 k ob e).1
   have hone:∀ u∈vs++us,u.oneCell' = true:=fun u hu=>(List.mem_append.1 hu).elim (h1 u) (h2 u)
   have key:=hs1.new' (E h).ownBlock hg (fun r er=>⟨(OB.blk (C.sim.own h _ hH') (hbl0.trans er)).1,C.sim.priv h _ hH' rfl r (hbl0.trans er),fun k ob e eb=>(hH1 k ob e).2 (C.sim.inj h _ k ob r hH' (hH1 k ob e).1 rfl (hbl0.trans er) eb).symm⟩)
    (i:=hid) (v:=v') (ob:=.row none (n' + m) (vs++us) ty zs.length) C.fresh hm1 ⟨by rw [upd_same];exact ho,hone,fun b hb=>by
     rw [upd_same] at hb
     rcases hnw b (hbl ▸ hb) with h2 | h2
     ·exact C.sim.below.mine_new h2
     ·exact hmine b (hbl0.trans h2)⟩ rfl (fun b hb=>hnw b (hbl ▸ hb))
   refine ⟨_,_,G,upd E hid v',hd,⟨by rw [upd_same],a',c',by rw [upd_same];exact ev'⟩, .inr rfl,Agree.upd E v' C.fresh,key, ?_⟩
   intro k ob e
   simp only [updH] at e
   by_cases hk:k = hid
   ·subst hk;rw [upd_same] at e;cases e;exact ⟨.inr rfl,trivial⟩
   ·rw [upd_other _ _ hk] at e;exact ⟨.inl (hm1 k ob e).1,OB.ment_mono (fun _ h=>.inl h) (hm1 k ob e).2⟩
 ·rename_i es
  rw [es] at rs
  have rs:a.eval s = .slice none 0 0:=rs
  obtain ⟨ad,m,c,us,e2,hl,hn,hcc,h2,⟨hbytes,⟨hd⟩⟩⟩:=srcR_sound C hx hd
  obtain ⟨v',W',hr,ho,hg,hnw⟩:=main (.slice none 0 0) 0 [] rs (World.ownsRow_nil W _ _ _) (fun u hu=>by cases hu) ad m c us e2 hl hn hcc h2 (by simpa using hbytes)
  refine wp_of_run hnd hr ?_
  simp only [Nat.zero_add,List.nil_append] at ho
  obtain ⟨a',c',ev'⟩:=sl ho
  have hbl:blkOf v' = v'.ownBlock:=blk_own ⟨_,_,_,ev'⟩
  refine OpPost.new C.sim C.mH C.fresh ⟨hg.os,hg.tape,hg.output,hg.size,fun k hk=>hg.block k hk (by simp [Value.ownBlock])⟩ hd (u:=v') ⟨by rw [upd_same];exact ho,h2,fun b hb=>by
   rw [upd_same] at hb
   rcases hnw b (hbl ▸ hb) with h | h
   ·exact C.sim.below.mine_new h
   ·simp [Value.ownBlock] at h⟩ trivial rfl (fun b hb=>by
   rcases hnw b (hbl ▸ hb) with h | h
   ·exact h
   ·simp [Value.ownBlock] at h) ⟨by rw [upd_same],a',c',by rw [upd_same];exact ev'⟩ (.inr rfl)

end
end Go.Pal
