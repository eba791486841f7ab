/- Layer 3: the reference: change. Layer 3: the reference: Play; the error of a draft with steps. Layer 3: drawn drafts and steps, read without bounds; Thin, short, fault, ready. Layer 3: drafts and steps, copied for the program. Layer 3: the drawn values, opened. -/
import Derived.Test.YtfppbjfbghaclaaMK
import Derived.Test.YtfppbjfbghaclaaMC
import Derived.Test.YtfppbjfbghaclaaRows
set_option linter.unusedSimpArgs false
set_option linter.unusedVariables false
namespace Go.Proofs.Ytfppbjfbghaclaa
open Go.Pal Go.RowKit
set_option maxRecDepth 100000
def refChF (d:Dr) (l:List It) (x:Sp) (n:Int):Option (List It) :=
 if fineF l x = true∧(cutF l x).all (fun i=>!refProt d (l.getD i default)) = true then some (insF (goneF l n (cutF l x)) (placeF l x) (putF n x.put)) else none
def refChR (x:Dr × List It × Sp × Int) (v:Value) (G:Hp):Prop:=match refChF x.1 x.2.1 x.2.2.1 x.2.2.2 with
 | some l'=>∃ lv,v = .tuple #[lv, .bool true]∧SlV itE G lv l'
 | none=>∃ a n c,v = .tuple #[.slice a n c, .bool false]
theorem refChR.grow {x:Dr × List It × Sp × Int} {v:Value} {G G':Hp} (hg:Grow G G') (h:refChR x v G):refChR x v G':=by
 unfold refChR at *
 split<;>rename_i e<;>rw [e] at h
 ·obtain ⟨lv,h1,h2⟩:=h;exact ⟨lv,h1,h2.grow hg⟩
 ·exact h
end Go.Proofs.Ytfppbjfbghaclaa

namespace Go.Proofs.Ytfppbjfbghaclaa
open Go.Pal Go.RowKit
set_option maxRecDepth 100000
def refPlayR (x:Dr × List Sp) (v:Value) (G:Hp):Prop:=match playF x.1 (beginS x.1) x.2 0 with
 | .inl k=>∃ a n c b m e,v = .tuple #[.slice a n c, .slice b m e,I (k:Nat)]
 | .inr S=>∃ a b,v = .tuple #[a,b,I (-1)]∧SlV itE G a S.its∧SlV intE G b S.live
theorem refPlayR.grow {x:Dr × List Sp} {v:Value} {G G':Hp} (hg:Grow G G') (h:refPlayR x v G):refPlayR x v G':=by
 unfold refPlayR at *
 split<;>rename_i e<;>rw [e] at h
 ·exact h
 ·obtain ⟨a,b,h1,h2,h3⟩:=h;exact ⟨a,b,h1,h2.grow hg,h3.grow hg⟩
end Go.Proofs.Ytfppbjfbghaclaa

namespace Go.Proofs.Ytfppbjfbghaclaa
open Go.Pal Go.RowKit
set_option maxRecDepth 100000
theorem SlU.v {α:Type} {e:El α} {G:Hp} {v:Value} {x:List α} (h:SlU e G v x) (hb:x.length≤140737488355328):SlV e G v x:=by
 obtain ⟨a,n,c,rfl,h,_⟩:=h
 exact ⟨a,n,c,rfl,h,by have:=h.len;omega⟩
def SpU (G:Hp) (cs:List Value) (x:Sp):Prop:=∃ pv,cs = [I x.u,I x.a,I x.c,pv]∧SlU strE G pv x.put
theorem SpU.uniq {G:Hp} {cs:List Value} {x y:Sp} (h:SpU G cs x) (h':SpU G cs y):x = y:=by
 obtain ⟨pv,h1,h2⟩:=h
 obtain ⟨pv',h1',h2'⟩:=h'
 rw [h1] at h1'
 simp only [List.cons.injEq,Value.int.injEq,true_and,and_true] at h1'
 obtain ⟨e1,e2,e3,rfl⟩:=h1'
 have:=h2.uniq h2'
 cases x;cases y;simp_all
theorem SpU.grow {G G':Hp} (cs:List Value) (x:Sp) (hg:Grow G G') (h:SpU G cs x):SpU G' cs x:=by
 obtain ⟨pv,h1,h2⟩:=h
 exact ⟨pv,h1,h2.grow hg⟩
theorem SpU.c {G:Hp} {cs:List Value} {x:Sp} (h:SpU G cs x) (hb:x.put.length≤140737488355328):SpC G cs x:=by
 obtain ⟨pv,h1,h2⟩:=h
 exact ⟨pv,h1,h2.v hb⟩
theorem SlR.imp {α:Type} {k:Nat} {R R':Hp→List Value→α→Prop} {G:Hp} {a:Option Addr} {n c:Nat} {l:List α} (h:SlR k R G a n c l) (hi:∀ cs, ∀ x∈l,R G cs x→R' G cs x):SlR k R' G a n c l :=
 ⟨h.len,h.cap,h.some,fun i hi2=>let ⟨cs,h1,h2,h3⟩:=h.at_ i hi2;⟨cs,h1,h2,hi cs _ (List.getElem_mem hi2) h3⟩⟩
end Go.Proofs.Ytfppbjfbghaclaa

namespace Go.Proofs.Ytfppbjfbghaclaa
open Go.Pal Go.RowKit
set_option maxRecDepth 100000
theorem spv_snoc {G:Hp} {vs us:List Value} {l:List Sp} {x:Sp} (hv:vs.length = l.length * 4) (hvs:∀ i (h:i < l.length),((vs.drop (i * 4)).take 4).length = 4∧SpC G ((vs.drop (i * 4)).take 4) l[i]) (hu:us.length = 4) (hx:SpC G us x):∀ i (h:i < (l++[x]).length),(((vs++us).drop (i * 4)).take 4).length = 4∧SpC G (((vs++us).drop (i * 4)).take 4) (l++[x])[i]:=by
 intro i hi
 by_cases h:i < l.length
 ·rw [List.getElem_append_left h]
  have:((vs++us).drop (i * 4)).take 4 = (vs.drop (i * 4)).take 4:=by
   rw [List.drop_append_of_le_length (by omega),List.take_append_of_le_length (by rw [List.length_drop];omega)]
  rw [this];exact hvs i h
 ·have:i = l.length:=by simp at hi;omega
  subst this
  have e:(l++[x])[l.length] = x:=by simp
  rw [e,List.drop_append,List.drop_of_length_le (by omega),List.nil_append,show l.length * 4 - vs.length = 0 by omega,List.drop_zero,List.take_of_length_le (by omega)]
  exact ⟨hu,hx⟩
end Go.Proofs.Ytfppbjfbghaclaa

namespace Go.Proofs.Ytfppbjfbghaclaa
open Go.Pal Go.RowKit Go.ChangeShapes
theorem SlR.map {α β:Type} {k:Nat} {R:Hp→List Value→α→Prop} {R':Hp→List Value→β→Prop} {G:Hp} {a:Option Addr} {n c:Nat} {l:List α} (f:α→β) (hf:∀ cs x,R G cs x→R' G cs (f x)) (h:SlR k R G a n c l):SlR k R' G a n c (l.map f) :=
 ⟨by rw [List.length_map,h.len],h.cap,h.some,fun i hi=>by
  obtain ⟨cs,h1,h2,h3⟩:=h.at_ i (by simpa using hi)
  exact ⟨cs,h1,h2,by rw [List.getElem_map];exact hf _ _ h3⟩⟩
theorem udl3:Try.prog.underlying 3 = some (.int .i64):=by kernel_rfl
theorem udl5:Try.prog.underlying 5 = some (.int .u8):=by kernel_rfl
theorem o3:Opens Try.prog 3 (cdInt .i64):=.int udl3
theorem o5:Opens Try.prog 5 (cdInt .u8):=.int udl5
theorem ownK:ownKnob Try.checked.prog.godebug = none:=by kernel_rfl
theorem laidK:laidOutB Try.checked.prog = true:=by kernel_rfl
theorem boolK:Try.checked.prog.underlying 4 = some .bool:=by kernel_rfl
end Go.Proofs.Ytfppbjfbghaclaa
