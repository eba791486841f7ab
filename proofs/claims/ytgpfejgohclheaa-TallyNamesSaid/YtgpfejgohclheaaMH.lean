/- Layer 7: valid. Layer 7: CheckDivision; look. Layer 7: begin, open, Clash, Doubts. Layer 7: the numbers of a truth. Layer 7: the rules; the outcome of numbers. Layer 7: Count. Layer 7: the truths: a recursive iterator. -/
import Derived.Test.YtgpfejgohclheaaMG
import Derived.Test.YtgpfejgohclheaaME
set_option linter.unusedSimpArgs false
set_option linter.unusedVariables false
namespace Go.Proofs.Ytgpfejgohclheaa
open Go.Pal
set_option maxRecDepth 100000
theorem slc23 (a:Addr):∀ w,((POp.slcS 23 false false).sem [.pointer (some a)]).run Try.prog w = .ok (.slice (some a) 2 2) w:=fun w=>by
 have e1:(POp.slcS 23 false false).sem [.pointer (some a)] = Instr.sliceAt 23 (.pointer (some a)) none none none:=rfl
 rw [e1]
 have ha:Try.prog.arrayLen 23 = 2:=by kernel_rfl
 have he:Try.prog.elem 23 = 22:=by kernel_rfl
 have hs:=run_sizeOf' (P:=Try.prog) (W:=w) (t:=22) (n:=1) (by kernel_rfl)
 rw [run_sliceAt_array_all w 23 a (by rw [ha,he];exact und23),ha,he,hs]
 have h0:a.add 0 = a:=by cases a;simp [Addr.add]
 simp [slicedAt,Result.andThen,h0]
theorem lob_sl {G:Hp} {b o:Nat} {h0 h1:Option Addr × Nat × Nat} (h:CellsAt G b o [hdrV h0,hdrV h1]):SlV hdrE G (.slice (some ⟨b,o,none⟩) 2 2) [h0,h1] :=
 PubRow.slV (e:=hdrE) (l:=[h0,h1]) (vs:=[hdrV h0,hdrV h1]) ⟨Nat.le_refl _,fun _=>rfl,h⟩ rfl rfl (by omega)
def tabV0:Tab Try.prog:=Tab.cons 76 _ in76 body76 (Tab.cons 79 _ bound79 body79 (Tab.cons 72 _ rules72 body72 (Tab.nil _)))
noncomputable def tabV {G:Hp} {w:Value} {d:Dv} (h:DvV G w d) (hm:inR .i64 (d.m - 1)):Tab Try.prog:=Tab.cons 77 _ (lob77 h hm) body77 tabV0
theorem right_eq (d:Dv):rightD d = (inF d.m 1 40 && (listF d.m d.a0 && (listF d.m d.a1 && true)) && (listF d.m d.n0 && (listF d.m d.n1 && true)) && decide (d.ps.length≤10) && decide (d.qs.length≤10) && boundF d && decide (d.rule < 3) && inF d.need 0 40 && inF d.quorum 0 40 && (decide (d.tie = 1) || decide (d.tie = 2))):=by
 rw [rightD,headF,boundF]
 have:decide (d.rule≤2) = decide (d.rule < 3):=by simp only [decide_eq_decide];omega
 rw [this]
 cases inF d.m 1 40<;>cases listF d.m d.a0<;>cases listF d.m d.a1<;>cases listF d.m d.n0<;>cases listF d.m d.n1<;>cases decide (d.ps.length≤10)<;>cases decide (d.qs.length≤10)<;>simp
 cases pairsF d<;>simp
 cases proxF d<;>simp
open Classical in
theorem valid55:Sound Try.prog 55 id (gsca (args1 dvRd fun d=>0≤d.rule∧d.rule≤255) fun d v=>v = .bool (rightD d)):=by
 have hT:∀ (args:List Value) (G:Hp) (d:Dv),args1 dvRd (fun d=>0≤d.rule∧d.rule≤255) args G d→DvV G (args.headD undef) d:=fun args G d ⟨v,h1,h2,_⟩=>by subst h1;exact h2
 refine Comp.gscaT comp55 (fun args G d hx=>if hm:inR .i64 (d.m - 1) then tabV (hT args G d hx) hm else tabV0) (fun args G s h=>?_) (fun args G d h=>?_)
 ·obtain ⟨v,rfl,_⟩:=h;simp
 ·by_cases hm:inR .i64 (d.m - 1)
  ·rw [dif_pos hm]
   generalize hT args G d h = hdv
   obtain ⟨u,rfl,⟨w0,w1,w2,w3,w4,w5,rfl,hd⟩,hr0⟩:=h
   have hd0:=hd
   obtain ⟨x0,y0,z0,rfl,la0,ya0⟩:=id hd.a0
   obtain ⟨x1,y1,z1,rfl,la1,ya1⟩:=id hd.a1
   obtain ⟨x2,y2,z2,rfl,ln0,yn0⟩:=id hd.n0
   obtain ⟨x3,y3,z3,rfl,ln1,yn1⟩:=id hd.n1
   obtain ⟨x4,y4,z4,rfl,lps,yps⟩:=id hd.ps
   obtain ⟨x5,y5,z5,rfl,lqs,yqs⟩:=id hd.qs
   have hlen:=lps.len
   have hlenq:=lqs.len
   rw [right_eq]
   (conv=>whnf)
   refine PubAnyP.mk ⟨[0], ?_⟩
   (conv=>whnf)
   intro b G1 hg1 hc
   refine W.mk ?_
   (conv=>whnf)
   refine OblP.mk ⟨_,_,_,rfl⟩ (W.mk ?_)
   (conv=>whnf)
   refine ForkP.mk (fun k1=>W.mk ?_) (fun k1=>W.mk ?_)<;>(conv=>whnf)
   rotate_left
   ·refine FinP.mk ?_
    refine congrArg Value.bool ?_
    have k1:inF d.m 1 40 = false:=k1
    rw [k1];simp
   have k1:inF d.m 1 40 = true:=k1
   have hmm:1≤d.m∧d.m≤40:=by simpa [inF] using k1
   refine PurP.of (.slice (some ⟨b,1,none⟩) 2 2) (slc23 ⟨b,1,none⟩) (W.mk ?_)
   (conv=>whnf)
   have hcc:CellsAt G1 b 1 [hdrV (x0,y0,z0),hdrV (x1,y1,z1)]:=by
    have:=CellsAt.drop (d:=1) (n:=2) hc
    rw [Nat.zero_add] at this;exact this
   refine ScaP.mk ⟨_,[(x0,y0,z0),(x1,y1,z1)],rfl,lob_sl hcc,(by intro x hx;simp at hx;rcases hx with rfl | rfl;exact ⟨_,hd0.a0⟩;exact ⟨_,hd0.a1⟩),hg1⟩ (fun v hv=>W.mk ?_)
   obtain ⟨sl,xs,q1,q2,rfl⟩:=hv
   have q1:=(List.cons.inj q1).1
   subst q1
   have hxs:xs = [(x0,y0,z0),(x1,y1,z1)]:=SlV.uniq q2 (lob_sl hcc)
   subst hxs
   have hll:([(x0,y0,z0),(x1,y1,z1)]:List (Option Addr × Nat × Nat)).all (lisP G d.m) = (listF d.m d.a0 && (listF d.m d.a1 && true)):=by
    simp only [List.all_cons,List.all_nil,lisP,lstOf_eq hd0.a0,lstOf_eq hd0.a1]
   rw [hll]
   (conv=>whnf)
   refine ForkP.mk (fun k2=>W.mk ?_) (fun k2=>W.mk ?_)<;>(conv=>whnf)
   rotate_left
   ·refine FinP.mk ?_
    refine congrArg Value.bool ?_
    rw [k2];simp
   refine PurP.of (.slice (some ⟨b,3,none⟩) 2 2) (slc23 ⟨b,3,none⟩) (W.mk ?_)
   (conv=>whnf)
   have hcc:CellsAt G1 b 3 [hdrV (x2,y2,z2),hdrV (x3,y3,z3)]:=by
    have:=CellsAt.drop (d:=3) (n:=2) hc
    rw [Nat.zero_add] at this;exact this
   refine ScaP.mk ⟨_,[(x2,y2,z2),(x3,y3,z3)],rfl,lob_sl hcc,(by intro x hx;simp at hx;rcases hx with rfl | rfl;exact ⟨_,hd0.n0⟩;exact ⟨_,hd0.n1⟩),hg1⟩ (fun v hv=>W.mk ?_)
   obtain ⟨sl,xs,q1,q2,rfl⟩:=hv
   have q1:=(List.cons.inj q1).1
   subst q1
   have hxs:xs = [(x2,y2,z2),(x3,y3,z3)]:=SlV.uniq q2 (lob_sl hcc)
   subst hxs
   have hll:([(x2,y2,z2),(x3,y3,z3)]:List (Option Addr × Nat × Nat)).all (lisP G d.m) = (listF d.m d.n0 && (listF d.m d.n1 && true)):=by
    simp only [List.all_cons,List.all_nil,lisP,lstOf_eq hd0.n0,lstOf_eq hd0.n1]
   rw [hll]
   (conv=>whnf)
   refine ForkP.mk (fun k3=>W.mk ?_) (fun k3=>W.mk ?_)<;>(conv=>whnf)
   rotate_left
   ·refine FinP.mk ?_
    refine congrArg Value.bool ?_
    rw [k3];simp
   refine IteP.mk (fun k4=>W.mk ?_) (fun k4=>W.mk ?_)<;>(conv=>whnf)
   rotate_left
   ·refine FinP.mk ?_
    refine congrArg Value.bool ?_
    have k4:decide (d.ps.length≤10) = false:=by simp only [decide_eq_false_iff_not];omega
    rw [k4];simp
   replace k4:decide (d.ps.length≤10) = true:=by simp only [decide_eq_true_eq];omega
   refine IteP.mk (fun k5=>W.mk ?_) (fun k5=>W.mk ?_)<;>(conv=>whnf)
   rotate_left
   ·refine FinP.mk ?_
    refine congrArg Value.bool ?_
    have k5:decide (d.qs.length≤10) = false:=by simp only [decide_eq_false_iff_not];omega
    rw [k5];simp
   replace k5:decide (d.qs.length≤10) = true:=by simp only [decide_eq_true_eq];omega
   refine ScaP.g (ok1 dvRd fun d=>1≤d.m∧d.m≤40) (x:=d) ⟨_,rfl,dvRd.grow hg1 ⟨_,_,_,_,_,_,rfl,hd0⟩,hmm⟩ (fun v hv=>W.mk ?_)
   subst hv
   (conv=>whnf)
   refine ForkP.mk (fun k6=>W.mk ?_) (fun k6=>W.mk ?_)<;>(conv=>whnf)
   rotate_left
   ·refine FinP.mk ?_
    refine congrArg Value.bool ?_
    rw [k6];simp
   repeat' (refine ob ?_ ?_;(first | trivial | omega | (simp only [inR];omega) | exact ble (by rfl) | exact SlR.some ‹_› (by omega));(conv=>whnf))
   refine RelP.g okU (x:=()) rfl (Grow.refl _) (fun v G2 hg2 hq=>W.mk ?_)
   obtain ⟨rb,ra,rc,rfl,_,_⟩:=hq
   (conv=>whnf)
   refine IteP.mk (fun k7=>W.mk ?_) (fun k7=>W.mk ?_)<;>(conv=>whnf)
   rotate_left
   ·refine FinP.mk ?_
    refine congrArg Value.bool ?_
    have k7:decide (d.rule < 3) = false:=by simp only [decide_eq_false_iff_not];omega
    rw [k7];simp
   replace k7:decide (d.rule < 3) = true:=by simp only [decide_eq_true_eq];omega
   refine OblP.mk ⟨_,_,_,rfl⟩ (W.mk ?_)
   (conv=>whnf)
   refine ForkP.mk (fun k8=>W.mk ?_) (fun k8=>W.mk ?_)<;>(conv=>whnf)
   rotate_left
   ·refine FinP.mk ?_
    refine congrArg Value.bool ?_
    have k8:inF d.need 0 40 = false:=k8
    rw [k8];simp
   replace k8:inF d.need 0 40 = true:=k8
   refine OblP.mk ⟨_,_,_,rfl⟩ (W.mk ?_)
   (conv=>whnf)
   refine ForkP.mk (fun k9=>W.mk ?_) (fun k9=>W.mk ?_)<;>(conv=>whnf)
   rotate_left
   ·refine FinP.mk ?_
    refine congrArg Value.bool ?_
    have k9:inF d.quorum 0 40 = false:=k9
    rw [k9];simp
   replace k9:inF d.quorum 0 40 = true:=k9
   have fin:(inF d.m 1 40 && (listF d.m d.a0 && (listF d.m d.a1 && true)) && (listF d.m d.n0 && (listF d.m d.n1 && true)) && decide (d.ps.length≤10) && decide (d.qs.length≤10) && boundF d && decide (d.rule < 3) && inF d.need 0 40 && inF d.quorum 0 40 && (decide (d.tie = 1) || decide (d.tie = 2))) = (decide (d.tie = 1) || decide (d.tie = 2)):=by
    rw [k1,k2,k3,k4,k5,k6,k7,k8,k9];rfl
   rw [fin]
   refine IteP.mk (fun j1=>W.mk ?_) (fun j1=>W.mk ?_)<;>(conv=>whnf)
   ·refine FinP.mk ?_
    refine congrArg Value.bool ?_
    simp [j1]
   ·refine IteP.mk (fun j2=>W.mk ?_) (fun j2=>W.mk ?_)<;>(conv=>whnf)<;>refine FinP.mk ?_<;>refine congrArg Value.bool ?_<;>simp [j1,j2]
  ·rw [dif_neg hm]
   obtain ⟨u,rfl,⟨w0,w1,w2,w3,w4,w5,rfl,hd⟩,hr0⟩:=h
   have hin:inF d.m 1 40 = false:=by
    simp only [inF,decide_eq_false_iff_not]
    intro h;exact hm (by simp only [inR];omega)
   obtain ⟨x0,y0,z0,rfl,la0,ya0⟩:=id hd.a0
   obtain ⟨x1,y1,z1,rfl,la1,ya1⟩:=id hd.a1
   obtain ⟨x2,y2,z2,rfl,ln0,yn0⟩:=id hd.n0
   obtain ⟨x3,y3,z3,rfl,ln1,yn1⟩:=id hd.n1
   obtain ⟨x4,y4,z4,rfl,lps,yps⟩:=id hd.ps
   obtain ⟨x5,y5,z5,rfl,lqs,yqs⟩:=id hd.qs
   rw [right_eq,hin]
   (conv=>whnf)
   refine PubAnyP.mk ⟨[0], ?_⟩
   (conv=>whnf)
   intro b G1 hg1 hc
   refine W.mk ?_
   (conv=>whnf)
   refine OblP.mk ⟨_,_,_,rfl⟩ (W.mk ?_)
   (conv=>whnf)
   refine ForkP.mk (fun h1=>W.mk ?_) (fun h1=>W.mk ?_)
   ·have h1:inF d.m 1 40 = true:=h1
    rw [hin] at h1;cases h1
   (conv=>whnf)
   exact FinP.mk rfl
end Go.Proofs.Ytgpfejgohclheaa

namespace Go.Proofs.Ytgpfejgohclheaa
open Go.Pal
set_option maxRecDepth 100000
abbrev rul (d:Dv):Prop:=0≤d.rule∧d.rule≤255
def tabW:Tab Try.prog:=Tab.cons 55 _ valid55 body55 (Tab.cons 57 _ clash57 body57 (Tab.cons 38 _ dbt38 body38 (Tab.cons 80 _ votes80 body80 (Tab.nil _))))
theorem check29:Sound Try.prog 29 id (gsca (args1 dvRd rul) fun d v=>v = I (if rightD d then 0 else 1)):=by
 refine comp29.gsca tabW (fun args G s h=>?_) (fun args G d h=>?_)
 ·obtain ⟨v,rfl,_⟩:=h;simp
 ·obtain ⟨u,rfl,⟨w0,w1,w2,w3,w4,w5,rfl,hd⟩,hr⟩:=h
  have hd0:=hd
  obtain ⟨x0,y0,z0,rfl,la0,ya0⟩:=id hd.a0
  obtain ⟨x1,y1,z1,rfl,la1,ya1⟩:=id hd.a1
  obtain ⟨x2,y2,z2,rfl,ln0,yn0⟩:=id hd.n0
  obtain ⟨x3,y3,z3,rfl,ln1,yn1⟩:=id hd.n1
  obtain ⟨x4,y4,z4,rfl,lps,yps⟩:=id hd.ps
  obtain ⟨x5,y5,z5,rfl,lqs,yqs⟩:=id hd.qs
  (conv=>whnf)
  refine ScaP.g (ok1 dvRd rul) (x:=d) ⟨_,rfl,⟨_,_,_,_,_,_,rfl,hd0⟩,hr⟩ (fun v hv=>W.mk ?_)
  subst hv
  (conv=>whnf)
  refine ForkP.mk (fun h1=>W.mk ?_) (fun h1=>W.mk ?_)<;>(conv=>whnf)<;>refine FinP.mk ?_<;>(show I _ = I _;simp [h1])

theorem set_at {α:Type} (l:List α) (i:Nat) (x:α) (h:i < l.length):l.take i++[x]++l.drop (i + 1) = l.set i x:=by
 rw [List.set_eq_take_append_cons_drop,if_pos h,List.append_assoc];rfl
theorem rng_set {α:Type} (f:Nat→α) (n i:Nat) (x:α):((List.range n).map f).set i x = (List.range n).map fun j=>if j = i then x else f j:=by
 apply List.ext_getElem?
 intro j
 rw [List.getElem?_set]
 by_cases hij:i = j
 ·subst hij
  by_cases hn:i < n<;>simp [hn]
 ·rw [if_neg hij]
  by_cases hn:j < n
  ·simp [hn,show ¬ j = i from fun e=>hij e.symm]
  ·simp [hn]
section
variable {d:Dv} {w0 w1 w2 w3 w4 w5:Value} {p:Nat→Bool} {a:Nat→Option Addr} {n c:Nat→Nat}
theorem lkl_len:(lkl d w0 w1 w2 w3 w4 w5 p a n c).length = 91:=by simp
theorem lkl_pd {i off:Nat} (hi:i < 40) (ho:off = 11 + i) (b:Bool):((lkl d w0 w1 w2 w3 w4 w5 p a n c).map S1.val).take off++[S1.val (.bool b)]++((lkl d w0 w1 w2 w3 w4 w5 p a n c).map S1.val).drop (off + 1) = (lkl d w0 w1 w2 w3 w4 w5 (fun j=>if j = i then b else p j) a n c).map S1.val:=by
 subst ho
 rw [set_at _ _ _ (by rw [List.length_map,lkl_len];omega), ← List.map_set]
 congr 1
 rw [lkl,List.append_assoc,List.set_append_right _ _ (by show 11≤11 + i;omega),show 11 + i - (dvl d w0 w1 w2 w3 w4 w5).length = i by show 11 + i - 11 = i;omega,List.set_append_left _ _ (by simp;omega),rng_set]
 rw [lkl,List.append_assoc]
 congr 2
 apply List.map_congr_left
 intro j _
 by_cases hj:j = i<;>simp [hj]
theorem lkl_my {i off:Nat} (hi:i < 40) (ho:off = 51 + i) (a':Option Addr) (n' c':Nat):((lkl d w0 w1 w2 w3 w4 w5 p a n c).map S1.val).take off++[S1.val (.slice a' n' c')]++((lkl d w0 w1 w2 w3 w4 w5 p a n c).map S1.val).drop (off + 1) = (lkl d w0 w1 w2 w3 w4 w5 p (fun j=>if j = i then a' else a j) (fun j=>if j = i then n' else n j) (fun j=>if j = i then c' else c j)).map S1.val:=by
 subst ho
 rw [set_at _ _ _ (by rw [List.length_map,lkl_len];omega), ← List.map_set]
 congr 1
 rw [lkl,List.set_append_right _ _ (by show 51≤51 + i;omega),show 51 + i - (dvl d w0 w1 w2 w3 w4 w5++pdl p).length = i by show 51 + i - 51 = i;omega,rng_set]
 rw [lkl]
 congr 1
 apply List.map_congr_left
 intro j _
 by_cases hj:j = i<;>simp [hj]
end
def lookF (d:Dv):Lk:=⟨d,(List.range 40).map fun (k:Nat)=>pairedF d k,(List.range 40).map fun (k:Nat)=>if (k:Int) < d.m then votesF d k else []⟩
theorem pairedF_all (d:Dv) (x:Int):prsS d d.ps.length x = pairedF d x:=by rw [prsS,List.take_length];rfl
theorem right_m {d:Dv} (h:rightD d = true):1≤d.m∧d.m≤40:=head_m (right_head h)
theorem right_ps {d:Dv} (h:rightD d = true) {i:Nat} (hi:i < d.ps.length):(0≤d.ps[i].1∧d.ps[i].1 < d.m)∧0≤d.ps[i].2∧d.ps[i].2 < d.m:=by
 have hp:pairsF d = true:=by simp only [rightD,Bool.and_eq_true] at h;exact h.1.2
 simp only [pairsF,List.all_eq_true,List.mem_range] at hp
 have:=hp i hi
 have hg:d.ps.getD i (0,0) = d.ps[i]:=by simp [hi]
 simp only [pairAt,hg,pOk,inF,Bool.and_eq_true,decide_eq_true_eq] at this
 omega
theorem right_qs {d:Dv} (h:rightD d = true) {i:Nat} (hi:i < d.qs.length):(0≤d.qs[i].1∧d.qs[i].1 < d.m)∧0≤d.qs[i].2∧d.qs[i].2 < d.m:=by
 have hp:proxF d = true:=by simp only [rightD,Bool.and_eq_true] at h;exact h.2
 simp only [proxF,List.all_eq_true,List.mem_range] at hp
 have:=hp i hi
 have hg:d.qs.getD i (0,0) = d.qs[i]:=by simp [hi]
 simp only [proxAt,hg,pOk,inF,Bool.and_eq_true,decide_eq_true_eq] at this
 omega
theorem look56:Sound Try.prog 56 id (grel (args1 dvRd fun d=>rightD d = true) fun d v G=>LkV G v (lookF d)):=by
 refine comp56.grel tabW (ok1 _ _) (fun args G s h=>?_) (fun x v G G' hg h=>h.grow hg) (fun args G d h=>?_)
 ·obtain ⟨v,rfl,_⟩:=h;simp
 ·obtain ⟨u,rfl,⟨w0,w1,w2,w3,w4,w5,rfl,hd⟩,hr⟩:=h
  have hd0:=hd
  obtain ⟨hm0,hm1⟩:=right_m hr
  obtain ⟨x0,y0,z0,rfl,la0,ya0⟩:=id hd.a0
  obtain ⟨x1,y1,z1,rfl,la1,ya1⟩:=id hd.a1
  obtain ⟨x2,y2,z2,rfl,ln0,yn0⟩:=id hd.n0
  obtain ⟨x3,y3,z3,rfl,ln1,yn1⟩:=id hd.n1
  obtain ⟨x4,y4,z4,rfl,lps,yps⟩:=id hd.ps
  obtain ⟨x5,y5,z5,rfl,lqs,yqs⟩:=id hd.qs
  have hlen:=lps.len
  (conv=>whnf)
  refine LoopP.of { α:=Nat × (Nat→Bool),fr:=fun x=>[(1, .c (.ptr 0 0)),(2, .c (.ptr 1 0)),(3, .c (.ptr 4 0)),(10, .v (.slice x4 y4 z4)),(11, .v (I y4)),(12, .v (I x.1))],H:=fun x=>[(0, .cells .anon (DVC d x0 x1 x2 x3 x4 x5 y0 z0 y1 z1 y2 z2 y3 z3 y4 z4 y5 z5) 36),(1, .cells .anon ((lkl ⟨0,[],[],[],[],[],[],0,0,0,0⟩ (.slice none 0 0) (.slice none 0 0) (.slice none 0 0) (.slice none 0 0) (.slice none 0 0) (.slice none 0 0) (fun _=>false) (fun _=>none) (fun _=>0) (fun _=>0)).map .val) 78),
     (4, .cells .anon ((lkl d (.slice x0 y0 z0) (.slice x1 y1 z1) (.slice x2 y2 z2) (.slice x3 y3 z3) (.slice x4 y4 z4) (.slice x5 y5 z5) x.2 (fun _=>none) (fun _=>0) (fun _=>0)).map .val) 78)],ok:=fun x _=>x.1≤d.ps.length∧∀ k:Nat,x.2 k = prsS d x.1 k,m:=fun x=>d.ps.length - x.1 }
   (0,fun _=>false) (HeadP.of [] ⟨rfl,rfl,rfl,rfl,rfl,rfl,trivial⟩ ⟨rfl,rfl,rfl,trivial⟩) ⟨Nat.zero_le _,fun k=>rfl⟩ (fun _=>⟨rfl,rfl⟩) (fun x G1 hG1 hx=>W.mk ?_)
  obtain ⟨i,p⟩:=x
  obtain ⟨hi,hp⟩:=hx
  dsimp only at hi hp
  have hd1:=hd0.grow hG1
  have lps1:=SlR.grow (G:=G) (G':=G1) (fun _ _ h=>h) lps hG1
  dsimp only
  (conv=>whnf)
  refine IteP.mk (fun hlt=>W.mk ?_) (fun hge=>W.mk ?_)<;>(conv=>whnf)
  ·have hlt:i < d.ps.length:=by omega
   have hc:=lps1.el hlt
   have hsu:=prsS_succ hlt
   have hrp:=right_ps hr hlt
   generalize d.ps[i] = q at hc hsu hrp
   obtain ⟨q1,q2⟩:=q
   dsimp only at hrp hsu
   repeat' (first | (refine ob ?_ ?_;(first | trivial | omega | (simp only [inR];omega) | exact ble (by rfl) | exact SlR.some ‹_› (by omega));(conv=>whnf)) | (first | (refine ra ‹_› (by rfl) ?_;(conv=>whnf)) | (refine rb ‹_› (by rfl) ?_;(conv=>whnf)) | (refine rc ‹_› (by rfl) ?_;(conv=>whnf)) | (refine rd ‹_› (by rfl) ?_;(conv=>whnf))))
   refine DrawP.mk monoT_nil rfl (W.mk ?_)
   (conv=>whnf)
   refine OblP.mk (by dsimp only;omega) (W.mk ?_)
   (conv=>whnf)
   have hl1:0 + 11 + q1.toNat * 1 + 1≤((lkl d (.slice x0 y0 z0) (.slice x1 y1 z1) (.slice x2 y2 z2) (.slice x3 y3 z3) (.slice x4 y4 z4) (.slice x5 y5 z5) p (fun _=>none) (fun _=>0) (fun _=>0)).map S1.val).length:=by
    rw [List.length_map,lkl_len];omega
   refine OblP.mk hl1 (W.mk ?_)
   (conv=>whnf)
   refine OblP.mk (by dsimp only;omega) (W.mk ?_)
   (conv=>whnf)
   have e1:=lkl_pd (d:=d) (w0:=.slice x0 y0 z0) (w1:=.slice x1 y1 z1) (w2:=.slice x2 y2 z2) (w3:=.slice x3 y3 z3) (w4:=.slice x4 y4 z4) (w5:=.slice x5 y5 z5) (p:=p) (a:=fun _=>none) (n:=fun _=>0) (c:=fun _=>0) (i:=q1.toNat) (off:=0 + 11 + q1.toNat * 1) (by omega) (by omega) true
   have e2:=lkl_pd (d:=d) (w0:=.slice x0 y0 z0) (w1:=.slice x1 y1 z1) (w2:=.slice x2 y2 z2) (w3:=.slice x3 y3 z3) (w4:=.slice x4 y4 z4) (w5:=.slice x5 y5 z5) (p:=fun j=>if j = q1.toNat then true else p j) (a:=fun _=>none) (n:=fun _=>0) (c:=fun _=>0) (i:=q2.toNat) (off:=0 + 11 + q2.toNat * 1) (by omega) (by omega) true
   rw [← e1] at e2
   refine OblP.mk ?_ (W.mk ?_)
   ·have:=congrArg List.length e1
    refine Nat.le_trans (m:=91) (by omega) (Nat.le_of_eq ?_)
    refine Eq.trans ?_ this.symm
    rw [List.length_map,lkl_len]
   (conv=>whnf)
   repeat' (refine ob ?_ ?_;(first | trivial | omega | (simp only [inR];omega) | exact ble (by rfl) | exact SlR.some ‹_› (by omega));(conv=>whnf))
   refine RoundP.of (i + 1,fun j=>if j = q2.toNat then true else if j = q1.toNat then true else p j) (HeadP.of [] ⟨rfl,rfl,rfl,rfl,rfl,rfl,trivial⟩ ⟨rfl,rfl,congrArg (fun z=>OB.cells .anon z 78) e2.symm,trivial⟩) ⟨hlt,fun k=>?_⟩ (by simp only;omega)
   dsimp only
   rw [hsu,hp k]
   by_cases g1:q1 = k<;>by_cases g2:q2 = k
   ·rw [if_pos (by omega),decide_eq_true g1];simp
   ·rw [if_neg (by omega),if_pos (by omega),decide_eq_true g1];simp
   ·rw [if_pos (by omega),decide_eq_true g2];simp
   ·rw [if_neg (by omega),if_neg (by omega),decide_eq_false g1,decide_eq_false g2];simp
  ·have hi2:i = d.ps.length:=by omega
   subst hi2
   have hp:∀ k:Nat,p k = pairedF d k:=fun k=>by rw [hp,pairedF_all]
   refine LoopP.of { α:=Nat × (Nat→Option Addr) × (Nat→Nat) × (Nat→Nat),fr:=fun x=>[(1, .c (.ptr 0 0)),(2, .c (.ptr 1 0)),(3, .c (.ptr 4 0)),(26, .v (I d.m)),(27, .v (I x.1))],H:=fun x=>[(0, .cells .anon (DVC d x0 x1 x2 x3 x4 x5 y0 z0 y1 z1 y2 z2 y3 z3 y4 z4 y5 z5) 36),(1, .cells .anon ((lkl ⟨0,[],[],[],[],[],[],0,0,0,0⟩ (.slice none 0 0) (.slice none 0 0) (.slice none 0 0) (.slice none 0 0) (.slice none 0 0) (.slice none 0 0) (fun _=>false) (fun _=>none) (fun _=>0) (fun _=>0)).map .val) 78),
      (4, .cells .anon ((lkl d (.slice x0 y0 z0) (.slice x1 y1 z1) (.slice x2 y2 z2) (.slice x3 y3 z3) (.slice x4 y4 z4) (.slice x5 y5 z5) p x.2.1 x.2.2.1 x.2.2.2).map .val) 78)],ok:=fun x G=>x.1≤d.m.toNat∧∀ k:Nat,SlV u8E G (.slice (x.2.1 k) (x.2.2.1 k) (x.2.2.2 k)) (if k < x.1 then votesF d k else []),m:=fun x=>d.m.toNat - x.1 }
    (0,(fun _=>none),(fun _=>0),(fun _=>0)) (HeadP.of [] ⟨rfl,rfl,rfl,rfl,rfl,trivial⟩ ⟨rfl,rfl,rfl,trivial⟩) ⟨Nat.zero_le _,fun k=>by rw [if_neg (Nat.not_lt_zero _)];exact SlV.nil⟩ (fun _=>⟨rfl,rfl⟩) (fun x G2 hG2 hx=>W.mk ?_)
   obtain ⟨i,a,n,c⟩:=x
   obtain ⟨hi,hv⟩:=hx
   dsimp only at hi hv
   have hd2:=hd1.grow hG2
   dsimp only
   (conv=>whnf)
   refine IteP.mk (fun hlt=>W.mk ?_) (fun hge=>W.mk ?_)<;>(conv=>whnf)
   ·refine RelP.g (ok2 dvRd intRd fun _ _=>True) (x:=(d,(i:Int))) ⟨_,_,rfl,⟨_,_,_,_,_,_,rfl,hd2⟩,rfl,trivial⟩ (Grow.refl _) (fun v G3 hg3 hq=>W.mk ?_)
    dsimp only at hq
    have hq0:=hq
    obtain ⟨a',n',c',rfl,hl',hn'⟩:=hq
    (conv=>whnf)
    refine OblP.mk (by omega) (W.mk ?_)
    (conv=>whnf)
    have e1:=lkl_my (d:=d) (w0:=.slice x0 y0 z0) (w1:=.slice x1 y1 z1) (w2:=.slice x2 y2 z2) (w3:=.slice x3 y3 z3) (w4:=.slice x4 y4 z4) (w5:=.slice x5 y5 z5) (p:=p) (a:=a) (n:=n) (c:=c) (i:=i) (off:=0 + 51 + (i:Int).toNat * 1) (by omega) (by simp) a' n' c'
    refine OblP.mk ?_ (W.mk ?_)
    ·rw [List.length_map]
     refine Nat.le_trans (m:=91) (by simp;omega) (Nat.le_of_eq ?_)
     exact lkl_len.symm
    (conv=>whnf)
    repeat' (refine ob ?_ ?_;(first | trivial | omega | (simp only [inR];omega) | exact ble (by rfl) | exact SlR.some ‹_› (by omega));(conv=>whnf))
    refine RoundP.of (i + 1,(fun j=>if j = i then a' else a j),(fun j=>if j = i then n' else n j),(fun j=>if j = i then c' else c j)) (HeadP.of [] ⟨rfl,rfl,rfl,rfl,rfl,trivial⟩ ⟨rfl,rfl,congrArg (fun z=>OB.cells .anon z 78) e1.symm,trivial⟩) ⟨by show i + 1≤_;omega,fun k=>?_⟩ (by simp only;omega)
    dsimp only
    by_cases hk:k = i
    ·subst hk
     simp only [if_true,show k < k + 1 by omega]
     exact hq0
    ·simp only [if_neg hk]
     have:(if k < i + 1 then votesF d k else []) = if k < i then votesF d k else []:=by
      by_cases hk2:k < i
      ·rw [if_pos hk2,if_pos (by omega)]
      ·rw [if_neg hk2,if_neg (by omega)]
     rw [this]
     exact (hv k).grow hg3
   ·have hi2:i = d.m.toNat:=by omega
    subst hi2
    refine FinP.mk ⟨_,_,_,_,_,_,p,a,n,c,rfl,hd2,by simp [lookF],fun k hk=>by simp [lookF,hk,hp],by simp [lookF],fun k hk=>⟨if (k:Int) < d.m then votesF d k else [],by simp [lookF,hk], ?_⟩⟩
    obtain ⟨a',n',c',e,h1,h2⟩:=hv k
    cases e
    have:(if k < d.m.toNat then votesF d k else []) = if (k:Int) < d.m then votesF d k else []:=by
     by_cases hk2:(k:Int) < d.m
     ·rw [if_pos hk2,if_pos (by omega)]
     ·rw [if_neg hk2,if_neg (by omega)]
    rw [this] at h1
    exact ⟨h1,h2⟩
end Go.Proofs.Ytgpfejgohclheaa

namespace Go.Proofs.Ytgpfejgohclheaa
open Go.Pal
set_option maxRecDepth 100000
theorem onF_le (l:List Int × List Int) (m:Int):0≤onF l m∧onF l m≤2:=by
 have:=b2_le (l.1.contains m);have:=b2_le (l.2.contains m)
 simp only [onF];omega
theorem votes_len (d:Dv) (m:Int):((votesF d m).length:Int) = cntK d m 3:=by
 have h3:cntK d m 3 = 0 + b2 (mayF d m ((0:Nat):Int)) + b2 (mayF d m ((1:Nat):Int)) + b2 (mayF d m ((2:Nat):Int)):=rfl
 rw [h3]
 simp only [votesF,List.length_append]
 show (((if mayF d m 0 = true then [0] else ([]:List Int)).length + (if mayF d m 1 = true then [1] else []).length + (if mayF d m 2 = true then [2] else []).length:Nat):Int) = 0 + b2 (mayF d m 0) + b2 (mayF d m 1) + b2 (mayF d m 2)
 cases mayF d m 0<;>cases mayF d m 1<;>cases mayF d m 2<;>simp [b2]
theorem votes_emp (d:Dv) (m:Nat):decide ((votesF d m).length = 0) = cla d m:=by
 have h1:=onF_le d.a m
 have h2:=onF_le d.n m
 have hv:=votes_len d m
 have h3:cntK d m 3 = 0 + b2 (mayF d m ((0:Nat):Int)) + b2 (mayF d m ((1:Nat):Int)) + b2 (mayF d m ((2:Nat):Int)):=rfl
 have h4:cntK d m 3 = b2 (mayF d m 0) + b2 (mayF d m 1) + b2 (mayF d m 2):=by rw [h3];simp
 rw [Bool.eq_iff_iff,decide_eq_true_eq,cla,Bool.and_eq_true,decide_eq_true_eq,decide_eq_true_eq]
 have e0:mayF d m 0 = (decide (onF d.a m < 2) && decide (onF d.n m < 2)):=by simp [mayF]
 have e1:mayF d m 1 = (decide (0 < onF d.a m) && decide (onF d.n m < 2)):=by simp [mayF]
 have e2:mayF d m 2 = (decide (0 < onF d.n m) && decide (onF d.a m < 2)):=by simp [mayF]
 rw [e0,e1,e2] at h4
 constructor
 ·intro h
  have hz:cntK d m 3 = 0:=by omega
  rw [hz] at h4
  by_cases g1:onF d.a m < 2<;>by_cases g2:onF d.n m < 2<;>by_cases g3:0 < onF d.a m<;>by_cases g4:0 < onF d.n m<;>simp [g1,g2,g3,g4,b2] at h4<;>omega
 ·rintro ⟨g1,g2⟩
  have:cntK d m 3 = 0:=by rw [h4,g1,g2];rfl
  omega
theorem find_congr {p q:Nat→Bool} {n:Nat} (h:∀ k,k < n→p k = q k):(List.range n).find? p = (List.range n).find? q:=by
 have:∀ l:List Nat,(∀ k∈l,p k = q k)→l.find? p = l.find? q:=fun l hl=>by
  induction l with
  | nil=>rfl
  | cons x r ih=>rw [List.find?_cons,List.find?_cons,hl x (by simp),ih (fun k hk=>hl k (by simp [hk]))]
 exact this _ fun k hk=>h k (List.mem_range.1 hk)
theorem may_look {d:Dv} (hm:d.m≤40) {k:Nat} (hk:k < d.m.toNat):(lookF d).may.getD k [] = votesF d k:=by
 simp only [lookF,List.getD_eq_getElem?_getD,List.getElem?_map]
 rw [List.getElem?_range (by omega)]
 simp only [Option.map_some,Option.getD_some]
 rw [if_pos (by omega)]
theorem clk_look {d:Dv} (hm:d.m≤40):clkF (lookF d) = if 0≤clashF d then .tuple #[I (clashF d), .bool true] else .tuple #[I 0, .bool false]:=by
 have:(List.range d.m.toNat).find? (emp (lookF d)) = (List.range d.m.toNat).find? (cla d):=find_congr fun k hk=>by
  rw [emp,may_look hm hk,votes_emp]
 have h2:(lookF d).d = d:=rfl
 rw [clkF,h2,this,clashF]
 cases (List.range d.m.toNat).find? (cla d) with
 | none=>rfl
 | some k=>simp
theorem dbK_look {d:Dv} (hm:d.m≤40):dbK (lookF d) d.m.toNat = doubtsF d:=by
 rw [dbK,doubtsF,dK]
 congr 1
 apply List.filter_congr
 intro k hk
 rw [dbp,may_look hm (List.mem_range.1 hk),dbt]
 have:=votes_len d k
 simp only [decide_eq_decide];omega
def lk0:Lk:=⟨⟨0,[],[],[],[],[],[],0,0,0,0⟩,(List.range 40).map fun _=>false,(List.range 40).map fun _=>[]⟩
abbrev zsl:Value:=.slice none 0 0
theorem lk0_v (G:Hp):LkV G (.agg (lkl ⟨0,[],[],[],[],[],[],0,0,0,0⟩ zsl zsl zsl zsl zsl zsl (fun _=>false) (fun _=>none) (fun _=>0) (fun _=>0)).toArray) lk0 :=
 ⟨_,_,_,_,_,_,_,_,_,_,rfl,⟨SlV.nil,SlV.nil,SlV.nil,SlV.nil,SlV.nil,SlV.nil⟩,by simp [lk0],fun i hi=>by simp [lk0,hi],by simp [lk0],fun i hi=>⟨[],by simp [lk0,hi],⟨rfl,Nat.le_refl _,fun h=>absurd rfl h,fun i hi=>by simp at hi⟩,by simp⟩⟩
def BegV (e:Int) (d:Dv) (v:Value) (G:Hp):Prop:=∃ w,v = .tuple #[w,I e]∧LkV G w (if e = 0 then lookF d else lk0)
theorem BegV.grow {e:Int} {d:Dv} {v:Value} {G G':Hp} (hg:Grow G G'):BegV e d v G→BegV e d v G':=fun ⟨w,h1,h2⟩=>⟨w,h1,h2.grow hg⟩
def tabX:Tab Try.prog:=Tab.cons 56 _ look56 body56 tabW
theorem begin37:Sound Try.prog 37 id (grel (args1 dvRd rul) fun d v G=>BegV (faultF d) d v G):=by
 refine comp37.grel tabX (ok1 _ _) (fun args G s h=>?_) (fun x v G G' hg h=>h.grow hg) (fun args G d h=>?_)
 ·obtain ⟨v,rfl,_⟩:=h;simp
 ·obtain ⟨u,rfl,⟨w0,w1,w2,w3,w4,w5,rfl,hd⟩,hr⟩:=h
  have hd0:=hd
  obtain ⟨x0,y0,z0,rfl,la0,ya0⟩:=id hd.a0
  obtain ⟨x1,y1,z1,rfl,la1,ya1⟩:=id hd.a1
  obtain ⟨x2,y2,z2,rfl,ln0,yn0⟩:=id hd.n0
  obtain ⟨x3,y3,z3,rfl,ln1,yn1⟩:=id hd.n1
  obtain ⟨x4,y4,z4,rfl,lps,yps⟩:=id hd.ps
  obtain ⟨x5,y5,z5,rfl,lqs,yqs⟩:=id hd.qs
  (conv=>whnf)
  refine ScaP.g (ok1 dvRd rul) (x:=d) ⟨_,rfl,⟨_,_,_,_,_,_,rfl,hd0⟩,hr⟩ (fun v hv=>W.mk ?_)
  subst hv
  (conv=>whnf)
  refine ForkP.mk (fun h1=>W.mk ?_) (fun h1=>W.mk ?_)<;>(conv=>whnf)
  ·obtain ⟨hm0,hm1⟩:=right_m h1
   refine RelP.g (ok1 dvRd fun d=>rightD d = true) (x:=d) ⟨_,rfl,⟨_,_,_,_,_,_,rfl,hd0⟩,h1⟩ (Grow.refl _) (fun v G1 hg1 hq=>W.mk ?_)
   have hq0:=hq
   obtain ⟨w0,w1,w2,w3,w4,w5,p,a,n,c,rfl,hk⟩:=hq
   have hkd:=hk.dv
   obtain ⟨xx0,yy0,zz0,rfl,_,_⟩:=id hkd.a0
   obtain ⟨xx1,yy1,zz1,rfl,_,_⟩:=id hkd.a1
   obtain ⟨xx2,yy2,zz2,rfl,_,_⟩:=id hkd.n0
   obtain ⟨xx3,yy3,zz3,rfl,_,_⟩:=id hkd.n1
   obtain ⟨xx4,yy4,zz4,rfl,_,_⟩:=id hkd.ps
   obtain ⟨xx5,yy5,zz5,rfl,_,_⟩:=id hkd.qs
   (conv=>whnf)
   refine ScaP.g (ok1 lkRd fun x=>0≤x.d.m∧x.d.m≤40) (x:=lookF d) ⟨_,rfl,hq0,by show 0≤d.m;omega,hm1⟩ (fun v hv=>W.mk ?_)
   rw [clk_look hm1] at hv
   by_cases hc:0≤clashF d
   ·rw [if_pos hc] at hv
    subst hv
    have he:faultF d = 9:=by simp [faultF,h1,hc]
    (conv=>whnf)
    refine ForkP.mk (fun _=>W.mk ?_) (fun h=>by cases h)
    (conv=>whnf)
    refine FinP.mk ?_
    rw [he]
    exact ⟨_,rfl,lk0_v _⟩
   ·rw [if_neg hc] at hv
    subst hv
    have he:faultF d = 0:=by simp [faultF,h1,hc]
    (conv=>whnf)
    refine ForkP.mk (fun h=>by cases h) (fun _=>W.mk ?_)
    (conv=>whnf)
    refine FinP.mk ?_
    rw [he]
    exact ⟨_,rfl,hq0⟩
  ·refine FinP.mk ?_
   have he:faultF d = 1:=by simp [faultF,h1]
   rw [he]
   exact ⟨_,rfl,lk0_v _⟩
theorem clash25:Sound Try.prog 25 id (gsca (args1 dvRd rul) fun d v=>v = if rightD d then (if 0≤clashF d then .tuple #[I (clashF d),I 0] else .tuple #[I 0,I 7]) else .tuple #[I 0,I 1]):=by
 refine comp25.gsca tabX (fun args G s h=>?_) (fun args G d h=>?_)
 ·obtain ⟨v,rfl,_⟩:=h;simp
 ·obtain ⟨u,rfl,⟨w0,w1,w2,w3,w4,w5,rfl,hd⟩,hr⟩:=h
  have hd0:=hd
  obtain ⟨x0,y0,z0,rfl,la0,ya0⟩:=id hd.a0
  obtain ⟨x1,y1,z1,rfl,la1,ya1⟩:=id hd.a1
  obtain ⟨x2,y2,z2,rfl,ln0,yn0⟩:=id hd.n0
  obtain ⟨x3,y3,z3,rfl,ln1,yn1⟩:=id hd.n1
  obtain ⟨x4,y4,z4,rfl,lps,yps⟩:=id hd.ps
  obtain ⟨x5,y5,z5,rfl,lqs,yqs⟩:=id hd.qs
  (conv=>whnf)
  refine ScaP.g (ok1 dvRd rul) (x:=d) ⟨_,rfl,⟨_,_,_,_,_,_,rfl,hd0⟩,hr⟩ (fun v hv=>W.mk ?_)
  subst hv
  (conv=>whnf)
  refine ForkP.mk (fun h1=>W.mk ?_) (fun h1=>W.mk ?_)<;>(conv=>whnf)
  ·obtain ⟨hm0,hm1⟩:=right_m h1
   refine RelP.g (ok1 dvRd fun d=>rightD d = true) (x:=d) ⟨_,rfl,⟨_,_,_,_,_,_,rfl,hd0⟩,h1⟩ (Grow.refl _) (fun v G1 hg1 hq=>W.mk ?_)
   have hq0:=hq
   obtain ⟨w0,w1,w2,w3,w4,w5,p,a,n,c,rfl,hk⟩:=hq
   have hkd:=hk.dv
   obtain ⟨xx0,yy0,zz0,rfl,_,_⟩:=id hkd.a0
   obtain ⟨xx1,yy1,zz1,rfl,_,_⟩:=id hkd.a1
   obtain ⟨xx2,yy2,zz2,rfl,_,_⟩:=id hkd.n0
   obtain ⟨xx3,yy3,zz3,rfl,_,_⟩:=id hkd.n1
   obtain ⟨xx4,yy4,zz4,rfl,_,_⟩:=id hkd.ps
   obtain ⟨xx5,yy5,zz5,rfl,_,_⟩:=id hkd.qs
   (conv=>whnf)
   refine ScaP.g (ok1 lkRd fun x=>0≤x.d.m∧x.d.m≤40) (x:=lookF d) ⟨_,rfl,hq0,by show 0≤d.m;omega,hm1⟩ (fun v hv=>W.mk ?_)
   rw [clk_look hm1] at hv
   by_cases hc:0≤clashF d
   ·rw [if_pos hc] at hv
    subst hv
    (conv=>whnf)
    refine ForkP.mk (fun _=>W.mk ?_) (fun h=>by cases h)
    (conv=>whnf)
    refine FinP.mk ?_
    rw [if_pos h1,if_pos hc];rfl
   ·rw [if_neg hc] at hv
    subst hv
    (conv=>whnf)
    refine ForkP.mk (fun h=>by cases h) (fun _=>W.mk ?_)
    (conv=>whnf)
    refine FinP.mk ?_
    rw [if_pos h1,if_neg hc];rfl
  ·refine FinP.mk ?_
   rw [if_neg (by rw [h1];simp)];rfl
def tabY:Tab Try.prog:=Tab.cons 37 _ begin37 body37 tabX
theorem fault_m {d:Dv} (h:faultF d = 0):1≤d.m∧d.m≤40:=right_m (fault_right h)
theorem open39:Sound Try.prog 39 id (grel (args1 dvRd rul) fun d v G=>BegV (openF d) d v G):=by
 refine comp39.grel tabY (ok1 _ _) (fun args G s h=>?_) (fun x v G G' hg h=>h.grow hg) (fun args G d h=>?_)
 ·obtain ⟨v,rfl,_⟩:=h;simp
 ·obtain ⟨u,rfl,⟨w0,w1,w2,w3,w4,w5,rfl,hd⟩,hr⟩:=h
  have hd0:=hd
  obtain ⟨x0,y0,z0,rfl,la0,ya0⟩:=id hd.a0
  obtain ⟨x1,y1,z1,rfl,la1,ya1⟩:=id hd.a1
  obtain ⟨x2,y2,z2,rfl,ln0,yn0⟩:=id hd.n0
  obtain ⟨x3,y3,z3,rfl,ln1,yn1⟩:=id hd.n1
  obtain ⟨x4,y4,z4,rfl,lps,yps⟩:=id hd.ps
  obtain ⟨x5,y5,z5,rfl,lqs,yqs⟩:=id hd.qs
  (conv=>whnf)
  refine RelP.g (ok1 dvRd rul) (x:=d) ⟨_,rfl,⟨_,_,_,_,_,_,rfl,hd0⟩,hr⟩ (Grow.refl _) (fun v G1 hg1 hq=>W.mk ?_)
  obtain ⟨w,rfl,hw⟩:=hq
  by_cases he:faultF d = 0
  ·rw [if_pos he] at hw
   obtain ⟨hm0,hm1⟩:=fault_m he
   have hw0:=hw
   obtain ⟨w0,w1,w2,w3,w4,w5,p,a,n,c,rfl,hk⟩:=hw
   have hkd:=hk.dv
   obtain ⟨xx0,yy0,zz0,rfl,_,_⟩:=id hkd.a0
   obtain ⟨xx1,yy1,zz1,rfl,_,_⟩:=id hkd.a1
   obtain ⟨xx2,yy2,zz2,rfl,_,_⟩:=id hkd.n0
   obtain ⟨xx3,yy3,zz3,rfl,_,_⟩:=id hkd.n1
   obtain ⟨xx4,yy4,zz4,rfl,_,_⟩:=id hkd.ps
   obtain ⟨xx5,yy5,zz5,rfl,_,_⟩:=id hkd.qs
   (conv=>whnf)
   refine IteP.mk (fun h1=>W.mk ?_) (fun h1=>absurd he h1)
   (conv=>whnf)
   refine RelP.g (ok1 lkRd fun x=>0≤x.d.m∧x.d.m≤40) (x:=lookF d) ⟨_,rfl,hw0,by show 0≤d.m;omega,hm1⟩ (Grow.refl _) (fun v G2 hg2 hq=>W.mk ?_)
   have hq:SlV intE G2 v (doubtsF d):=dbK_look hm1 ▸ hq
   obtain ⟨a',n',c',rfl,hl',hn'⟩:=hq
   have hlen:=hl'.len
   (conv=>whnf)
   refine IteP.mk (fun h2=>W.mk ?_) (fun h2=>W.mk ?_)<;>(conv=>whnf)<;>refine FinP.mk ?_
   ·have ho:openF d = 3:=by rw [openF,if_pos ⟨he,by omega⟩]
    rw [ho]
    exact ⟨_,rfl,lk0_v _⟩
   ·have ho:openF d = faultF d:=by rw [openF,if_neg (fun h=>by have:=h.2;omega)]
    rw [ho]
    exact ⟨_,rfl,by rw [if_pos he];exact hw0.grow hg2⟩
  ·rw [if_neg he] at hw
   have hw0:=hw
   obtain ⟨w0,w1,w2,w3,w4,w5,p,a,n,c,rfl,hk⟩:=hw
   have hkd:=hk.dv
   obtain ⟨xx0,yy0,zz0,rfl,_,_⟩:=id hkd.a0
   obtain ⟨xx1,yy1,zz1,rfl,_,_⟩:=id hkd.a1
   obtain ⟨xx2,yy2,zz2,rfl,_,_⟩:=id hkd.n0
   obtain ⟨xx3,yy3,zz3,rfl,_,_⟩:=id hkd.n1
   obtain ⟨xx4,yy4,zz4,rfl,_,_⟩:=id hkd.ps
   obtain ⟨xx5,yy5,zz5,rfl,_,_⟩:=id hkd.qs
   (conv=>whnf)
   refine IteP.mk (fun h1=>absurd h1 he) (fun h1=>W.mk ?_)
   (conv=>whnf)
   refine FinP.mk ?_
   have ho:openF d = faultF d:=by rw [openF,if_neg (fun h=>he h.1)]
   rw [ho]
   exact ⟨_,rfl,by rw [if_neg he];exact hw0⟩
def DbtV (d:Dv) (v:Value) (G:Hp):Prop:=∃ w,v = .tuple #[w,I (faultF d)]∧SlV intE G w (if faultF d = 0 then doubtsF d else [])
theorem doubts11:Sound Try.prog 11 id (grel (args1 dvRd rul) fun d v G=>DbtV d v G):=by
 refine comp11.grel tabY (ok1 _ _) (fun args G s h=>?_) (fun x v G G' hg ⟨w,h1,h2⟩=>⟨w,h1,h2.grow hg⟩) (fun args G d h=>?_)
 ·obtain ⟨v,rfl,_⟩:=h;simp
 ·obtain ⟨u,rfl,⟨w0,w1,w2,w3,w4,w5,rfl,hd⟩,hr⟩:=h
  have hd0:=hd
  obtain ⟨x0,y0,z0,rfl,la0,ya0⟩:=id hd.a0
  obtain ⟨x1,y1,z1,rfl,la1,ya1⟩:=id hd.a1
  obtain ⟨x2,y2,z2,rfl,ln0,yn0⟩:=id hd.n0
  obtain ⟨x3,y3,z3,rfl,ln1,yn1⟩:=id hd.n1
  obtain ⟨x4,y4,z4,rfl,lps,yps⟩:=id hd.ps
  obtain ⟨x5,y5,z5,rfl,lqs,yqs⟩:=id hd.qs
  (conv=>whnf)
  refine RelP.g (ok1 dvRd rul) (x:=d) ⟨_,rfl,⟨_,_,_,_,_,_,rfl,hd0⟩,hr⟩ (Grow.refl _) (fun v G1 hg1 hq=>W.mk ?_)
  obtain ⟨w,rfl,hw⟩:=hq
  by_cases he:faultF d = 0
  ·rw [if_pos he] at hw
   obtain ⟨hm0,hm1⟩:=fault_m he
   have hw0:=hw
   obtain ⟨w0,w1,w2,w3,w4,w5,p,a,n,c,rfl,hk⟩:=hw
   have hkd:=hk.dv
   obtain ⟨xx0,yy0,zz0,rfl,_,_⟩:=id hkd.a0
   obtain ⟨xx1,yy1,zz1,rfl,_,_⟩:=id hkd.a1
   obtain ⟨xx2,yy2,zz2,rfl,_,_⟩:=id hkd.n0
   obtain ⟨xx3,yy3,zz3,rfl,_,_⟩:=id hkd.n1
   obtain ⟨xx4,yy4,zz4,rfl,_,_⟩:=id hkd.ps
   obtain ⟨xx5,yy5,zz5,rfl,_,_⟩:=id hkd.qs
   (conv=>whnf)
   refine IteP.mk (fun h1=>W.mk ?_) (fun h1=>absurd he h1)
   (conv=>whnf)
   refine RelP.g (ok1 lkRd fun x=>0≤x.d.m∧x.d.m≤40) (x:=lookF d) ⟨_,rfl,hw0,by show 0≤d.m;omega,hm1⟩ (Grow.refl _) (fun v G2 hg2 hq=>W.mk ?_)
   have hq:SlV intE G2 v (doubtsF d):=dbK_look hm1 ▸ hq
   obtain ⟨a',n',c',rfl,hl',hn'⟩:=hq
   (conv=>whnf)
   refine FinP.mk ?_
   unfold DbtV
   rw [if_pos he,he]
   exact ⟨_,rfl,_,_,_,rfl,hl',hn'⟩
  ·rw [if_neg he] at hw
   obtain ⟨w0,w1,w2,w3,w4,w5,p,a,n,c,rfl,hk⟩:=hw
   have hkd:=hk.dv
   obtain ⟨xx0,yy0,zz0,rfl,_,_⟩:=id hkd.a0
   obtain ⟨xx1,yy1,zz1,rfl,_,_⟩:=id hkd.a1
   obtain ⟨xx2,yy2,zz2,rfl,_,_⟩:=id hkd.n0
   obtain ⟨xx3,yy3,zz3,rfl,_,_⟩:=id hkd.n1
   obtain ⟨xx4,yy4,zz4,rfl,_,_⟩:=id hkd.ps
   obtain ⟨xx5,yy5,zz5,rfl,_,_⟩:=id hkd.qs
   (conv=>whnf)
   refine IteP.mk (fun h1=>absurd h1 he) (fun h1=>W.mk ?_)
   (conv=>whnf)
   refine FinP.mk ?_
   unfold DbtV
   rw [if_neg he]
   exact ⟨_,rfl,SlV.nil⟩
end Go.Proofs.Ytgpfejgohclheaa

namespace Go.Proofs.Ytgpfejgohclheaa
open Go.Pal
set_option maxRecDepth 100000
theorem vote61:Sound Try.prog 61 id (gsca (args1 u8Rd fun _=>True) fun v r=>r = .bool (decide (v≤2))):=by
 refine comp61.gsca (Tab.nil _) (fun args G s h=>?_) (fun args G d h=>?_)
 ·obtain ⟨v,rfl,_⟩:=h;simp
 ·obtain ⟨u,rfl,rfl,_⟩:=h
  (conv=>whnf)
  refine IteP.mk (fun h1=>W.mk ?_) (fun h1=>W.mk ?_)<;>(conv=>whnf)<;>refine FinP.mk ?_<;>refine congrArg Value.bool ?_<;>simp [h1]
abbrev trl (f:Nat→Int):List Value:=(List.range 40).map fun i=>U (f i)
def TrV (_:Hp) (v:Value) (t:List Int):Prop:=∃ f:Nat→Int,v = .agg (trl f).toArray∧t = (List.range 40).map f
theorem TrV.uniq {G:Hp} {v:Value} {x y:List Int} (h:TrV G v x) (h':TrV G v y):x = y:=by
 obtain ⟨f,h1,rfl⟩:=h
 obtain ⟨g,h2,rfl⟩:=h'
 rw [h1] at h2
 have h2:trl f = trl g:=congrArg Array.toList (Value.agg.inj h2)
 apply List.map_congr_left
 intro i hi
 have hi:=List.mem_range.1 hi
 have:=congrArg (·[i]?) h2
 simp [trl,hi] at this
 exact this
def trRd:Rd (List Int):=⟨TrV,fun h h'=>h.uniq h',fun _ h=>h⟩
theorem trl_at {f:Nat→Int} {i off:Nat} (hi:i < 40) (ho:off = i):(((trl f).map S1.val).drop off).take 1 = [.val (U (f i))]:=by
 subst ho
 exact one_at (by simp [trl,hi])
section
variable {d:Dv} {w0 w1 w2 w3 w4 w5:Value} {p:Nat→Bool} {a:Nat→Option Addr} {n c:Nat→Nat}
theorem lkl_pdat {i off:Nat} (hi:i < 40) (ho:off = 11 + i):(((lkl d w0 w1 w2 w3 w4 w5 p a n c).map S1.val).drop off).take 1 = [.val (.bool (p i))]:=by
 subst ho
 refine one_at ?_
 rw [List.getElem?_map,lkl,List.append_assoc,List.getElem?_append_right (by show 11≤11 + i;omega),show 11 + i - (dvl d w0 w1 w2 w3 w4 w5).length = i by show 11 + i - 11 = i;omega,List.getElem?_append_left (by simp;omega),pdl_get hi];rfl
theorem lkl_myat {i off:Nat} (hi:i < 40) (ho:off = 51 + i):(((lkl d w0 w1 w2 w3 w4 w5 p a n c).map S1.val).drop off).take 1 = [.val (.slice (a i) (n i) (c i))]:=by
 subst ho
 refine one_at ?_
 rw [List.getElem?_map,lkl,List.getElem?_append_right (by show 51≤51 + i;omega),show 51 + i - (dvl d w0 w1 w2 w3 w4 w5++pdl p).length = i by show 51 + i - 51 = i;omega,myl_get hi];rfl
end
/-! ### count -/
abbrev cntL (b:Nat) (a n:Int):LE:=⟨b,true, .cells [I a,I n] 66⟩
def cntS (b:Nat):PSpec:=.st (fun args ls _=>∃ v a n:Int,args = [U v]∧ls = [cntL b a n]∧0≤a∧a≤1000∧0≤n∧n≤1000) (fun args ls r ns _=>∃ v a n:Int,args = [U v]∧ls = [cntL b a n]∧r = .tuple #[]∧ns = [.cells [I (if v = 1 then a + 1 else a),I (if v = 1 then n else if v = 2 then n + 1 else n)] 66])
theorem count68 (b:Nat):Sound Try.prog 68 (fun a=>(#[]:Array Value).toList++a++(#[bptr b]:Array Value).toList) (cntS b):=by
 refine ⟨fun args ls v ns G G' hg h=>h,fun args ls G Wd hsub hls hnd hpre=>?_⟩
 obtain ⟨v,a,n,rfl,rfl,ha0,ha1,hn0,hn1⟩:=hpre
 refine st_sound (Tab.nil _) comp68 (svs:=[.v (U v), .c (.ptr 0 0)]) (obs:=[.cells (.named b) [.val (I a), .val (I n)] 66]) (by simp) hsub hls hnd (Nat.le_refl _) ?_ ?_ ?_
 ·exact ⟨rfl,trivial,⟨_,rfl,rfl⟩,(Nat.le_of_ble_eq_true rfl:0 < 1),trivial⟩
 ·refine ⟨⟨_,rfl,relL_vals _ [I a,I n], ?_⟩,trivial⟩
  intro c hc;simp at hc;rcases hc with rfl | rfl<;>trivial
 ·(conv=>whnf)
  refine IteP.mk (fun h1=>W.mk ?_) (fun h1=>W.mk ?_)<;>(conv=>whnf)
  ·repeat' (refine ob ?_ ?_;(first | trivial | omega | (simp only [inR];omega) | exact ble (by rfl) | exact SlR.some ‹_› (by omega));(conv=>whnf))
   refine FinS.mk ⟨_,⟨.cells [I (a + 1),I n] 66,⟨_,rfl,rfl⟩,trivial,_,rfl,rfl⟩,v,a,n,rfl,rfl,rfl, ?_⟩
   rw [if_pos h1,if_pos h1]
  ·refine IteP.mk (fun h2=>W.mk ?_) (fun h2=>W.mk ?_)<;>(conv=>whnf)
   ·repeat' (refine ob ?_ ?_;(first | trivial | omega | (simp only [inR];omega) | exact ble (by rfl) | exact SlR.some ‹_› (by omega));(conv=>whnf))
    refine FinS.mk ⟨_,⟨.cells [I a,I (n + 1)] 66,⟨_,rfl,rfl⟩,trivial,_,rfl,rfl⟩,v,a,n,rfl,rfl,rfl, ?_⟩
    rw [if_neg h1,if_neg h1,if_pos h2]
   ·refine FinS.mk ⟨_,⟨.cells [I a,I n] 66,⟨_,rfl,rfl⟩,trivial,_,rfl,rfl⟩,v,a,n,rfl,rfl,rfl, ?_⟩
    rw [if_neg h1,if_neg h1,if_neg h2]
def Vts (d:Dv) (t:List Int):Prop:=∀ k,k < d.m.toNat→t.getD k 0 = 0∨t.getD k 0 = 1∨t.getD k 0 = 2
theorem add_eq {c:C3} {v:Int} (h:v = 0∨v = 1∨v = 2):(c.add v).c1 = (if v = 1 then c.c1 + 1 else c.c1)∧(c.add v).c2 = (if v = 1 then c.c2 else if v = 2 then c.c2 + 1 else c.c2):=by
 rcases h with rfl | rfl | rfl<;>simp [C3.add]
theorem pd_look {d:Dv} {p:Nat→Bool} (h:∀ i,i < 40→(lookF d).pd[i]? = some (p i)) {i:Nat} (hi:i < 40):p i = pairedF d i:=by
 have:=h i hi
 simp [lookF,hi] at this
 exact this.symm
theorem numbers41:Sound Try.prog 41 id (gsca (args2 lkRd trRd fun x t=>∃ d,x = lookF d∧rightD d = true∧Vts d t) fun x v=>v = .agg #[I (ofF x.1.d x.2).a,I (ofF x.1.d x.2).n]):=by
 refine comp41.gsca (Tab.nil _) (fun args G s h=>?_) (fun args G x h=>?_)
 ·obtain ⟨u,v,rfl,_⟩:=h;simp
 ·obtain ⟨x,t⟩:=x
  obtain ⟨u,v1,rfl,⟨w0,w1,w2,w3,w4,w5,p,a,n,c,rfl,hk⟩,⟨f,rfl,ht⟩,d,hx,hr,hv⟩:=h
  dsimp only at hx hv ht hk
  subst hx
  have hp:∀ i,i < 40→p i = pairedF d i:=fun i hi=>pd_look hk.pd hi
  have hd:=hk.dv
  obtain ⟨hm0,hm1⟩:=right_m hr
  have hl2:(lookF d).d = d:=rfl
  rw [hl2] at hd
  have hd0:=hd
  have hf:∀ i,i < 40→t.getD i 0 = f i:=fun i hi=>by rw [ht];simp [hi]
  obtain ⟨x0,y0,z0,rfl,la0,ya0⟩:=id hd.a0
  obtain ⟨x1,y1,z1,rfl,la1,ya1⟩:=id hd.a1
  obtain ⟨x2,y2,z2,rfl,ln0,yn0⟩:=id hd.n0
  obtain ⟨x3,y3,z3,rfl,ln1,yn1⟩:=id hd.n1
  obtain ⟨x4,y4,z4,rfl,lps,yps⟩:=id hd.ps
  obtain ⟨x5,y5,z5,rfl,lqs,yqs⟩:=id hd.qs
  have hlenq:=lqs.len
  have hq10:d.qs.length≤10:=by
   have:=right_head hr
   simp only [headF,Bool.and_eq_true,decide_eq_true_eq] at this
   exact this.1.1.1.1.2
  dsimp only
  rw [hl2]
  (conv=>whnf)
  refine NameP.mk (fun b=>W.mk ?_)
  (conv=>whnf)
  refine LoopP.of { α:=Nat × Int × Int,fr:=fun x=>[(2, .c (.ptr 0 0)),(3, .c (.ptr 1 0)),(4, .c (.ptr 2 0)),(5, .v (.func (.func 68) #[] #[bptr b])),(12, .v (I d.m)),(13, .v (I x.1))],H:=fun x=>[(0, .cells .anon ((lkl d (.slice x0 y0 z0) (.slice x1 y1 z1) (.slice x2 y2 z2) (.slice x3 y3 z3) (.slice x4 y4 z4) (.slice x5 y5 z5) p a n c).map .val) 78),(1, .cells .anon ((trl f).map .val) 88),(2, .cells (.named b) [.val (I x.2.1), .val (I x.2.2)] 66)],ok:=fun x _=>x.1≤d.m.toNat∧(ofK d t x.1).c1 = x.2.1∧(ofK d t x.1).c2 = x.2.2,m:=fun x=>d.m.toNat - x.1 }
   (0,0,0) (HeadP.of [] ⟨rfl,rfl,rfl,rfl,rfl,rfl,trivial⟩ ⟨rfl,rfl,rfl,trivial⟩) ⟨Nat.zero_le _,rfl,rfl⟩ (fun _=>⟨rfl,rfl⟩) (fun x G1 hG1 hx=>W.mk ?_)
  obtain ⟨i,k1,k2⟩:=x
  obtain ⟨hi,e1,e2⟩:=hx
  dsimp only at hi e1 e2
  have hle:=ofK_le d t i
  obtain ⟨b0,b1,b2',b3⟩:=hle
  rw [e1] at b1 b3
  rw [e2] at b2' b3
  have hsu:ofK d t (i + 1) = if pairedF d i then ofK d t i else (ofK d t i).add (t.getD i 0):=rfl
  dsimp only
  (conv=>whnf)
  refine IteP.mk (fun hlt=>W.mk ?_) (fun hge=>W.mk ?_)<;>(conv=>whnf)
  ·have hi40:i < 40:=by omega
   repeat' (refine ob ?_ ?_;(first | trivial | omega | (simp only [inR];omega) | exact ble (by rfl) | exact SlR.some ‹_› (by omega));(conv=>whnf))
   cases hpi:p i with
   | true =>
    rw [hp i hi40] at hpi
    refine EqsP.mk ⟨[.val (.bool true)],(lkl_pdat hi40 (by simp)).trans (by rw [hp i hi40,hpi]),rfl,W.mk ?_⟩
    (conv=>whnf)
    repeat' (refine ob ?_ ?_;(first | trivial | omega | (simp only [inR];omega) | exact ble (by rfl) | exact SlR.some ‹_› (by omega));(conv=>whnf))
    refine RoundP.of (i + 1,k1,k2) (HeadP.of [] ⟨rfl,rfl,rfl,rfl,rfl,rfl,trivial⟩ ⟨rfl,rfl,rfl,trivial⟩) ⟨by show i + 1≤_;omega,by rw [hsu,if_pos hpi];exact e1,by rw [hsu,if_pos hpi];exact e2⟩ (by simp only;omega)
   | false =>
    rw [hp i hi40] at hpi
    refine EqsP.mk ⟨[.val (.bool false)],(lkl_pdat hi40 (by simp)).trans (by rw [hp i hi40,hpi]),rfl,W.mk ?_⟩
    (conv=>whnf)
    repeat' (refine ob ?_ ?_;(first | trivial | omega | (simp only [inR];omega) | exact ble (by rfl) | exact SlR.some ‹_› (by omega));(conv=>whnf))
    refine EqsP.mk ⟨[.val (U (f i))],trl_at hi40 (by simp),rfl,W.mk ?_⟩
    (conv=>whnf)
    refine CallvP.fn _ (SoundFn.of body68 (count68 b)) (W.mk ?_)
    (conv=>whnf)
    refine StP.mk ⟨[(2,cntL b k1 k2)],⟨⟨_,rfl,rfl⟩,trivial⟩,by simp,⟨f i,k1,k2,rfl,rfl,by omega,by omega,by omega,by omega⟩,fun v ns G3 hg3 hpost=>W.mk ?_⟩
    obtain ⟨v',a',n',q1,q2,rfl,rfl⟩:=hpost
    simp only [List.cons.injEq,and_true,Value.int.injEq,true_and] at q1
    simp only [List.map_cons,List.map_nil,List.cons.injEq,LE.mk.injEq,LB.cells.injEq,Value.int.injEq,and_true,true_and] at q2
    obtain ⟨q2,q3⟩:=q2
    subst q1;subst q2;subst q3
    generalize hA:(if f i = 1 then k1 + 1 else k1) = A
    generalize hN:(if f i = 1 then k2 else if f i = 2 then k2 + 1 else k2) = N
    (conv=>whnf)
    repeat' (refine ob ?_ ?_;(first | trivial | omega | (simp only [inR];omega) | exact ble (by rfl) | exact SlR.some ‹_› (by omega));(conv=>whnf))
    obtain ⟨g1,g2⟩:=add_eq (c:=ofK d t i) (hv i (by omega))
    rw [hf i hi40] at g1 g2
    refine RoundP.of (i + 1,A,N) (HeadP.of [] ⟨rfl,rfl,rfl,rfl,rfl,rfl,trivial⟩ ⟨rfl,rfl,rfl,trivial⟩) ⟨by show i + 1≤_;omega,by rw [hsu,if_neg (by rw [hpi];simp),hf i hi40,g1,e1,hA],by rw [hsu,if_neg (by rw [hpi];simp),hf i hi40,g2,e2,hN]⟩ (by simp only;omega)
  ·have hi2:i = d.m.toNat:=by omega
   subst hi2
   refine LoopP.of { α:=Nat × Int × Int,fr:=fun x=>[(2, .c (.ptr 0 0)),(3, .c (.ptr 1 0)),(4, .c (.ptr 2 0)),(5, .v (.func (.func 68) #[] #[bptr b])),(29, .v (.slice x5 y5 z5)),(30, .v (I y5)),(31, .v (I x.1))],H:=fun x=>[(0, .cells .anon ((lkl d (.slice x0 y0 z0) (.slice x1 y1 z1) (.slice x2 y2 z2) (.slice x3 y3 z3) (.slice x4 y4 z4) (.slice x5 y5 z5) p a n c).map .val) 78),(1, .cells .anon ((trl f).map .val) 88),(2, .cells (.named b) [.val (I x.2.1), .val (I x.2.2)] 66)],ok:=fun x _=>x.1≤d.qs.length∧(ofP d t x.1).c1 = x.2.1∧(ofP d t x.1).c2 = x.2.2,m:=fun x=>d.qs.length - x.1 }
    (0,k1,k2) (HeadP.of [] ⟨rfl,rfl,rfl,rfl,rfl,rfl,rfl,trivial⟩ ⟨rfl,rfl,rfl,trivial⟩) ⟨Nat.zero_le _,e1,e2⟩ (fun _=>⟨rfl,rfl⟩) (fun x G2 hG2 hx=>W.mk ?_)
   obtain ⟨i,k1,k2⟩:=x
   obtain ⟨hi,e1,e2⟩:=hx
   dsimp only at hi e1 e2
   have hle:=ofP_le d t i
   obtain ⟨b0,b1,b2',b3⟩:=hle
   rw [e1] at b1 b3
   rw [e2] at b2' b3
   have lqs2:=SlR.grow (G:=G) (G':=G2) (fun _ _ h=>h) lqs (hG1.trans hG2)
   dsimp only
   (conv=>whnf)
   refine IteP.mk (fun hlt=>W.mk ?_) (fun hge=>W.mk ?_)<;>(conv=>whnf)
   ·have hlt:i < d.qs.length:=by omega
    have hc:=lqs2.el hlt
    have hrq:=right_qs hr hlt
    have hgd:d.qs.getD i (0,0) = d.qs[i]:=by simp [hlt]
    have hsu:ofP d t (i + 1) = if prxF d t (d.qs.getD i (0,0)) then (ofP d t i).add (t.getD (d.qs.getD i (0,0)).1.toNat 0) else ofP d t i:=rfl
    rw [hgd] at hsu
    generalize d.qs[i] = q at hc hrq hsu
    obtain ⟨q1,q2⟩:=q
    obtain ⟨⟨r1,r2⟩,r3,r4⟩:=hrq
    dsimp only at r1 r2 r3 r4 hsu
    have h1:q1.toNat < 40:=by omega
    have h2:q2.toNat < 40:=by omega
    have c1:((q1.toNat:Nat):Int) = q1:=by omega
    have c2:((q2.toNat:Nat):Int) = q2:=by omega
    have hpr:prxF d t (q1,q2) = (decide (f q2.toNat = 0) && !p q2.toNat && !p q1.toNat):=by
     rw [prxF,hf _ h2,hp _ h1,hp _ h2,c1,c2]
    repeat' (first | (refine ob ?_ ?_;(first | trivial | omega | (simp only [inR];omega) | exact ble (by rfl) | exact SlR.some ‹_› (by omega));(conv=>whnf)) | (first | (refine ra ‹_› (by rfl) ?_;(conv=>whnf)) | (refine rb ‹_› (by rfl) ?_;(conv=>whnf)) | (refine rc ‹_› (by rfl) ?_;(conv=>whnf)) | (refine rd ‹_› (by rfl) ?_;(conv=>whnf))))
    repeat' (refine ob ?_ ?_;(first | trivial | omega | (simp only [inR];omega) | exact ble (by rfl) | exact SlR.some ‹_› (by omega));(conv=>whnf))
    refine EqsP.mk ⟨[.val (U (f q2.toNat))],trl_at h2 (by simp),rfl,W.mk ?_⟩
    (conv=>whnf)
    have skip:prxF d t (q1,q2) = false→(ofP d t (i + 1)).c1 = k1∧(ofP d t (i + 1)).c2 = k2:=fun h=>by
     rw [hsu,if_neg (by rw [h];simp)];exact ⟨e1,e2⟩
    refine IteP.mk (fun h3=>W.mk ?_) (fun h3=>W.mk ?_)<;>(try dsimp only at h3)<;>(conv=>whnf)
    rotate_left
    ·obtain ⟨s1,s2⟩:=skip (by rw [hpr,decide_eq_false h3];rfl)
     repeat' (refine ob ?_ ?_;(first | trivial | omega | (simp only [inR];omega) | exact ble (by rfl) | exact SlR.some ‹_› (by omega));(conv=>whnf))
     exact RoundP.of (i + 1,k1,k2) (HeadP.of [] ⟨rfl,rfl,rfl,rfl,rfl,rfl,rfl,trivial⟩ ⟨rfl,rfl,rfl,trivial⟩) ⟨hlt,s1,s2⟩ (by simp only;omega)
    repeat' (refine ob ?_ ?_;(first | trivial | omega | (simp only [inR];omega) | exact ble (by rfl) | exact SlR.some ‹_› (by omega));(conv=>whnf))
    cases hp2:p q2.toNat with
    | true =>
     refine EqsP.mk ⟨[.val (.bool true)],(lkl_pdat h2 (by simp)).trans (by rw [hp2]),rfl,W.mk ?_⟩
     (conv=>whnf)
     obtain ⟨s1,s2⟩:=skip (by rw [hpr,hp2];simp)
     repeat' (refine ob ?_ ?_;(first | trivial | omega | (simp only [inR];omega) | exact ble (by rfl) | exact SlR.some ‹_› (by omega));(conv=>whnf))
     exact RoundP.of (i + 1,k1,k2) (HeadP.of [] ⟨rfl,rfl,rfl,rfl,rfl,rfl,rfl,trivial⟩ ⟨rfl,rfl,rfl,trivial⟩) ⟨hlt,s1,s2⟩ (by simp only;omega)
    | false =>
     refine EqsP.mk ⟨[.val (.bool false)],(lkl_pdat h2 (by simp)).trans (by rw [hp2]),rfl,W.mk ?_⟩
     (conv=>whnf)
     repeat' (refine ob ?_ ?_;(first | trivial | omega | (simp only [inR];omega) | exact ble (by rfl) | exact SlR.some ‹_› (by omega));(conv=>whnf))
     cases hp1:p q1.toNat with
     | true =>
      refine EqsP.mk ⟨[.val (.bool true)],(lkl_pdat h1 (by simp)).trans (by rw [hp1]),rfl,W.mk ?_⟩
      (conv=>whnf)
      obtain ⟨s1,s2⟩:=skip (by rw [hpr,hp1];simp)
      repeat' (refine ob ?_ ?_;(first | trivial | omega | (simp only [inR];omega) | exact ble (by rfl) | exact SlR.some ‹_› (by omega));(conv=>whnf))
      exact RoundP.of (i + 1,k1,k2) (HeadP.of [] ⟨rfl,rfl,rfl,rfl,rfl,rfl,rfl,trivial⟩ ⟨rfl,rfl,rfl,trivial⟩) ⟨hlt,s1,s2⟩ (by simp only;omega)
     | false =>
      refine EqsP.mk ⟨[.val (.bool false)],(lkl_pdat h1 (by simp)).trans (by rw [hp1]),rfl,W.mk ?_⟩
      (conv=>whnf)
      have hyes:prxF d t (q1,q2) = true:=by rw [hpr,hp1,hp2,decide_eq_true h3];rfl
      repeat' (refine ob ?_ ?_;(first | trivial | omega | (simp only [inR];omega) | exact ble (by rfl) | exact SlR.some ‹_› (by omega));(conv=>whnf))
      refine EqsP.mk ⟨[.val (U (f q1.toNat))],trl_at h1 (by simp),rfl,W.mk ?_⟩
      (conv=>whnf)
      refine CallvP.fn _ (SoundFn.of body68 (count68 b)) (W.mk ?_)
      (conv=>whnf)
      refine StP.mk ⟨[(2,cntL b k1 k2)],⟨⟨_,rfl,rfl⟩,trivial⟩,by simp,⟨f q1.toNat,k1,k2,rfl,rfl,by omega,by omega,by omega,by omega⟩,fun v ns G3 hg3 hpost=>W.mk ?_⟩
      obtain ⟨v',a',n',q1',q2',rfl,rfl⟩:=hpost
      simp only [List.cons.injEq,and_true,Value.int.injEq,true_and] at q1'
      simp only [List.map_cons,List.map_nil,List.cons.injEq,LE.mk.injEq,LB.cells.injEq,Value.int.injEq,and_true,true_and] at q2'
      obtain ⟨q2',q3'⟩:=q2'
      subst q1';subst q2';subst q3'
      generalize hA:(if f q1.toNat = 1 then k1 + 1 else k1) = A
      generalize hN:(if f q1.toNat = 1 then k2 else if f q1.toNat = 2 then k2 + 1 else k2) = N
      (conv=>whnf)
      repeat' (refine ob ?_ ?_;(first | trivial | omega | (simp only [inR];omega) | exact ble (by rfl) | exact SlR.some ‹_› (by omega));(conv=>whnf))
      obtain ⟨g1,g2⟩:=add_eq (c:=ofP d t i) (hv q1.toNat (by omega))
      rw [hf _ h1] at g1 g2
      refine RoundP.of (i + 1,A,N) (HeadP.of [] ⟨rfl,rfl,rfl,rfl,rfl,rfl,rfl,trivial⟩ ⟨rfl,rfl,rfl,trivial⟩) ⟨hlt,by rw [hsu,if_pos hyes,hf _ h1,g1,e1,hA],by rw [hsu,if_pos hyes,hf _ h1,g2,e2,hN]⟩ (by simp only;omega)
   ·have hi2:i = d.qs.length:=by omega
    subst hi2
    refine FinP.mk ?_
    rw [ofF,e1,e2];rfl
end Go.Proofs.Ytgpfejgohclheaa

namespace Go.Proofs.Ytgpfejgohclheaa
open Go.Pal
set_option maxRecDepth 100000
theorem tie86:Sound Try.prog 86 id (gsca (args1 dvRd fun _=>True) fun d v=>v = .bool (decide (d.tie = 1))):=by
 refine comp86.gsca (Tab.nil _) (fun args G s h=>?_) (fun args G d h=>?_)
 ·obtain ⟨v,rfl,_⟩:=h;simp
 ·obtain ⟨u,rfl,⟨w0,w1,w2,w3,w4,w5,rfl,hd⟩,_⟩:=h
  obtain ⟨x0,y0,z0,rfl,la0,ya0⟩:=id hd.a0
  obtain ⟨x1,y1,z1,rfl,la1,ya1⟩:=id hd.a1
  obtain ⟨x2,y2,z2,rfl,ln0,yn0⟩:=id hd.n0
  obtain ⟨x3,y3,z3,rfl,ln1,yn1⟩:=id hd.n1
  obtain ⟨x4,y4,z4,rfl,lps,yps⟩:=id hd.ps
  obtain ⟨x5,y5,z5,rfl,lqs,yqs⟩:=id hd.qs
  (conv=>whnf)
  refine IteP.mk (fun h1=>W.mk ?_) (fun h1=>W.mk ?_)<;>(conv=>whnf)<;>refine FinP.mk ?_<;>refine congrArg Value.bool ?_<;>simp [h1]
def cr0 (d:Dv) (x:Nm2):Bool:=decide (x.n < x.a) || decide (x.a = x.n) && decide (d.tie = 1)
def cr1 (d:Dv) (x:Nm2):Bool:=decide (d.need≤x.a) || decide (x.a = d.need - 1) && decide (d.tie = 1)
def cr2 (_:Dv) (x:Nm2):Bool:=decide (2 * (x.a + x.n)≤3 * x.a) && decide (1≤x.a)
def nmOk (d:Dv) (x:Nm2):Prop:=0≤x.a∧x.a≤1000∧0≤x.n∧x.n≤1000∧0≤d.need∧d.need≤1000
abbrev ruS (c:Dv→Nm2→Bool) (J:Hp→Prop):PSpec:=.sca (fun args G=>J G∧∃ x,args2 dvRd nmRd nmOk args G x) (fun args G v=>∃ x,args2 dvRd nmRd nmOk args G x∧v = .bool (c x.1 x.2))
abbrev tieJ (b:Nat) (G:Hp):Prop:=CellsAt G b 0 [.func (.func 86) #[] #[]]
theorem rule87 (b:Nat):Sound Try.prog 87 (fun a=>(#[]:Array Value).toList++a++(#[bptr b]:Array Value).toList) (ruS cr0 (tieJ b)):=by
 refine comp87.sca (Tab.nil _) (fun args G h=>?_) (fun args G h=>?_)
 ·obtain ⟨_,x,v,w,rfl,_⟩:=h;simp
 ·obtain ⟨hj,⟨d,x⟩,u,v,rfl,hdv,hnm,ho⟩:=h
  obtain ⟨w0,w1,w2,w3,w4,w5,rfl,hd⟩:=id hdv
  have hv:v = .agg #[I x.a,I x.n]:=hnm
  subst hv
  dsimp only at hd hdv ho
  obtain ⟨o1,o2,o3,o4,o5,o6⟩:=ho
  have fin:∀ b,b = cr0 d x→∃ y,args2 dvRd nmRd nmOk [.agg #[I d.m,w0,w1,w2,w3,w4,w5,U d.rule,I d.need,I d.quorum,U d.tie], .agg #[I x.a,I x.n]] G y∧Value.bool b = .bool (cr0 y.1 y.2):=fun b hb=>⟨(d,x),⟨_,_,rfl,hdv,hnm,o1,o2,o3,o4,o5,o6⟩,by rw [hb]⟩
  obtain ⟨x0,y0,z0,rfl,la0,ya0⟩:=id hd.a0
  obtain ⟨x1,y1,z1,rfl,la1,ya1⟩:=id hd.a1
  obtain ⟨x2,y2,z2,rfl,ln0,yn0⟩:=id hd.n0
  obtain ⟨x3,y3,z3,rfl,ln1,yn1⟩:=id hd.n1
  obtain ⟨x4,y4,z4,rfl,lps,yps⟩:=id hd.ps
  obtain ⟨x5,y5,z5,rfl,lqs,yqs⟩:=id hd.qs
  (conv=>whnf)
  refine IteP.mk (fun h1=>W.mk ?_) (fun h1=>W.mk ?_)<;>(conv=>whnf)
  ·exact FinP.mk (fin _ (by simp [cr0,h1]))
  ·refine IteP.mk (fun h2=>W.mk ?_) (fun h2=>W.mk ?_)<;>(conv=>whnf)
   ·refine RdP.at hj rfl (W.mk ?_)
    (conv=>whnf)
    refine CallvP.fn _ (SoundFn.of body86 (Sound.bare tie86)) (W.mk ?_)
    (conv=>whnf)
    refine ScaP.g (ok1 dvRd fun _=>True) (x:=d) ⟨_,rfl,hdv,trivial⟩ (fun v hv=>W.mk ?_)
    subst hv
    (conv=>whnf)
    refine ForkP.mk (fun h3=>W.mk ?_) (fun h3=>W.mk ?_)<;>(conv=>whnf)<;>exact FinP.mk (fin _ (by simp only [cr0,h2,h3];simp))
   ·exact FinP.mk (fin _ (by simp [cr0,h1,h2]))
theorem rule88 (b:Nat):Sound Try.prog 88 (fun a=>(#[]:Array Value).toList++a++(#[bptr b]:Array Value).toList) (ruS cr1 (tieJ b)):=by
 refine comp88.sca (Tab.nil _) (fun args G h=>?_) (fun args G h=>?_)
 ·obtain ⟨_,x,v,w,rfl,_⟩:=h;simp
 ·obtain ⟨hj,⟨d,x⟩,u,v,rfl,hdv,hnm,ho⟩:=h
  obtain ⟨w0,w1,w2,w3,w4,w5,rfl,hd⟩:=id hdv
  have hv:v = .agg #[I x.a,I x.n]:=hnm
  subst hv
  dsimp only at hd hdv ho
  obtain ⟨o1,o2,o3,o4,o5,o6⟩:=ho
  have fin:∀ b,b = cr1 d x→∃ y,args2 dvRd nmRd nmOk [.agg #[I d.m,w0,w1,w2,w3,w4,w5,U d.rule,I d.need,I d.quorum,U d.tie], .agg #[I x.a,I x.n]] G y∧Value.bool b = .bool (cr1 y.1 y.2):=fun b hb=>⟨(d,x),⟨_,_,rfl,hdv,hnm,o1,o2,o3,o4,o5,o6⟩,by rw [hb]⟩
  obtain ⟨x0,y0,z0,rfl,la0,ya0⟩:=id hd.a0
  obtain ⟨x1,y1,z1,rfl,la1,ya1⟩:=id hd.a1
  obtain ⟨x2,y2,z2,rfl,ln0,yn0⟩:=id hd.n0
  obtain ⟨x3,y3,z3,rfl,ln1,yn1⟩:=id hd.n1
  obtain ⟨x4,y4,z4,rfl,lps,yps⟩:=id hd.ps
  obtain ⟨x5,y5,z5,rfl,lqs,yqs⟩:=id hd.qs
  (conv=>whnf)
  refine IteP.mk (fun h1=>W.mk ?_) (fun h1=>W.mk ?_)<;>(conv=>whnf)
  ·exact FinP.mk (fin _ (by simp [cr1,h1]))
  ·repeat' (refine ob ?_ ?_;(first | trivial | omega | (simp only [inR];omega) | exact ble (by rfl) | exact SlR.some ‹_› (by omega));(conv=>whnf))
   refine IteP.mk (fun h2=>W.mk ?_) (fun h2=>W.mk ?_)<;>(conv=>whnf)
   ·refine RdP.at hj rfl (W.mk ?_)
    (conv=>whnf)
    refine CallvP.fn _ (SoundFn.of body86 (Sound.bare tie86)) (W.mk ?_)
    (conv=>whnf)
    refine ScaP.g (ok1 dvRd fun _=>True) (x:=d) ⟨_,rfl,hdv,trivial⟩ (fun v hv=>W.mk ?_)
    subst hv
    (conv=>whnf)
    have h1':decide (d.need≤x.a) = false:=by simpa using h1
    have h2':decide (x.a = d.need - 1) = true:=by simpa using h2
    refine ForkP.mk (fun h3=>W.mk ?_) (fun h3=>W.mk ?_)<;>(conv=>whnf)<;>exact FinP.mk (fin _ (by rw [cr1,h1',h2',h3];rfl))
   ·have h1':decide (d.need≤x.a) = false:=by simpa using h1
    have h2':decide (x.a = d.need - 1) = false:=by simpa using h2
    exact FinP.mk (fin _ (by rw [cr1,h1',h2'];rfl))
theorem rule89:Sound Try.prog 89 id (ruS cr2 (fun _=>True)):=by
 refine comp89.sca (Tab.nil _) (fun args G h=>?_) (fun args G h=>?_)
 ·obtain ⟨_,x,v,w,rfl,_⟩:=h;simp
 ·obtain ⟨_,⟨d,x⟩,u,v,rfl,hdv,hnm,ho⟩:=h
  obtain ⟨w0,w1,w2,w3,w4,w5,rfl,hd⟩:=id hdv
  have hv:v = .agg #[I x.a,I x.n]:=hnm
  subst hv
  dsimp only at hd hdv ho
  obtain ⟨o1,o2,o3,o4,o5,o6⟩:=ho
  have fin:∀ b,b = cr2 d x→∃ y,args2 dvRd nmRd nmOk [.agg #[I d.m,w0,w1,w2,w3,w4,w5,U d.rule,I d.need,I d.quorum,U d.tie], .agg #[I x.a,I x.n]] G y∧Value.bool b = .bool (cr2 y.1 y.2):=fun b hb=>⟨(d,x),⟨_,_,rfl,hdv,hnm,o1,o2,o3,o4,o5,o6⟩,by rw [hb]⟩
  obtain ⟨x0,y0,z0,rfl,la0,ya0⟩:=id hd.a0
  obtain ⟨x1,y1,z1,rfl,la1,ya1⟩:=id hd.a1
  obtain ⟨x2,y2,z2,rfl,ln0,yn0⟩:=id hd.n0
  obtain ⟨x3,y3,z3,rfl,ln1,yn1⟩:=id hd.n1
  obtain ⟨x4,y4,z4,rfl,lps,yps⟩:=id hd.ps
  obtain ⟨x5,y5,z5,rfl,lqs,yqs⟩:=id hd.qs
  (conv=>whnf)
  repeat' (refine ob ?_ ?_;(first | trivial | omega | (simp only [inR];omega) | exact ble (by rfl) | exact SlR.some ‹_› (by omega));(conv=>whnf))
  refine IteP.mk (fun h1=>W.mk ?_) (fun h1=>W.mk ?_)<;>(conv=>whnf)
  ·have h1':decide (2 * (x.a + x.n)≤3 * x.a) = true:=by simpa using h1
   refine IteP.mk (fun h2=>W.mk ?_) (fun h2=>W.mk ?_)<;>(conv=>whnf)<;>exact FinP.mk (fin _ (by rw [cr2,h1'];simp [h2]))
  ·have h1':decide (2 * (x.a + x.n)≤3 * x.a) = false:=by simpa using h1
   exact FinP.mk (fin _ (by rw [cr2,h1'];rfl))
theorem out_eq (d:Dv) (y:Nm2):outF d y = if y.a + y.n < d.quorum then 2 else if (if d.rule = 1 then cr1 d y else if d.rule = 0 then cr0 d y else cr2 d y) then 1 else 0:=by
 have:cr1 d y = (decide (d.need≤y.a) || decide (y.a + 1 = d.need) && decide (d.tie = 1)):=by
  rw [cr1]
  have:decide (y.a = d.need - 1) = decide (y.a + 1 = d.need):=by simp only [decide_eq_decide];omega
  rw [this]
 rw [this];rfl
def tabO:Tab Try.prog:=Tab.cons 72 _ rules72 body72 (Tab.nil _)
theorem right_rule {d:Dv} (h:rightD d = true):d.rule≤2∧0≤d.need∧d.need≤40∧0≤d.quorum∧d.quorum≤40:=by
 have:=right_head h
 simp only [headF,inF,Bool.and_eq_true,decide_eq_true_eq] at this
 omega
theorem outcome48:Sound Try.prog 48 id (gsca (args2 lkRd nmRd fun x y=>∃ d,x = lookF d∧rightD d = true∧0≤d.rule∧0≤y.a∧y.a≤1000∧0≤y.n∧y.n≤1000) fun x v=>v = U (outF x.1.d x.2)):=by
 refine comp48.gsca tabO (fun args G s h=>?_) (fun args G x h=>?_)
 ·obtain ⟨u,v,rfl,_⟩:=h;simp
 ·obtain ⟨x,y⟩:=x
  obtain ⟨u,v1,rfl,⟨w0,w1,w2,w3,w4,w5,p,a,n,c,rfl,hk⟩,hnm,d,hx,hr,hr0,g1,g2,g3,g4⟩:=h
  have hv:v1 = .agg #[I y.a,I y.n]:=hnm
  subst hv
  dsimp only at hx hk g1 g2 g3 g4
  subst hx
  have hd:=hk.dv
  have hl2:(lookF d).d = d:=rfl
  rw [hl2] at hd
  have hdv:DvV G (.agg #[I d.m,w0,w1,w2,w3,w4,w5,U d.rule,I d.need,I d.quorum,U d.tie]) d:=⟨_,_,_,_,_,_,rfl,hd⟩
  obtain ⟨q1,q2,q3,q4,q5⟩:=right_rule hr
  have ho:nmOk d y:=⟨g1,g2,g3,g4,q2,by omega⟩
  obtain ⟨x0,y0,z0,rfl,la0,ya0⟩:=id hd.a0
  obtain ⟨x1,y1,z1,rfl,la1,ya1⟩:=id hd.a1
  obtain ⟨x2,y2,z2,rfl,ln0,yn0⟩:=id hd.n0
  obtain ⟨x3,y3,z3,rfl,ln1,yn1⟩:=id hd.n1
  obtain ⟨x4,y4,z4,rfl,lps,yps⟩:=id hd.ps
  obtain ⟨x5,y5,z5,rfl,lqs,yqs⟩:=id hd.qs
  dsimp only
  rw [hl2]
  (conv=>whnf)
  repeat' (refine ob ?_ ?_;(first | trivial | omega | (simp only [inR];omega) | exact ble (by rfl) | exact SlR.some ‹_› (by omega));(conv=>whnf))
  refine IteP.mk (fun h1=>W.mk ?_) (fun h1=>W.mk ?_)<;>(conv=>whnf)
  ·refine FinP.mk ?_
   have:outF d y = 2:=by rw [outF,if_pos h1]
   rw [this];rfl
  ·refine RelP.g okU (x:=()) rfl (Grow.refl _) (fun v G2 hg2 hq=>W.mk ?_)
   obtain ⟨b,ra,rc,rfl,hb,hp⟩:=hq
   have hsm:=hp.some (by omega)
   have hdv2:=dvRd.grow hg2 hdv
   (conv=>whnf)
   refine OblP.mk (by omega) (W.mk ?_)
   (conv=>whnf)
   refine OblP.mk hsm (W.mk ?_)
   (conv=>whnf)
   rcases (by omega:d.rule = 0∨d.rule = 1∨d.rule = 2) with hrc | hrc | hrc
   ·have hcell:CellsAt G2 (ab ra) (ao ra + d.rule.toNat * 1 + 0) [.func (.func 87) #[] #[bptr b]]:=by rw [hrc];exact CellsAt.drop (d:=0) (n:=1) hp.cells
    refine RdP.mk ⟨[.func (.func 87) #[] #[bptr b]],rfl,hcell,W.mk ?_⟩
    (conv=>whnf)
    refine FnvP.mk ⟨_,SoundFn.of body87 (rule87 b),W.mk ?_⟩
    (conv=>whnf)
    refine ScaP.mk ⟨hb,(d,y),_,_,rfl,hdv2,rfl,ho⟩ (fun v hv=>W.mk ?_)
    obtain ⟨y',hy,rfl⟩:=hv
    have hyy:y' = (d,y):=(ok2 dvRd nmRd nmOk).uniq _ _ _ _ hy ⟨_,_,rfl,hdv2,rfl,ho⟩
    subst hyy
    dsimp only
    (conv=>whnf)
    refine ForkP.mk (fun h3=>W.mk ?_) (fun h3=>W.mk ?_)<;>(conv=>whnf)<;>refine FinP.mk ?_
    ·have:outF d y = 1:=by
      rw [out_eq,if_neg h1,hrc]
      exact if_pos h3
     rw [this];rfl
    ·have:outF d y = 0:=by
      rw [out_eq,if_neg h1,hrc]
      exact if_neg (fun h4=>by have h4:=h3.symm.trans h4;cases h4)
     rw [this];rfl
   ·have hcell:CellsAt G2 (ab ra) (ao ra + d.rule.toNat * 1 + 0) [.func (.func 88) #[] #[bptr b]]:=by rw [hrc];exact CellsAt.drop (d:=1) (n:=1) hp.cells
    refine RdP.mk ⟨[.func (.func 88) #[] #[bptr b]],rfl,hcell,W.mk ?_⟩
    (conv=>whnf)
    refine FnvP.mk ⟨_,SoundFn.of body88 (rule88 b),W.mk ?_⟩
    (conv=>whnf)
    refine ScaP.mk ⟨hb,(d,y),_,_,rfl,hdv2,rfl,ho⟩ (fun v hv=>W.mk ?_)
    obtain ⟨y',hy,rfl⟩:=hv
    have hyy:y' = (d,y):=(ok2 dvRd nmRd nmOk).uniq _ _ _ _ hy ⟨_,_,rfl,hdv2,rfl,ho⟩
    subst hyy
    dsimp only
    (conv=>whnf)
    refine ForkP.mk (fun h3=>W.mk ?_) (fun h3=>W.mk ?_)<;>(conv=>whnf)<;>refine FinP.mk ?_
    ·have:outF d y = 1:=by
      rw [out_eq,if_neg h1,hrc]
      exact if_pos h3
     rw [this];rfl
    ·have:outF d y = 0:=by
      rw [out_eq,if_neg h1,hrc]
      exact if_neg (fun h4=>by have h4:=h3.symm.trans h4;cases h4)
     rw [this];rfl
   ·have hcell:CellsAt G2 (ab ra) (ao ra + d.rule.toNat * 1 + 0) [.func (.func 89) #[] #[]]:=by rw [hrc];exact CellsAt.drop (d:=2) (n:=1) hp.cells
    refine RdP.mk ⟨[.func (.func 89) #[] #[]],rfl,hcell,W.mk ?_⟩
    (conv=>whnf)
    refine FnvP.mk ⟨_,SoundFn.of body89 (Sound.bare rule89),W.mk ?_⟩
    (conv=>whnf)
    refine ScaP.mk ⟨trivial,(d,y),_,_,rfl,hdv2,rfl,ho⟩ (fun v hv=>W.mk ?_)
    obtain ⟨y',hy,rfl⟩:=hv
    have hyy:y' = (d,y):=(ok2 dvRd nmRd nmOk).uniq _ _ _ _ hy ⟨_,_,rfl,hdv2,rfl,ho⟩
    subst hyy
    dsimp only
    (conv=>whnf)
    refine ForkP.mk (fun h3=>W.mk ?_) (fun h3=>W.mk ?_)<;>(conv=>whnf)<;>refine FinP.mk ?_
    ·have:outF d y = 1:=by
      rw [out_eq,if_neg h1,hrc]
      exact if_pos h3
     rw [this];rfl
    ·have:outF d y = 0:=by
      rw [out_eq,if_neg h1,hrc]
      exact if_neg (fun h4=>by have h4:=h3.symm.trans h4;cases h4)
     rw [this];rfl
end Go.Proofs.Ytgpfejgohclheaa

namespace Go.Proofs.Ytgpfejgohclheaa
open Go.Pal
set_option maxRecDepth 100000
theorem ofK_ext {d:Dv} {t t':List Int}:∀ i,(∀ k,k < i→t.getD k 0 = t'.getD k 0)→ofK d t i = ofK d t' i
 | 0,_=>rfl
 | i + 1,h=>by
  simp only [ofK]
  rw [ofK_ext i (fun k hk=>h k (by omega)),h i (by omega)]
theorem ofP_ext {d:Dv} {t t':List Int} (h:∀ k,k < d.m.toNat→t.getD k 0 = t'.getD k 0) (hq:∀ i (hi:i < d.qs.length),(0≤d.qs[i].1∧d.qs[i].1 < d.m)∧0≤d.qs[i].2∧d.qs[i].2 < d.m):∀ k,k≤d.qs.length→ofP d t k = ofP d t' k
 | 0,_=>ofK_ext _ h
 | k + 1,hk=>by
  have hlt:k < d.qs.length:=by omega
  have hgd:d.qs.getD k (0,0) = d.qs[k]:=by simp [hlt]
  obtain ⟨⟨r1,r2⟩,r3,r4⟩:=hq k hlt
  have e1:=h (d.qs[k]).1.toNat (by omega)
  have e2:=h (d.qs[k]).2.toNat (by omega)
  simp only [ofP]
  rw [ofP_ext h hq k (by omega),hgd,prxF,prxF,e1,e2]
theorem ofF_ext {d:Dv} {t t':List Int} (hr:rightD d = true) (h:∀ k,k < d.m.toNat→t.getD k 0 = t'.getD k 0):ofF d t = ofF d t':=by
 have:=ofP_ext h (fun i hi=>right_qs hr hi) d.qs.length (Nat.le_refl _)
 rw [ofF,ofF,this]
theorem ofF_le {d:Dv} (t:List Int) (hr:rightD d = true):0≤(ofF d t).a∧(ofF d t).a≤1000∧0≤(ofF d t).n∧(ofF d t).n≤1000:=by
 obtain ⟨b0,b1,b2,b3⟩:=ofP_le d t d.qs.length
 obtain ⟨hm0,hm1⟩:=right_m hr
 have hq10:d.qs.length≤10:=by
  have:=right_head hr
  simp only [headF,Bool.and_eq_true,decide_eq_true_eq] at this
  exact this.1.1.1.1.2
 simp only [ofF];omega
theorem trl_set {f:Nat→Int} {i off:Nat} (hi:i < 40) (ho:off = i) (x:Int):((trl f).map S1.val).take off++[S1.val (U x)]++((trl f).map S1.val).drop (off + 1) = (trl fun j=>if j = i then x else f j).map S1.val:=by
 subst ho
 rw [set_at _ _ _ (by simp;omega), ← List.map_set]
 congr 1
 rw [trl,rng_set]
 apply List.map_congr_left
 intro j _
 by_cases hj:j = off<;>simp [hj]
def fitF (d:Dv) (t:List Int) (i:Nat):Bool:=(votesF d i).contains (t.getD i 0)
def fitsF (d:Dv) (t:List Int):Bool:=(List.range t.length).all (fitF d t)
def votF (d:Dv) (t:List Int):Bool:=decide ((t.length:Int) = d.m) && t.all (fun v=>decide (v≤2))
def cntE (d:Dv) (t:List Int):Int:=if rightD d then (if votF d t then (if 0≤clashF d then 9 else if fitsF d t then 0 else 7) else 2) else 1
def cntN (d:Dv) (t:List Int):Nm2:=if cntE d t = 0 then ofF d t else ⟨0,0⟩
def cntO (d:Dv) (t:List Int):Int:=if cntE d t = 0 then outF d (ofF d t) else 0
def cntV (d:Dv) (t:List Int):Value:=.tuple #[.agg #[I (cntN d t).a,I (cntN d t).n],U (cntO d t),I (cntE d t)]
theorem cntV_bad {d:Dv} {t:List Int} {e:Int} (h:cntE d t = e) (h0:e≠0):cntV d t = .tuple #[.agg #[I 0,I 0],U 0,I e]:=by
 rw [cntV,cntN,cntO,h,if_neg h0,if_neg h0]
theorem cntV_ok {d:Dv} {t:List Int} (h:cntE d t = 0):cntV d t = .tuple #[.agg #[I (ofF d t).a,I (ofF d t).n],U (outF d (ofF d t)),I 0]:=by
 rw [cntV,cntN,cntO,h,if_pos rfl,if_pos rfl]
theorem fit_vote {d:Dv} {t:List Int} {i:Nat} (h:fitF d t i = true):t.getD i 0 = 0∨t.getD i 0 = 1∨t.getD i 0 = 2:=by
 simp only [fitF,List.contains_iff_mem,votesF,List.mem_append] at h
 rcases h with (h | h) | h
 ·split at h
  ·simp at h;exact .inl (by simpa using h)
  ·cases h
 ·split at h
  ·simp at h;exact .inr (.inl (by simpa using h))
  ·cases h
 ·split at h
  ·simp at h;exact .inr (.inr (by simpa using h))
  ·cases h
theorem vote_test:SoundFn Try.prog (.func (.func 61) #[] #[]) (TestS U (fun v=>decide (v≤2)) (fun _=>True) (fun _=>True) []) :=
 SoundFn.of body61 (Sound.test (Sound.bare vote61) (fun G x _ _=>⟨x,_,rfl,rfl,trivial⟩) (fun G x v _ _ ⟨y,⟨u,h1,h2,_⟩,e⟩=>by
  cases h1
  have h2:U x = U y:=h2
  cases h2;exact e) (fun x hx=>by cases hx))
def tabZ:Tab Try.prog:=Tab.cons 41 _ numbers41 body41 (Tab.cons 48 _ outcome48 body48 (Tab.cons 49 _ con49 body49 tabY))
theorem count34:Sound Try.prog 34 id (gsca (args2 dvRd (slRd u8E) fun d _=>rul d) fun x v=>v = cntV x.1 x.2):=by
 refine comp34.gsca tabZ (fun args G s h=>?_) (fun args G x h=>?_)
 ·obtain ⟨v,w,rfl,_⟩:=h;simp
 ·obtain ⟨d,l⟩:=x
  obtain ⟨u,v,rfl,⟨w0,w1,w2,w3,w4,w5,rfl,hd⟩,⟨la,ln,lc,rfl,hl,hn⟩,hr⟩:=h
  dsimp only at hl hd hr
  have hd0:=hd
  have hlen:=hl.len
  obtain ⟨x0,y0,z0,rfl,la0,ya0⟩:=id hd.a0
  obtain ⟨x1,y1,z1,rfl,la1,ya1⟩:=id hd.a1
  obtain ⟨x2,y2,z2,rfl,ln0,yn0⟩:=id hd.n0
  obtain ⟨x3,y3,z3,rfl,ln1,yn1⟩:=id hd.n1
  obtain ⟨x4,y4,z4,rfl,lps,yps⟩:=id hd.ps
  obtain ⟨x5,y5,z5,rfl,lqs,yqs⟩:=id hd.qs
  dsimp only
  (conv=>whnf)
  refine ScaP.g (ok1 dvRd rul) (x:=d) ⟨_,rfl,⟨_,_,_,_,_,_,rfl,hd0⟩,hr⟩ (fun v hv=>W.mk ?_)
  subst hv
  (conv=>whnf)
  refine ForkP.mk (fun h1=>W.mk ?_) (fun h1=>W.mk ?_)<;>(conv=>whnf)
  rotate_left
  ·refine FinP.mk ?_
   rw [cntV_bad (e:=1) (by simp [cntE,h1]) (by decide)];rfl
  obtain ⟨hm0,hm1⟩:=right_m h1
  refine IteP.mk (fun h2=>W.mk ?_) (fun h2=>W.mk ?_)<;>(conv=>whnf)
  rotate_left
  ·refine FinP.mk ?_
   have hvf:votF d l = false:=by
    have:decide ((l.length:Int) = d.m) = false:=by simp only [decide_eq_false_iff_not];omega
    rw [votF,this];rfl
   rw [cntV_bad (e:=2) (by simp [cntE,h1,hvf]) (by decide)];rfl
  refine CallN.mk ⟨_,all60 61 #[] #[] _ _ _ (fun G G' hg h=>h) vote_test,body60,W.mk ?_⟩
  (conv=>whnf)
  refine StP.mk ⟨[],trivial,List.nodup_nil,⟨rfl,trivial,_,l,rfl,⟨la,ln,lc,rfl,hl,hn⟩,fun _ _=>trivial⟩,fun v ns G3 hg3 hpost=>W.mk ?_⟩
  obtain ⟨rfl,w',l',q1,q2,rfl⟩:=hpost
  simp only [List.cons.injEq,and_true] at q1
  subst q1
  have:l' = l:=q2.uniq (SlV.grow hg3 ⟨la,ln,lc,rfl,hl,hn⟩)
  subst this
  have hd3:=hd0.grow hg3
  have hvl:votF d l' = l'.all (fun v=>decide (v≤2)):=by
   have:decide ((l'.length:Int) = d.m) = true:=by simp only [decide_eq_true_eq];omega
   rw [votF,this,Bool.true_and]
  dsimp only
  rw [← hvl]
  (conv=>whnf)
  refine ForkP.mk (fun h3=>W.mk ?_) (fun h3=>W.mk ?_)<;>(conv=>whnf)
  rotate_left
  ·refine FinP.mk ?_
   rw [cntV_bad (e:=2) (by simp [cntE,h1,h3]) (by decide)];rfl
  refine RelP.g (ok1 dvRd rul) (x:=d) ⟨_,rfl,⟨_,_,_,_,_,_,rfl,hd3⟩,hr⟩ (Grow.refl _) (fun v G4 hg4 hq=>W.mk ?_)
  obtain ⟨w,rfl,hw⟩:=hq
  by_cases he:faultF d = 0
  rotate_left
  ·rw [if_neg he] at hw
   obtain ⟨w0,w1,w2,w3,w4,w5,p,a,n,c,rfl,hk⟩:=hw
   have hkd:=hk.dv
   obtain ⟨xx0,yy0,zz0,rfl,_,_⟩:=id hkd.a0
   obtain ⟨xx1,yy1,zz1,rfl,_,_⟩:=id hkd.a1
   obtain ⟨xx2,yy2,zz2,rfl,_,_⟩:=id hkd.n0
   obtain ⟨xx3,yy3,zz3,rfl,_,_⟩:=id hkd.n1
   obtain ⟨xx4,yy4,zz4,rfl,_,_⟩:=id hkd.ps
   obtain ⟨xx5,yy5,zz5,rfl,_,_⟩:=id hkd.qs
   (conv=>whnf)
   refine IteP.mk (fun h4=>absurd h4 he) (fun h4=>W.mk ?_)
   (conv=>whnf)
   refine FinP.mk ?_
   have hc:0≤clashF d:=by
    by_cases hc:0≤clashF d
    ·exact hc
    ·exact absurd (by simp [faultF,h1,hc]) he
   have hf9:faultF d = 9:=by simp [faultF,h1,hc]
   rw [cntV_bad (e:=9) (by simp [cntE,h1,h3,hc]) (by decide),hf9];rfl
  ·rw [if_pos he] at hw
   have hw0:=hw
   have hc:¬ 0≤clashF d:=fun hc=>by
    have:faultF d = 9:=by simp [faultF,h1,hc]
    omega
   obtain ⟨w0,w1,w2,w3,w4,w5,p,a,n,c,rfl,hk⟩:=hw
   have hkd:=hk.dv
   have hl2:(lookF d).d = d:=rfl
   rw [hl2] at hkd
   have hl4:=SlR.grow (G:=G) (G':=G4) (fun _ _ h=>h) hl (hg3.trans hg4)
   obtain ⟨xx0,yy0,zz0,rfl,_,_⟩:=id hkd.a0
   obtain ⟨xx1,yy1,zz1,rfl,_,_⟩:=id hkd.a1
   obtain ⟨xx2,yy2,zz2,rfl,_,_⟩:=id hkd.n0
   obtain ⟨xx3,yy3,zz3,rfl,_,_⟩:=id hkd.n1
   obtain ⟨xx4,yy4,zz4,rfl,_,_⟩:=id hkd.ps
   obtain ⟨xx5,yy5,zz5,rfl,_,_⟩:=id hkd.qs
   (conv=>whnf)
   refine IteP.mk (fun h4=>W.mk ?_) (fun h4=>absurd he h4)
   (conv=>whnf)
   refine LoopP.of { α:=Nat × (Nat→Int),fr:=fun x=>[(4, .c (.ptr 1 0)),(7, .c (.ptr 30 0)),(8, .c (.ptr 40 0)),(35, .v (.slice la ln lc)),(36, .v (I ln)),(37, .v (I x.1))],H:=fun x=>[(1, .cells .anon [.val (I 0), .val (I 0)] 66),(30, .cells .anon ((lkl d (.slice xx0 yy0 zz0) (.slice xx1 yy1 zz1) (.slice xx2 yy2 zz2) (.slice xx3 yy3 zz3) (.slice xx4 yy4 zz4) (.slice xx5 yy5 zz5) p a n c).map .val) 78),(40, .cells .anon ((trl x.2).map .val) 88)],ok:=fun x _=>x.1≤l'.length∧∀ k,k < x.1→x.2 k = l'.getD k 0∧fitF d l' k = true,m:=fun x=>l'.length - x.1 }
    (0,fun _=>0) (HeadP.of [] ⟨rfl,rfl,rfl,rfl,rfl,rfl,trivial⟩ ⟨rfl,rfl,rfl,trivial⟩) ⟨Nat.zero_le _,fun k hk=>absurd hk (Nat.not_lt_zero _)⟩ (fun _=>⟨rfl,rfl⟩) (fun x G5 hG5 hx=>W.mk ?_)
   obtain ⟨i,f⟩:=x
   obtain ⟨hi,hf⟩:=hx
   dsimp only at hi hf
   have hk5:=hk.grow hG5
   have hw5:=hw0.grow hG5
   have hl5:=SlR.grow (G:=G4) (G':=G5) (fun _ _ h=>h) hl4 hG5
   dsimp only
   (conv=>whnf)
   refine IteP.mk (fun hlt=>W.mk ?_) (fun hge=>W.mk ?_)<;>(conv=>whnf)
   ·have hlt:i < l'.length:=by omega
    have hi40:i < 40:=by omega
    have hc:=hl5.el hlt
    have hgd:l'.getD i 0 = l'[i]:=by simp [hlt]
    generalize l'[i] = v at hc hgd
    repeat' (first | (refine ob ?_ ?_;(first | trivial | omega | (simp only [inR];omega) | exact ble (by rfl) | exact SlR.some ‹_› (by omega));(conv=>whnf)) | (first | (refine ra ‹_› (by rfl) ?_;(conv=>whnf)) | (refine rb ‹_› (by rfl) ?_;(conv=>whnf)) | (refine rc ‹_› (by rfl) ?_;(conv=>whnf)) | (refine rd ‹_› (by rfl) ?_;(conv=>whnf))))
    refine EqsP.mk ⟨[.val (.slice (a i) (n i) (c i))],lkl_myat hi40 (by simp),rfl,W.mk ?_⟩
    (conv=>whnf)
    obtain ⟨ml,k1,k2,k3⟩:=hk5.may i hi40
    have hml:ml = votesF d i:=by
     have:=may_look (d:=d) hm1 (k:=i) (by omega)
     simp only [List.getD_eq_getElem?_getD,k1,Option.getD_some] at this
     exact this
    subst hml
    refine ScaP.g (ok2 (slRd u8E) u8Rd fun _ _=>True) (x:=(votesF d i,v)) ⟨_,_,rfl,⟨_,_,_,rfl,k2,k3⟩,rfl,trivial⟩ (fun r hv=>W.mk ?_)
    subst hv
    dsimp only
    have hfit:fitF d l' i = (votesF d i).contains v:=by rw [fitF,hgd]
    rw [← hfit]
    (conv=>whnf)
    refine ForkP.mk (fun h5=>W.mk ?_) (fun h5=>W.mk ?_)<;>(conv=>whnf)
    ·repeat' (refine ob ?_ ?_;(first | trivial | omega | (simp only [inR];omega) | exact ble (by rfl) | exact SlR.some ‹_› (by omega));(conv=>whnf))
     refine OblP.mk (by rw [List.length_map];simp;omega) (W.mk ?_)
     (conv=>whnf)
     repeat' (refine ob ?_ ?_;(first | trivial | omega | (simp only [inR];omega) | exact ble (by rfl) | exact SlR.some ‹_› (by omega));(conv=>whnf))
     have e1:=trl_set (f:=f) (i:=i) (off:=0 + (i:Int).toNat * 1) hi40 (by simp) v
     refine RoundP.of (i + 1,fun j=>if j = i then v else f j) (HeadP.of [] ⟨rfl,rfl,rfl,rfl,rfl,rfl,trivial⟩ ⟨rfl,rfl,congrArg (fun z=>OB.cells .anon z 88) e1.symm,trivial⟩) ⟨hlt,fun k hk=>?_⟩ (by simp only;omega)
     dsimp only
     rcases Nat.lt_succ_iff_lt_or_eq.1 hk with h | rfl
     ·rw [if_neg (by omega)];exact hf k h
     ·rw [if_pos rfl];exact ⟨hgd.symm,h5⟩
    ·refine FinP.mk ?_
     have hff:fitsF d l' = false:=all_false hlt h5
     rw [cntV_bad (e:=7) (by simp [cntE,h1,h3,show ¬ 0≤clashF d by assumption,hff]) (by decide)];rfl
   ·have hi2:i = l'.length:=by omega
    subst hi2
    have hfit:fitsF d l' = true:=all_true fun k hk=>(hf k hk).2
    have hE:cntE d l' = 0:=by simp [cntE,h1,h3,show ¬ 0≤clashF d by assumption,hfit]
    have hg:∀ k,k < d.m.toNat→((List.range 40).map f).getD k 0 = l'.getD k 0:=fun k hk=>by
     have:((List.range 40).map f).getD k 0 = f k:=by simp [show k < 40 by omega]
     rw [this];exact (hf k (by omega)).1
    have hof:ofF d ((List.range 40).map f) = ofF d l':=ofF_ext h1 hg
    refine ScaP.g (ok2 lkRd trRd fun x t=>∃ d,x = lookF d∧rightD d = true∧Vts d t) (x:=(lookF d,(List.range 40).map f)) ⟨_,_,rfl,hw5,⟨f,rfl,rfl⟩,d,rfl,h1,fun k hk=>by rw [hg k hk];exact fit_vote (hf k (by omega)).2⟩ (fun v hv=>W.mk ?_)
    dsimp only at hv
    rw [hl2,hof] at hv
    subst hv
    (conv=>whnf)
    obtain ⟨o1,o2,o3,o4⟩:=ofF_le l' h1
    refine ScaP.g (ok2 lkRd nmRd fun x y=>∃ d,x = lookF d∧rightD d = true∧0≤d.rule∧0≤y.a∧y.a≤1000∧0≤y.n∧y.n≤1000) (x:=(lookF d,ofF d l')) ⟨_,_,rfl,hw5,rfl,d,rfl,h1,hr.1,o1,o2,o3,o4⟩ (fun v hv=>W.mk ?_)
    subst hv
    dsimp only
    rw [hl2]
    (conv=>whnf)
    refine FinP.mk ?_
    rw [cntV_ok hE];rfl
end Go.Proofs.Ytgpfejgohclheaa

namespace Go.Proofs.Ytgpfejgohclheaa
open Go.Pal
set_option maxRecDepth 100000
theorem den_set_eq {P:Program} {hid:Nat} {Gr G:Hp} {K:SV→List (Nat × Option OB)→Hp→Prop} {h:Nat} {s:Nm} {cs cs':List S1} {t:TypeId} {sv:SV} (e:cs = cs') (hk:Res.den P hid Gr G K (.set h (.cells s cs' t) sv)):Res.den P hid Gr G K (.set h (.cells s cs t) sv):=by
 subst e;exact hk
def trK (may:Nat→List Int):Nat→Nat→(Nat→Int)→List (Nat→Int)
 | 0,_,f=>[f]
 | r + 1,m,f=>(may m).flatMap fun v=>trK may r (m + 1) (fun j=>if j = m then v else f j)
abbrev trV (f:Nat→Int):Value:=.agg (trl f).toArray
abbrev trY (l:List (Nat→Int)):List (List Value):=l.map fun f=>[trV f]
theorem seg_sub {α:Type} {Y A B C:List α} {k:Nat} (h:(Y.drop k).take (A++B++C).length = A++B++C):(Y.drop (k + A.length)).take B.length = B:=by
 have h1:((Y.drop k).take (A++B++C).length).drop A.length = B++C:=by rw [h,List.append_assoc,List.drop_left]
 rw [List.drop_take,List.drop_drop] at h1
 have h2:((Y.drop (k + A.length)).take ((A++B++C).length - A.length)).take B.length = B:=by rw [h1,List.take_left]
 rw [List.take_take] at h2
 rw [show min B.length ((A++B++C).length - A.length) = B.length by simp only [List.length_append];omega] at h2
 exact h2
abbrev growV (bx bY bg:Nat):Value:=.func (.func 67) #[] #[bptr bx,bptr bY,bptr bg]
structure TrJ (x:Lk) (bx:Nat) (G:Hp):Prop where
 ex:∃ w0 w1 w2 w3 w4 w5 p a n c,CellsAt G bx 0 (lkl x.d w0 w1 w2 w3 w4 w5 p a n c)∧LkC G w0 w1 w2 w3 w4 w5 p a n c x
theorem TrJ.grow {x:Lk} {bx:Nat} {G G':Hp} (hg:Grow G G') (h:TrJ x bx G):TrJ x bx G':=by
 obtain ⟨w0,w1,w2,w3,w4,w5,p,a,n,c,h1,h2⟩:=h.ex
 exact ⟨w0,w1,w2,w3,w4,w5,p,a,n,c,h1.grow hg,h2.grow hg⟩
abbrev mayL (x:Lk) (k:Nat):List Int:=x.may.getD k []
def growS (x:Lk) (bx bY bg r m:Nat):PSpec:=.seq (fun l args G Ys=>∃ f,args = [trV f,I m]∧TrJ x bx G∧CellsAt G bY 0 [.func (.yield l) #[] #[]]∧CellsAt G bg 0 [growV bx bY bg]∧Ys = trY (trK (mayL x) r m f)) (fun st v=>v = .bool (!st))
theorem lkl_get {d:Dv} {w0 w1 w2 w3 w4 w5:Value} {p:Nat→Bool} {a:Nat→Option Addr} {n c:Nat→Nat} {G:Hp} {b i off:Nat} (h:CellsAt G b 0 (lkl d w0 w1 w2 w3 w4 w5 p a n c)) (hi:i < 40) (ho:off = 51 + i):CellsAt G b off [.slice (a i) (n i) (c i)]:=by
 have:=CellsAt.drop (d:=off) (n:=1) h
 rw [Nat.zero_add] at this
 have e:((lkl d w0 w1 w2 w3 w4 w5 p a n c).drop off).take 1 = [.slice (a i) (n i) (c i)]:=by
  subst ho
  have h2:(lkl d w0 w1 w2 w3 w4 w5 p a n c)[51 + i]? = some (.slice (a i) (n i) (c i)):=by
   rw [lkl,List.getElem?_append_right (by show 51≤51 + i;omega),show 51 + i - (dvl d w0 w1 w2 w3 w4 w5++pdl p).length = i by show 51 + i - 51 = i;omega,myl_get hi]
  obtain ⟨hlt,e⟩:=List.getElem?_eq_some_iff.1 h2
  rw [List.drop_eq_getElem_cons hlt,e];rfl
 rw [e] at this;exact this
theorem grow67 {x:Lk} (hm:0≤x.d.m∧x.d.m≤40) (bx bY bg:Nat):∀ r m,m + r = x.d.m.toNat→Sound Try.prog 67 (fun a=>(#[]:Array Value).toList++a++(#[bptr bx,bptr bY,bptr bg]:Array Value).toList) (growS x bx bY bg r m):=by
 intro r
 induction r with
 | zero =>
  intro m hmr
  refine comp67.seq (Tab.nil _) (fun l args G Ys h=>?_) (fun l Y k args G Ys h hseg=>?_)
  ·obtain ⟨f,rfl,_⟩:=h;simp
  ·obtain ⟨f,rfl,hj,hy,hg,rfl⟩:=h
   obtain ⟨w0,w1,w2,w3,w4,w5,p,a,n,c,hc,hk⟩:=hj.ex
   have hd:CellsAt G bx 0 [I x.d.m]:=fun j v hjv=>hc j v (by
    cases j with
    | zero=>exact hjv
    | succ j=>simp at hjv)
   (conv=>whnf)
   refine RdP.at hd rfl (W.mk ?_)
   (conv=>whnf)
   refine IteP.mk (fun h1=>W.mk ?_) (fun h1=>by exfalso;omega)<;>(conv=>whnf)
   refine RdP.at hy rfl (W.mk ?_)
   (conv=>whnf)
   refine CallvP.yl rfl (W.mk ?_)
   (conv=>whnf)
   refine YieldP.mk ?_ (fun G2 hg2=>W.mk ?_) (fun G2 hg2=>W.mk ?_)
   ·have:=seg_get (j:=0) hseg (by simp [trK])
    rw [Nat.add_zero] at this
    rw [this];rfl
   ·(conv=>whnf)
    exact FinP.mk ⟨rfl,fun _=>rfl⟩
   ·(conv=>whnf)
    exact FinP.mk ⟨rfl,fun h=>by cases h⟩
 | succ r ih =>
  intro m hmr
  refine comp67.seq (Tab.nil _) (fun l args G Ys h=>?_) (fun l Y k args G Ys h hseg=>?_)
  ·obtain ⟨f,rfl,_⟩:=h;simp
  ·obtain ⟨f,rfl,hj,hy,hg,rfl⟩:=h
   obtain ⟨w0,w1,w2,w3,w4,w5,p,a,n,c,hc,hk⟩:=hj.ex
   have hm40:m < 40:=by omega
   have hd:CellsAt G bx 0 [I x.d.m]:=fun j v hjv=>hc j v (by
    cases j with
    | zero=>exact hjv
    | succ j=>simp at hjv)
   (conv=>whnf)
   refine RdP.at hd rfl (W.mk ?_)
   (conv=>whnf)
   refine IteP.mk (fun h1=>by exfalso;omega) (fun h1=>W.mk ?_)<;>(conv=>whnf)
   repeat' (refine ob ?_ ?_;(first | trivial | omega | (simp only [inR];omega) | exact ble (by rfl) | exact SlR.some ‹_› (by omega));(conv=>whnf))
   refine RdP.at (lkl_get hc hm40 (by simp)) rfl (W.mk ?_)
   (conv=>whnf)
   obtain ⟨ml,k1,k2,k3⟩:=hk.may m hm40
   have hml:ml = mayL x m:=by simp [mayL,k1]
   subst hml
   have hlen:=k2.len
   refine LoopP.of { α:=Nat × (Nat→Int) × List (Nat→Int),fr:=fun y=>[(1, .v (I m)),(2, .v (bptr bx)),(3, .v (bptr bY)),(4, .v (bptr bg)),(5, .c (.ptr 0 0)),(21, .v (.slice (a m) (n m) (c m))),(22, .v (I (n m))),(23, .v (I y.1)),(POS, .c (.pos (k + y.2.2.length) false))],H:=fun y=>[(0, .cells .anon ((trl y.2.1).map .val) 88)],ok:=fun y _=>y.1≤(mayL x m).length∧(∀ j,j≠m→y.2.1 j = f j)∧y.2.2++((mayL x m).drop y.1).flatMap (fun v=>trK (mayL x) r (m + 1) (fun j=>if j = m then v else f j)) = trK (mayL x) (r + 1) m f,m:=fun y=>(mayL x m).length - y.1 }
    (0,f,[]) (HeadP.of [] ⟨rfl,rfl,rfl,rfl,rfl,rfl,rfl,rfl,rfl,trivial⟩ ⟨rfl,trivial⟩) ⟨Nat.zero_le _,fun _ _=>rfl,rfl⟩ (fun _=>⟨rfl,rfl⟩) (fun y G1 hG1 hx=>W.mk ?_)
   obtain ⟨i,g,out⟩:=y
   obtain ⟨hi,hgf,hout⟩:=hx
   dsimp only at hi hgf hout
   have k2':=SlR.grow (G:=G) (G':=G1) (fun _ _ h=>h) k2 hG1
   have hj1:=hj.grow hG1
   have hy1:=hy.grow hG1
   have hg1:=hg.grow hG1
   dsimp only
   (conv=>whnf)
   refine IteP.mk (fun hlt=>W.mk ?_) (fun hge=>W.mk ?_)<;>(conv=>whnf)
   ·have hlt:i < (mayL x m).length:=by omega
    have hce:=k2'.el hlt
    rw [List.drop_eq_getElem_cons hlt,List.flatMap_cons] at hout
    generalize (mayL x m)[i] = v at hce hout
    have hfg:(fun j=>if j = m then v else f j) = fun j=>if j = m then v else g j:=by
     funext j
     by_cases hjm:j = m
     ·rw [if_pos hjm,if_pos hjm]
     ·rw [if_neg hjm,if_neg hjm,hgf j hjm]
    rw [hfg] at hout
    repeat' (first | (refine ob ?_ ?_;(first | trivial | omega | (simp only [inR];omega) | exact ble (by rfl) | exact SlR.some ‹_› (by omega));(conv=>whnf)) | (first | (refine ra ‹_› (by rfl) ?_;(conv=>whnf)) | (refine rb ‹_› (by rfl) ?_;(conv=>whnf)) | (refine rc ‹_› (by rfl) ?_;(conv=>whnf)) | (refine rd ‹_› (by rfl) ?_;(conv=>whnf))))
    refine OblP.mk (by rw [List.length_map];simp;omega) (W.mk ?_)
    refine den_set_eq (trl_set (f:=g) (i:=m) (off:=0 + (m:Int).toNat * 1) hm40 (by simp) v) ?_
    (conv=>whnf)
    refine RdP.at hg1 rfl (W.mk ?_)
    (conv=>whnf)
    refine OblP.mk (by simp only [inR];omega) (W.mk ?_)
    (conv=>whnf)
    refine CallvP.fn _ (SoundFn.of body67 (ih (m + 1) (by omega))) (W.mk ?_)
    (conv=>whnf)
    generalize hsub:trK (mayL x) r (m + 1) (fun j=>if j = m then v else g j) = sub at hout
    have hseg2:(Y.drop (k + out.length)).take (trY sub).length = trY sub:=by
     rw [← hout,trY,List.map_append,List.map_append, ← List.append_assoc] at hseg
     have:=seg_sub hseg
     have e:(List.map (fun f=>[trV f]) out).length = out.length:=List.length_map _
     rw [e] at this;exact this
    refine SeqP.mk ⟨trY sub,⟨_,rfl,hj1,hy1,hg1,by rw [← hsub]⟩,hseg2,fun v' G2 hg2 hpost=>W.mk ?_,fun j v' G2 hg2 hpost=>W.mk ?_⟩
    ·have hpost:v' = .bool true:=hpost
     subst hpost
     (conv=>whnf)
     refine ForkP.mk (fun _=>W.mk ?_) (fun h=>by cases h)
     (conv=>whnf)
     repeat' (refine ob ?_ ?_;(first | trivial | omega | (simp only [inR];omega) | exact ble (by rfl) | exact SlR.some ‹_› (by omega));(conv=>whnf))
     have hpos:SV.c (.pos (k + (out++sub).length) false) = SV.c (.pos (k + out.length + (trY sub).length) false):=by simp [Nat.add_assoc]
     refine RoundP.of (i + 1,(fun j=>if j = m then v else g j),out++sub) (HeadP.of [] ⟨rfl,rfl,rfl,rfl,rfl,rfl,rfl,rfl,hpos,trivial⟩ ⟨rfl,trivial⟩ (h5:=hpos.symm)) ⟨hlt,fun j hjm=>by simp only [if_neg hjm];exact hgf j hjm, ?_⟩ (by simp only;omega)
     rw [← hout,List.append_assoc]
    ·have hpost:v' = .bool false:=hpost
     subst hpost
     (conv=>whnf)
     refine ForkP.mk (fun h=>by cases h) (fun _=>W.mk ?_)
     (conv=>whnf)
     exact FinP.mk ⟨rfl,fun h=>by cases h⟩
   ·have:i = (mayL x m).length:=by omega
    subst this
    rw [List.drop_length,List.flatMap_nil,List.append_nil] at hout
    refine FinP.mk ⟨rfl,fun _=>?_⟩
    rw [List.length_map, ← hout]
end Go.Proofs.Ytgpfejgohclheaa
