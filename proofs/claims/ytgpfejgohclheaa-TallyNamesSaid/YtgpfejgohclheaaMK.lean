/- Layer 7: what is drawn: a division with no bounds on its lists; few. Layer 7: the drawn values, opened. Layer 7: the example again, with the room of its lists. Layer 7: a literal of nine. Layer 7: the law of TallyNames. -/
import Derived.Test.YtgpfejgohclheaaMJ
import Derived.Test.YtgpfejgohclheaaMC
import Derived.Test.YtgpfejgohclheaaRows
import Derived.Test.YtgpfejgohclheaaME
set_option linter.unusedSimpArgs false
set_option linter.unusedVariables false
namespace Go.Proofs.Ytgpfejgohclheaa
open Go.Pal
set_option maxRecDepth 100000
def SlU {α:Type} (e:El α) (G:Hp) (v:Value) (l:List α):Prop:=∃ a n c,v = .slice a n c∧SlR e.k e.R G a n c l
theorem SlU.uniq {α:Type} {e:El α} {G:Hp} {v:Value} {x y:List α} (h:SlU e G v x) (h':SlU e G v y):x = y:=by
 obtain ⟨a,n,c,rfl,h⟩:=h
 obtain ⟨a',n',c',e',h'⟩:=h'
 cases e'
 exact h.uniq (fun cs x y h1 h2=>e.inj (h1.symm.trans h2)) h'
theorem SlU.grow {α:Type} {e:El α} {G G':Hp} {v:Value} {x:List α} (hg:Grow G G') (h:SlU e G v x):SlU e G' v x:=by
 obtain ⟨a,n,c,rfl,h⟩:=h
 exact ⟨a,n,c,rfl,SlR.grow (G:=G) (G':=G') (fun _ _ h=>h) h hg⟩
theorem SlU.v {α:Type} {e:El α} {G:Hp} {v:Value} {x:List α} (h:SlU e G v x) (hb:x.length≤140737488355328):SlV e G v x:=by
 obtain ⟨a,n,c,rfl,h⟩:=h
 exact ⟨a,n,c,rfl,h,by rw [← h.len];exact hb⟩
structure DuC (G:Hp) (w0 w1 w2 w3 w4 w5:Value) (d:Dv):Prop where
 a0:SlU intE G w0 d.a0
 a1:SlU intE G w1 d.a1
 n0:SlU intE G w2 d.n0
 n1:SlU intE G w3 d.n1
 ps:SlU prE G w4 d.ps
 qs:SlU prE G w5 d.qs
theorem DuC.grow {G G':Hp} {w0 w1 w2 w3 w4 w5:Value} {d:Dv} (hg:Grow G G') (h:DuC G w0 w1 w2 w3 w4 w5 d):DuC G' w0 w1 w2 w3 w4 w5 d :=
 ⟨h.a0.grow hg,h.a1.grow hg,h.n0.grow hg,h.n1.grow hg,h.ps.grow hg,h.qs.grow hg⟩
def DuV (G:Hp) (v:Value) (d:Dv):Prop:=∃ w0 w1 w2 w3 w4 w5,v = .agg #[I d.m,w0,w1,w2,w3,w4,w5,U d.rule,I d.need,I d.quorum,U d.tie]∧DuC G w0 w1 w2 w3 w4 w5 d
theorem DuC.v {G:Hp} {w0 w1 w2 w3 w4 w5:Value} {d:Dv} (h:DuC G w0 w1 w2 w3 w4 w5 d) (hf:fewF d = true):DvC G w0 w1 w2 w3 w4 w5 d:=by
 simp only [fewF,Bool.and_eq_true,decide_eq_true_eq] at hf
 obtain ⟨⟨⟨⟨⟨h1,h2⟩,h3⟩,h4⟩,h5⟩,h6⟩:=hf
 exact ⟨h.a0.v (by omega),h.a1.v (by omega),h.n0.v (by omega),h.n1.v (by omega),h.ps.v (by omega),h.qs.v (by omega)⟩
theorem DuV.v {G:Hp} {v:Value} {d:Dv} (h:DuV G v d) (hf:fewF d = true):DvV G v d:=by
 obtain ⟨w0,w1,w2,w3,w4,w5,e,h⟩:=h
 exact ⟨w0,w1,w2,w3,w4,w5,e,h.v hf⟩
end Go.Proofs.Ytgpfejgohclheaa

namespace Go.Proofs.Ytgpfejgohclheaa
open Go.Pal Go.ChangeShapes

theorem SlR.map {α β:Type} {k:Nat} {R:Hp→List Value→α→Prop} {R':Hp→List Value→β→Prop} {G:Hp} {a:Option Addr} {n c:Nat} {l:List α} (f:α→β) (hf:∀ cs x,R G cs x→R' G cs (f x)) (h:SlR k R G a n c l):SlR k R' G a n c (l.map f) :=
 ⟨by rw [List.length_map,h.len],h.cap,h.some,fun i hi=>by
  obtain ⟨cs,h1,h2,h3⟩:=h.at_ i (by simpa using hi)
  exact ⟨cs,h1,h2,by rw [List.getElem_map];exact hf _ _ h3⟩⟩
theorem udl3:Try.prog.underlying 3 = some (.int .i64):=by kernel_rfl
theorem udl5:Try.prog.underlying 5 = some (.int .u8):=by kernel_rfl
theorem o3:Opens Try.prog 3 (cdInt .i64):=.int udl3
theorem o5:Opens Try.prog 5 (cdInt .u8):=.int udl5
theorem o4:Opens Try.prog 4 cdBool:=.bool (by kernel_rfl)
theorem ownK:ownKnob Try.checked.prog.godebug = none:=by kernel_rfl
theorem laidK:laidOutB Try.checked.prog = true:=by kernel_rfl
theorem boolK:Try.checked.prog.underlying 4 = some .bool:=by kernel_rfl
end Go.Proofs.Ytgpfejgohclheaa

namespace Go.Proofs.Ytgpfejgohclheaa
open Go.Pal
set_option maxRecDepth 100000
def LobR (v:Value) (G:Hp):Prop:=∃ b0 b1 b2 b3 b5,v = .agg #[I 6, .slice b0 3 3, .slice b1 3 3, .slice b2 2 2, .slice b3 2 2, .slice none 0 0, .slice b5 1 1,U 0,I 0,I 3,U 2]∧DvC G (.slice b0 3 3) (.slice b1 3 3) (.slice b2 2 2) (.slice b3 2 2) (.slice none 0 0) (.slice b5 1 1) lobD
theorem LobR.grow {v:Value} {G G':Hp} (hg:Grow G G') (h:LobR v G):LobR v G':=by
 obtain ⟨b0,b1,b2,b3,b5,h,h1⟩:=h
 exact ⟨b0,b1,b2,b3,b5,h,h1.grow hg⟩
set_option maxHeartbeats 4000000 in
theorem lob35x:Sound Try.prog 35 id (grel unitRd fun _ v G=>LobR v G):=by
 refine comp35x.grelX (Tab.nil _) okU (fun args G s h=>by rw [h];simp) (fun x v G G' hg h=>LobR.grow hg h) (fun args G s h=>?_)
 subst h
 (conv=>whnf)
 refine RelP.mk trivial (fun v G1 hg1 hq=>W.mk ?_)
 obtain ⟨a1,rfl,h1⟩:=hq
 (conv=>whnf)
 refine RelP.mk trivial (fun v G2 hg2 hq=>W.mk ?_)
 obtain ⟨a2,rfl,h2⟩:=hq
 (conv=>whnf)
 refine RelP.mk trivial (fun v G3 hg3 hq=>W.mk ?_)
 obtain ⟨a3,rfl,h3⟩:=hq
 (conv=>whnf)
 refine RelP.mk trivial (fun v G4 hg4 hq=>W.mk ?_)
 obtain ⟨a4,rfl,h4⟩:=hq
 (conv=>whnf)
 refine RelP.mk trivial (fun v G5 hg5 hq=>W.mk ?_)
 obtain ⟨a5,rfl,h5⟩:=hq
 (conv=>whnf)
 have k1:SlV intE G1 (.slice a1 3 3) [0,1,2]:=h1.slV rfl rfl (by decide)
 have k2:SlV intE G2 (.slice a2 3 3) [0,1,3]:=h2.slV rfl rfl (by decide)
 have k3:SlV intE G3 (.slice a3 2 2) [4,5]:=h3.slV rfl rfl (by decide)
 have k4:SlV intE G4 (.slice a4 2 2) [4,5]:=h4.slV rfl rfl (by decide)
 have k5:SlV prE G5 (.slice a5 1 1) [(4,3)]:=h5.slV rfl rfl (by decide)
 refine PubAnyP.mk ⟨[],W.mk ?_⟩
 (conv=>whnf)
 exact FinP.mk ⟨_,_,_,_,_,rfl,((((k1.grow hg2).grow hg3).grow hg4).grow hg5),((k2.grow hg3).grow hg4).grow hg5,(k3.grow hg4).grow hg5,k4.grow hg5,SlV.nil,k5⟩
end Go.Proofs.Ytgpfejgohclheaa

namespace Go.Proofs.Ytgpfejgohclheaa
open Go.Pal
set_option maxRecDepth 100000
end Go.Proofs.Ytgpfejgohclheaa

namespace Go.Proofs.Ytgpfejgohclheaa
open Go.Pal
set_option maxRecDepth 100000
def bothD:Dv:={ lobD with n0:=[1,5],n1:=[1,4] }
def manyD:Dv:=⟨9,[0,1,2,3,4,5,6,7,8],[],[],[],[],[],0,0,0,1⟩
def twiceD:Dv:={ lobD with ps:=[(1,2),(2,3)] }
def heldD:Dv:={ lobD with qs:=[(4,3),(3,1)] }
def zeroD:Dv:=⟨0,[],[],[],[],[],[],0,0,0,0⟩
theorem cnt_ok:cntE lobD [1,1,1,0,2,2] = 0∧(ofF lobD [1,1,1,0,2,2]).a = 3∧(ofF lobD [1,1,1,0,2,2]).n = 3∧outF lobD (ofF lobD [1,1,1,0,2,2]) = 0:=by decide +kernel
theorem cnt_v:cntV lobD [1,1,1,0,2,2] = .tuple #[.agg #[I 3,I 3],U 0,I 0]:=by rw [cntV_ok cnt_ok.1,cnt_ok.2.1,cnt_ok.2.2.1,cnt_ok.2.2.2]
theorem cnt_a:cntV lobD [1,1,2,0,2,2] = .tuple #[.agg #[I 0,I 0],U 0,I 7]:=cntV_bad (by decide +kernel) (by decide)
theorem cnt_b:cntV lobD [1,1,3,0,2,2] = .tuple #[.agg #[I 0,I 0],U 0,I 2]:=cntV_bad (by decide +kernel) (by decide)
theorem cnt_c:cntV lobD [1] = .tuple #[.agg #[I 0,I 0],U 0,I 2]:=cntV_bad (by decide +kernel) (by decide)
theorem wit_1:witE lobD 1 = 0∧witL lobD 1 = [1,1,0,1,2,2]:=by decide +kernel
theorem wit_2:witE lobD 2 = 7:=by decide +kernel
theorem wit_3:witE lobD 3 = 2:=by decide +kernel
theorem lob_right:rightD lobD = true∧¬ 0≤clashF lobD:=by decide +kernel
theorem both_right:rightD bothD = true∧clashF bothD = 1∧faultF bothD = 9:=by decide +kernel
theorem many_ok:openF manyD = 3∧faultF manyD = 0∧(doubtsF manyD).length = 9:=by decide +kernel
theorem twice_no:rightD twiceD = false:=by decide +kernel
theorem held_no:rightD heldD = false:=by decide +kernel
theorem zero_no:rightD zeroD = false:=by decide +kernel
theorem prove_yes:proveF lobD [2,3] = true:=by rw [proveF,decF_eq];decide +kernel
theorem prove_no:proveF lobD [2] = false:=by rw [proveF,decF_eq];decide +kernel
def tabN8:Tab Try.prog:=Tab.cons 35 _ lob35x body35 (Tab.cons 34 _ count34 body34 (Tab.cons 31 _ wit31 body31 (Tab.cons 33 _ votes33 body33 (Tab.cons 25 _ clash25 body25 (Tab.cons 11 _ doubts11 body11 (Tab.cons 24 _ ask24 body24 (Tab.cons 29 _ check29 body29 (Tab.cons 36 _ prove36 body36 (Tab.cons 10 _ wakes10 body10 (Tab.nil _))))))))))
set_option maxHeartbeats 16000000 in
theorem law8:Sound Try.prog 8 id (gsca unitRd fun _ v=>v = .bool true):=by
 refine comp8.gsca tabN8 (fun args G s h=>by rw [h];exact Nat.zero_le _) (fun args G s h=>?_)
 subst h
 (conv=>whnf)
 refine RelP.g okU (x:=()) rfl (Grow.refl _) (fun v G1 h1 hq=>W.mk ?_)
 obtain ⟨b0,b1,b2,b3,b5,rfl,hC⟩:=hq
 have hdv:DvV G1 (.agg #[I 6, .slice b0 3 3, .slice b1 3 3, .slice b2 2 2, .slice b3 2 2, .slice none 0 0, .slice b5 1 1,U 0,I 0,I 3,U 2]) lobD:=⟨_,_,_,_,_,_,rfl,hC⟩
 (conv=>whnf)
 refine PubP.mk (fun pa pc G2 h2 hp=>W.mk ?_)
 (conv=>whnf)
 refine ScaP.g (ok2 dvRd (slRd u8E) fun d _=>rul d) (x:=(lobD,[1,1,1,0,2,2])) ⟨_,_,rfl,dvRd.grow h2 hdv,hp.slV rfl rfl (by decide),lrul⟩ (fun v hv=>W.mk ?_)
 have hv:=hv.trans cnt_v
 subst hv
 (conv=>whnf)
 refine RelP.g okU (x:=()) rfl (Grow.refl _) (fun v G3 h3 hq=>W.mk ?_)
 obtain ⟨b0,b1,b2,b3,b5,rfl,hC⟩:=hq
 have hdv:DvV G3 (.agg #[I 6, .slice b0 3 3, .slice b1 3 3, .slice b2 2 2, .slice b3 2 2, .slice none 0 0, .slice b5 1 1,U 0,I 0,I 3,U 2]) lobD:=⟨_,_,_,_,_,_,rfl,hC⟩
 (conv=>whnf)
 refine RelP.g (ok2 dvRd u8Rd fun d _=>rul d) (x:=(lobD,1)) ⟨_,_,rfl,hdv,rfl,lrul⟩ (Grow.refl _) (fun v G4 h4 hq=>W.mk ?_)
 obtain ⟨w,rfl,hq⟩:=hq
 rw [wit_1.1] at hq ⊢
 rw [if_pos rfl,wit_1.2] at hq
 have hW:=hq
 obtain ⟨wa,wn,wc,rfl,_,_⟩:=hq
 (conv=>whnf)
 refine RelP.g okU (x:=()) rfl (Grow.refl _) (fun v G5 h5 hq=>W.mk ?_)
 obtain ⟨b0,b1,b2,b3,b5,rfl,hC⟩:=hq
 have hdv:DvV G5 (.agg #[I 6, .slice b0 3 3, .slice b1 3 3, .slice b2 2 2, .slice b3 2 2, .slice none 0 0, .slice b5 1 1,U 0,I 0,I 3,U 2]) lobD:=⟨_,_,_,_,_,_,rfl,hC⟩
 (conv=>whnf)
 refine RelP.g (ok2 dvRd u8Rd fun d _=>rul d) (x:=(lobD,2)) ⟨_,_,rfl,hdv,rfl,lrul⟩ (Grow.refl _) (fun v G6 h6 hq=>W.mk ?_)
 obtain ⟨w,rfl,hq⟩:=hq
 rw [wit_2] at hq ⊢
 obtain ⟨xa,xn,xc,rfl,_,_⟩:=hq
 (conv=>whnf)
 refine RelP.g okU (x:=()) rfl (Grow.refl _) (fun v G7 h7 hq=>W.mk ?_)
 obtain ⟨b0,b1,b2,b3,b5,rfl,hC⟩:=hq
 have hdv:DvV G7 (.agg #[I 6, .slice b0 3 3, .slice b1 3 3, .slice b2 2 2, .slice b3 2 2, .slice none 0 0, .slice b5 1 1,U 0,I 0,I 3,U 2]) lobD:=⟨_,_,_,_,_,_,rfl,hC⟩
 (conv=>whnf)
 refine RelP.g (ok2 dvRd u8Rd fun d _=>rul d) (x:=(lobD,3)) ⟨_,_,rfl,hdv,rfl,lrul⟩ (Grow.refl _) (fun v G8 h8 hq=>W.mk ?_)
 obtain ⟨w,rfl,hq⟩:=hq
 rw [wit_3] at hq ⊢
 obtain ⟨ya,yn,yc,rfl,_,_⟩:=hq
 (conv=>whnf)
 refine IteP.mk (fun _=>W.mk ?_) (fun h=>absurd rfl h)
 (conv=>whnf)
 refine IteP.mk (fun _=>W.mk ?_) (fun h=>absurd rfl h)
 (conv=>whnf)
 refine PurP.of (.bool false) (ne66 3 3 3 3) (W.mk ?_)
 (conv=>whnf)
 refine ForkP.mk (fun h=>by cases h) (fun _=>W.mk ?_)
 (conv=>whnf)
 refine IteP.mk (fun _=>W.mk ?_) (fun h=>absurd rfl h)
 (conv=>whnf)
 refine PubP.mk (fun qa qc G9 h9 hp9=>W.mk ?_)
 (conv=>whnf)
 refine ScaP.g (ok2 (slRd u8E) (slRd u8E) fun _ _=>True) (x:=([1,1,0,1,2,2],[1,1,0,1,2,2])) ⟨_,_,rfl,((((hW.grow h5).grow h6).grow h7).grow h8).grow h9,hp9.slV rfl rfl (by decide),trivial⟩ (fun v hv=>W.mk ?_)
 have hv:v = .bool true:=hv
 subst hv
 (conv=>whnf)
 refine ForkP.mk (fun _=>W.mk ?_) (fun h=>by cases h)
 (conv=>whnf)
 refine IteP.mk (fun _=>W.mk ?_) (fun h=>absurd rfl h)
 (conv=>whnf)
 refine IteP.mk (fun _=>W.mk ?_) (fun h=>absurd rfl h)
 (conv=>whnf)
 refine RelP.g okU (x:=()) rfl (Grow.refl _) (fun v G10 h10 hq=>W.mk ?_)
 obtain ⟨b0,b1,b2,b3,b5,rfl,hC⟩:=hq
 have hdv:DvV G10 (.agg #[I 6, .slice b0 3 3, .slice b1 3 3, .slice b2 2 2, .slice b3 2 2, .slice none 0 0, .slice b5 1 1,U 0,I 0,I 3,U 2]) lobD:=⟨_,_,_,_,_,_,rfl,hC⟩
 (conv=>whnf)
 refine PubP.mk (fun pa pc G11 h11 hp=>W.mk ?_)
 (conv=>whnf)
 refine ScaP.g (ok2 dvRd (slRd u8E) fun d _=>rul d) (x:=(lobD,[1,1,2,0,2,2])) ⟨_,_,rfl,dvRd.grow h11 hdv,hp.slV rfl rfl (by decide),lrul⟩ (fun v hv=>W.mk ?_)
 have hv:=hv.trans cnt_a
 subst hv
 (conv=>whnf)
 refine RelP.g okU (x:=()) rfl (Grow.refl _) (fun v G12 h12 hq=>W.mk ?_)
 obtain ⟨b0,b1,b2,b3,b5,rfl,hC⟩:=hq
 have hdv:DvV G12 (.agg #[I 6, .slice b0 3 3, .slice b1 3 3, .slice b2 2 2, .slice b3 2 2, .slice none 0 0, .slice b5 1 1,U 0,I 0,I 3,U 2]) lobD:=⟨_,_,_,_,_,_,rfl,hC⟩
 (conv=>whnf)
 refine PubP.mk (fun pa pc G13 h13 hp=>W.mk ?_)
 (conv=>whnf)
 refine ScaP.g (ok2 dvRd (slRd u8E) fun d _=>rul d) (x:=(lobD,[1,1,3,0,2,2])) ⟨_,_,rfl,dvRd.grow h13 hdv,hp.slV rfl rfl (by decide),lrul⟩ (fun v hv=>W.mk ?_)
 have hv:=hv.trans cnt_b
 subst hv
 (conv=>whnf)
 refine RelP.g okU (x:=()) rfl (Grow.refl _) (fun v G14 h14 hq=>W.mk ?_)
 obtain ⟨b0,b1,b2,b3,b5,rfl,hC⟩:=hq
 have hdv:DvV G14 (.agg #[I 6, .slice b0 3 3, .slice b1 3 3, .slice b2 2 2, .slice b3 2 2, .slice none 0 0, .slice b5 1 1,U 0,I 0,I 3,U 2]) lobD:=⟨_,_,_,_,_,_,rfl,hC⟩
 (conv=>whnf)
 refine PubP.mk (fun pa pc G15 h15 hp=>W.mk ?_)
 (conv=>whnf)
 refine ScaP.g (ok2 dvRd (slRd u8E) fun d _=>rul d) (x:=(lobD,[1])) ⟨_,_,rfl,dvRd.grow h15 hdv,hp.slV rfl rfl (by decide),lrul⟩ (fun v hv=>W.mk ?_)
 have hv:=hv.trans cnt_c
 subst hv
 (conv=>whnf)
 refine RelP.g okU (x:=()) rfl (Grow.refl _) (fun v G16 h16 hq=>W.mk ?_)
 obtain ⟨b0,b1,b2,b3,b5,rfl,hC⟩:=hq
 have hdv:DvV G16 (.agg #[I 6, .slice b0 3 3, .slice b1 3 3, .slice b2 2 2, .slice b3 2 2, .slice none 0 0, .slice b5 1 1,U 0,I 0,I 3,U 2]) lobD:=⟨_,_,_,_,_,_,rfl,hC⟩
 (conv=>whnf)
 refine PubP.mk (fun ma mc G17 h17 hp17=>W.mk ?_)
 (conv=>whnf)
 refine PubP.mk (fun na nc G18 h18 hp18=>W.mk ?_)
 (conv=>whnf)
 have hC18:=(hC.grow h17).grow h18
 have hB:DvC G18 (.slice b0 3 3) (.slice b1 3 3) (.slice ma 2 mc) (.slice na 2 nc) (.slice none 0 0) (.slice b5 1 1) bothD:=⟨hC18.a0,hC18.a1,(hp17.slV (e:=intE) (l:=[1,5]) rfl rfl (by decide)).grow h18,hp18.slV (e:=intE) (l:=[1,4]) rfl rfl (by decide),hC18.ps,hC18.qs⟩
 refine ScaP.g (ok1 dvRd rul) (x:=bothD) ⟨_,rfl,⟨_,_,_,_,_,_,rfl,hB⟩,lrul⟩ (fun v hv=>W.mk ?_)
 rw [both_right.1,both_right.2.1] at hv
 subst hv
 (conv=>whnf)
 refine RelP.g (ok1 dvRd rul) (x:=bothD) ⟨_,rfl,⟨_,_,_,_,_,_,rfl,hB⟩,lrul⟩ (Grow.refl _) (fun v G19 h19 hq=>W.mk ?_)
 obtain ⟨w,hw,hq⟩:=hq
 rw [both_right.2.2] at hw hq
 rw [if_neg (by decide)] at hq
 obtain ⟨za,zn,zc,rfl,_,_⟩:=hq
 have hw2:v = .tuple #[.slice za zn zc,I 9]:=hw
 clear hw
 subst hw2
 (conv=>whnf)
 refine RelP.g okU (x:=()) rfl (Grow.refl _) (fun v G20 h20 hq=>W.mk ?_)
 obtain ⟨b0,b1,b2,b3,b5,rfl,hC⟩:=hq
 have hdv:DvV G20 (.agg #[I 6, .slice b0 3 3, .slice b1 3 3, .slice b2 2 2, .slice b3 2 2, .slice none 0 0, .slice b5 1 1,U 0,I 0,I 3,U 2]) lobD:=⟨_,_,_,_,_,_,rfl,hC⟩
 (conv=>whnf)
 refine ScaP.g (ok1 dvRd rul) (x:=lobD) ⟨_,rfl,hdv,lrul⟩ (fun v hv=>W.mk ?_)
 rw [lob_right.1,if_pos rfl,if_neg lob_right.2] at hv
 have hv2:v = .tuple #[I 0,I 7]:=hv
 clear hv
 subst hv2
 (conv=>whnf)
 refine PubP.mk (fun ja jc G21 h21 hp21=>W.mk ?_)
 (conv=>whnf)
 refine PubP.mk (fun ka kc G22 h22 hp22=>W.mk ?_)
 (conv=>whnf)
 have hM:DvC G22 (.slice ja 9 jc) (.slice ka 0 kc) (.slice none 0 0) (.slice none 0 0) (.slice none 0 0) (.slice none 0 0) manyD:=⟨(hp21.slV (e:=intE) (l:=[0,1,2,3,4,5,6,7,8]) rfl rfl (by decide)).grow h22,hp22.slV (e:=intE) (l:=[]) rfl rfl (by decide),SlV.nil,SlV.nil,SlV.nil,SlV.nil⟩
 refine RelP.g (ok1 dvRd rul) (x:=manyD) ⟨_,rfl,⟨_,_,_,_,_,_,rfl,hM⟩,by decide,by decide⟩ (Grow.refl _) (fun v G23 h23 hq=>W.mk ?_)
 obtain ⟨w,hw,hq⟩:=hq
 rw [many_ok.1] at hw hq
 rw [if_neg (by decide)] at hq
 obtain ⟨ua,un,uc,rfl,_,_⟩:=hq
 have hw2:v = .tuple #[.slice ua un uc,I 3]:=hw
 clear hw
 subst hw2
 (conv=>whnf)
 refine RelP.g (ok1 dvRd rul) (x:=manyD) ⟨_,rfl,⟨_,_,_,_,_,_,rfl,hM.grow h23⟩,by decide,by decide⟩ (Grow.refl _) (fun v G24 h24 hq=>W.mk ?_)
 obtain ⟨w,hw,hq⟩:=hq
 rw [many_ok.2.1] at hw hq
 rw [if_pos rfl] at hq
 have hdl:=many_ok.2.2
 generalize doubtsF manyD = dl at hq hdl
 obtain ⟨va,vn,vc,rfl,hvl,_⟩:=hq
 have hvn:vn = 9:=by rw [← hvl.len,hdl]
 subst hvn
 have hw2:v = .tuple #[.slice va 9 vc,I 0]:=hw
 clear hw
 subst hw2
 (conv=>whnf)
 refine RelP.g okU (x:=()) rfl (Grow.refl _) (fun v G25 h25 hq=>W.mk ?_)
 obtain ⟨c0,c1,c2,c3,c5,rfl,hE⟩:=hq
 (conv=>whnf)
 refine RelP.g okU (x:=()) rfl (Grow.refl _) (fun v G26 h26 hq=>W.mk ?_)
 obtain ⟨d0,d1,d2,d3,d5,rfl,hD⟩:=hq
 have hqs:=hD.qs
 obtain ⟨_,_,_,e,hql,_⟩:=id hqs
 cases e
 have hd5:=hql.some (by decide)
 cases d5 with
 | none=>cases hd5
 | some ad =>
 (conv=>whnf)
 refine OblP.mk hd5 (W.mk ?_)
 (conv=>whnf)
 refine RdP.at (hql.el (i:=0) (by decide)) rfl (W.mk ?_)
 (conv=>whnf)
 repeat' (first | (refine OblP.mk (by decide) (W.mk ?_);(conv=>whnf)) | (refine OblP.mk (fun u hu=>?_) (W.mk ?_)))
 refine IteP.mk (fun _=>W.mk ?_) (fun h=>absurd rfl h)
 (conv=>whnf)
 refine IteP.mk (fun _=>W.mk ?_) (fun h=>absurd rfl h)
 (conv=>whnf)
 refine IteP.mk (fun _=>W.mk ?_) (fun h=>absurd rfl h)
 (conv=>whnf)
 refine IteP.mk (fun _=>W.mk ?_) (fun h=>absurd rfl h)
 (conv=>whnf)
 refine IteP.mk (fun _=>W.mk ?_) (fun h=>absurd rfl h)
 (conv=>whnf)
 refine IteP.mk (fun _=>W.mk ?_) (fun h=>absurd rfl h)
 (conv=>whnf)
 refine IteP.mk (fun _=>W.mk ?_) (fun h=>absurd rfl h)
 (conv=>whnf)
 refine IteP.mk (fun _=>W.mk ?_) (fun h=>absurd rfl h)
 (conv=>whnf)
 refine IteP.mk (fun _=>W.mk ?_) (fun h=>absurd rfl h)
 (conv=>whnf)
 refine IteP.mk (fun _=>W.mk ?_) (fun h=>absurd rfl h)
 (conv=>whnf)
 refine PubP.mk (fun ea ec G27 h27 hp27=>W.mk ?_)
 (conv=>whnf)
 have hE27:=(hE.grow h26).grow h27
 have hT:DvC G27 (.slice c0 3 3) (.slice c1 3 3) (.slice c2 2 2) (.slice c3 2 2) (.slice ea 2 ec) (.slice c5 1 1) twiceD:=⟨hE27.a0,hE27.a1,hE27.n0,hE27.n1,hp27.slV (e:=prE) (l:=[(1,2),(2,3)]) rfl rfl (by decide),hE27.qs⟩
 refine ScaP.g (ok1 dvRd rul) (x:=twiceD) ⟨_,rfl,⟨_,_,_,_,_,_,rfl,hT⟩,lrul⟩ (fun v hv=>W.mk ?_)
 rw [twice_no] at hv
 have hv2:v = I 1:=hv
 clear hv
 subst hv2
 (conv=>whnf)
 refine IteP.mk (fun _=>W.mk ?_) (fun h=>absurd rfl h)
 (conv=>whnf)
 refine PubP.mk (fun fa fc G28 h28 hp28=>W.mk ?_)
 (conv=>whnf)
 have hD28:=(hD.grow h27).grow h28
 have hH:DvC G28 (.slice d0 3 3) (.slice d1 3 3) (.slice d2 2 2) (.slice d3 2 2) (.slice none 0 0) (.slice fa 2 fc) heldD:=⟨hD28.a0,hD28.a1,hD28.n0,hD28.n1,SlV.nil,hp28.slV (e:=prE) (l:=[(4,3),(3,1)]) rfl rfl (by decide)⟩
 refine ScaP.g (ok1 dvRd rul) (x:=heldD) ⟨_,rfl,⟨_,_,_,_,_,_,rfl,hH⟩,lrul⟩ (fun v hv=>W.mk ?_)
 rw [held_no] at hv
 have hv2:v = I 1:=hv
 clear hv
 subst hv2
 (conv=>whnf)
 refine IteP.mk (fun _=>W.mk ?_) (fun h=>absurd rfl h)
 (conv=>whnf)
 refine ScaP.g (ok1 dvRd rul) (x:=zeroD) ⟨_,rfl,⟨_,_,_,_,_,_,rfl,SlV.nil,SlV.nil,SlV.nil,SlV.nil,SlV.nil,SlV.nil⟩,by decide,by decide⟩ (fun v hv=>W.mk ?_)
 rw [zero_no] at hv
 have hv2:v = I 1:=hv
 clear hv
 subst hv2
 (conv=>whnf)
 refine IteP.mk (fun _=>W.mk ?_) (fun h=>absurd rfl h)
 (conv=>whnf)
 refine RelP.g okU (x:=()) rfl (Grow.refl _) (fun v G29 h29 hq=>W.mk ?_)
 obtain ⟨b0,b1,b2,b3,b5,rfl,hC⟩:=hq
 have hdv:DvV G29 (.agg #[I 6, .slice b0 3 3, .slice b1 3 3, .slice b2 2 2, .slice b3 2 2, .slice none 0 0, .slice b5 1 1,U 0,I 0,I 3,U 2]) lobD:=⟨_,_,_,_,_,_,rfl,hC⟩
 (conv=>whnf)
 refine PubP.mk (fun ga gc G30 h30 hp30=>W.mk ?_)
 (conv=>whnf)
 refine ScaP.g (ok2 dvRd (slRd intE) fun d _=>rul d) (x:=(lobD,[2,3])) ⟨_,_,rfl,dvRd.grow h30 hdv,hp30.slV rfl rfl (by decide),lrul⟩ (fun v hv=>W.mk ?_)
 have hv2:v = .bool true:=hv.trans (congrArg Value.bool prove_yes)
 clear hv
 subst hv2
 (conv=>whnf)
 refine ForkP.mk (fun _=>W.mk ?_) (fun h=>by cases h)
 (conv=>whnf)
 refine RelP.g okU (x:=()) rfl (Grow.refl _) (fun v G31 h31 hq=>W.mk ?_)
 obtain ⟨b0,b1,b2,b3,b5,rfl,hC⟩:=hq
 have hdv:DvV G31 (.agg #[I 6, .slice b0 3 3, .slice b1 3 3, .slice b2 2 2, .slice b3 2 2, .slice none 0 0, .slice b5 1 1,U 0,I 0,I 3,U 2]) lobD:=⟨_,_,_,_,_,_,rfl,hC⟩
 (conv=>whnf)
 refine PubP.mk (fun ia ic G32 h32 hp32=>W.mk ?_)
 (conv=>whnf)
 refine ScaP.g (ok2 dvRd (slRd intE) fun d _=>rul d) (x:=(lobD,[2])) ⟨_,_,rfl,dvRd.grow h32 hdv,hp32.slV rfl rfl (by decide),lrul⟩ (fun v hv=>W.mk ?_)
 have hv2:v = .bool false:=hv.trans (congrArg Value.bool prove_no)
 clear hv
 subst hv2
 (conv=>whnf)
 refine ForkP.mk (fun h=>by cases h) (fun _=>W.mk ?_)
 (conv=>whnf)
 refine ScaP.g okU (G:=fun _=>none) (x:=()) rfl (fun v hv=>W.mk ?_)
 subst hv
 (conv=>whnf)
 refine ForkP.mk (fun _=>W.mk ?_) (fun h=>by cases h)
 (conv=>whnf)
 exact FinP.mk rfl

end Go.Proofs.Ytgpfejgohclheaa
